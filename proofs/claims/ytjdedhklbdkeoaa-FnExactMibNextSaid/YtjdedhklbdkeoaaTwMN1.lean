/- Functions of the program, over trees. -/
import Derived.Test.YtjdedhklbdkeoaaProg
import Derived.Test.YtjdedhklbdkeoaaTlRule
import Derived.Test.YtjdedhklbdkeoaaTlU7
import Derived.Test.YtjdedhklbdkeoaaTwMN0
import Derived.WalkKit
set_option linter.unusedVariables false
set_option linter.unusedSimpArgs false
set_option maxRecDepth 100000
set_option maxHeartbeats 1000000
namespace Go.Proofs.Ytjdedhklbdkeoaa.Tw
open Go Go.TL Go.Proofs


def spec_l17RowF (n : Nat) (x0 : Vrow) (x1 : Int) : Option (Int) :=
  (bif (x1 == 1) then (some 1) else (bif (x1 == 2) then (some x0.Members) else (some x0.Bare)))
/-- loop.example/g00326/spec.l17Row -/
theorem spec_l17Row (n : Nat) (x0 : Vrow) (x1 : Int) (r : Int) (H : spec_l17RowF n x0 x1 = some r) : LCall Try.prog 125 [.val true (CV.frzRow (Vrow.row x0)), .val false [.lit (.int .i64 x1)]] [.val false [.lit (.int .i64 r)]] [] := by
  refine LCall.of_body tOk Try.func125 rfl (c := (.seq (Rg Try.f125 0) (.seq (.seq (Rg Try.f125 1) (.block 0 (.seq (Rg Try.f125 2) (.cond (.tmp 6) (.seq (Rg Try.f125 3) .ret) (.seq (Rg Try.f125 4) (.cond (.tmp 8) (.seq (Rg Try.f125 5) .ret) .skip)))))) (.seq (Rg Try.f125 6) .ret)))) kr (Nat.le_of_ble_eq_true kr) 0 (rs := [.tmp 4]) rfl [] .nil [(false, [.lit (.int .i64 r)])] [] [] fun cx => ?_
  show Tr _ _ _ ⟨14, 0, [sV 0 (Vrow.row x0), sI 1 x1], []⟩ _
  unfold spec_l17RowF at H
  refine Tr.rgn tOk 2 22 4 kr kr ?_
  refine Tr.seq ?_
  refine Tr.rgn tOk 1 52 4 kr kr ?_
  refine Tr.block ?_
  refine Tr.rgn tOk 2 116 4 kr kr ?_
  cases h1 : (x1 == 1)
  · have H := bifF h1 H
    refine Tr.cF h1 kr ?_
    refine Tr.rgn tOk 2 276 4 kr kr ?_
    cases h2 : (x1 == 2)
    · have H := bifF h2 H
      refine Tr.cF h2 kr ?_
      refine Tr.skip ?_
      show Tr _ _ _ _ _
      refine Tr.rgn tOk 3 16 0 kr kr ?_
      refine Tr.ret ?_
      have H := Option.some.inj H
      subst H
      exact Fin.of _ [(false, [cI x0.Bare])] kr rfl rfl
    have H := bifT h2 H
    refine Tr.cT h2 kr ?_
    refine Tr.rgn tOk 3 20 4 kr kr ?_
    refine Tr.ret ?_
    have H := Option.some.inj H
    subst H
    exact Fin.of _ [(false, [cI x0.Members])] kr rfl rfl
  have H := bifT h1 H
  refine Tr.cT h1 kr ?_
  refine Tr.rgn tOk 1 20 4 kr kr ?_
  refine Tr.ret ?_
  have H := Option.some.inj H
  subst H
  exact Fin.of _ [(false, [cI 1])] kr rfl rfl

def spec_MibList_J3 (n : Nat) (y15 : (List Bind)) : Option ((List Bind)) :=
  (some y15)
def spec_MibList_L4 (n : Nat) : Nat → Bridge → Int → (List Bind) → Option (((List Bind)) ⊕ ((List Bind)))
  | 0, _, _, _ => none
  | mo16 + 1, x0, y13, y14 => (bif (decide (y13 < (x0.F.length : Int))) then ((idx x0.F y13).bind fun v17 => ((idx x0.F y13).bind fun v18 => ((idx x0.F y13).bind fun v19 => ((spec_l17AddF n y14 [4, 1, v17.Tag, v18.Mac] (IntKind.wrap .i64 (v19.Port + 1))).bind fun r20 => (spec_MibList_L4 n mo16 x0 (IntKind.wrap .i64 (y13 + 1)) r20))))) else (some (Sum.inl y14)))
def spec_MibList_J2 (n : Nat) (x0 : Bridge) (y12 : (List Bind)) : Option ((List Bind)) :=
  ((spec_MibList_L4 n n x0 0 y12).bind fun o => match o with | .inl y15 => (spec_MibList_J3 n y15) | .inr r => some r)
def spec_MibList_J6 (n : Nat) (k : (Int × (List Bind) → Option (((List Bind)) ⊕ ((List Bind))))) (y10 : Int) (y24 : Int) (y25 : Int) (y26 : (List Bind)) : Option (((List Bind)) ⊕ ((List Bind))) :=
  (k ((IntKind.wrap .i64 (y10 + 1)), y26))
def spec_MibList_L7 (n : Nat) : Nat → Bridge → Int → Int → (List Bind) → Option ((Int × Int × (List Bind)) ⊕ ((List Bind)))
  | 0, _, _, _, _ => none
  | mo27 + 1, x0, y10, y22, y23 => (bif (decide (y22 < (x0.V.Rows.length : Int))) then ((idx x0.V.Rows y22).bind fun v28 => ((idx x0.V.Rows y22).bind fun v29 => ((spec_l17RowF n v29 y10).bind fun r30 => ((spec_l17AddF n y23 [3, y10, v28.Id] r30).bind fun r31 => (spec_MibList_L7 n mo27 x0 y10 (IntKind.wrap .i64 (y22 + 1)) r31))))) else (some (Sum.inl (y22, y22, y23))))
def spec_MibList_L5 (n : Nat) : Nat → Bridge → Int → (List Bind) → Option (((List Bind)) ⊕ ((List Bind)))
  | 0, _, _, _ => none
  | mo21 + 1, x0, y10, y11 => (bif (decide (y10 ≤ 3)) then ((spec_MibList_L7 n n x0 y10 0 y11).bind fun o => match o with | .inl (y24, y25, y26) => (spec_MibList_J6 n (fun v => spec_MibList_L5 n mo21 x0 v.1 v.2) y10 y24 y25 y26) | .inr r => some (Sum.inr r)) else (some (Sum.inl y11)))
def spec_MibList_J1 (n : Nat) (x0 : Bridge) (y9 : (List Bind)) : Option ((List Bind)) :=
  ((spec_MibList_L5 n n x0 1 y9).bind fun o => match o with | .inl y12 => (spec_MibList_J2 n x0 y12) | .inr r => some r)
def spec_MibList_J9 (n : Nat) (k : (Int × (List Bind) → Option (((List Bind)) ⊕ ((List Bind))))) (y7 : Int) (y35 : Int) (y36 : Int) (y37 : (List Bind)) : Option (((List Bind)) ⊕ ((List Bind))) :=
  (k ((IntKind.wrap .i64 (y7 + 1)), y37))
def spec_MibList_L10 (n : Nat) : Nat → Bridge → Int → Int → (List Bind) → Option ((Int × Int × (List Bind)) ⊕ ((List Bind)))
  | 0, _, _, _, _ => none
  | mo38 + 1, x0, y7, y33, y34 => (bif (decide (y33 < (x0.Ports.length : Int))) then ((spec_l17PortF n x0 y7 y33).bind fun r39 => ((spec_l17AddF n y34 [2, y7, (IntKind.wrap .i64 (y33 + 1))] r39).bind fun r40 => (spec_MibList_L10 n mo38 x0 y7 (IntKind.wrap .i64 (y33 + 1)) r40))) else (some (Sum.inl (y33, y33, y34))))
def spec_MibList_L8 (n : Nat) : Nat → Bridge → Int → (List Bind) → Option (((List Bind)) ⊕ ((List Bind)))
  | 0, _, _, _ => none
  | mo32 + 1, x0, y7, y8 => (bif (decide (y7 ≤ 4)) then ((spec_MibList_L10 n n x0 y7 0 y8).bind fun o => match o with | .inl (y35, y36, y37) => (spec_MibList_J9 n (fun v => spec_MibList_L8 n mo32 x0 v.1 v.2) y7 y35 y36 y37) | .inr r => some (Sum.inr r)) else (some (Sum.inl y8)))
def spec_MibListF (n : Nat) (x0 : Bridge) : Option ((List Bind)) :=
  ((spec_BridgeOkF n x0).bind fun r1 => (bif (!r1) then (some ([] : List Bind)) else ((spec_l17NameF n [1, 1]).bind fun r2 => ((spec_l17AddF n [(⟨r2, (⟨4, 0, x0.Name, ([] : List Int)⟩ : Val)⟩ : Bind)] [1, 2] x0.Ticks).bind fun r3 => ((spec_l17AddF n r3 [1, 3] x0.Parse).bind fun r4 => ((spec_l17AddF n r4 [1, 4] x0.Word).bind fun r5 => ((spec_l17AddF n r5 [1, 5] x0.Drops).bind fun r6 => ((spec_MibList_L8 n n x0 1 r6).bind fun o => match o with | .inl y9 => (spec_MibList_J1 n x0 y9) | .inr r => some r))))))))
/-- loop.example/g00326/spec.MibList -/
theorem spec_MibList (n : Nat) (x0 : Bridge) (r : (List Bind)) (H : spec_MibListF n x0 = some r) : LCall Try.prog 52 [.val true (CV.frzRow (Bridge.row x0))] [.val false [.sl true 5 (r.map Bind.row)]] [] := by
  refine LCall.of_body tOk Try.func52 rfl (c := (.seq (Rg Try.f52 0) (.seq (.seq (Rg Try.f52 1) (.cond (.tmp 11) (.seq (Rg Try.f52 2) .ret) .skip)) (.seq (Rd Try.f52 3) (.seq (Rg Try.f52 4) (.seq (Rg Try.f52 5) (.seq (Rg Try.f52 6) (.seq (Rg Try.f52 7) (.seq (.seq (Rg Try.f52 8) (.block 0 (.loop (.seq (.seq (Rg Try.f52 9) (.cond (.tmp 41) .skip (.exit 0))) (.seq (.block 1 (.seq (Rg Try.f52 11) (.block 2 (.loop (.seq (.seq (Rg Try.f52 12) (.cond (.tmp 48) .skip (.exit 2))) (.seq (.block 3 (Rg Try.f52 14)) (Rg Try.f52 13))))))) (Rg Try.f52 10)))))) (.seq (.seq (Rg Try.f52 15) (.block 4 (.loop (.seq (.seq (Rg Try.f52 16) (.cond (.tmp 62) .skip (.exit 4))) (.seq (.block 5 (.seq (Rg Try.f52 18) (.block 6 (.loop (.seq (.seq (Rg Try.f52 19) (.cond (.tmp 70) .skip (.exit 6))) (.seq (.block 7 (Rd Try.f52 21)) (Rg Try.f52 20))))))) (Rg Try.f52 17)))))) (.seq (.seq (Rg Try.f52 22) (.block 8 (.loop (.seq (.seq (Rg Try.f52 23) (.cond (.tmp 96) .skip (.exit 8))) (.seq (.block 9 (Rd Try.f52 25)) (Rg Try.f52 24)))))) (.seq (Rg Try.f52 26) .ret)))))))))))) kr (Nat.le_of_ble_eq_true kr) 0 (rs := [.tmp 2]) rfl [] .nil [(false, [.sl true 5 (r.map Bind.row)])] [] [] fun cx => ?_
  show Tr _ _ _ ⟨122, 0, [sV 0 (CV.frzRow (Bridge.row x0))], []⟩ _
  unfold spec_MibListF at H
  refine Tr.rgn tOk 2 6 2 kr kr ?_
  refine Tr.seq ?_
  refine Tr.rs ?_
  refine LAt.runU tOk 1 kr ?_
  obtain ⟨r1, er1, H⟩ := bind_some H
  refine LAt.callV tOk [.rd] [] (spec_BridgeOk n x0 r1 er1) kr kr kr kr (.inl rfl) ?_
  refine LAt.runU tOk 1 kr ?_
  refine LAt.doneM 2054 2 kr ?_
  cases h1 : (!r1)
  · have H := bifF h1 H
    refine Tr.cF h1 kr ?_
    refine Tr.skip ?_
    show Tr _ _ _ _ _
    obtain ⟨r2, er2, H⟩ := bind_some H
    refine Tr.draws mixed 8 kr ⟨122, 0, [sC 3 (cL 5 [(⟨r2, (⟨4, 0, x0.Name, ([] : List Int)⟩ : Val)⟩ : Bind)] Bind.row), sC 2 (cL 5 ([] : List Bind) Bind.row), sA 1 1 11 0], [(1, (CV.frzRow (Bridge.row x0)))]⟩ (fun cx => ?_) ?_
    · refine AT.runU tOk [(2, []), (3, [4, 5, 6])] 6 [⟨[4, 5, 6], 9, 15, 16⟩] [3, 2] rfl kr (fun cx => ?_)
      refine AT.big2 tOk 0 4 kr (And.intro kr ?_) (And.intro kr ?_)
      · refine LAt.runU tOk 1 kr ?_
        refine LAt.fin kr (And.intro (And.intro kr kr) ?_)
        refine AT.big2 tOk 1 4 kr (And.intro kr ?_) (And.intro kr ?_)
        · refine LAt.callV tOk [.rd] [] (spec_l17Name n [1, 1] r2 er2) kr kr kr kr (.inl rfl) ?_
          refine LAt.fin kr (And.intro (And.intro kr kr) ?_)
          refine AT.big1 tOk 4 kr kr ?_
          refine LAt.runU tOk 1 kr ?_
          refine LAt.fin kr (And.intro (And.intro kr kr) ?_)
          refine AT.big1 tOk 5 kr kr ?_
          refine LAt.runU tOk 1 kr ?_
          refine LAt.fin kr (And.intro (And.intro kr kr) ?_)
          refine AT.big1 tOk 6 kr kr ?_
          refine LAt.runU tOk 1 kr ?_
          refine LAt.fin kr (And.intro (And.intro kr kr) ?_)
          refine AT.big1 tOk 7 kr kr ?_
          refine LAt.moveU (T := lk tab) (ty := 81) (x := (.tmp 19)) (d := 3) (g := none) false [cL 5 [(⟨r2, (⟨4, 0, x0.Name, ([] : List Int)⟩ : Val)⟩ : Bind)] Bind.row] kr kr kr kr kr ?_
          refine LAt.fin kr (And.intro (And.intro kr kr) ?_)
          exact AT.done [3, 2, 1] [1] _ kr kr rfl
        · refine LAt.runU tOk 1 kr ?_
          refine LAt.fin kr (And.intro (And.intro kr kr) ?_)
          refine AT.big1 tOk 1 kr kr ?_
          refine LAt.callV tOk [.rd] [] (spec_l17Name n [1, 1] r2 er2) kr kr kr kr (.inl rfl) ?_
          refine LAt.fin kr (And.intro (And.intro kr kr) ?_)
          refine AT.big1 tOk 5 kr kr ?_
          refine LAt.runU tOk 1 kr ?_
          refine LAt.fin kr (And.intro (And.intro kr kr) ?_)
          refine AT.big1 tOk 6 kr kr ?_
          refine LAt.runU tOk 1 kr ?_
          refine LAt.fin kr (And.intro (And.intro kr kr) ?_)
          refine AT.big1 tOk 7 kr kr ?_
          refine LAt.moveU (T := lk tab) (ty := 81) (x := (.tmp 19)) (d := 3) (g := none) false [cL 5 [(⟨r2, (⟨4, 0, x0.Name, ([] : List Int)⟩ : Val)⟩ : Bind)] Bind.row] kr kr kr kr kr ?_
          refine LAt.fin kr (And.intro (And.intro kr kr) ?_)
          exact AT.done [3, 2, 1] [1] _ kr kr rfl
      · refine LAt.runU tOk 1 kr ?_
        refine LAt.fin kr (And.intro (And.intro kr kr) ?_)
        refine AT.big1 tOk 0 kr kr ?_
        refine LAt.runU tOk 1 kr ?_
        refine LAt.fin kr (And.intro (And.intro kr kr) ?_)
        refine AT.big1 tOk 1 kr kr ?_
        refine LAt.callV tOk [.rd] [] (spec_l17Name n [1, 1] r2 er2) kr kr kr kr (.inl rfl) ?_
        refine LAt.fin kr (And.intro (And.intro kr kr) ?_)
        refine AT.big1 tOk 5 kr kr ?_
        refine LAt.runU tOk 1 kr ?_
        refine LAt.fin kr (And.intro (And.intro kr kr) ?_)
        refine AT.big1 tOk 6 kr kr ?_
        refine LAt.runU tOk 1 kr ?_
        refine LAt.fin kr (And.intro (And.intro kr kr) ?_)
        refine AT.big1 tOk 7 kr kr ?_
        refine LAt.moveU (T := lk tab) (ty := 81) (x := (.tmp 19)) (d := 3) (g := none) false [cL 5 [(⟨r2, (⟨4, 0, x0.Name, ([] : List Int)⟩ : Val)⟩ : Bind)] Bind.row] kr kr kr kr kr ?_
        refine LAt.fin kr (And.intro (And.intro kr kr) ?_)
        exact AT.done [3, 2, 1] [1] _ kr kr rfl
    refine Tr.rs ?_
    refine LAt.runU tOk 4 kr ?_
    obtain ⟨r3, er3, H⟩ := bind_some H
    refine LAt.callV tOk [.own, .rd, .rd] [] (spec_l17Add n [(⟨r2, (⟨4, 0, x0.Name, ([] : List Int)⟩ : Val)⟩ : Bind)] [1, 2] x0.Ticks r3 er3) kr kr kr kr (.inl rfl) ?_
    refine LAt.moveU (T := lk tab) (ty := 81) (x := (.tmp 24)) (d := 3) (g := none) false [cL 5 r3 Bind.row] kr kr kr kr kr ?_
    refine LAt.doneM 14 2 kr ?_
    refine Tr.rs ?_
    refine LAt.runU tOk 4 kr ?_
    obtain ⟨r4, er4, H⟩ := bind_some H
    refine LAt.callV tOk [.own, .rd, .rd] [] (spec_l17Add n r3 [1, 3] x0.Parse r4 er4) kr kr kr kr (.inl rfl) ?_
    refine LAt.moveU (T := lk tab) (ty := 81) (x := (.tmp 29)) (d := 3) (g := none) false [cL 5 r4 Bind.row] kr kr kr kr kr ?_
    refine LAt.doneM 14 2 kr ?_
    refine Tr.rs ?_
    refine LAt.runU tOk 4 kr ?_
    obtain ⟨r5, er5, H⟩ := bind_some H
    refine LAt.callV tOk [.own, .rd, .rd] [] (spec_l17Add n r4 [1, 4] x0.Word r5 er5) kr kr kr kr (.inl rfl) ?_
    refine LAt.moveU (T := lk tab) (ty := 81) (x := (.tmp 34)) (d := 3) (g := none) false [cL 5 r5 Bind.row] kr kr kr kr kr ?_
    refine LAt.doneM 14 2 kr ?_
    refine Tr.rs ?_
    refine LAt.runU tOk 4 kr ?_
    obtain ⟨r6, er6, H⟩ := bind_some H
    refine LAt.callV tOk [.own, .rd, .rd] [] (spec_l17Add n r5 [1, 5] x0.Drops r6 er6) kr kr kr kr (.inl rfl) ?_
    refine LAt.moveU (T := lk tab) (ty := 81) (x := (.tmp 39)) (d := 3) (g := none) false [cL 5 r6 Bind.row] kr kr kr kr kr ?_
    refine LAt.doneM 14 2 kr ?_
    refine Tr.seq ?_
    refine Tr.rgn tOk 1 30 2 kr kr ?_
    obtain ⟨o32, eo32, Ho32⟩ := bind_some H
    clear H
    refine Tr.mid (ι := (List Bind)) (fun v => ⟨122, 0, [sC 3 (cL 5 v Bind.row), sC 2 (cL 5 ([] : List Bind) Bind.row), sA 1 1 11 0], [(1, (CV.frzRow (Bridge.row x0)))]⟩) (fun v => spec_MibList_J1 n x0 v = some r) ?_ ?_
    · refine Tr.block ?_
      refine Tr.loop (ι := Nat × (Int × (List Bind))) (fun v => ⟨122, 0, [sI 4 v.2.1, sC 3 (cL 5 v.2.2 Bind.row), sC 2 (cL 5 ([] : List Bind) Bind.row), sA 1 1 11 0], [(1, (CV.frzRow (Bridge.row x0)))]⟩) (fun v => spec_MibList_L8 n v.1 x0 v.2.1 v.2.2 = some o32) (fun v => v.1) (n, (1, r6)) eo32 (St.sub_of [4, 3, 2, 1] [1] kr) ?_
      rintro ⟨mo32, y7, y8⟩ H
      have H : spec_MibList_L8 n mo32 x0 y7 y8 = some o32 := H
      obtain _ | mo32 := mo32
      · cases (show (none : Option _) = some o32 from H)
      rw [spec_MibList_L8] at H
      refine Tr.seq ?_
      refine Tr.rgn tOk 2 3298534883358 2 kr kr ?_
      cases h5 : (decide (y7 ≤ 4))
      · have H := bifF h5 H
        refine Tr.cF h5 kr ?_
        refine Tr.exit ?_
        refine And.intro (fun _ => ?_) (fun h => absurd rfl h)
        have H := Option.some.inj H
        subst H
        have H := Ho32
        dsimp only at H
        exact Exists.intro y8 (And.intro H (St.sub_of [3, 2, 1] [1] kr))
      have H := bifT h5 H
      refine Tr.cT h5 kr ?_
      refine Tr.skip ?_
      show Tr _ _ _ _ _
      refine Tr.seq ?_
      refine Tr.block ?_
      refine Tr.rgn tOk 1 3298534883390 2 kr kr ?_
      refine Tr.to ⟨122, 0, [sI 5 0, sB 41 (decide (y7 ≤ 4)), sI 40 y7, sI 4 y7, sC 3 (cL 5 y8 Bind.row), sC 2 (cL 5 ([] : List Bind) Bind.row), sA 1 1 11 0], [(1, (CV.frzRow (Bridge.row x0)))]⟩ kr ?_
      rw [h5]
      obtain ⟨o38, eo38, Ho38⟩ := bind_some H
      clear H
      refine Tr.mid (ι := Int × Int × (List Bind)) (fun v => ⟨122, 0, [sB 48 false, sI 47 (x0.Ports.length : Int), sC 46 (cF 8 x0.Ports Pt.row), sA 45 1 11 2, sI 44 v.1, sI 5 v.2.1, sB 41 true, sI 40 y7, sI 4 y7, sC 3 (cL 5 v.2.2 Bind.row), sC 2 (cL 5 ([] : List Bind) Bind.row), sA 1 1 11 0], [(1, (CV.frzRow (Bridge.row x0)))]⟩) (fun v => spec_MibList_J9 n (fun v => spec_MibList_L8 n mo32 x0 v.1 v.2) y7 v.1 v.2.1 v.2.2 = some o32) ?_ ?_
      · refine Tr.block ?_
        refine Tr.loop (ι := Nat × (Int × (List Bind))) (fun v => ⟨122, 0, [sI 5 v.2.1, sB 41 true, sI 40 y7, sI 4 y7, sC 3 (cL 5 v.2.2 Bind.row), sC 2 (cL 5 ([] : List Bind) Bind.row), sA 1 1 11 0], [(1, (CV.frzRow (Bridge.row x0)))]⟩) (fun v => spec_MibList_L10 n v.1 x0 y7 v.2.1 v.2.2 = some o38) (fun v => v.1) (n, (0, y8)) eo38 (St.sub_of [5, 41, 40, 4, 3, 2, 1] [1] kr) ?_
        rintro ⟨mo38, y33, y34⟩ H
        have H : spec_MibList_L10 n mo38 x0 y7 y33 y34 = some o38 := H
        obtain _ | mo38 := mo38
        · cases (show (none : Option _) = some o38 from H)
        rw [spec_MibList_L10] at H
        refine Tr.seq ?_
        refine Tr.rs ?_
        refine LAt.runU tOk 3 kr ?_
        refine LAt.lenE tOk (t := 55) (ty := 3) (e := 114) (x := (.tmp 46)) (d := 47) (g := none) ⟨(.slot 46), [], 0, false, 8, (CV.frzEs (x0.Ports.map Pt.row))⟩ (x0.Ports).length _ kr kr kr kr kr (frz_len _ _) rfl ?_
        refine LAt.runU tOk 1 kr ?_
        refine LAt.doneM 548656302260286 2 kr ?_
        cases h6 : (decide (y33 < (x0.Ports.length : Int)))
        · have H := bifF h6 H
          refine Tr.cF h6 kr ?_
          refine Tr.exit ?_
          refine And.intro (fun _ => ?_) (fun h => absurd rfl h)
          have H := Option.some.inj H
          subst H
          have H := Ho38
          dsimp only at H
          refine Sb.to ⟨122, 0, [sB 48 (decide (y33 < (x0.Ports.length : Int))), sI 47 (x0.Ports.length : Int), sC 46 (cF 8 x0.Ports Pt.row), sA 45 1 11 2, sI 44 y33, sI 5 y33, sB 41 true, sI 40 y7, sI 4 y7, sC 3 (cL 5 y34 Bind.row), sC 2 (cL 5 ([] : List Bind) Bind.row), sA 1 1 11 0], [(1, (CV.frzRow (Bridge.row x0)))]⟩ kr ?_
          rw [h6]
          exact Exists.intro (y33, y33, y34) (And.intro H (St.sub_of [48, 47, 46, 45, 44, 5, 41, 40, 4, 3, 2, 1] [1] kr))
        have H := bifT h6 H
        refine Tr.cT h6 kr ?_
        refine Tr.skip ?_
        show Tr _ _ _ _ _
        refine Tr.seq ?_
        refine Tr.block ?_
        refine Tr.at ?_
        refine LAt.runU tOk 8 kr ?_
        obtain ⟨r39, er39, H⟩ := bind_some H
        refine LAt.callV tOk [.rd, .rd, .rd] [] (spec_l17Port n x0 y7 y33 r39 er39) kr kr kr kr (.inl rfl) ?_
        obtain ⟨r40, er40, H⟩ := bind_some H
        refine LAt.callV tOk [.own, .rd, .rd] [] (spec_l17Add n y34 [2, y7, (IntKind.wrap .i64 (y33 + 1))] r39 r40 er40) kr kr kr kr (.inl rfl) ?_
        refine LAt.moveU (T := lk tab) (ty := 81) (x := (.tmp 60)) (d := 3) (g := none) false [cL 5 r40 Bind.row] kr kr kr kr kr ?_
        refine LAt.doneM 1148966561281736766 2 kr ?_
        show Tr _ _ _ _ _
        refine Tr.rgE tOk 3 1150655411142000702 2 kr kr ?_
        exact Exists.intro (mo38, ((IntKind.wrap .i64 (y33 + 1)), r40)) (And.intro H (And.intro (Nat.lt_succ_self mo38) (St.sub_of [5, 41, 40, 4, 3, 2, 1] [1] kr)))
      rintro ⟨y35, y36, y37⟩ H
      have H : (spec_MibList_J9 n (fun v => spec_MibList_L8 n mo32 x0 v.1 v.2) y7 y35 y36 y37) = some o32 := H
      unfold spec_MibList_J9 at H
      show Tr _ _ _ _ _
      refine Tr.rgE tOk 3 561850441793598 2 kr kr ?_
      exact Exists.intro (mo32, ((IntKind.wrap .i64 (y7 + 1)), y37)) (And.intro H (And.intro (Nat.lt_succ_self mo32) (St.sub_of [4, 3, 2, 1] [1] kr)))
    rintro y9 H
    have H : (spec_MibList_J1 n x0 y9) = some r := H
    unfold spec_MibList_J1 at H
    show Tr _ _ _ _ _
    refine Tr.seq ?_
    refine Tr.rgn tOk 1 78 2 kr kr ?_
    obtain ⟨o21, eo21, Ho21⟩ := bind_some H
    clear H
    refine Tr.mid (ι := (List Bind)) (fun v => ⟨122, 0, [sC 3 (cL 5 v Bind.row), sC 2 (cL 5 ([] : List Bind) Bind.row), sA 1 1 11 0], [(1, (CV.frzRow (Bridge.row x0)))]⟩) (fun v => spec_MibList_J2 n x0 v = some r) ?_ ?_
    · refine Tr.block ?_
      refine Tr.loop (ι := Nat × (Int × (List Bind))) (fun v => ⟨122, 0, [sI 6 v.2.1, sC 3 (cL 5 v.2.2 Bind.row), sC 2 (cL 5 ([] : List Bind) Bind.row), sA 1 1 11 0], [(1, (CV.frzRow (Bridge.row x0)))]⟩) (fun v => spec_MibList_L5 n v.1 x0 v.2.1 v.2.2 = some o21) (fun v => v.1) (n, (1, y9)) eo21 (St.sub_of [6, 3, 2, 1] [1] kr) ?_
      rintro ⟨mo21, y10, y11⟩ H
      have H : spec_MibList_L5 n mo21 x0 y10 y11 = some o21 := H
      obtain _ | mo21 := mo21
      · cases (show (none : Option _) = some o21 from H)
      rw [spec_MibList_L5] at H
      refine Tr.seq ?_
      refine Tr.rgn tOk 2 6917529027641081934 2 kr kr ?_
      cases h3 : (decide (y10 ≤ 3))
      · have H := bifF h3 H
        refine Tr.cF h3 kr ?_
        refine Tr.exit ?_
        refine And.intro (fun _ => ?_) (fun h => absurd rfl h)
        have H := Option.some.inj H
        subst H
        have H := Ho21
        dsimp only at H
        exact Exists.intro y11 (And.intro H (St.sub_of [3, 2, 1] [1] kr))
      have H := bifT h3 H
      refine Tr.cT h3 kr ?_
      refine Tr.skip ?_
      show Tr _ _ _ _ _
      refine Tr.seq ?_
      refine Tr.block ?_
      refine Tr.rgn tOk 1 6917529027641082062 2 kr kr ?_
      refine Tr.to ⟨122, 0, [sI 7 0, sB 62 (decide (y10 ≤ 3)), sI 61 y10, sI 6 y10, sC 3 (cL 5 y11 Bind.row), sC 2 (cL 5 ([] : List Bind) Bind.row), sA 1 1 11 0], [(1, (CV.frzRow (Bridge.row x0)))]⟩ kr ?_
      rw [h3]
      obtain ⟨o27, eo27, Ho27⟩ := bind_some H
      clear H
      refine Tr.mid (ι := Int × Int × (List Bind)) (fun v => ⟨122, 0, [sB 70 false, sI 69 (x0.V.Rows.length : Int), sC 68 (cF 3 x0.V.Rows Vrow.row), sA 67 1 11 4, sA 66 1 11 4, sI 65 v.1, sI 7 v.2.1, sB 62 true, sI 61 y10, sI 6 y10, sC 3 (cL 5 v.2.2 Bind.row), sC 2 (cL 5 ([] : List Bind) Bind.row), sA 1 1 11 0], [(1, (CV.frzRow (Bridge.row x0)))]⟩) (fun v => spec_MibList_J6 n (fun v => spec_MibList_L5 n mo21 x0 v.1 v.2) y10 v.1 v.2.1 v.2.2 = some o21) ?_ ?_
      · refine Tr.block ?_
        refine Tr.loop (ι := Nat × (Int × (List Bind))) (fun v => ⟨122, 0, [sI 7 v.2.1, sB 62 true, sI 61 y10, sI 6 y10, sC 3 (cL 5 v.2.2 Bind.row), sC 2 (cL 5 ([] : List Bind) Bind.row), sA 1 1 11 0], [(1, (CV.frzRow (Bridge.row x0)))]⟩) (fun v => spec_MibList_L7 n v.1 x0 y10 v.2.1 v.2.2 = some o27) (fun v => v.1) (n, (0, y11)) eo27 (St.sub_of [7, 62, 61, 6, 3, 2, 1] [1] kr) ?_
        rintro ⟨mo27, y22, y23⟩ H
        have H : spec_MibList_L7 n mo27 x0 y10 y22 y23 = some o27 := H
        obtain _ | mo27 := mo27
        · cases (show (none : Option _) = some o27 from H)
        rw [spec_MibList_L7] at H
        refine Tr.seq ?_
        refine Tr.rs ?_
        refine LAt.runU tOk 4 kr ?_
        refine LAt.lenE tOk (t := 57) (ty := 3) (e := 138) (x := (.tmp 68)) (d := 69) (g := none) ⟨(.slot 68), [], 0, false, 3, (CV.frzEs (x0.V.Rows.map Vrow.row))⟩ (x0.V.Rows).length _ kr kr kr kr kr (frz_len _ _) rfl ?_
        refine LAt.runU tOk 1 kr ?_
        refine LAt.doneM 2331207282315044585678 2 kr ?_
        cases h4 : (decide (y22 < (x0.V.Rows.length : Int)))
        · have H := bifF h4 H
          refine Tr.cF h4 kr ?_
          refine Tr.exit ?_
          refine And.intro (fun _ => ?_) (fun h => absurd rfl h)
          have H := Option.some.inj H
          subst H
          have H := Ho27
          dsimp only at H
          refine Sb.to ⟨122, 0, [sB 70 (decide (y22 < (x0.V.Rows.length : Int))), sI 69 (x0.V.Rows.length : Int), sC 68 (cF 3 x0.V.Rows Vrow.row), sA 67 1 11 4, sA 66 1 11 4, sI 65 y22, sI 7 y22, sB 62 true, sI 61 y10, sI 6 y10, sC 3 (cL 5 y23 Bind.row), sC 2 (cL 5 ([] : List Bind) Bind.row), sA 1 1 11 0], [(1, (CV.frzRow (Bridge.row x0)))]⟩ kr ?_
          rw [h4]
          exact Exists.intro (y22, y22, y23) (And.intro H (St.sub_of [70, 69, 68, 67, 66, 65, 7, 62, 61, 6, 3, 2, 1] [1] kr))
        have H := bifT h4 H
        refine Tr.cT h4 kr ?_
        refine Tr.skip ?_
        show Tr _ _ _ _ _
        refine Tr.seq ?_
        refine Tr.block ?_
        obtain ⟨v28, ev28, H⟩ := bind_some H
        obtain ⟨v29, ev29, H⟩ := bind_some H
        obtain ⟨r30, er30, H⟩ := bind_some H
        obtain ⟨r31, er31, H⟩ := bind_some H
        refine Tr.draw mixed 20 kr ⟨122, 0, [sC 3 (cL 5 r31 Bind.row), sC 82 (cF 1 [3, y10, v28.Id] intRow), sI 90 r30, sI 89 y10, sV 88 (Vrow.row v29), (87, .fad ((Vrow.row v29))), sI 86 y22, sR 85 1 11 4 1 false, sA 84 1 11 4, sA 83 1 11 4, sI 81 v28.Id, (80, .fad ((Vrow.row v28))), (79, .fad ((Vrow.row v28))), sI 78 y22, sR 77 1 11 4 1 false, sA 76 1 11 4, sA 75 1 11 4, sI 74 y10, sB 70 (decide (y22 < (x0.V.Rows.length : Int))), sI 69 (x0.V.Rows.length : Int), sC 68 (cF 3 x0.V.Rows Vrow.row), sA 67 1 11 4, sA 66 1 11 4, sI 65 y22, sI 7 y22, sB 62 true, sI 61 y10, sI 6 y10, sC 2 (cL 5 ([] : List Bind) Bind.row), sA 1 1 11 0], [(1, (CV.frzRow (Bridge.row x0)))]⟩ (fun cx => ?_) ?_
        · refine AT.runU tOk [(0, []), (1, []), (2, []), (3, []), (4, [9, 18]), (5, [])] 14 [⟨[9, 18], 57, 76, 77⟩] [5, 4, 3, 2, 1, 0] rfl kr (fun cx => ?_)
          refine AT.indexF tOk 6 (t := 57) (ty := 0) (x := (.tmp 77)) (y := (.tmp 78)) (d := 79) (g := none) ⟨(.box 1), [(0, 0)], 4, false, 3, (CV.frzEs (x0.V.Rows.map Vrow.row))⟩ y22 (Vrow.row v28) _ kr kr kr kr kr kr rfl (idx_isF ev28) rfl (fun cx => ?_)
          refine AT.runU tOk [(7, []), (8, []), (10, []), (11, []), (12, [17, 18]), (13, [])] 7 [⟨[17, 18], 57, 84, 85⟩, ⟨[9, 18], 57, 76, 77⟩] [13, 12, 11, 10, 8, 7, 6, 5, 4, 3, 2, 1, 0] rfl kr (fun cx => ?_)
          refine AT.indexF tOk 14 (t := 57) (ty := 0) (x := (.tmp 85)) (y := (.tmp 86)) (d := 87) (g := none) ⟨(.box 1), [(0, 0)], 4, false, 3, (CV.frzEs (x0.V.Rows.map Vrow.row))⟩ y22 (Vrow.row v29) _ kr kr kr kr kr kr rfl (idx_isF ev29) rfl (fun cx => ?_)
          refine AT.runU tOk [(15, []), (16, [])] 4 [⟨[17, 18], 57, 84, 85⟩, ⟨[9, 18], 57, 76, 77⟩] [16, 15, 14, 13, 12, 11, 10, 8, 7, 6, 5, 4, 3, 2, 1, 0] rfl kr (fun cx => ?_)
          refine AT.big2 tOk 9 17 kr (And.intro kr ?_) (And.intro kr ?_)
          · refine LAt.runU tOk 1 kr ?_
            refine LAt.fin kr (And.intro (And.intro kr kr) ?_)
            refine AT.big1 tOk 17 kr kr ?_
            refine LAt.callV tOk [.rd, .rd] [] (spec_l17Row n v29 y10 r30 er30) kr kr kr kr (.inl rfl) ?_
            refine LAt.fin kr (And.intro (And.intro kr kr) ?_)
            refine AT.big1 tOk 18 kr kr ?_
            refine LAt.callV tOk [.own, .rd, .rd] [] (spec_l17Add n y23 [3, y10, v28.Id] r30 r31 er31) kr kr kr kr (.inl rfl) ?_
            refine LAt.fin kr (And.intro (And.intro kr kr) ?_)
            refine AT.big1 tOk 19 kr kr ?_
            refine LAt.moveU (T := lk tab) (ty := 81) (x := (.tmp 91)) (d := 3) (g := none) false [cL 5 r31 Bind.row] kr kr kr kr kr ?_
            refine LAt.fin kr (And.intro (And.intro kr kr) ?_)
            exact AT.done [3, 82, 90, 89, 88, 87, 86, 85, 84, 83, 81, 80, 79, 78, 77, 76, 75, 74, 70, 69, 68, 67, 66, 65, 7, 62, 61, 6, 2, 1] [1] _ kr kr rfl
          · refine LAt.callV tOk [.rd, .rd] [] (spec_l17Row n v29 y10 r30 er30) kr kr kr kr (.inl rfl) ?_
            refine LAt.fin kr (And.intro (And.intro kr kr) ?_)
            refine AT.big1 tOk 9 kr kr ?_
            refine LAt.runU tOk 1 kr ?_
            refine LAt.fin kr (And.intro (And.intro kr kr) ?_)
            refine AT.big1 tOk 18 kr kr ?_
            refine LAt.callV tOk [.own, .rd, .rd] [] (spec_l17Add n y23 [3, y10, v28.Id] r30 r31 er31) kr kr kr kr (.inl rfl) ?_
            refine LAt.fin kr (And.intro (And.intro kr kr) ?_)
            refine AT.big1 tOk 19 kr kr ?_
            refine LAt.moveU (T := lk tab) (ty := 81) (x := (.tmp 91)) (d := 3) (g := none) false [cL 5 r31 Bind.row] kr kr kr kr kr ?_
            refine LAt.fin kr (And.intro (And.intro kr kr) ?_)
            exact AT.done [3, 82, 90, 89, 88, 87, 86, 85, 84, 83, 81, 80, 79, 78, 77, 76, 75, 74, 70, 69, 68, 67, 66, 65, 7, 62, 61, 6, 2, 1] [1] _ kr kr rfl
        show Tr _ _ _ _ _
        refine Tr.rgE tOk 3 2475870603861835690729799886 2 kr kr ?_
        exact Exists.intro (mo27, ((IntKind.wrap .i64 (y22 + 1)), r31)) (And.intro H (And.intro (Nat.lt_succ_self mo27) (St.sub_of [7, 62, 61, 6, 3, 2, 1] [1] kr)))
      rintro ⟨y24, y25, y26⟩ H
      have H : (spec_MibList_J6 n (fun v => spec_MibList_L5 n mo21 x0 v.1 v.2) y10 y24 y25 y26) = some o21 := H
      unfold spec_MibList_J6 at H
      show Tr _ _ _ _ _
      refine Tr.rgE tOk 3 2358877398425608913102 2 kr kr ?_
      exact Exists.intro (mo21, ((IntKind.wrap .i64 (y10 + 1)), y26)) (And.intro H (And.intro (Nat.lt_succ_self mo21) (St.sub_of [6, 3, 2, 1] [1] kr)))
    rintro y12 H
    have H : (spec_MibList_J2 n x0 y12) = some r := H
    unfold spec_MibList_J2 at H
    show Tr _ _ _ _ _
    refine Tr.seq ?_
    refine Tr.rgn tOk 1 270 2 kr kr ?_
    obtain ⟨o16, eo16, Ho16⟩ := bind_some H
    clear H
    refine Tr.mid (ι := (List Bind)) (fun v => ⟨122, 0, [sC 3 (cL 5 v Bind.row), sC 2 (cL 5 ([] : List Bind) Bind.row)], []⟩) (fun v => spec_MibList_J3 n v = some r) ?_ ?_
    · refine Tr.block ?_
      refine Tr.loop (ι := Nat × (Int × (List Bind))) (fun v => ⟨122, 0, [sI 8 v.2.1, sC 3 (cL 5 v.2.2 Bind.row), sC 2 (cL 5 ([] : List Bind) Bind.row), sA 1 1 11 0], [(1, (CV.frzRow (Bridge.row x0)))]⟩) (fun v => spec_MibList_L4 n v.1 x0 v.2.1 v.2.2 = some o16) (fun v => v.1) (n, (0, y12)) eo16 (St.sub_of [8, 3, 2, 1] [1] kr) ?_
      rintro ⟨mo16, y13, y14⟩ H
      have H : spec_MibList_L4 n mo16 x0 y13 y14 = some o16 := H
      obtain _ | mo16 := mo16
      · cases (show (none : Option _) = some o16 from H)
      rw [spec_MibList_L4] at H
      refine Tr.seq ?_
      refine Tr.rs ?_
      refine LAt.runU tOk 3 kr ?_
      refine LAt.lenE tOk (t := 56) (ty := 3) (e := 141) (x := (.tmp 94)) (d := 95) (g := none) ⟨(.slot 94), [], 0, false, 5, (CV.frzEs (x0.F.map Fent.row))⟩ (x0.F).length _ kr kr kr kr kr (frz_len _ _) rfl ?_
      refine LAt.runU tOk 1 kr ?_
      refine LAt.doneM 153504564871387154087491404046 2 kr ?_
      cases h2 : (decide (y13 < (x0.F.length : Int)))
      · have H := bifF h2 H
        refine Tr.cF h2 kr ?_
        refine Tr.exit ?_
        refine And.intro (fun _ => ?_) (fun h => absurd rfl h)
        have H := Option.some.inj H
        subst H
        have H := Ho16
        dsimp only at H
        exact Exists.intro y14 (And.intro H (St.sub_of [3, 2] [] kr))
      have H := bifT h2 H
      refine Tr.cT h2 kr ?_
      refine Tr.skip ?_
      show Tr _ _ _ _ _
      refine Tr.seq ?_
      refine Tr.block ?_
      obtain ⟨v17, ev17, H⟩ := bind_some H
      obtain ⟨v18, ev18, H⟩ := bind_some H
      obtain ⟨v19, ev19, H⟩ := bind_some H
      obtain ⟨r20, er20, H⟩ := bind_some H
      refine Tr.draw mixed 23 kr ⟨122, 0, [sC 3 (cL 5 r20 Bind.row), sC 112 (cF 1 [4, 1, v17.Tag, v18.Mac] intRow), sI 119 (IntKind.wrap .i64 (v19.Port + 1)), sI 118 v19.Port, (117, .fad (((Fent.row v19).drop 2))), (116, .fad ((Fent.row v19))), sI 115 y13, sR 114 1 11 3 1 false, sA 113 1 11 3, sI 111 v18.Mac, (110, .fad (((Fent.row v18).drop 1))), (109, .fad ((Fent.row v18))), sI 108 y13, sR 107 1 11 3 1 false, sA 106 1 11 3, sI 105 v17.Tag, (104, .fad ((Fent.row v17))), (103, .fad ((Fent.row v17))), sI 102 y13, sR 101 1 11 3 1 false, sA 100 1 11 3, sB 96 (decide (y13 < (x0.F.length : Int))), sI 95 (x0.F.length : Int), sC 94 (cF 5 x0.F Fent.row), sA 93 1 11 3, sI 92 y13, sI 8 y13, sC 2 (cL 5 ([] : List Bind) Bind.row), sA 1 1 11 0], [(1, (CV.frzRow (Bridge.row x0)))]⟩ (fun cx => ?_) ?_
      · refine AT.runU tOk [(0, []), (1, []), (2, [13, 21]), (3, [])] 19 [⟨[13, 21], 56, 100, 101⟩] [3, 2, 1, 0] rfl kr (fun cx => ?_)
        refine AT.indexF tOk 4 (t := 56) (ty := 0) (x := (.tmp 101)) (y := (.tmp 102)) (d := 103) (g := none) ⟨(.box 1), [(0, 0)], 3, false, 5, (CV.frzEs (x0.F.map Fent.row))⟩ y13 (Fent.row v17) _ kr kr kr kr kr kr rfl (idx_isF ev17) rfl (fun cx => ?_)
        refine AT.runU tOk [(5, []), (6, []), (7, []), (8, [13, 21]), (9, [])] 13 [⟨[13, 21], 56, 106, 107⟩, ⟨[13, 21], 56, 100, 101⟩] [9, 8, 7, 6, 5, 4, 3, 2, 1, 0] rfl kr (fun cx => ?_)
        refine AT.indexF tOk 10 (t := 56) (ty := 0) (x := (.tmp 107)) (y := (.tmp 108)) (d := 109) (g := none) ⟨(.box 1), [(0, 0)], 3, false, 5, (CV.frzEs (x0.F.map Fent.row))⟩ y13 (Fent.row v18) _ kr kr kr kr kr kr rfl (idx_isF ev18) rfl (fun cx => ?_)
        refine AT.runU tOk [(11, []), (12, []), (14, []), (15, [21]), (16, [])] 7 [⟨[21], 56, 113, 114⟩, ⟨[13, 21], 56, 106, 107⟩, ⟨[13, 21], 56, 100, 101⟩] [16, 15, 14, 12, 11, 10, 9, 8, 7, 6, 5, 4, 3, 2, 1, 0] rfl kr (fun cx => ?_)
        refine AT.indexF tOk 17 (t := 56) (ty := 0) (x := (.tmp 114)) (y := (.tmp 115)) (d := 116) (g := none) ⟨(.box 1), [(0, 0)], 3, false, 5, (CV.frzEs (x0.F.map Fent.row))⟩ y13 (Fent.row v19) _ kr kr kr kr kr kr rfl (idx_isF ev19) rfl (fun cx => ?_)
        refine AT.runU tOk [(18, []), (19, []), (20, [])] 3 [⟨[21], 56, 113, 114⟩, ⟨[13, 21], 56, 106, 107⟩, ⟨[13, 21], 56, 100, 101⟩] [20, 19, 18, 17, 16, 15, 14, 12, 11, 10, 9, 8, 7, 6, 5, 4, 3, 2, 1, 0] rfl kr (fun cx => ?_)
        refine AT.big1 tOk 13 kr kr ?_
        refine LAt.runU tOk 1 kr ?_
        refine LAt.fin kr (And.intro (And.intro kr kr) ?_)
        refine AT.big1 tOk 21 kr kr ?_
        refine LAt.callV tOk [.own, .rd, .rd] [] (spec_l17Add n y14 [4, 1, v17.Tag, v18.Mac] (IntKind.wrap .i64 (v19.Port + 1)) r20 er20) kr kr kr kr (.inl rfl) ?_
        refine LAt.fin kr (And.intro (And.intro kr kr) ?_)
        refine AT.big1 tOk 22 kr kr ?_
        refine LAt.moveU (T := lk tab) (ty := 81) (x := (.tmp 120)) (d := 3) (g := none) false [cL 5 r20 Bind.row] kr kr kr kr kr ?_
        refine LAt.fin kr (And.intro (And.intro kr kr) ?_)
        exact AT.done [3, 112, 119, 118, 117, 116, 115, 114, 113, 111, 110, 109, 108, 107, 106, 105, 104, 103, 102, 101, 100, 96, 95, 94, 93, 92, 8, 2, 1] [1] _ kr kr rfl
      show Tr _ _ _ _ _
      refine Tr.rgE tOk 3 1329227357007855601647585212332245262 2 kr kr ?_
      exact Exists.intro (mo16, ((IntKind.wrap .i64 (y13 + 1)), r20)) (And.intro H (And.intro (Nat.lt_succ_self mo16) (St.sub_of [8, 3, 2, 1] [1] kr)))
    rintro y15 H
    have H : (spec_MibList_J3 n y15) = some r := H
    unfold spec_MibList_J3 at H
    show Tr _ _ _ _ _
    refine Tr.rgn tOk 2 12 0 kr kr ?_
    refine Tr.ret ?_
    have H := Option.some.inj H
    subst H
    exact Fin.of _ [(false, [cL 5 y15 Bind.row])] kr rfl rfl
  have H := bifT h1 H
  refine Tr.cT h1 kr ?_
  refine Tr.rs ?_
  refine LAt.runU tOk 1 kr ?_
  refine LAt.moveU (T := lk tab) (ty := 81) (x := (.tmp 12)) (d := 2) (g := none) false [cL 5 ([] : List Bind) Bind.row] kr kr kr kr kr ?_
  refine LAt.doneM 6 2 kr ?_
  refine Tr.ret ?_
  have H := Option.some.inj H
  subst H
  exact Fin.of _ [(false, [cL 5 ([] : List Bind) Bind.row])] kr rfl rfl

def spec_LessOid_J1 (n : Nat) (x0 : (List Int)) (x1 : (List Int)) : Option (Bool) :=
  (some (decide ((x0.length : Int) < (x1.length : Int))))
def spec_LessOid_L2 (n : Nat) : Nat → (List Int) → (List Int) → Int → Option ((Unit) ⊕ (Bool))
  | 0, _, _, _ => none
  | mo2 + 1, x0, x1, y1 => (bif (decide (y1 < (x0.length : Int))) then (bif (decide (y1 < (x1.length : Int))) then ((idx x0 y1).bind fun v3 => ((idx x1 y1).bind fun v4 => (bif (v3 != v4) then ((idx x0 y1).bind fun v5 => ((idx x1 y1).bind fun v6 => (some (Sum.inr (decide (v5 < v6)))))) else (spec_LessOid_L2 n mo2 x0 x1 (IntKind.wrap .i64 (y1 + 1)))))) else (some (Sum.inl ()))) else (some (Sum.inl ())))
def spec_LessOidF (n : Nat) (x0 : (List Int)) (x1 : (List Int)) : Option (Bool) :=
  ((spec_LessOid_L2 n n x0 x1 0).bind fun o => match o with | .inl _ => (spec_LessOid_J1 n x0 x1) | .inr r => some r)
/-- loop.example/g00326/spec.LessOid -/
theorem spec_LessOid (n : Nat) (x0 : (List Int)) (x1 : (List Int)) (r : Bool) (H : spec_LessOidF n x0 x1 = some r) : LCall Try.prog 130 [.val false [.sl false 1 (CV.frzEs (x0.map intRow))], .val false [.sl false 1 (CV.frzEs (x1.map intRow))]] [.val false [.lit (.bool r)]] [] := by
  refine LCall.of_body tOk Try.func130 rfl (c := (.seq (Rg Try.f130 0) (.seq (.seq (Rg Try.f130 1) (.block 0 (.loop (.seq (.seq (Rg Try.f130 2) (.cond (.tmp 15) .skip (.exit 0))) (.seq (.block 1 (.seq (Rd Try.f130 4) (.cond (.tmp 26) (.seq (Rd Try.f130 5) .ret) .skip))) (Rg Try.f130 3)))))) (.seq (Rg Try.f130 6) .ret)))) kr (Nat.le_of_ble_eq_true kr) 0 (rs := [.tmp 4]) rfl [] .nil [(false, [.lit (.bool r)])] [] [] fun cx => ?_
  show Tr _ _ _ ⟨41, 0, [sC 0 (cF 1 x0 intRow), sC 1 (cF 1 x1 intRow)], []⟩ _
  unfold spec_LessOidF at H
  refine Tr.rgn tOk 1 19 0 kr kr ?_
  refine Tr.seq ?_
  refine Tr.rgn tOk 1 51 0 kr kr ?_
  obtain ⟨o2, eo2, Ho2⟩ := bind_some H
  clear H
  refine Tr.mid (ι := Unit) (fun v => ⟨41, 0, [sB 4 false, sC 0 (cF 1 x0 intRow), sC 1 (cF 1 x1 intRow)], []⟩) (fun v => spec_LessOid_J1 n x0 x1 = some r) ?_ ?_
  · refine Tr.block ?_
    refine Tr.loop (ι := Nat × (Int)) (fun v => ⟨41, 0, [sI 5 v.2, sB 4 false, sC 0 (cF 1 x0 intRow), sC 1 (cF 1 x1 intRow)], []⟩) (fun v => spec_LessOid_L2 n v.1 x0 x1 v.2 = some o2) (fun v => v.1) (n, 0) eo2 (St.sub_of [5, 4, 0, 1] [] kr) ?_
    rintro ⟨mo2, y1⟩ H
    have H : spec_LessOid_L2 n mo2 x0 x1 y1 = some o2 := H
    obtain _ | mo2 := mo2
    · cases (show (none : Option _) = some o2 from H)
    rw [spec_LessOid_L2] at H
    refine Tr.seq ?_
    refine Tr.rs ?_
    refine LAt.runU tOk 2 kr ?_
    refine LAt.lenE tOk (t := 27) (ty := 3) (e := 3) (x := (.tmp 7)) (d := 8) (g := none) ⟨(.slot 7), [], 0, false, 1, (CV.frzEs (x0.map intRow))⟩ (x0).length _ kr kr kr kr kr (frz_len _ _) rfl ?_
    refine LAt.runU tOk 2 kr ?_
    refine LAt.to ⟨41, 0, [sB 10 (decide (y1 < (x0.length : Int))), sB 9 (decide (y1 < (x0.length : Int))), sI 8 (x0.length : Int), sC 7 (cF 1 x0 intRow), sI 6 y1, sI 5 y1, sB 4 false, sC 0 (cF 1 x0 intRow), sC 1 (cF 1 x1 intRow)], []⟩ kr ?_
    cases h1 : (decide (y1 < (x0.length : Int)))
    · have H := bifF h1 H
      refine LAt.runU tOk 5 kr ?_
      refine LAt.doneM 65523 0 kr ?_
      refine Tr.cf kr ?_
      refine Tr.exit ?_
      refine And.intro (fun _ => ?_) (fun h => absurd rfl h)
      have H := Option.some.inj H
      subst H
      have H := Ho2
      dsimp only at H
      exact Exists.intro () (And.intro H (St.sub_of [4, 0, 1] [] kr))
    have H := bifT h1 H
    refine LAt.runU tOk 2 kr ?_
    refine LAt.lenE tOk (t := 27) (ty := 3) (e := 3) (x := (.tmp 12)) (d := 13) (g := (some (4, true))) ⟨(.slot 12), [], 0, false, 1, (CV.frzEs (x1.map intRow))⟩ (x1).length _ kr kr kr kr kr (frz_len _ _) rfl ?_
    refine LAt.runU tOk 2 kr ?_
    refine LAt.doneM 65523 0 kr ?_
    refine Tr.to ⟨41, 0, [sB 15 (decide (y1 < (x1.length : Int))), sB 14 (decide (y1 < (x1.length : Int))), sI 13 (x1.length : Int), sC 12 (cF 1 x1 intRow), sI 11 y1, sB 10 true, sB 9 true, sI 8 (x0.length : Int), sC 7 (cF 1 x0 intRow), sI 6 y1, sI 5 y1, sB 4 false, sC 0 (cF 1 x0 intRow), sC 1 (cF 1 x1 intRow)], []⟩ kr ?_
    cases h2 : (decide (y1 < (x1.length : Int)))
    · have H := bifF h2 H
      refine Tr.cf kr ?_
      refine Tr.exit ?_
      refine And.intro (fun _ => ?_) (fun h => absurd rfl h)
      have H := Option.some.inj H
      subst H
      have H := Ho2
      dsimp only at H
      exact Exists.intro () (And.intro H (St.sub_of [4, 0, 1] [] kr))
    have H := bifT h2 H
    refine Tr.ct kr ?_
    refine Tr.skip ?_
    show Tr _ _ _ _ _
    refine Tr.seq ?_
    refine Tr.block ?_
    obtain ⟨v3, ev3, H⟩ := bind_some H
    obtain ⟨v4, ev4, H⟩ := bind_some H
    refine Tr.draws mixed 9 kr ⟨41, 0, [sB 26 (v3 != v4), sI 25 v4, (24, .fad ([cI v4])), sI 23 y1, sC 22 (cF 1 x1 intRow), sI 21 v3, (20, .fad ([cI v3])), sI 19 y1, sC 18 (cF 1 x0 intRow), sB 15 true, sB 14 true, sI 13 (x1.length : Int), sC 12 (cF 1 x1 intRow), sI 11 y1, sB 10 true, sB 9 true, sI 8 (x0.length : Int), sC 7 (cF 1 x0 intRow), sI 6 y1, sI 5 y1, sB 4 false, sC 0 (cF 1 x0 intRow), sC 1 (cF 1 x1 intRow)], []⟩ (fun cx => ?_) ?_
    · refine AT.runU tOk [(0, []), (1, [])] 7 [] [1, 0] rfl kr (fun cx => ?_)
      refine AT.indexF tOk 2 (t := 27) (ty := 0) (x := (.tmp 18)) (y := (.tmp 19)) (d := 20) (g := none) ⟨(.slot 18), [], 0, false, 1, (CV.frzEs (x0.map intRow))⟩ y1 [cI v3] _ kr kr kr kr kr kr rfl (idx_isF ev3) rfl (fun cx => ?_)
      refine AT.runU tOk [(3, []), (4, []), (5, [])] 3 [] [5, 4, 3, 2, 1, 0] rfl kr (fun cx => ?_)
      refine AT.indexF tOk 6 (t := 27) (ty := 0) (x := (.tmp 22)) (y := (.tmp 23)) (d := 24) (g := none) ⟨(.slot 22), [], 0, false, 1, (CV.frzEs (x1.map intRow))⟩ y1 [cI v4] _ kr kr kr kr kr kr rfl (idx_isF ev4) rfl (fun cx => ?_)
      refine AT.runU tOk [(7, []), (8, [])] 0 [] [8, 7, 6, 5, 4, 3, 2, 1, 0] rfl kr (fun cx => ?_)
      exact AT.done [26, 25, 24, 23, 22, 21, 20, 19, 18, 15, 14, 13, 12, 11, 10, 9, 8, 7, 6, 5, 4, 0, 1] [] _ kr kr rfl
    refine Tr.to ⟨41, 0, [sB 26 (v3 != v4), sI 25 v4, (24, .fad ([cI v4])), sI 23 y1, sC 22 (cF 1 x1 intRow), sI 21 v3, (20, .fad ([cI v3])), sI 19 y1, sC 18 (cF 1 x0 intRow), sB 15 true, sB 14 true, sI 13 (x1.length : Int), sC 12 (cF 1 x1 intRow), sI 11 y1, sB 10 true, sB 9 true, sI 8 (x0.length : Int), sC 7 (cF 1 x0 intRow), sI 6 y1, sI 5 y1, sB 4 false, sC 0 (cF 1 x0 intRow), sC 1 (cF 1 x1 intRow)], []⟩ kr ?_
    cases h3 : (v3 != v4)
    · have H := bifF h3 H
      refine Tr.cf kr ?_
      refine Tr.skip ?_
      show Tr _ _ _ _ _
      refine Tr.rgE tOk 3 134217715 0 kr kr ?_
      exact Exists.intro (mo2, (IntKind.wrap .i64 (y1 + 1))) (And.intro H (And.intro (Nat.lt_succ_self mo2) (St.sub_of [5, 4, 0, 1] [] kr)))
    have H := bifT h3 H
    refine Tr.ct kr ?_
    obtain ⟨v5, ev5, H⟩ := bind_some H
    obtain ⟨v6, ev6, H⟩ := bind_some H
    refine Tr.draws mixed 10 kr ⟨41, 0, [sB 4 (decide (v5 < v6)), sB 35 (decide (v5 < v6)), sI 34 v6, (33, .fad ([cI v6])), sI 32 y1, sC 31 (cF 1 x1 intRow), sI 30 v5, (29, .fad ([cI v5])), sI 28 y1, sC 27 (cF 1 x0 intRow), sB 26 true, sI 25 v4, (24, .fad ([cI v4])), sI 23 y1, sC 22 (cF 1 x1 intRow), sI 21 v3, (20, .fad ([cI v3])), sI 19 y1, sC 18 (cF 1 x0 intRow), sB 15 true, sB 14 true, sI 13 (x1.length : Int), sC 12 (cF 1 x1 intRow), sI 11 y1, sB 10 true, sB 9 true, sI 8 (x0.length : Int), sC 7 (cF 1 x0 intRow), sI 6 y1, sI 5 y1, sC 0 (cF 1 x0 intRow), sC 1 (cF 1 x1 intRow)], []⟩ (fun cx => ?_) ?_
    · refine AT.runU tOk [(0, []), (1, [])] 8 [] [1, 0] rfl kr (fun cx => ?_)
      refine AT.indexF tOk 2 (t := 27) (ty := 0) (x := (.tmp 27)) (y := (.tmp 28)) (d := 29) (g := none) ⟨(.slot 27), [], 0, false, 1, (CV.frzEs (x0.map intRow))⟩ y1 [cI v5] _ kr kr kr kr kr kr rfl (idx_isF ev5) rfl (fun cx => ?_)
      refine AT.runU tOk [(3, []), (4, []), (5, [])] 4 [] [5, 4, 3, 2, 1, 0] rfl kr (fun cx => ?_)
      refine AT.indexF tOk 6 (t := 27) (ty := 0) (x := (.tmp 31)) (y := (.tmp 32)) (d := 33) (g := none) ⟨(.slot 31), [], 0, false, 1, (CV.frzEs (x1.map intRow))⟩ y1 [cI v6] _ kr kr kr kr kr kr rfl (idx_isF ev6) rfl (fun cx => ?_)
      refine AT.runU tOk [(7, []), (8, []), (9, [])] 0 [] [9, 8, 7, 6, 5, 4, 3, 2, 1, 0] rfl kr (fun cx => ?_)
      exact AT.done [4, 35, 34, 33, 32, 31, 30, 29, 28, 27, 26, 25, 24, 23, 22, 21, 20, 19, 18, 15, 14, 13, 12, 11, 10, 9, 8, 7, 6, 5, 0, 1] [] _ kr kr rfl
    refine Tr.ret ?_
    have H := Option.some.inj H
    subst H
    have H := Ho2
    dsimp only at H
    have H := Option.some.inj H
    subst H
    exact Fin.of _ [(false, [cB (decide (v5 < v6))])] kr rfl rfl
  rintro _ H
  have H : (spec_LessOid_J1 n x0 x1) = some r := H
  unfold spec_LessOid_J1 at H
  show Tr _ _ _ _ _
  refine Tr.rs ?_
  refine LAt.runU tOk 1 kr ?_
  refine LAt.lenE tOk (t := 27) (ty := 3) (e := 3) (x := (.tmp 36)) (d := 37) (g := none) ⟨(.slot 36), [], 0, false, 1, (CV.frzEs (x0.map intRow))⟩ (x0).length _ kr kr kr kr kr (frz_len _ _) rfl ?_
  refine LAt.runU tOk 1 kr ?_
  refine LAt.lenE tOk (t := 27) (ty := 3) (e := 3) (x := (.tmp 38)) (d := 39) (g := none) ⟨(.slot 38), [], 0, false, 1, (CV.frzEs (x1.map intRow))⟩ (x1).length _ kr kr kr kr kr (frz_len _ _) rfl ?_
  refine LAt.runU tOk 2 kr ?_
  refine LAt.doneM 16 0 kr ?_
  refine Tr.ret ?_
  have H := Option.some.inj H
  subst H
  exact Fin.of _ [(false, [cB (decide ((x0.length : Int) < (x1.length : Int)))])] kr rfl rfl

def spec_MibNext_J1 (n : Nat) (x1 : (List Int)) : Option (Bind) :=
  (bif (decide (([] : List Int).length + x1.length ≤ 268435456)) then (some (⟨(([] : List Int) ++ x1), (⟨130, 0, (⟨#[]⟩ : ByteArray), ([] : List Int)⟩ : Val)⟩ : Bind)) else none)
def spec_MibNext_L2 (n : Nat) : Nat → (List Bind) → (List Int) → Int → Option ((Unit) ⊕ (Bind))
  | 0, _, _, _ => none
  | mo4 + 1, r1, x1, y2 => (bif (decide (y2 < (r1.length : Int))) then ((idx r1 y2).bind fun v5 => ((spec_LessOidF n x1 v5.O).bind fun r6 => (bif r6 then (some (Sum.inr v5)) else (spec_MibNext_L2 n mo4 r1 x1 (IntKind.wrap .i64 (y2 + 1)))))) else (some (Sum.inl ())))
def spec_MibNextF (n : Nat) (x0 : Bridge) (x1 : (List Int)) : Option (Bind) :=
  ((spec_MibListF n x0).bind fun r1 => ((spec_MibNext_L2 n n r1 x1 0).bind fun o => match o with | .inl _ => (spec_MibNext_J1 n x1) | .inr r => some r))
/-- loop.example/g00326/spec.MibNext -/
theorem spec_MibNext (n : Nat) (x0 : Bridge) (x1 : (List Int)) (r : Bind) (H : spec_MibNextF n x0 x1 = some r) : LCall Try.prog 57 [.val true (CV.frzRow (Bridge.row x0)), .val false [.sl false 1 (CV.frzEs (x1.map intRow))]] [.val true (Bind.row r)] [] := by
  refine LCall.of_body tOk Try.func57 rfl (c := (.seq (Rg Try.f57 0) (.seq (Rg Try.f57 1) (.seq (.seq (Rg Try.f57 2) (.block 0 (.loop (.seq (.seq (Rg Try.f57 3) (.cond (.tmp 12) .skip (.exit 0))) (.seq (.block 1 (.seq (Rg Try.f57 5) (.cond (.tmp 21) (.seq (Rg Try.f57 6) .ret) .skip))) (Rg Try.f57 4)))))) (.seq (Rg Try.f57 7) .ret))))) kr (Nat.le_of_ble_eq_true kr) 0 (rs := [.cell 4 86]) rfl [] .nil [(true, (Bind.row r))] [] [] fun cx => ?_
  show Tr _ _ _ ⟨31, 0, [sV 0 (CV.frzRow (Bridge.row x0)), sC 1 (cF 1 x1 intRow)], []⟩ _
  unfold spec_MibNextF at H
  refine Tr.rgn tOk 2 22 20 kr kr ?_
  refine Tr.rs ?_
  refine LAt.runU tOk 1 kr ?_
  obtain ⟨r1, er1, H⟩ := bind_some H
  refine LAt.callV tOk [.rd] [] (spec_MibList n x0 r1 er1) kr kr kr kr (.inl rfl) ?_
  refine LAt.moveU (T := lk tab) (ty := 81) (x := (.tmp 8)) (d := 5) (g := none) false [cL 5 r1 Bind.row] kr kr kr kr kr ?_
  refine LAt.doneM 50 16 kr ?_
  refine Tr.seq ?_
  refine Tr.rgn tOk 1 114 16 kr kr ?_
  obtain ⟨o4, eo4, Ho4⟩ := bind_some H
  clear H
  refine Tr.mid (ι := Unit) (fun v => ⟨31, 0, [sA 4 4 5 0, sC 1 (cF 1 x1 intRow)], [(4, [cL 1 ([] : List Int) intRow, cI 0, cI 0, cS (⟨#[]⟩ : ByteArray), cL 1 ([] : List Int) intRow])]⟩) (fun v => spec_MibNext_J1 n x1 = some r) ?_ ?_
  · refine Tr.block ?_
    refine Tr.loop (ι := Nat × (Int)) (fun v => ⟨31, 0, [sI 6 v.2, sC 5 (cL 5 r1 Bind.row), sA 4 4 5 0, sC 1 (cF 1 x1 intRow)], [(4, [cL 1 ([] : List Int) intRow, cI 0, cI 0, cS (⟨#[]⟩ : ByteArray), cL 1 ([] : List Int) intRow])]⟩) (fun v => spec_MibNext_L2 n v.1 r1 x1 v.2 = some o4) (fun v => v.1) (n, 0) eo4 (St.sub_of [6, 5, 4, 1] [4] kr) ?_
    rintro ⟨mo4, y2⟩ H
    have H : spec_MibNext_L2 n mo4 r1 x1 y2 = some o4 := H
    obtain _ | mo4 := mo4
    · cases (show (none : Option _) = some o4 from H)
    rw [spec_MibNext_L2] at H
    refine Tr.seq ?_
    refine Tr.rs ?_
    refine LAt.runU tOk 2 kr ?_
    refine LAt.lenE tOk (t := 81) (ty := 3) (e := 86) (x := (.tmp 10)) (d := 11) (g := none) ⟨(.slot 5), [], 0, true, 5, (r1.map Bind.row)⟩ (r1).length _ kr kr kr kr kr (map_len _ _) rfl ?_
    refine LAt.runU tOk 1 kr ?_
    refine LAt.doneM 7794 16 kr ?_
    cases h1 : (decide (y2 < (r1.length : Int)))
    · have H := bifF h1 H
      refine Tr.cF h1 kr ?_
      refine Tr.exit ?_
      refine And.intro (fun _ => ?_) (fun h => absurd rfl h)
      have H := Option.some.inj H
      subst H
      have H := Ho4
      dsimp only at H
      exact Exists.intro () (And.intro H (St.sub_of [4, 1] [4] kr))
    have H := bifT h1 H
    refine Tr.cT h1 kr ?_
    refine Tr.skip ?_
    show Tr _ _ _ _ _
    refine Tr.seq ?_
    refine Tr.block ?_
    refine Tr.rs ?_
    refine LAt.runU tOk 3 kr ?_
    obtain ⟨v5, ev5, H⟩ := bind_some H
    refine LAt.indexO tOk (t := 81) (ty := 0) (x := (.tmp 16)) (y := (.tmp 17)) (d := 18) (g := none) ⟨(.slot 5), [], 0, true, 5, (r1.map Bind.row)⟩ y2 (y2.toNat) (Bind.row v5) _ kr kr kr kr rfl kr (idx_isE ev5) rfl rfl ?_
    refine LAt.runU tOk 1 kr ?_
    refine LAt.loadE tOk (t := 27) (ty := 27) (x := (.tmp 19)) (d := 20) (g := none) ⟨.sl 3, 1, 24, [.sl true 1 []]⟩ (.slot 5) [(0, (y2.toNat))] 5 0 [cL 5 r1 Bind.row] (Bind.row v5) _ kr kr kr kr kr (getQ_elem rfl (idx_get ev5).2) rfl (by intro h; cases h) kr kr rfl ?_
    obtain ⟨r6, er6, H⟩ := bind_some H
    refine LAt.callO tOk [.rd, .rd] (f := 130) (av := #[.tmp 15, .tmp 20]) (ats := #[27, 27]) (d := (some 21)) (ty := 4) (g := none) [(20, Bind.row v5)] none kr kr kr [.slot 5] (spec_LessOid n x1 v5.O r6 er6) (orc_cons (row := [cL 5 r1 Bind.row]) (q := [(0, (y2.toNat))]) kr (getQ_elem rfl (idx_get ev5).2) orc_nil) kr nr_none (.inr (And.intro (rets_cons (mine_cons mine_lit mine_nil) rets_nil) outs_nil)) ?_
    refine LAt.doneM 4169330 16 kr ?_
    cases h2 : r6
    · have H := bifF h2 H
      refine Tr.cf kr ?_
      refine Tr.skip ?_
      show Tr _ _ _ _ _
      refine Tr.rgE tOk 3 4193906 16 kr kr ?_
      exact Exists.intro (mo4, (IntKind.wrap .i64 (y2 + 1))) (And.intro H (And.intro (Nat.lt_succ_self mo4) (St.sub_of [6, 5, 4, 1] [4] kr)))
    have H := bifT h2 H
    refine Tr.ct kr ?_
    refine Tr.rs ?_
    refine LAt.runU tOk 2 kr ?_
    refine LAt.indexO tOk (t := 81) (ty := 0) (x := (.tmp 22)) (y := (.tmp 23)) (d := 24) (g := none) ⟨(.slot 5), [], 0, true, 5, (r1.map Bind.row)⟩ y2 (y2.toNat) (Bind.row v5) _ kr kr kr kr rfl kr (idx_isE ev5) rfl rfl ?_
    refine LAt.loadE tOk (t := 86) (ty := 86) (x := (.tmp 24)) (d := 25) (g := none) ⟨.st [(0, 1, 27), (1, 4, 76)], 5, 80, [.sl true 1 [], .lit (.int .i64 0), .lit (.int .i64 0), .lit (.string ⟨#[]⟩), .sl true 1 []]⟩ (.slot 5) [(0, (y2.toNat))] 5 0 [cL 5 r1 Bind.row] (Bind.row v5) _ kr kr kr kr kr (getQ_elem rfl (idx_get ev5).2) rfl (by intro h; cases h) kr kr rfl ?_
    refine LAt.storeGD tOk (t := 86) (ty := 0) (ad := (.tmp 4)) (g := none) ⟨.st [(0, 1, 27), (1, 4, 76)], 5, 80, [.sl true 1 [], .lit (.int .i64 0), .lit (.int .i64 0), .lit (.string ⟨#[]⟩), .sl true 1 []]⟩ true 25 5 0 (y2.toNat) 5 0 5 4 0 r1 Bind.row v5 (Bind.row v5) kr kr kr kr kr kr kr kr kr kr kr kr (idx_get ev5).2 kr kr kr kr ?_
    refine LAt.doneM 10656338 16 kr ?_
    refine Tr.ret ?_
    have H := Option.some.inj H
    subst H
    have H := Ho4
    dsimp only at H
    have H := Option.some.inj H
    subst H
    exact Fin.of _ [(true, (Bind.row v5))] kr rfl rfl
  rintro _ H
  have H : (spec_MibNext_J1 n x1) = some r := H
  unfold spec_MibNext_J1 at H
  show Tr _ _ _ _ _
  refine Tr.rs ?_
  refine LAt.runU tOk 2 kr ?_
  obtain ⟨hg3, H⟩ := guard_some H
  refine LAt.appCU tOk (t := 27) (ty := 27) (e := 3) (x := (.tmp 26)) (y := (.tmp 27)) (d := 28) (g := none) ⟨.int .i64, 1, 8, [.lit (.int .i64 0)]⟩ intRow ([] : List Int) x1 ⟨(.slot 27), [], 0, false, 1, (CV.frzEs (x1.map intRow))⟩ kr kr kr kr kr kr kr kr kr kr kr (.inr rfl) (fun _ => rfl) (fun _ => rfl) hg3 ?_
  refine LAt.runU tOk 3 kr ?_
  refine LAt.doneM 16 16 kr ?_
  refine Tr.ret ?_
  have H := Option.some.inj H
  subst H
  exact Fin.of _ [(true, [cL 1 (([] : List Int) ++ x1) intRow, cI 130, cI 0, cS (⟨#[]⟩ : ByteArray), cL 1 ([] : List Int) intRow])] kr rfl rfl

def impl_inF (n : Nat) (x0 : Int) (x1 : Int) (x2 : Int) : Option (Bool) :=
  (bif (decide (x0 ≥ x1)) then (some (decide (x0 ≤ x2))) else (some false))
/-- loop.example/g00326/impl.in -/
theorem impl_in (n : Nat) (x0 : Int) (x1 : Int) (x2 : Int) (r : Bool) (H : impl_inF n x0 x1 x2 = some r) : LCall Try.prog 70 [.val false [.lit (.int .i64 x0)], .val false [.lit (.int .i64 x1)], .val false [.lit (.int .i64 x2)]] [.val false [.lit (.bool r)]] [] := by
  refine LCall.of_body tOk Try.func70 rfl (c := (.seq (Rg Try.f70 0) (.seq (Rg Try.f70 1) .ret))) kr (Nat.le_of_ble_eq_true kr) 0 (rs := [.tmp 6]) rfl [] .nil [(false, [.lit (.bool r)])] [] [] fun cx => ?_
  show Tr _ _ _ ⟨15, 0, [sI 0 x0, sI 1 x1, sI 2 x2], []⟩ _
  unfold impl_inF at H
  refine Tr.rgn tOk 1 71 0 kr kr ?_
  refine Tr.rs ?_
  refine LAt.runU tOk 4 kr ?_
  refine LAt.to ⟨15, 0, [sB 10 (decide (x0 ≥ x1)), sB 9 (decide (x0 ≥ x1)), sI 8 x1, sI 7 x0, sB 6 false, sI 0 x0, sI 1 x1, sI 2 x2], []⟩ kr ?_
  cases h1 : (decide (x0 ≥ x1))
  · have H := bifF h1 H
    refine LAt.runU tOk 5 kr ?_
    refine LAt.doneM 64 0 kr ?_
    refine Tr.ret ?_
    have H := Option.some.inj H
    subst H
    exact Fin.of _ [(false, [cB false])] kr rfl rfl
  have H := bifT h1 H
  refine LAt.runU tOk 5 kr ?_
  refine LAt.doneM 64 0 kr ?_
  refine Tr.ret ?_
  have H := Option.some.inj H
  subst H
  exact Fin.of _ [(false, [cB (decide (x0 ≤ x2))])] kr rfl rfl

def impl_VecOkF (n : Nat) (x0 : Vec) : Option (Bool) :=
  ((impl_inF n x0.Root 1 99).bind fun r1 => (bif r1 then ((impl_inF n x0.Cost 0 100000).bind fun r2 => (bif r2 then ((impl_inF n x0.Hops 0 10).bind fun r3 => (bif r3 then ((impl_inF n x0.Bridge 1 99).bind fun r4 => (bif r4 then ((impl_inF n x0.Port 0 7).bind fun r5 => (some r5)) else (some false))) else (some false))) else (some false))) else (some false)))
/-- loop.example/g00326/impl.VecOk -/
theorem impl_VecOk (n : Nat) (x0 : Vec) (r : Bool) (H : impl_VecOkF n x0 = some r) : LCall Try.prog 90 [.val true (CV.frzRow (Vec.row x0))] [.val false [.lit (.bool r)]] [] := by
  refine LCall.of_body tOk Try.func90 rfl (c := (.seq (Rg Try.f90 0) (.seq (Rg Try.f90 1) .ret))) kr (Nat.le_of_ble_eq_true kr) 0 (rs := [.tmp 2]) rfl [] .nil [(false, [.lit (.bool r)])] [] [] fun cx => ?_
  show Tr _ _ _ ⟨26, 0, [sV 0 (Vec.row x0)], []⟩ _
  unfold impl_VecOkF at H
  refine Tr.rgn tOk 2 6 2 kr kr ?_
  refine Tr.rs ?_
  refine LAt.runU tOk 2 kr ?_
  obtain ⟨r1, er1, H⟩ := bind_some H
  refine LAt.callV tOk [.rd, .rd, .rd] [] (impl_in n x0.Root 1 99 r1 er1) kr kr kr kr (.inl rfl) ?_
  refine LAt.runU tOk 1 kr ?_
  refine LAt.to ⟨26, 0, [sB 6 r1, sB 5 r1, sI 4 x0.Root, sA 3 1 5 0, sB 2 false, sA 1 1 5 0], [(1, (Vec.row x0))]⟩ kr ?_
  cases h1 : r1
  · have H := bifF h1 H
    refine LAt.runU tOk 20 kr ?_
    refine LAt.doneM 4 0 kr ?_
    refine Tr.ret ?_
    have H := Option.some.inj H
    subst H
    exact Fin.of _ [(false, [cB false])] kr rfl rfl
  have H := bifT h1 H
  refine LAt.runU tOk 2 kr ?_
  obtain ⟨r2, er2, H⟩ := bind_some H
  refine LAt.callV tOk [.rd, .rd, .rd] [] (impl_in n x0.Cost 0 100000 r2 er2) kr kr kr kr (.inl rfl) ?_
  refine LAt.runU tOk 2 kr ?_
  refine LAt.to ⟨26, 0, [sB 11 r2, sB 10 r2, sB 9 r2, sI 8 x0.Cost, sA 7 1 5 1, sB 6 true, sB 5 true, sI 4 x0.Root, sA 3 1 5 0, sB 2 false, sA 1 1 5 0], [(1, (Vec.row x0))]⟩ kr ?_
  cases h2 : r2
  · have H := bifF h2 H
    refine LAt.runU tOk 15 kr ?_
    refine LAt.doneM 4 0 kr ?_
    refine Tr.ret ?_
    have H := Option.some.inj H
    subst H
    exact Fin.of _ [(false, [cB false])] kr rfl rfl
  have H := bifT h2 H
  refine LAt.runU tOk 2 kr ?_
  obtain ⟨r3, er3, H⟩ := bind_some H
  refine LAt.callV tOk [.rd, .rd, .rd] [] (impl_in n x0.Hops 0 10 r3 er3) kr kr kr kr (.inl rfl) ?_
  refine LAt.runU tOk 2 kr ?_
  refine LAt.to ⟨26, 0, [sB 16 r3, sB 15 r3, sB 14 r3, sI 13 x0.Hops, sA 12 1 5 2, sB 11 true, sB 10 true, sB 9 true, sI 8 x0.Cost, sA 7 1 5 1, sB 6 true, sB 5 true, sI 4 x0.Root, sA 3 1 5 0, sB 2 false, sA 1 1 5 0], [(1, (Vec.row x0))]⟩ kr ?_
  cases h3 : r3
  · have H := bifF h3 H
    refine LAt.runU tOk 10 kr ?_
    refine LAt.doneM 4 0 kr ?_
    refine Tr.ret ?_
    have H := Option.some.inj H
    subst H
    exact Fin.of _ [(false, [cB false])] kr rfl rfl
  have H := bifT h3 H
  refine LAt.runU tOk 2 kr ?_
  obtain ⟨r4, er4, H⟩ := bind_some H
  refine LAt.callV tOk [.rd, .rd, .rd] [] (impl_in n x0.Bridge 1 99 r4 er4) kr kr kr kr (.inl rfl) ?_
  refine LAt.runU tOk 2 kr ?_
  refine LAt.to ⟨26, 0, [sB 21 r4, sB 20 r4, sB 19 r4, sI 18 x0.Bridge, sA 17 1 5 3, sB 16 true, sB 15 true, sB 14 true, sI 13 x0.Hops, sA 12 1 5 2, sB 11 true, sB 10 true, sB 9 true, sI 8 x0.Cost, sA 7 1 5 1, sB 6 true, sB 5 true, sI 4 x0.Root, sA 3 1 5 0, sB 2 false, sA 1 1 5 0], [(1, (Vec.row x0))]⟩ kr ?_
  cases h4 : r4
  · have H := bifF h4 H
    refine LAt.runU tOk 5 kr ?_
    refine LAt.doneM 4 0 kr ?_
    refine Tr.ret ?_
    have H := Option.some.inj H
    subst H
    exact Fin.of _ [(false, [cB false])] kr rfl rfl
  have H := bifT h4 H
  refine LAt.runU tOk 2 kr ?_
  obtain ⟨r5, er5, H⟩ := bind_some H
  refine LAt.callV tOk [.rd, .rd, .rd] [] (impl_in n x0.Port 0 7 r5 er5) kr kr kr kr (.inl rfl) ?_
  refine LAt.runU tOk 2 kr ?_
  refine LAt.doneM 4 0 kr ?_
  refine Tr.ret ?_
  have H := Option.some.inj H
  subst H
  exact Fin.of _ [(false, [cB r5])] kr rfl rfl

def impl_PtOkF (n : Nat) (x0 : Pt) : Option (Bool) :=
  ((impl_inF n x0.Cost 1 1000).bind fun r1 => (bif (!r1) then (some false) else (bif x0.Has then (bif (!x0.Up) then (some false) else ((impl_VecOkF n x0.Heard).bind fun r2 => (some r2))) else (some ((x0.Heard.Root == 0) && ((x0.Heard.Cost == 0) && ((x0.Heard.Hops == 0) && ((x0.Heard.Bridge == 0) && ((x0.Heard.Port == 0) && true)))))))))
/-- loop.example/g00326/impl.PtOk -/
theorem impl_PtOk (n : Nat) (x0 : Pt) (r : Bool) (H : impl_PtOkF n x0 = some r) : LCall Try.prog 142 [.val true (CV.frzRow (Pt.row x0))] [.val false [.lit (.bool r)]] [] := by
  refine LCall.of_body tOk Try.func142 rfl (c := (.seq (Rg Try.f142 0) (.seq (.seq (Rg Try.f142 1) (.cond (.tmp 15) (.seq (Rg Try.f142 2) .ret) .skip)) (.seq (.seq (Rg Try.f142 3) (.cond (.tmp 17) (.seq (Rg Try.f142 4) .ret) .skip)) (.seq (Rg Try.f142 5) .ret))))) kr (Nat.le_of_ble_eq_true kr) 0 (rs := [.tmp 2]) rfl [] .nil [(false, [.lit (.bool r)])] [] [] fun cx => ?_
  show Tr _ _ _ ⟨25, 0, [sV 0 (Pt.row x0)], []⟩ _
  unfold impl_PtOkF at H
  refine Tr.rgn tOk 2 6 2 kr kr ?_
  refine Tr.seq ?_
  refine Tr.rs ?_
  refine LAt.runU tOk 2 kr ?_
  obtain ⟨r1, er1, H⟩ := bind_some H
  refine LAt.callV tOk [.rd, .rd, .rd] [] (impl_in n x0.Cost 1 1000 r1 er1) kr kr kr kr (.inl rfl) ?_
  refine LAt.runU tOk 2 kr ?_
  refine LAt.to ⟨25, 0, [sB 7 (!r1), sB 6 (!r1), sB 5 r1, sI 4 x0.Cost, sA 3 1 8 1, sB 2 false, sA 1 1 8 0], [(1, (Pt.row x0))]⟩ kr ?_
  cases h1 : (!r1)
  · have H := bifF h1 H
    refine LAt.runU tOk 3 kr ?_
    refine LAt.to ⟨25, 0, [sB 10 x0.Has, sB 9 x0.Has, sA 8 1 8 2, sB 7 false, sB 6 false, sB 5 r1, sI 4 x0.Cost, sA 3 1 8 1, sB 2 false, sA 1 1 8 0], [(1, (Pt.row x0))]⟩ kr ?_
    cases h2 : x0.Has
    · have H := bifF h2 H
      refine LAt.runU tOk 5 kr ?_
      refine LAt.doneM 32774 2 kr ?_
      refine Tr.cf kr ?_
      refine Tr.skip ?_
      show Tr _ _ _ _ _
      refine Tr.seq ?_
      refine Tr.rgn tOk 2 131078 2 kr kr ?_
      refine Tr.to ⟨25, 0, [sB 17 x0.Has, sB 2 false, sA 1 1 8 0], [(1, (Pt.row x0))]⟩ kr ?_
      rw [h2]
      refine Tr.cf kr ?_
      refine Tr.skip ?_
      show Tr _ _ _ _ _
      refine Tr.rs ?_
      refine LAt.runU tOk 3 kr ?_
      refine LAt.eqSG false (t := 70) (ty := 70) (ty' := 4) (x := (.tmp 22)) (y := (.tmp 23)) (d := 24) (g := none) ((x0.Heard.Root == 0) && ((x0.Heard.Cost == 0) && ((x0.Heard.Hops == 0) && ((x0.Heard.Bridge == 0) && ((x0.Heard.Port == 0) && true))))) _ kr kr kr kr rfl ?_
      refine LAt.runU tOk 1 kr ?_
      refine LAt.doneM 4 0 kr ?_
      refine Tr.ret ?_
      have H := Option.some.inj H
      subst H
      exact Fin.of _ [(false, [cB ((x0.Heard.Root == 0) && ((x0.Heard.Cost == 0) && ((x0.Heard.Hops == 0) && ((x0.Heard.Bridge == 0) && ((x0.Heard.Port == 0) && true)))))])] kr rfl rfl
    have H := bifT h2 H
    refine LAt.runU tOk 5 kr ?_
    refine LAt.doneM 32774 2 kr ?_
    cases h3 : (!x0.Up)
    · have H := bifF h3 H
      refine Tr.cF h3 kr ?_
      refine Tr.skip ?_
      show Tr _ _ _ _ _
      refine Tr.seq ?_
      refine Tr.rgn tOk 2 131078 2 kr kr ?_
      refine Tr.to ⟨25, 0, [sB 17 x0.Has, sB 2 false, sA 1 1 8 0], [(1, (Pt.row x0))]⟩ kr ?_
      rw [h2]
      refine Tr.ct kr ?_
      refine Tr.rs ?_
      refine LAt.runU tOk 2 kr ?_
      obtain ⟨r2, er2, H⟩ := bind_some H
      refine LAt.callV tOk [.rd] [] (impl_VecOk n x0.Heard r2 er2) kr kr kr kr (.inl rfl) ?_
      refine LAt.runU tOk 1 kr ?_
      refine LAt.doneM 6 2 kr ?_
      refine Tr.ret ?_
      have H := Option.some.inj H
      subst H
      exact Fin.of _ [(false, [cB r2])] kr rfl rfl
    have H := bifT h3 H
    refine Tr.cT h3 kr ?_
    refine Tr.rgn tOk 1 6 2 kr kr ?_
    refine Tr.ret ?_
    have H := Option.some.inj H
    subst H
    exact Fin.of _ [(false, [cB false])] kr rfl rfl
  have H := bifT h1 H
  refine LAt.runU tOk 8 kr ?_
  refine LAt.doneM 32774 2 kr ?_
  refine Tr.ct kr ?_
  refine Tr.rgn tOk 1 6 2 kr kr ?_
  refine Tr.ret ?_
  have H := Option.some.inj H
  subst H
  exact Fin.of _ [(false, [cB false])] kr rfl rfl

def impl_fentOkF (n : Nat) (x0 : Fent) : Option (Bool) :=
  ((impl_inF n x0.Tag 1 99).bind fun r1 => (bif r1 then ((impl_inF n x0.Mac 1 9999).bind fun r2 => (bif r2 then ((impl_inF n x0.Port 0 7).bind fun r3 => (bif r3 then ((impl_inF n x0.Age 0 4).bind fun r4 => (bif r4 then (bif (!x0.Static) then (some true) else (some (x0.Age == 0))) else (some false))) else (some false))) else (some false))) else (some false)))
/-- loop.example/g00326/impl.fentOk -/
theorem impl_fentOk (n : Nat) (x0 : Fent) (r : Bool) (H : impl_fentOkF n x0 = some r) : LCall Try.prog 176 [.val true (CV.frzRow (Fent.row x0))] [.val false [.lit (.bool r)]] [] := by
  refine LCall.of_body tOk Try.func176 rfl (c := (.seq (Rg Try.f176 0) (.seq (Rg Try.f176 1) .ret))) kr (Nat.le_of_ble_eq_true kr) 0 (rs := [.tmp 2]) rfl [] .nil [(false, [.lit (.bool r)])] [] [] fun cx => ?_
  show Tr _ _ _ ⟨31, 0, [sV 0 (Fent.row x0)], []⟩ _
  unfold impl_fentOkF at H
  refine Tr.rgn tOk 2 6 2 kr kr ?_
  refine Tr.rs ?_
  refine LAt.runU tOk 2 kr ?_
  obtain ⟨r1, er1, H⟩ := bind_some H
  refine LAt.callV tOk [.rd, .rd, .rd] [] (impl_in n x0.Tag 1 99 r1 er1) kr kr kr kr (.inl rfl) ?_
  refine LAt.runU tOk 1 kr ?_
  refine LAt.to ⟨31, 0, [sB 6 r1, sB 5 r1, sI 4 x0.Tag, sA 3 1 5 0, sB 2 false, sA 1 1 5 0], [(1, (Fent.row x0))]⟩ kr ?_
  cases h1 : r1
  · have H := bifF h1 H
    refine LAt.runU tOk 25 kr ?_
    refine LAt.doneM 4 0 kr ?_
    refine Tr.ret ?_
    have H := Option.some.inj H
    subst H
    exact Fin.of _ [(false, [cB false])] kr rfl rfl
  have H := bifT h1 H
  refine LAt.runU tOk 2 kr ?_
  obtain ⟨r2, er2, H⟩ := bind_some H
  refine LAt.callV tOk [.rd, .rd, .rd] [] (impl_in n x0.Mac 1 9999 r2 er2) kr kr kr kr (.inl rfl) ?_
  refine LAt.runU tOk 2 kr ?_
  refine LAt.to ⟨31, 0, [sB 11 r2, sB 10 r2, sB 9 r2, sI 8 x0.Mac, sA 7 1 5 1, sB 6 true, sB 5 true, sI 4 x0.Tag, sA 3 1 5 0, sB 2 false, sA 1 1 5 0], [(1, (Fent.row x0))]⟩ kr ?_
  cases h2 : r2
  · have H := bifF h2 H
    refine LAt.runU tOk 20 kr ?_
    refine LAt.doneM 4 0 kr ?_
    refine Tr.ret ?_
    have H := Option.some.inj H
    subst H
    exact Fin.of _ [(false, [cB false])] kr rfl rfl
  have H := bifT h2 H
  refine LAt.runU tOk 2 kr ?_
  obtain ⟨r3, er3, H⟩ := bind_some H
  refine LAt.callV tOk [.rd, .rd, .rd] [] (impl_in n x0.Port 0 7 r3 er3) kr kr kr kr (.inl rfl) ?_
  refine LAt.runU tOk 2 kr ?_
  refine LAt.to ⟨31, 0, [sB 16 r3, sB 15 r3, sB 14 r3, sI 13 x0.Port, sA 12 1 5 2, sB 11 true, sB 10 true, sB 9 true, sI 8 x0.Mac, sA 7 1 5 1, sB 6 true, sB 5 true, sI 4 x0.Tag, sA 3 1 5 0, sB 2 false, sA 1 1 5 0], [(1, (Fent.row x0))]⟩ kr ?_
  cases h3 : r3
  · have H := bifF h3 H
    refine LAt.runU tOk 15 kr ?_
    refine LAt.doneM 4 0 kr ?_
    refine Tr.ret ?_
    have H := Option.some.inj H
    subst H
    exact Fin.of _ [(false, [cB false])] kr rfl rfl
  have H := bifT h3 H
  refine LAt.runU tOk 2 kr ?_
  obtain ⟨r4, er4, H⟩ := bind_some H
  refine LAt.callV tOk [.rd, .rd, .rd] [] (impl_in n x0.Age 0 4 r4 er4) kr kr kr kr (.inl rfl) ?_
  refine LAt.runU tOk 2 kr ?_
  refine LAt.to ⟨31, 0, [sB 21 r4, sB 20 r4, sB 19 r4, sI 18 x0.Age, sA 17 1 5 3, sB 16 true, sB 15 true, sB 14 true, sI 13 x0.Port, sA 12 1 5 2, sB 11 true, sB 10 true, sB 9 true, sI 8 x0.Mac, sA 7 1 5 1, sB 6 true, sB 5 true, sI 4 x0.Tag, sA 3 1 5 0, sB 2 false, sA 1 1 5 0], [(1, (Fent.row x0))]⟩ kr ?_
  cases h4 : r4
  · have H := bifF h4 H
    refine LAt.runU tOk 10 kr ?_
    refine LAt.doneM 4 0 kr ?_
    refine Tr.ret ?_
    have H := Option.some.inj H
    subst H
    exact Fin.of _ [(false, [cB false])] kr rfl rfl
  have H := bifT h4 H
  refine LAt.runU tOk 4 kr ?_
  refine LAt.to ⟨31, 0, [sB 25 (!x0.Static), sB 24 (!x0.Static), sB 23 x0.Static, sA 22 1 5 4, sB 21 true, sB 20 true, sB 19 true, sI 18 x0.Age, sA 17 1 5 3, sB 16 true, sB 15 true, sB 14 true, sI 13 x0.Port, sA 12 1 5 2, sB 11 true, sB 10 true, sB 9 true, sI 8 x0.Mac, sA 7 1 5 1, sB 6 true, sB 5 true, sI 4 x0.Tag, sA 3 1 5 0, sB 2 false, sA 1 1 5 0], [(1, (Fent.row x0))]⟩ kr ?_
  cases h5 : (!x0.Static)
  · have H := bifF h5 H
    refine LAt.runU tOk 6 kr ?_
    refine LAt.doneM 4 0 kr ?_
    refine Tr.ret ?_
    have H := Option.some.inj H
    subst H
    exact Fin.of _ [(false, [cB (x0.Age == 0)])] kr rfl rfl
  have H := bifT h5 H
  refine LAt.runU tOk 6 kr ?_
  refine LAt.doneM 4 0 kr ?_
  refine Tr.ret ?_
  have H := Option.some.inj H
  subst H
  exact Fin.of _ [(false, [cB true])] kr rfl rfl

def impl_behindF (n : Nat) (x0 : Fent) (x1 : Int) (x2 : Int) : Option (Bool) :=
  (bif (decide (x0.Tag > x1)) then (some true) else (bif (x0.Tag == x1) then (some (decide (x0.Mac > x2))) else (some false)))
/-- loop.example/g00326/impl.behind -/
theorem impl_behind (n : Nat) (x0 : Fent) (x1 : Int) (x2 : Int) (r : Bool) (H : impl_behindF n x0 x1 x2 = some r) : LCall Try.prog 177 [.val true (CV.frzRow (Fent.row x0)), .val false [.lit (.int .i64 x1)], .val false [.lit (.int .i64 x2)]] [.val false [.lit (.bool r)]] [] := by
  refine LCall.of_body tOk Try.func177 rfl (c := (.seq (Rg Try.f177 0) (.seq (Rg Try.f177 1) .ret))) kr (Nat.le_of_ble_eq_true kr) 0 (rs := [.tmp 6]) rfl [] .nil [(false, [.lit (.bool r)])] [] [] fun cx => ?_
  show Tr _ _ _ ⟨23, 0, [sV 0 (Fent.row x0), sI 1 x1, sI 2 x2], []⟩ _
  unfold impl_behindF at H
  refine Tr.rgn tOk 2 78 8 kr kr ?_
  refine Tr.rs ?_
  refine LAt.runU tOk 5 kr ?_
  refine LAt.to ⟨23, 0, [sB 11 (decide (x0.Tag > x1)), sB 10 (decide (x0.Tag > x1)), sI 9 x1, sI 8 x0.Tag, sA 7 3 5 0, sB 6 false, sA 3 3 5 0, sI 1 x1, sI 2 x2], [(3, (Fent.row x0))]⟩ kr ?_
  cases h1 : (decide (x0.Tag > x1))
  · have H := bifF h1 H
    refine LAt.runU tOk 5 kr ?_
    refine LAt.to ⟨23, 0, [sB 16 (x0.Tag == x1), sB 15 (x0.Tag == x1), sI 14 x1, sI 13 x0.Tag, sA 12 3 5 0, sB 11 false, sB 10 false, sI 9 x1, sI 8 x0.Tag, sA 7 3 5 0, sB 6 false, sA 3 3 5 0, sI 1 x1, sI 2 x2], [(3, (Fent.row x0))]⟩ kr ?_
    cases h2 : (x0.Tag == x1)
    · have H := bifF h2 H
      refine LAt.runU tOk 7 kr ?_
      refine LAt.doneM 64 0 kr ?_
      refine Tr.ret ?_
      have H := Option.some.inj H
      subst H
      exact Fin.of _ [(false, [cB false])] kr rfl rfl
    have H := bifT h2 H
    refine LAt.runU tOk 7 kr ?_
    refine LAt.doneM 64 0 kr ?_
    refine Tr.ret ?_
    have H := Option.some.inj H
    subst H
    exact Fin.of _ [(false, [cB (decide (x0.Mac > x2))])] kr rfl rfl
  have H := bifT h1 H
  refine LAt.runU tOk 12 kr ?_
  refine LAt.doneM 64 0 kr ?_
  refine Tr.ret ?_
  have H := Option.some.inj H
  subst H
  exact Fin.of _ [(false, [cB true])] kr rfl rfl

def impl_FdbOk_J1 (n : Nat) (x0 : (List Fent)) : Option (Bool) :=
  (some (decide ((x0.length : Int) ≤ 12)))
def impl_FdbOk_L2 (n : Nat) : Nat → (List Fent) → Int → Option ((Unit) ⊕ (Bool))
  | 0, _, _ => none
  | mo2 + 1, x0, y1 => (bif (decide (y1 < (x0.length : Int))) then ((idx x0 y1).bind fun v3 => ((impl_fentOkF n v3).bind fun r4 => (bif (!r4) then (some (Sum.inr false)) else (bif (decide (y1 > 0)) then ((idx x0 (IntKind.wrap .i64 (y1 - 1))).bind fun v5 => ((idx x0 (IntKind.wrap .i64 (y1 - 1))).bind fun v6 => ((impl_behindF n v3 v5.Tag v6.Mac).bind fun r7 => (bif (!r7) then (some (Sum.inr false)) else (impl_FdbOk_L2 n mo2 x0 (IntKind.wrap .i64 (y1 + 1))))))) else (impl_FdbOk_L2 n mo2 x0 (IntKind.wrap .i64 (y1 + 1))))))) else (some (Sum.inl ())))
def impl_FdbOkF (n : Nat) (x0 : (List Fent)) : Option (Bool) :=
  ((impl_FdbOk_L2 n n x0 0).bind fun o => match o with | .inl _ => (impl_FdbOk_J1 n x0) | .inr r => some r)
/-- loop.example/g00326/impl.FdbOk -/
theorem impl_FdbOk (n : Nat) (x0 : (List Fent)) (r : Bool) (H : impl_FdbOkF n x0 = some r) : LCall Try.prog 143 [.val false [.sl false 5 (CV.frzEs (x0.map Fent.row))]] [.val false [.lit (.bool r)]] [] := by
  refine LCall.of_body tOk Try.func143 rfl (c := (.seq (Rg Try.f143 0) (.seq (.seq (Rg Try.f143 1) (.block 0 (.loop (.seq (Rg Try.f143 2) (.seq (.cond (.tmp 8) .skip (.exit 0)) (.seq (.block 1 (.seq (Rg Try.f143 3) (.seq (Rd Try.f143 4) (.cond (.tmp 35) (.seq (Rg Try.f143 5) .ret) .skip)))) (Rg Try.f143 6))))))) (.seq (Rg Try.f143 7) .ret)))) kr (Nat.le_of_ble_eq_true kr) 0 (rs := [.tmp 2]) rfl [] .nil [(false, [.lit (.bool r)])] [] [] fun cx => ?_
  show Tr _ _ _ ⟨40, 0, [sC 0 (cF 5 x0 Fent.row)], []⟩ _
  unfold impl_FdbOkF at H
  refine Tr.rgn tOk 1 5 0 kr kr ?_
  refine Tr.seq ?_
  refine Tr.rs ?_
  refine LAt.runU tOk 1 kr ?_
  refine LAt.lenE tOk (t := 56) (ty := 3) (e := 141) (x := (.tmp 5)) (d := 6) (g := none) ⟨(.slot 5), [], 0, false, 5, (CV.frzEs (x0.map Fent.row))⟩ (x0).length _ kr kr kr kr kr (frz_len _ _) rfl ?_
  refine LAt.runU tOk 1 kr ?_
  refine LAt.doneM 229 0 kr ?_
  obtain ⟨o2, eo2, Ho2⟩ := bind_some H
  clear H
  refine Tr.mid (ι := Unit) (fun v => ⟨40, 0, [sB 2 false, sC 0 (cF 5 x0 Fent.row)], []⟩) (fun v => impl_FdbOk_J1 n x0 = some r) ?_ ?_
  · refine Tr.block ?_
    refine Tr.loop (ι := Nat × (Int)) (fun v => ⟨40, 0, [sI 7 v.2, sI 6 (x0.length : Int), sC 5 (cF 5 x0 Fent.row), sB 2 false, sC 0 (cF 5 x0 Fent.row)], []⟩) (fun v => impl_FdbOk_L2 n v.1 x0 v.2 = some o2) (fun v => v.1) (n, 0) eo2 (St.sub_of [7, 6, 5, 2, 0] [] kr) ?_
    rintro ⟨mo2, y1⟩ H
    have H : impl_FdbOk_L2 n mo2 x0 y1 = some o2 := H
    obtain _ | mo2 := mo2
    · cases (show (none : Option _) = some o2 from H)
    rw [impl_FdbOk_L2] at H
    refine Tr.rgn tOk 1 485 0 kr kr ?_
    refine Tr.seq ?_
    cases h1 : (decide (y1 < (x0.length : Int)))
    · have H := bifF h1 H
      refine Tr.cF h1 kr ?_
      refine Tr.exit ?_
      refine And.intro (fun _ => ?_) (fun h => absurd rfl h)
      have H := Option.some.inj H
      subst H
      have H := Ho2
      dsimp only at H
      exact Exists.intro () (And.intro H (St.sub_of [2, 0] [] kr))
    have H := bifT h1 H
    refine Tr.cT h1 kr ?_
    refine Tr.skip ?_
    show Tr _ _ _ _ _
    refine Tr.seq ?_
    refine Tr.block ?_
    refine Tr.rs ?_
    refine LAt.runU tOk 1 kr ?_
    obtain ⟨v3, ev3, H⟩ := bind_some H
    refine LAt.indexF tOk (t := 56) (ty := 0) (x := (.tmp 5)) (y := (.tmp 7)) (d := 10) (g := none) ⟨(.slot 5), [], 0, false, 5, (CV.frzEs (x0.map Fent.row))⟩ y1 (Fent.row v3) _ kr kr kr kr rfl (idx_isF ev3) rfl ?_
    refine LAt.runU tOk 4 kr ?_
    refine LAt.doneM 4093 16 kr ?_
    obtain ⟨r4, er4, H⟩ := bind_some H
    refine Tr.to ⟨40, 0, [sI 3 y1, sA 4 4 5 0, sV 11 (Fent.row v3), (10, .fad ((Fent.row v3))), sI 9 y1, sB 8 (decide (y1 < (x0.length : Int))), sI 7 y1, sI 6 (x0.length : Int), sC 5 (cF 5 x0 Fent.row), sB 2 false, sC 0 (cF 5 x0 Fent.row)], [(4, (Fent.row v3))]⟩ kr ?_
    cases h2 : (!r4)
    · have H := bifF h2 H
      refine Tr.to ⟨40, 0, [sI 3 y1, sA 4 4 5 0, sV 11 (Fent.row v3), (10, .fad ((Fent.row v3))), sI 9 y1, sB 8 (decide (y1 < (x0.length : Int))), sI 7 y1, sI 6 (x0.length : Int), sC 5 (cF 5 x0 Fent.row), sB 2 false, sC 0 (cF 5 x0 Fent.row)], [(4, (Fent.row v3))]⟩ kr ?_
      cases h3 : (decide (y1 > 0))
      · have H := bifF h3 H
        refine Tr.draws mixed 24 kr ⟨40, 0, [sB 35 false, sB 34 false, (33, .tup []), (32, .tup []), (31, .tup []), (30, .tup []), (29, .tup []), (28, .tup []), (27, .tup []), (26, .tup []), (25, .tup []), (24, .tup []), (23, .tup []), (22, .tup []), (21, .tup []), (20, .tup []), (19, .tup []), sB 18 false, sB 17 false, sI 16 y1, sB 15 false, sB 14 false, sB 13 r4, sV 12 (Fent.row v3), sI 3 y1, sA 4 4 5 0, sV 11 (Fent.row v3), (10, .fad ((Fent.row v3))), sI 9 y1, sB 8 (decide (y1 < (x0.length : Int))), sI 7 y1, sI 6 (x0.length : Int), sC 5 (cF 5 x0 Fent.row), sB 2 false, sC 0 (cF 5 x0 Fent.row)], [(4, (Fent.row v3))]⟩ (fun cx => ?_) ?_
        · refine AT.runU tOk [(0, [1])] 23 [⟨[1], 141, 4, 12⟩] [0] rfl kr (fun cx => ?_)
          refine AT.big1 tOk 1 kr kr ?_
          refine LAt.callV tOk [.rd] [] (impl_fentOk n v3 r4 er4) kr kr kr kr (.inl rfl) ?_
          refine LAt.fin kr (And.intro (And.intro kr kr) ?_)
          refine AT.runU tOk [(2, []), (3, [])] 20 [⟨[1], 141, 4, 12⟩] [3, 2, 1, 0] rfl kr (fun cx => ?_)
          refine AT.to ⟨40, 0, [sB 15 (!r4), sB 14 (!r4), sB 13 r4, sV 12 (Fent.row v3), sI 3 y1, sA 4 4 5 0, sV 11 (Fent.row v3), (10, .fad ((Fent.row v3))), sI 9 y1, sB 8 (decide (y1 < (x0.length : Int))), sI 7 y1, sI 6 (x0.length : Int), sC 5 (cF 5 x0 Fent.row), sB 2 false, sC 0 (cF 5 x0 Fent.row)], [(4, (Fent.row v3))]⟩ kr ?_
          rw [h2]
          refine AT.runU tOk [(4, []), (5, []), (6, [])] 17 [⟨[1], 141, 4, 12⟩] [6, 5, 4, 3, 2, 1, 0] rfl kr (fun cx => ?_)
          refine AT.to ⟨40, 0, [sB 18 (decide (y1 > 0)), sB 17 (decide (y1 > 0)), sI 16 y1, sB 15 false, sB 14 false, sB 13 r4, sV 12 (Fent.row v3), sI 3 y1, sA 4 4 5 0, sV 11 (Fent.row v3), (10, .fad ((Fent.row v3))), sI 9 y1, sB 8 (decide (y1 < (x0.length : Int))), sI 7 y1, sI 6 (x0.length : Int), sC 5 (cF 5 x0 Fent.row), sB 2 false, sC 0 (cF 5 x0 Fent.row)], [(4, (Fent.row v3))]⟩ kr ?_
          rw [h3]
          refine AT.runU tOk [(7, []), (8, []), (9, []), (10, []), (11, []), (12, []), (13, []), (14, []), (15, []), (16, []), (17, []), (18, []), (19, []), (20, []), (21, []), (22, []), (23, [])] 0 [⟨[1], 141, 4, 12⟩] [23, 22, 21, 20, 19, 18, 17, 16, 15, 14, 13, 12, 11, 10, 9, 8, 7, 6, 5, 4, 3, 2, 1, 0] rfl kr (fun cx => ?_)
          exact AT.done [35, 34, 33, 32, 31, 30, 29, 28, 27, 26, 25, 24, 23, 22, 21, 20, 19, 18, 17, 16, 15, 14, 13, 12, 3, 4, 11, 10, 9, 8, 7, 6, 5, 2, 0] [4] _ kr kr rfl
        refine Tr.cf kr ?_
        refine Tr.skip ?_
        show Tr _ _ _ _ _
        refine Tr.rgE tOk 2 137438953469 16 kr kr ?_
        exact Exists.intro (mo2, (IntKind.wrap .i64 (y1 + 1))) (And.intro H (And.intro (Nat.lt_succ_self mo2) (St.sub_of [7, 6, 5, 2, 0] [] kr)))
      have H := bifT h3 H
      obtain ⟨v5, ev5, H⟩ := bind_some H
      obtain ⟨v6, ev6, H⟩ := bind_some H
      obtain ⟨r7, er7, H⟩ := bind_some H
      refine Tr.draws mixed 24 kr ⟨40, 0, [sB 35 (!r7), sB 34 (!r7), sB 33 (!r7), sB 32 r7, sI 31 v6.Mac, (30, .fad (((Fent.row v6).drop 1))), (29, .fad ((Fent.row v6))), sI 28 (IntKind.wrap .i64 (y1 - 1)), sI 27 y1, sC 26 (cF 5 x0 Fent.row), sI 25 v5.Tag, (24, .fad ((Fent.row v5))), (23, .fad ((Fent.row v5))), sI 22 (IntKind.wrap .i64 (y1 - 1)), sI 21 y1, sC 20 (cF 5 x0 Fent.row), sV 19 (Fent.row v3), sB 18 true, sB 17 true, sI 16 y1, sB 15 false, sB 14 false, sB 13 r4, sV 12 (Fent.row v3), sI 3 y1, sA 4 4 5 0, sV 11 (Fent.row v3), (10, .fad ((Fent.row v3))), sI 9 y1, sB 8 (decide (y1 < (x0.length : Int))), sI 7 y1, sI 6 (x0.length : Int), sC 5 (cF 5 x0 Fent.row), sB 2 false, sC 0 (cF 5 x0 Fent.row)], [(4, (Fent.row v3))]⟩ (fun cx => ?_) ?_
      · refine AT.runU tOk [(0, [1, 20])] 23 [⟨[1, 20], 141, 4, 12⟩] [0] rfl kr (fun cx => ?_)
        refine AT.big1 tOk 1 kr kr ?_
        refine LAt.callV tOk [.rd] [] (impl_fentOk n v3 r4 er4) kr kr kr kr (.inl rfl) ?_
        refine LAt.fin kr (And.intro (And.intro kr kr) ?_)
        refine AT.runU tOk [(2, []), (3, [])] 20 [⟨[1, 20], 141, 4, 12⟩] [3, 2, 1, 0] rfl kr (fun cx => ?_)
        refine AT.to ⟨40, 0, [sB 15 (!r4), sB 14 (!r4), sB 13 r4, sV 12 (Fent.row v3), sI 3 y1, sA 4 4 5 0, sV 11 (Fent.row v3), (10, .fad ((Fent.row v3))), sI 9 y1, sB 8 (decide (y1 < (x0.length : Int))), sI 7 y1, sI 6 (x0.length : Int), sC 5 (cF 5 x0 Fent.row), sB 2 false, sC 0 (cF 5 x0 Fent.row)], [(4, (Fent.row v3))]⟩ kr ?_
        rw [h2]
        refine AT.runU tOk [(4, []), (5, []), (6, [])] 17 [⟨[1, 20], 141, 4, 12⟩] [6, 5, 4, 3, 2, 1, 0] rfl kr (fun cx => ?_)
        refine AT.to ⟨40, 0, [sB 18 (decide (y1 > 0)), sB 17 (decide (y1 > 0)), sI 16 y1, sB 15 false, sB 14 false, sB 13 r4, sV 12 (Fent.row v3), sI 3 y1, sA 4 4 5 0, sV 11 (Fent.row v3), (10, .fad ((Fent.row v3))), sI 9 y1, sB 8 (decide (y1 < (x0.length : Int))), sI 7 y1, sI 6 (x0.length : Int), sC 5 (cF 5 x0 Fent.row), sB 2 false, sC 0 (cF 5 x0 Fent.row)], [(4, (Fent.row v3))]⟩ kr ?_
        rw [h3]
        refine AT.runU tOk [(7, [20]), (8, []), (9, []), (10, [])] 13 [⟨[20], 141, 4, 19⟩, ⟨[1, 20], 141, 4, 12⟩] [10, 9, 8, 7, 6, 5, 4, 3, 2, 1, 0] rfl kr (fun cx => ?_)
        refine AT.indexF tOk 11 (t := 56) (ty := 0) (x := (.tmp 20)) (y := (.tmp 22)) (d := 23) (g := (some (6, true))) ⟨(.slot 20), [], 0, false, 5, (CV.frzEs (x0.map Fent.row))⟩ (IntKind.wrap .i64 (y1 - 1)) (Fent.row v5) _ kr kr kr kr kr kr rfl (idx_isF ev5) rfl (fun cx => ?_)
        refine AT.runU tOk [(12, []), (13, []), (14, []), (15, []), (16, [])] 7 [⟨[20], 141, 4, 19⟩, ⟨[1, 20], 141, 4, 12⟩] [16, 15, 14, 13, 12, 11, 10, 9, 8, 7, 6, 5, 4, 3, 2, 1, 0] rfl kr (fun cx => ?_)
        refine AT.indexF tOk 17 (t := 56) (ty := 0) (x := (.tmp 26)) (y := (.tmp 28)) (d := 29) (g := (some (6, true))) ⟨(.slot 26), [], 0, false, 5, (CV.frzEs (x0.map Fent.row))⟩ (IntKind.wrap .i64 (y1 - 1)) (Fent.row v6) _ kr kr kr kr kr kr rfl (idx_isF ev6) rfl (fun cx => ?_)
        refine AT.runU tOk [(18, []), (19, [])] 4 [⟨[20], 141, 4, 19⟩, ⟨[1, 20], 141, 4, 12⟩] [19, 18, 17, 16, 15, 14, 13, 12, 11, 10, 9, 8, 7, 6, 5, 4, 3, 2, 1, 0] rfl kr (fun cx => ?_)
        refine AT.big1 tOk 20 kr kr ?_
        refine LAt.callV tOk [.rd, .rd, .rd] [] (impl_behind n v3 v5.Tag v6.Mac r7 er7) kr kr kr kr (.inl rfl) ?_
        refine LAt.fin kr (And.intro (And.intro kr kr) ?_)
        refine AT.runU tOk [(21, []), (22, []), (23, [])] 0 [⟨[20], 141, 4, 19⟩, ⟨[1, 20], 141, 4, 12⟩] [23, 22, 21, 20, 19, 18, 17, 16, 15, 14, 13, 12, 11, 10, 9, 8, 7, 6, 5, 4, 3, 2, 1, 0] rfl kr (fun cx => ?_)
        exact AT.done [35, 34, 33, 32, 31, 30, 29, 28, 27, 26, 25, 24, 23, 22, 21, 20, 19, 18, 17, 16, 15, 14, 13, 12, 3, 4, 11, 10, 9, 8, 7, 6, 5, 2, 0] [4] _ kr kr rfl
      refine Tr.to ⟨40, 0, [sB 35 (!r7), sB 34 (!r7), sB 33 (!r7), sB 32 r7, sI 31 v6.Mac, (30, .fad (((Fent.row v6).drop 1))), (29, .fad ((Fent.row v6))), sI 28 (IntKind.wrap .i64 (y1 - 1)), sI 27 y1, sC 26 (cF 5 x0 Fent.row), sI 25 v5.Tag, (24, .fad ((Fent.row v5))), (23, .fad ((Fent.row v5))), sI 22 (IntKind.wrap .i64 (y1 - 1)), sI 21 y1, sC 20 (cF 5 x0 Fent.row), sV 19 (Fent.row v3), sB 18 true, sB 17 true, sI 16 y1, sB 15 false, sB 14 false, sB 13 r4, sV 12 (Fent.row v3), sI 3 y1, sA 4 4 5 0, sV 11 (Fent.row v3), (10, .fad ((Fent.row v3))), sI 9 y1, sB 8 (decide (y1 < (x0.length : Int))), sI 7 y1, sI 6 (x0.length : Int), sC 5 (cF 5 x0 Fent.row), sB 2 false, sC 0 (cF 5 x0 Fent.row)], [(4, (Fent.row v3))]⟩ kr ?_
      cases h4 : (!r7)
      · have H := bifF h4 H
        refine Tr.cf kr ?_
        refine Tr.skip ?_
        show Tr _ _ _ _ _
        refine Tr.rgE tOk 2 137438953469 16 kr kr ?_
        exact Exists.intro (mo2, (IntKind.wrap .i64 (y1 + 1))) (And.intro H (And.intro (Nat.lt_succ_self mo2) (St.sub_of [7, 6, 5, 2, 0] [] kr)))
      have H := bifT h4 H
      refine Tr.ct kr ?_
      refine Tr.rgn tOk 1 68719476733 16 kr kr ?_
      refine Tr.ret ?_
      have H := Option.some.inj H
      subst H
      have H := Ho2
      dsimp only at H
      have H := Option.some.inj H
      subst H
      exact Fin.of _ [(false, [cB false])] kr rfl rfl
    have H := bifT h2 H
    refine Tr.draws mixed 24 kr ⟨40, 0, [sB 35 true, (34, .tup []), (33, .tup []), (32, .tup []), (31, .tup []), (30, .tup []), (29, .tup []), (28, .tup []), (27, .tup []), (26, .tup []), (25, .tup []), (24, .tup []), (23, .tup []), (22, .tup []), (21, .tup []), (20, .tup []), (19, .tup []), (18, .tup []), (17, .tup []), (16, .tup []), sB 15 true, sB 14 true, sB 13 r4, sV 12 (Fent.row v3), sI 3 y1, sA 4 4 5 0, sV 11 (Fent.row v3), (10, .fad ((Fent.row v3))), sI 9 y1, sB 8 (decide (y1 < (x0.length : Int))), sI 7 y1, sI 6 (x0.length : Int), sC 5 (cF 5 x0 Fent.row), sB 2 false, sC 0 (cF 5 x0 Fent.row)], [(4, (Fent.row v3))]⟩ (fun cx => ?_) ?_
    · refine AT.runU tOk [(0, [1])] 23 [⟨[1], 141, 4, 12⟩] [0] rfl kr (fun cx => ?_)
      refine AT.big1 tOk 1 kr kr ?_
      refine LAt.callV tOk [.rd] [] (impl_fentOk n v3 r4 er4) kr kr kr kr (.inl rfl) ?_
      refine LAt.fin kr (And.intro (And.intro kr kr) ?_)
      refine AT.runU tOk [(2, []), (3, [])] 20 [⟨[1], 141, 4, 12⟩] [3, 2, 1, 0] rfl kr (fun cx => ?_)
      refine AT.to ⟨40, 0, [sB 15 (!r4), sB 14 (!r4), sB 13 r4, sV 12 (Fent.row v3), sI 3 y1, sA 4 4 5 0, sV 11 (Fent.row v3), (10, .fad ((Fent.row v3))), sI 9 y1, sB 8 (decide (y1 < (x0.length : Int))), sI 7 y1, sI 6 (x0.length : Int), sC 5 (cF 5 x0 Fent.row), sB 2 false, sC 0 (cF 5 x0 Fent.row)], [(4, (Fent.row v3))]⟩ kr ?_
      rw [h2]
      refine AT.runU tOk [(4, []), (5, []), (6, []), (7, []), (8, []), (9, []), (10, []), (11, []), (12, []), (13, []), (14, []), (15, []), (16, []), (17, []), (18, []), (19, []), (20, []), (21, []), (22, []), (23, [])] 0 [⟨[1], 141, 4, 12⟩] [23, 22, 21, 20, 19, 18, 17, 16, 15, 14, 13, 12, 11, 10, 9, 8, 7, 6, 5, 4, 3, 2, 1, 0] rfl kr (fun cx => ?_)
      exact AT.done [35, 34, 33, 32, 31, 30, 29, 28, 27, 26, 25, 24, 23, 22, 21, 20, 19, 18, 17, 16, 15, 14, 13, 12, 3, 4, 11, 10, 9, 8, 7, 6, 5, 2, 0] [4] _ kr kr rfl
    refine Tr.ct kr ?_
    refine Tr.rgn tOk 1 68719476733 16 kr kr ?_
    refine Tr.ret ?_
    have H := Option.some.inj H
    subst H
    have H := Ho2
    dsimp only at H
    have H := Option.some.inj H
    subst H
    exact Fin.of _ [(false, [cB false])] kr rfl rfl
  rintro _ H
  have H : (impl_FdbOk_J1 n x0) = some r := H
  unfold impl_FdbOk_J1 at H
  show Tr _ _ _ _ _
  refine Tr.rs ?_
  refine LAt.runU tOk 1 kr ?_
  refine LAt.lenE tOk (t := 56) (ty := 3) (e := 141) (x := (.tmp 37)) (d := 38) (g := none) ⟨(.slot 37), [], 0, false, 5, (CV.frzEs (x0.map Fent.row))⟩ (x0).length _ kr kr kr kr kr (frz_len _ _) rfl ?_
  refine LAt.runU tOk 2 kr ?_
  refine LAt.doneM 4 0 kr ?_
  refine Tr.ret ?_
  have H := Option.some.inj H
  subst H
  exact Fin.of _ [(false, [cB (decide ((x0.length : Int) ≤ 12))])] kr rfl rfl

def impl_allPortsF (n : Nat) (x0 : Int) : Option (Int) :=
  (bif (decide ((0 : Int) ≤ x0)) then (some (IntKind.wrap .i64 ((IntKind.wrap .i64 (1 * 2 ^ min ((x0 : Int)).toNat (IntKind.bits .i64))) - 1))) else none)
/-- loop.example/g00326/impl.allPorts -/
theorem impl_allPorts (n : Nat) (x0 : Int) (r : Int) (H : impl_allPortsF n x0 = some r) : LCall Try.prog 178 [.val false [.lit (.int .i64 x0)]] [.val false [.lit (.int .i64 r)]] [] := by
  refine LCall.of_body tOk Try.func178 rfl (c := (.seq (Rg Try.f178 0) (.seq (Rg Try.f178 1) .ret))) kr (Nat.le_of_ble_eq_true kr) 0 (rs := [.tmp 2]) rfl [] .nil [(false, [.lit (.int .i64 r)])] [] [] fun cx => ?_
  show Tr _ _ _ ⟨6, 0, [sI 0 x0], []⟩ _
  unfold impl_allPortsF at H
  refine Tr.rgn tOk 1 5 0 kr kr ?_
  refine Tr.rs ?_
  refine LAt.runU tOk 1 kr ?_
  obtain ⟨hg1, H⟩ := guard_some H
  refine LAt.binC tOk (op := .shl) (t := 3) (ty := 3) (ty' := 3) (x := (.const (.int .i64 1))) (y := (.tmp 3)) (d := 4) (g := none) (.int .i64 1) (.int .i64 x0) (.int .i64 (IntKind.wrap .i64 (1 * 2 ^ min ((x0 : Int)).toNat (IntKind.bits .i64)))) _ kr kr kr kr kr (φ := (0 : Int) ≤ x0) kr (of_decide_eq_true hg1) rfl ?_
  refine LAt.runU tOk 2 kr ?_
  refine LAt.doneM 4 0 kr ?_
  refine Tr.ret ?_
  have H := Option.some.inj H
  subst H
  exact Fin.of _ [(false, [cI (IntKind.wrap .i64 ((IntKind.wrap .i64 (1 * 2 ^ min ((x0 : Int)).toNat (IntKind.bits .i64))) - 1))])] kr rfl rfl

def impl_RowAt_J1 (n : Nat) : Option (Int) :=
  (some (-1))
def impl_RowAt_L2 (n : Nat) : Nat → Vtab → Int → Int → Option ((Unit) ⊕ (Int))
  | 0, _, _, _ => none
  | mo2 + 1, x0, x1, y1 => (bif (decide (y1 < (x0.Rows.length : Int))) then ((idx x0.Rows y1).bind fun v3 => (bif (v3.Id == x1) then (some (Sum.inr y1)) else (impl_RowAt_L2 n mo2 x0 x1 (IntKind.wrap .i64 (y1 + 1))))) else (some (Sum.inl ())))
def impl_RowAtF (n : Nat) (x0 : Vtab) (x1 : Int) : Option (Int) :=
  ((impl_RowAt_L2 n n x0 x1 0).bind fun o => match o with | .inl _ => (impl_RowAt_J1 n) | .inr r => some r)
/-- loop.example/g00326/impl.RowAt -/
theorem impl_RowAt (n : Nat) (x0 : Vtab) (x1 : Int) (r : Int) (H : impl_RowAtF n x0 x1 = some r) : LCall Try.prog 179 [.val true (CV.frzRow (Vtab.row x0)), .val false [.lit (.int .i64 x1)]] [.val false [.lit (.int .i64 r)]] [] := by
  refine LCall.of_body tOk Try.func179 rfl (c := (.seq (Rg Try.f179 0) (.seq (.seq (Rg Try.f179 1) (.block 0 (.loop (.seq (Rg Try.f179 2) (.seq (.cond (.tmp 11) .skip (.exit 0)) (.seq (.block 1 (.seq (Rg Try.f179 3) (.seq (Rg Try.f179 4) (.cond (.tmp 18) (.seq (Rg Try.f179 5) .ret) .skip)))) (Rg Try.f179 6))))))) (.seq (Rg Try.f179 7) .ret)))) kr (Nat.le_of_ble_eq_true kr) 0 (rs := [.tmp 4]) rfl [] .nil [(false, [.lit (.int .i64 r)])] [] [] fun cx => ?_
  show Tr _ _ _ ⟨21, 0, [sV 0 (CV.frzRow (Vtab.row x0)), sI 1 x1], []⟩ _
  unfold impl_RowAtF at H
  refine Tr.rgn tOk 2 22 4 kr kr ?_
  refine Tr.seq ?_
  refine Tr.rs ?_
  refine LAt.runU tOk 2 kr ?_
  refine LAt.lenE tOk (t := 57) (ty := 3) (e := 138) (x := (.tmp 8)) (d := 9) (g := none) ⟨(.slot 8), [], 0, false, 3, (CV.frzEs (x0.Rows.map Vrow.row))⟩ (x0.Rows).length _ kr kr kr kr kr (frz_len _ _) rfl ?_
  refine LAt.runU tOk 1 kr ?_
  refine LAt.doneM 1810 0 kr ?_
  obtain ⟨o2, eo2, Ho2⟩ := bind_some H
  clear H
  refine Tr.mid (ι := Unit) (fun v => ⟨21, 0, [sI 4 0], []⟩) (fun v => impl_RowAt_J1 n = some r) ?_ ?_
  · refine Tr.block ?_
    refine Tr.loop (ι := Nat × (Int)) (fun v => ⟨21, 0, [sI 10 v.2, sI 9 (x0.Rows.length : Int), sC 8 (cF 3 x0.Rows Vrow.row), sI 4 0, sI 1 x1], []⟩) (fun v => impl_RowAt_L2 n v.1 x0 x1 v.2 = some o2) (fun v => v.1) (n, 0) eo2 (St.sub_of [10, 9, 8, 4, 1] [] kr) ?_
    rintro ⟨mo2, y1⟩ H
    have H : impl_RowAt_L2 n mo2 x0 x1 y1 = some o2 := H
    obtain _ | mo2 := mo2
    · cases (show (none : Option _) = some o2 from H)
    rw [impl_RowAt_L2] at H
    refine Tr.rgn tOk 1 3858 0 kr kr ?_
    refine Tr.seq ?_
    cases h1 : (decide (y1 < (x0.Rows.length : Int)))
    · have H := bifF h1 H
      refine Tr.cF h1 kr ?_
      refine Tr.exit ?_
      refine And.intro (fun _ => ?_) (fun h => absurd rfl h)
      have H := Option.some.inj H
      subst H
      have H := Ho2
      dsimp only at H
      exact Exists.intro () (And.intro H (St.sub_of [4] [] kr))
    have H := bifT h1 H
    refine Tr.cT h1 kr ?_
    refine Tr.skip ?_
    show Tr _ _ _ _ _
    refine Tr.seq ?_
    refine Tr.block ?_
    refine Tr.rs ?_
    refine LAt.runU tOk 1 kr ?_
    obtain ⟨v3, ev3, H⟩ := bind_some H
    refine LAt.indexF tOk (t := 57) (ty := 0) (x := (.tmp 8)) (y := (.tmp 10)) (d := 13) (g := none) ⟨(.slot 8), [], 0, false, 3, (CV.frzEs (x0.Rows.map Vrow.row))⟩ y1 (Vrow.row v3) _ kr kr kr kr rfl (idx_isF ev3) rfl ?_
    refine LAt.runU tOk 4 kr ?_
    refine LAt.doneM 32626 64 kr ?_
    refine Tr.rgn tOk 4 524146 64 kr kr ?_
    cases h2 : (v3.Id == x1)
    · have H := bifF h2 H
      refine Tr.cF h2 kr ?_
      refine Tr.skip ?_
      show Tr _ _ _ _ _
      refine Tr.rgE tOk 2 1572722 64 kr kr ?_
      exact Exists.intro (mo2, (IntKind.wrap .i64 (y1 + 1))) (And.intro H (And.intro (Nat.lt_succ_self mo2) (St.sub_of [10, 9, 8, 4, 1] [] kr)))
    have H := bifT h2 H
    refine Tr.cT h2 kr ?_
    refine Tr.rgn tOk 2 1048434 64 kr kr ?_
    refine Tr.ret ?_
    have H := Option.some.inj H
    subst H
    have H := Ho2
    dsimp only at H
    have H := Option.some.inj H
    subst H
    exact Fin.of _ [(false, [cI y1])] kr rfl rfl
  rintro _ H
  have H : (impl_RowAt_J1 n) = some r := H
  unfold impl_RowAt_J1 at H
  show Tr _ _ _ _ _
  refine Tr.rgn tOk 1 16 0 kr kr ?_
  refine Tr.ret ?_
  have H := Option.some.inj H
  subst H
  exact Fin.of _ [(false, [cI (-1)])] kr rfl rfl

def impl_VtabOk_J2 (n : Nat) : Option (Bool) :=
  (some true)
def impl_VtabOk_L3 (n : Nat) : Nat → Vtab → Int → Option ((Unit) ⊕ (Bool))
  | 0, _, _ => none
  | mo4 + 1, x0, y3 => (bif (decide (y3 < (x0.Pvid.length : Int))) then ((idx x0.Pvid y3).bind fun v5 => ((impl_RowAtF n x0 v5).bind fun r6 => (bif (decide (r6 < 0)) then (some (Sum.inr false)) else (impl_VtabOk_L3 n mo4 x0 (IntKind.wrap .i64 (y3 + 1)))))) else (some (Sum.inl ())))
def impl_VtabOk_J1 (n : Nat) (x0 : Vtab) : Option (Bool) :=
  ((impl_VtabOk_L3 n n x0 0).bind fun o => match o with | .inl _ => (impl_VtabOk_J2 n) | .inr r => some r)
def impl_VtabOk_L4 (n : Nat) : Nat → Vtab → Int → Int → Option ((Unit) ⊕ (Bool))
  | 0, _, _, _ => none
  | mo7 + 1, x0, x1, y2 => (bif (decide (y2 < (x0.Rows.length : Int))) then ((idx x0.Rows y2).bind fun v8 => ((impl_inF n v8.Id 1 99).bind fun r9 => (bif (!r9) then (some (Sum.inr false)) else (bif (decide (y2 > 0)) then ((idx x0.Rows (IntKind.wrap .i64 (y2 - 1))).bind fun v12 => (bif (decide (v12.Id ≥ v8.Id)) then (some (Sum.inr false)) else ((impl_allPortsF n x1).bind fun r13 => ((impl_inF n v8.Members 0 r13).bind fun r14 => (bif (!r14) then (some (Sum.inr false)) else (bif ((IntKind.wrap .i64 (BitVec.ofInt (IntKind.bits .i64) v8.Bare &&& ~~~BitVec.ofInt (IntKind.bits .i64) v8.Members).toNat) != 0) then (some (Sum.inr false)) else (impl_VtabOk_L4 n mo7 x0 x1 (IntKind.wrap .i64 (y2 + 1))))))))) else ((impl_allPortsF n x1).bind fun r10 => ((impl_inF n v8.Members 0 r10).bind fun r11 => (bif (!r11) then (some (Sum.inr false)) else (bif ((IntKind.wrap .i64 (BitVec.ofInt (IntKind.bits .i64) v8.Bare &&& ~~~BitVec.ofInt (IntKind.bits .i64) v8.Members).toNat) != 0) then (some (Sum.inr false)) else (impl_VtabOk_L4 n mo7 x0 x1 (IntKind.wrap .i64 (y2 + 1))))))))))) else (some (Sum.inl ())))
def impl_VtabOkF (n : Nat) (x0 : Vtab) (x1 : Int) : Option (Bool) :=
  ((impl_inF n x1 1 6).bind fun r1 => (bif (!r1) then (some false) else (bif ((x0.Pvid.length : Int) != x1) then (some false) else (bif (decide ((x0.Rows.length : Int) > 6)) then (some false) else ((impl_VtabOk_L4 n n x0 x1 0).bind fun o => match o with | .inl _ => (impl_VtabOk_J1 n x0) | .inr r => some r)))))
/-- loop.example/g00326/impl.VtabOk -/
theorem impl_VtabOk (n : Nat) (x0 : Vtab) (x1 : Int) (r : Bool) (H : impl_VtabOkF n x0 x1 = some r) : LCall Try.prog 144 [.val true (CV.frzRow (Vtab.row x0)), .val false [.lit (.int .i64 x1)]] [.val false [.lit (.bool r)]] [] := by
  refine LCall.of_body tOk Try.func144 rfl (c := (.seq (Rg Try.f144 0) (.seq (.seq (Rg Try.f144 1) (.cond (.tmp 24) (.seq (Rg Try.f144 2) .ret) .skip)) (.seq (.seq (Rg Try.f144 3) (.block 0 (.loop (.seq (Rg Try.f144 4) (.seq (.cond (.tmp 29) .skip (.exit 0)) (.seq (.block 1 (.seq (Rg Try.f144 5) (.seq (Rd Try.f144 6) (.cond (.tmp 68) (.seq (Rg Try.f144 7) .ret) .skip)))) (Rg Try.f144 8))))))) (.seq (.seq (Rg Try.f144 9) (.block 2 (.loop (.seq (Rg Try.f144 10) (.seq (.cond (.tmp 74) .skip (.exit 2)) (.seq (.block 3 (.seq (Rg Try.f144 11) (.seq (Rg Try.f144 12) (.cond (.tmp 80) (.seq (Rg Try.f144 13) .ret) .skip)))) (Rg Try.f144 14))))))) (.seq (Rg Try.f144 15) .ret)))))) kr (Nat.le_of_ble_eq_true kr) 0 (rs := [.tmp 4]) rfl [] .nil [(false, [.lit (.bool r)])] [] [] fun cx => ?_
  show Tr _ _ _ ⟨82, 0, [sV 0 (CV.frzRow (Vtab.row x0)), sI 1 x1], []⟩ _
  unfold impl_VtabOkF at H
  refine Tr.rgn tOk 2 22 4 kr kr ?_
  refine Tr.seq ?_
  refine Tr.rs ?_
  refine LAt.runU tOk 1 kr ?_
  obtain ⟨r1, er1, H⟩ := bind_some H
  refine LAt.callV tOk [.rd, .rd, .rd] [] (impl_in n x1 1 6 r1 er1) kr kr kr kr (.inl rfl) ?_
  refine LAt.runU tOk 2 kr ?_
  refine LAt.to ⟨82, 0, [sB 12 (!r1), sB 11 (!r1), sB 10 r1, sI 9 x1, sB 4 false, sA 2 2 2 0, sI 1 x1], [(2, (CV.frzRow (Vtab.row x0)))]⟩ kr ?_
  cases h1 : (!r1)
  · have H := bifF h1 H
    refine LAt.runU tOk 2 kr ?_
    refine LAt.lenE tOk (t := 27) (ty := 3) (e := 3) (x := (.tmp 14)) (d := 15) (g := (some (3, false))) ⟨(.slot 14), [], 0, false, 1, (CV.frzEs (x0.Pvid.map intRow))⟩ (x0.Pvid).length _ kr kr kr kr kr (frz_len _ _) rfl ?_
    refine LAt.runU tOk 4 kr ?_
    refine LAt.to ⟨82, 0, [sB 19 ((x0.Pvid.length : Int) != x1), sB 18 ((x0.Pvid.length : Int) != x1), sB 17 ((x0.Pvid.length : Int) != x1), sI 16 x1, sI 15 (x0.Pvid.length : Int), sC 14 (cF 1 x0.Pvid intRow), sA 13 2 2 1, sB 12 false, sB 11 false, sB 10 r1, sI 9 x1, sB 4 false, sA 2 2 2 0, sI 1 x1], [(2, (CV.frzRow (Vtab.row x0)))]⟩ kr ?_
    cases h2 : ((x0.Pvid.length : Int) != x1)
    · have H := bifF h2 H
      refine LAt.runU tOk 2 kr ?_
      refine LAt.lenE tOk (t := 57) (ty := 3) (e := 138) (x := (.tmp 21)) (d := 22) (g := (some (10, false))) ⟨(.slot 21), [], 0, false, 3, (CV.frzEs (x0.Rows.map Vrow.row))⟩ (x0.Rows).length _ kr kr kr kr kr (frz_len _ _) rfl ?_
      refine LAt.runU tOk 2 kr ?_
      refine LAt.doneM 16777238 4 kr ?_
      cases h3 : (decide ((x0.Rows.length : Int) > 6))
      · have H := bifF h3 H
        refine Tr.cF h3 kr ?_
        refine Tr.skip ?_
        show Tr _ _ _ _ _
        refine Tr.seq ?_
        refine Tr.rs ?_
        refine LAt.runU tOk 2 kr ?_
        refine LAt.lenE tOk (t := 57) (ty := 3) (e := 138) (x := (.tmp 26)) (d := 27) (g := none) ⟨(.slot 26), [], 0, false, 3, (CV.frzEs (x0.Rows.map Vrow.row))⟩ (x0.Rows).length _ kr kr kr kr kr (frz_len _ _) rfl ?_
        refine LAt.runU tOk 1 kr ?_
        refine LAt.doneM 469762070 4 kr ?_
        obtain ⟨o7, eo7, Ho7⟩ := bind_some H
        clear H
        refine Tr.mid (ι := Unit) (fun v => ⟨82, 0, [sB 4 false, sA 2 2 2 0], [(2, (CV.frzRow (Vtab.row x0)))]⟩) (fun v => impl_VtabOk_J1 n x0 = some r) ?_ ?_
        · refine Tr.block ?_
          refine Tr.loop (ι := Nat × (Int)) (fun v => ⟨82, 0, [sI 28 v.2, sI 27 (x0.Rows.length : Int), sC 26 (cF 3 x0.Rows Vrow.row), sB 4 false, sA 2 2 2 0, sI 1 x1], [(2, (CV.frzRow (Vtab.row x0)))]⟩) (fun v => impl_VtabOk_L4 n v.1 x0 x1 v.2 = some o7) (fun v => v.1) (n, 0) eo7 (St.sub_of [28, 27, 26, 4, 2, 1] [2] kr) ?_
          rintro ⟨mo7, y2⟩ H
          have H : impl_VtabOk_L4 n mo7 x0 x1 y2 = some o7 := H
          obtain _ | mo7 := mo7
          · cases (show (none : Option _) = some o7 from H)
          rw [impl_VtabOk_L4] at H
          refine Tr.rgn tOk 1 1006632982 4 kr kr ?_
          refine Tr.seq ?_
          cases h6 : (decide (y2 < (x0.Rows.length : Int)))
          · have H := bifF h6 H
            refine Tr.cF h6 kr ?_
            refine Tr.exit ?_
            refine And.intro (fun _ => ?_) (fun h => absurd rfl h)
            have H := Option.some.inj H
            subst H
            have H := Ho7
            dsimp only at H
            exact Exists.intro () (And.intro H (St.sub_of [4, 2] [2] kr))
          have H := bifT h6 H
          refine Tr.cT h6 kr ?_
          refine Tr.skip ?_
          show Tr _ _ _ _ _
          refine Tr.seq ?_
          refine Tr.block ?_
          refine Tr.rs ?_
          refine LAt.runU tOk 1 kr ?_
          obtain ⟨v8, ev8, H⟩ := bind_some H
          refine LAt.indexF tOk (t := 57) (ty := 0) (x := (.tmp 26)) (y := (.tmp 28)) (d := 31) (g := none) ⟨(.slot 26), [], 0, false, 3, (CV.frzEs (x0.Rows.map Vrow.row))⟩ y2 (Vrow.row v8) _ kr kr kr kr rfl (idx_isF ev8) rfl ?_
          refine LAt.runU tOk 4 kr ?_
          refine LAt.doneM 8522825846 68 kr ?_
          obtain ⟨r9, er9, H⟩ := bind_some H
          refine Tr.to ⟨82, 0, [sI 5 y2, sA 6 6 3 0, sV 32 (Vrow.row v8), (31, .fad ((Vrow.row v8))), sI 30 y2, sB 29 (decide (y2 < (x0.Rows.length : Int))), sI 28 y2, sI 27 (x0.Rows.length : Int), sC 26 (cF 3 x0.Rows Vrow.row), sB 4 false, sA 2 2 2 0, sI 1 x1], [(6, (Vrow.row v8)), (2, (CV.frzRow (Vtab.row x0)))]⟩ kr ?_
          cases h7 : (!r9)
          · have H := bifF h7 H
            refine Tr.to ⟨82, 0, [sI 5 y2, sA 6 6 3 0, sV 32 (Vrow.row v8), (31, .fad ((Vrow.row v8))), sI 30 y2, sB 29 (decide (y2 < (x0.Rows.length : Int))), sI 28 y2, sI 27 (x0.Rows.length : Int), sC 26 (cF 3 x0.Rows Vrow.row), sB 4 false, sA 2 2 2 0, sI 1 x1], [(6, (Vrow.row v8)), (2, (CV.frzRow (Vtab.row x0)))]⟩ kr ?_
            cases h8 : (decide (y2 > 0))
            · have H := bifF h8 H
              obtain ⟨r10, er10, H⟩ := bind_some H
              obtain ⟨r11, er11, H⟩ := bind_some H
              refine Tr.to ⟨82, 0, [sI 5 y2, sA 6 6 3 0, sV 32 (Vrow.row v8), (31, .fad ((Vrow.row v8))), sI 30 y2, sB 29 (decide (y2 < (x0.Rows.length : Int))), sI 28 y2, sI 27 (x0.Rows.length : Int), sC 26 (cF 3 x0.Rows Vrow.row), sB 4 false, sA 2 2 2 0, sI 1 x1], [(6, (Vrow.row v8)), (2, (CV.frzRow (Vtab.row x0)))]⟩ kr ?_
              cases h9 : (!r11)
              · have H := bifF h9 H
                refine Tr.draws mixed 36 kr ⟨82, 0, [sB 68 ((IntKind.wrap .i64 (BitVec.ofInt (IntKind.bits .i64) v8.Bare &&& ~~~BitVec.ofInt (IntKind.bits .i64) v8.Members).toNat) != 0), sB 67 ((IntKind.wrap .i64 (BitVec.ofInt (IntKind.bits .i64) v8.Bare &&& ~~~BitVec.ofInt (IntKind.bits .i64) v8.Members).toNat) != 0), sI 66 (IntKind.wrap .i64 (BitVec.ofInt (IntKind.bits .i64) v8.Bare &&& ~~~BitVec.ofInt (IntKind.bits .i64) v8.Members).toNat), sI 65 v8.Members, sA 64 6 3 1, sI 63 v8.Bare, sA 62 6 3 2, sB 61 false, sB 60 false, sB 59 false, sB 58 r11, sI 57 r10, sI 56 x1, sI 55 v8.Members, sA 54 6 3 1, sB 53 false, sB 52 false, sB 51 false, (50, .tup []), (49, .tup []), (48, .tup []), (47, .tup []), (46, .tup []), (45, .tup []), (44, .tup []), (43, .tup []), (42, .tup []), (41, .tup []), sB 40 false, sB 39 false, sI 38 y2, sB 37 false, sB 36 false, sB 35 r9, sI 34 v8.Id, sA 33 6 3 0, sI 5 y2, sA 6 6 3 0, sV 32 (Vrow.row v8), (31, .fad ((Vrow.row v8))), sI 30 y2, sB 29 (decide (y2 < (x0.Rows.length : Int))), sI 28 y2, sI 27 (x0.Rows.length : Int), sC 26 (cF 3 x0.Rows Vrow.row), sB 4 false, sA 2 2 2 0, sI 1 x1], [(6, (Vrow.row v8)), (2, (CV.frzRow (Vtab.row x0)))]⟩ (fun cx => ?_) ?_
                · refine AT.runU tOk [(0, []), (1, [2, 24, 25])] 34 [⟨[2, 24, 25], 3, 33, 34⟩] [1, 0] rfl kr (fun cx => ?_)
                  refine AT.big1 tOk 2 kr kr ?_
                  refine LAt.callV tOk [.rd, .rd, .rd] [] (impl_in n v8.Id 1 99 r9 er9) kr kr kr kr (.inl rfl) ?_
                  refine LAt.fin kr (And.intro (And.intro kr kr) ?_)
                  refine AT.runU tOk [(3, []), (4, [])] 31 [⟨[2, 24, 25], 3, 33, 34⟩] [4, 3, 2, 1, 0] rfl kr (fun cx => ?_)
                  refine AT.to ⟨82, 0, [sB 37 (!r9), sB 36 (!r9), sB 35 r9, sI 34 v8.Id, sA 33 6 3 0, sI 5 y2, sA 6 6 3 0, sV 32 (Vrow.row v8), (31, .fad ((Vrow.row v8))), sI 30 y2, sB 29 (decide (y2 < (x0.Rows.length : Int))), sI 28 y2, sI 27 (x0.Rows.length : Int), sC 26 (cF 3 x0.Rows Vrow.row), sB 4 false, sA 2 2 2 0, sI 1 x1], [(6, (Vrow.row v8)), (2, (CV.frzRow (Vtab.row x0)))]⟩ kr ?_
                  rw [h7]
                  refine AT.runU tOk [(5, []), (6, []), (7, [])] 28 [⟨[2, 24, 25], 3, 33, 34⟩] [7, 6, 5, 4, 3, 2, 1, 0] rfl kr (fun cx => ?_)
                  refine AT.to ⟨82, 0, [sB 40 (decide (y2 > 0)), sB 39 (decide (y2 > 0)), sI 38 y2, sB 37 false, sB 36 false, sB 35 r9, sI 34 v8.Id, sA 33 6 3 0, sI 5 y2, sA 6 6 3 0, sV 32 (Vrow.row v8), (31, .fad ((Vrow.row v8))), sI 30 y2, sB 29 (decide (y2 < (x0.Rows.length : Int))), sI 28 y2, sI 27 (x0.Rows.length : Int), sC 26 (cF 3 x0.Rows Vrow.row), sB 4 false, sA 2 2 2 0, sI 1 x1], [(6, (Vrow.row v8)), (2, (CV.frzRow (Vtab.row x0)))]⟩ kr ?_
                  rw [h8]
                  refine AT.runU tOk [(8, []), (9, []), (10, []), (11, []), (12, []), (13, []), (14, []), (15, []), (16, []), (17, []), (18, []), (19, []), (20, []), (21, []), (22, [25]), (23, [])] 12 [⟨[25], 3, 54, 55⟩, ⟨[2, 24, 25], 3, 33, 34⟩] [23, 22, 21, 20, 19, 18, 17, 16, 15, 14, 13, 12, 11, 10, 9, 8, 7, 6, 5, 4, 3, 2, 1, 0] rfl kr (fun cx => ?_)
                  refine AT.big1 tOk 24 kr kr ?_
                  refine LAt.callV tOk [.rd] [] (impl_allPorts n x1 r10 er10) kr kr kr kr (.inl rfl) ?_
                  refine LAt.fin kr (And.intro (And.intro kr kr) ?_)
                  refine AT.big1 tOk 25 kr kr ?_
                  refine LAt.callV tOk [.rd, .rd, .rd] [] (impl_in n v8.Members 0 r10 r11 er11) kr kr kr kr (.inl rfl) ?_
                  refine LAt.fin kr (And.intro (And.intro kr kr) ?_)
                  refine AT.runU tOk [(26, []), (27, []), (28, [])] 7 [⟨[25], 3, 54, 55⟩, ⟨[2, 24, 25], 3, 33, 34⟩] [28, 27, 26, 25, 24, 23, 22, 21, 20, 19, 18, 17, 16, 15, 14, 13, 12, 11, 10, 9, 8, 7, 6, 5, 4, 3, 2, 1, 0] rfl kr (fun cx => ?_)
                  refine AT.to ⟨82, 0, [sB 61 (!r11), sB 60 (!r11), sB 59 (!r11), sB 58 r11, sI 57 r10, sI 56 x1, sI 55 v8.Members, sA 54 6 3 1, sB 53 false, sB 52 false, sB 51 false, (50, .tup []), (49, .tup []), (48, .tup []), (47, .tup []), (46, .tup []), (45, .tup []), (44, .tup []), (43, .tup []), (42, .tup []), (41, .tup []), sB 40 false, sB 39 false, sI 38 y2, sB 37 false, sB 36 false, sB 35 r9, sI 34 v8.Id, sA 33 6 3 0, sI 5 y2, sA 6 6 3 0, sV 32 (Vrow.row v8), (31, .fad ((Vrow.row v8))), sI 30 y2, sB 29 (decide (y2 < (x0.Rows.length : Int))), sI 28 y2, sI 27 (x0.Rows.length : Int), sC 26 (cF 3 x0.Rows Vrow.row), sB 4 false, sA 2 2 2 0, sI 1 x1], [(6, (Vrow.row v8)), (2, (CV.frzRow (Vtab.row x0)))]⟩ kr ?_
                  rw [h9]
                  refine AT.runU tOk [(29, []), (30, []), (31, []), (32, []), (33, []), (34, []), (35, [])] 0 [⟨[], 3, 64, 65⟩, ⟨[], 3, 62, 63⟩, ⟨[25], 3, 54, 55⟩, ⟨[2, 24, 25], 3, 33, 34⟩] [35, 34, 33, 32, 31, 30, 29, 28, 27, 26, 25, 24, 23, 22, 21, 20, 19, 18, 17, 16, 15, 14, 13, 12, 11, 10, 9, 8, 7, 6, 5, 4, 3, 2, 1, 0] rfl kr (fun cx => ?_)
                  exact AT.done [68, 67, 66, 65, 64, 63, 62, 61, 60, 59, 58, 57, 56, 55, 54, 53, 52, 51, 50, 49, 48, 47, 46, 45, 44, 43, 42, 41, 40, 39, 38, 37, 36, 35, 34, 33, 5, 6, 32, 31, 30, 29, 28, 27, 26, 4, 2, 1] [6, 2] _ kr kr rfl
                refine Tr.to ⟨82, 0, [sB 68 ((IntKind.wrap .i64 (BitVec.ofInt (IntKind.bits .i64) v8.Bare &&& ~~~BitVec.ofInt (IntKind.bits .i64) v8.Members).toNat) != 0), sB 67 ((IntKind.wrap .i64 (BitVec.ofInt (IntKind.bits .i64) v8.Bare &&& ~~~BitVec.ofInt (IntKind.bits .i64) v8.Members).toNat) != 0), sI 66 (IntKind.wrap .i64 (BitVec.ofInt (IntKind.bits .i64) v8.Bare &&& ~~~BitVec.ofInt (IntKind.bits .i64) v8.Members).toNat), sI 65 v8.Members, sA 64 6 3 1, sI 63 v8.Bare, sA 62 6 3 2, sB 61 false, sB 60 false, sB 59 false, sB 58 r11, sI 57 r10, sI 56 x1, sI 55 v8.Members, sA 54 6 3 1, sB 53 false, sB 52 false, sB 51 false, (50, .tup []), (49, .tup []), (48, .tup []), (47, .tup []), (46, .tup []), (45, .tup []), (44, .tup []), (43, .tup []), (42, .tup []), (41, .tup []), sB 40 false, sB 39 false, sI 38 y2, sB 37 false, sB 36 false, sB 35 r9, sI 34 v8.Id, sA 33 6 3 0, sI 5 y2, sA 6 6 3 0, sV 32 (Vrow.row v8), (31, .fad ((Vrow.row v8))), sI 30 y2, sB 29 (decide (y2 < (x0.Rows.length : Int))), sI 28 y2, sI 27 (x0.Rows.length : Int), sC 26 (cF 3 x0.Rows Vrow.row), sB 4 false, sA 2 2 2 0, sI 1 x1], [(6, (Vrow.row v8)), (2, (CV.frzRow (Vtab.row x0)))]⟩ kr ?_
                cases h10 : ((IntKind.wrap .i64 (BitVec.ofInt (IntKind.bits .i64) v8.Bare &&& ~~~BitVec.ofInt (IntKind.bits .i64) v8.Members).toNat) != 0)
                · have H := bifF h10 H
                  refine Tr.cf kr ?_
                  refine Tr.skip ?_
                  show Tr _ _ _ _ _
                  refine Tr.rgE tOk 2 1180591620717344194678 68 kr kr ?_
                  exact Exists.intro (mo7, (IntKind.wrap .i64 (y2 + 1))) (And.intro H (And.intro (Nat.lt_succ_self mo7) (St.sub_of [28, 27, 26, 4, 2, 1] [2] kr)))
                have H := bifT h10 H
                refine Tr.ct kr ?_
                refine Tr.rgn tOk 1 590295810358638542966 68 kr kr ?_
                refine Tr.ret ?_
                have H := Option.some.inj H
                subst H
                have H := Ho7
                dsimp only at H
                have H := Option.some.inj H
                subst H
                exact Fin.of _ [(false, [cB false])] kr rfl rfl
              have H := bifT h9 H
              refine Tr.draws mixed 36 kr ⟨82, 0, [sB 68 true, (67, .tup []), (66, .tup []), (65, .tup []), (64, .tup []), (63, .tup []), (62, .tup []), sB 61 true, sB 60 true, sB 59 true, sB 58 r11, sI 57 r10, sI 56 x1, sI 55 v8.Members, sA 54 6 3 1, sB 53 false, sB 52 false, sB 51 false, (50, .tup []), (49, .tup []), (48, .tup []), (47, .tup []), (46, .tup []), (45, .tup []), (44, .tup []), (43, .tup []), (42, .tup []), (41, .tup []), sB 40 false, sB 39 false, sI 38 y2, sB 37 false, sB 36 false, sB 35 r9, sI 34 v8.Id, sA 33 6 3 0, sI 5 y2, sA 6 6 3 0, sV 32 (Vrow.row v8), (31, .fad ((Vrow.row v8))), sI 30 y2, sB 29 (decide (y2 < (x0.Rows.length : Int))), sI 28 y2, sI 27 (x0.Rows.length : Int), sC 26 (cF 3 x0.Rows Vrow.row), sB 4 false, sA 2 2 2 0, sI 1 x1], [(6, (Vrow.row v8)), (2, (CV.frzRow (Vtab.row x0)))]⟩ (fun cx => ?_) ?_
              · refine AT.runU tOk [(0, []), (1, [2, 24, 25])] 34 [⟨[2, 24, 25], 3, 33, 34⟩] [1, 0] rfl kr (fun cx => ?_)
                refine AT.big1 tOk 2 kr kr ?_
                refine LAt.callV tOk [.rd, .rd, .rd] [] (impl_in n v8.Id 1 99 r9 er9) kr kr kr kr (.inl rfl) ?_
                refine LAt.fin kr (And.intro (And.intro kr kr) ?_)
                refine AT.runU tOk [(3, []), (4, [])] 31 [⟨[2, 24, 25], 3, 33, 34⟩] [4, 3, 2, 1, 0] rfl kr (fun cx => ?_)
                refine AT.to ⟨82, 0, [sB 37 (!r9), sB 36 (!r9), sB 35 r9, sI 34 v8.Id, sA 33 6 3 0, sI 5 y2, sA 6 6 3 0, sV 32 (Vrow.row v8), (31, .fad ((Vrow.row v8))), sI 30 y2, sB 29 (decide (y2 < (x0.Rows.length : Int))), sI 28 y2, sI 27 (x0.Rows.length : Int), sC 26 (cF 3 x0.Rows Vrow.row), sB 4 false, sA 2 2 2 0, sI 1 x1], [(6, (Vrow.row v8)), (2, (CV.frzRow (Vtab.row x0)))]⟩ kr ?_
                rw [h7]
                refine AT.runU tOk [(5, []), (6, []), (7, [])] 28 [⟨[2, 24, 25], 3, 33, 34⟩] [7, 6, 5, 4, 3, 2, 1, 0] rfl kr (fun cx => ?_)
                refine AT.to ⟨82, 0, [sB 40 (decide (y2 > 0)), sB 39 (decide (y2 > 0)), sI 38 y2, sB 37 false, sB 36 false, sB 35 r9, sI 34 v8.Id, sA 33 6 3 0, sI 5 y2, sA 6 6 3 0, sV 32 (Vrow.row v8), (31, .fad ((Vrow.row v8))), sI 30 y2, sB 29 (decide (y2 < (x0.Rows.length : Int))), sI 28 y2, sI 27 (x0.Rows.length : Int), sC 26 (cF 3 x0.Rows Vrow.row), sB 4 false, sA 2 2 2 0, sI 1 x1], [(6, (Vrow.row v8)), (2, (CV.frzRow (Vtab.row x0)))]⟩ kr ?_
                rw [h8]
                refine AT.runU tOk [(8, []), (9, []), (10, []), (11, []), (12, []), (13, []), (14, []), (15, []), (16, []), (17, []), (18, []), (19, []), (20, []), (21, []), (22, [25]), (23, [])] 12 [⟨[25], 3, 54, 55⟩, ⟨[2, 24, 25], 3, 33, 34⟩] [23, 22, 21, 20, 19, 18, 17, 16, 15, 14, 13, 12, 11, 10, 9, 8, 7, 6, 5, 4, 3, 2, 1, 0] rfl kr (fun cx => ?_)
                refine AT.big1 tOk 24 kr kr ?_
                refine LAt.callV tOk [.rd] [] (impl_allPorts n x1 r10 er10) kr kr kr kr (.inl rfl) ?_
                refine LAt.fin kr (And.intro (And.intro kr kr) ?_)
                refine AT.big1 tOk 25 kr kr ?_
                refine LAt.callV tOk [.rd, .rd, .rd] [] (impl_in n v8.Members 0 r10 r11 er11) kr kr kr kr (.inl rfl) ?_
                refine LAt.fin kr (And.intro (And.intro kr kr) ?_)
                refine AT.runU tOk [(26, []), (27, []), (28, [])] 7 [⟨[25], 3, 54, 55⟩, ⟨[2, 24, 25], 3, 33, 34⟩] [28, 27, 26, 25, 24, 23, 22, 21, 20, 19, 18, 17, 16, 15, 14, 13, 12, 11, 10, 9, 8, 7, 6, 5, 4, 3, 2, 1, 0] rfl kr (fun cx => ?_)
                refine AT.to ⟨82, 0, [sB 61 (!r11), sB 60 (!r11), sB 59 (!r11), sB 58 r11, sI 57 r10, sI 56 x1, sI 55 v8.Members, sA 54 6 3 1, sB 53 false, sB 52 false, sB 51 false, (50, .tup []), (49, .tup []), (48, .tup []), (47, .tup []), (46, .tup []), (45, .tup []), (44, .tup []), (43, .tup []), (42, .tup []), (41, .tup []), sB 40 false, sB 39 false, sI 38 y2, sB 37 false, sB 36 false, sB 35 r9, sI 34 v8.Id, sA 33 6 3 0, sI 5 y2, sA 6 6 3 0, sV 32 (Vrow.row v8), (31, .fad ((Vrow.row v8))), sI 30 y2, sB 29 (decide (y2 < (x0.Rows.length : Int))), sI 28 y2, sI 27 (x0.Rows.length : Int), sC 26 (cF 3 x0.Rows Vrow.row), sB 4 false, sA 2 2 2 0, sI 1 x1], [(6, (Vrow.row v8)), (2, (CV.frzRow (Vtab.row x0)))]⟩ kr ?_
                rw [h9]
                refine AT.runU tOk [(29, []), (30, []), (31, []), (32, []), (33, []), (34, []), (35, [])] 0 [⟨[25], 3, 54, 55⟩, ⟨[2, 24, 25], 3, 33, 34⟩] [35, 34, 33, 32, 31, 30, 29, 28, 27, 26, 25, 24, 23, 22, 21, 20, 19, 18, 17, 16, 15, 14, 13, 12, 11, 10, 9, 8, 7, 6, 5, 4, 3, 2, 1, 0] rfl kr (fun cx => ?_)
                exact AT.done [68, 67, 66, 65, 64, 63, 62, 61, 60, 59, 58, 57, 56, 55, 54, 53, 52, 51, 50, 49, 48, 47, 46, 45, 44, 43, 42, 41, 40, 39, 38, 37, 36, 35, 34, 33, 5, 6, 32, 31, 30, 29, 28, 27, 26, 4, 2, 1] [6, 2] _ kr kr rfl
              refine Tr.ct kr ?_
              refine Tr.rgn tOk 1 590295810358638542966 68 kr kr ?_
              refine Tr.ret ?_
              have H := Option.some.inj H
              subst H
              have H := Ho7
              dsimp only at H
              have H := Option.some.inj H
              subst H
              exact Fin.of _ [(false, [cB false])] kr rfl rfl
            have H := bifT h8 H
            obtain ⟨v12, ev12, H⟩ := bind_some H
            refine Tr.to ⟨82, 0, [sI 5 y2, sA 6 6 3 0, sV 32 (Vrow.row v8), (31, .fad ((Vrow.row v8))), sI 30 y2, sB 29 (decide (y2 < (x0.Rows.length : Int))), sI 28 y2, sI 27 (x0.Rows.length : Int), sC 26 (cF 3 x0.Rows Vrow.row), sB 4 false, sA 2 2 2 0, sI 1 x1], [(6, (Vrow.row v8)), (2, (CV.frzRow (Vtab.row x0)))]⟩ kr ?_
            cases h11 : (decide (v12.Id ≥ v8.Id))
            · have H := bifF h11 H
              obtain ⟨r13, er13, H⟩ := bind_some H
              obtain ⟨r14, er14, H⟩ := bind_some H
              refine Tr.to ⟨82, 0, [sI 5 y2, sA 6 6 3 0, sV 32 (Vrow.row v8), (31, .fad ((Vrow.row v8))), sI 30 y2, sB 29 (decide (y2 < (x0.Rows.length : Int))), sI 28 y2, sI 27 (x0.Rows.length : Int), sC 26 (cF 3 x0.Rows Vrow.row), sB 4 false, sA 2 2 2 0, sI 1 x1], [(6, (Vrow.row v8)), (2, (CV.frzRow (Vtab.row x0)))]⟩ kr ?_
              cases h12 : (!r14)
              · have H := bifF h12 H
                refine Tr.draws mixed 36 kr ⟨82, 0, [sB 68 ((IntKind.wrap .i64 (BitVec.ofInt (IntKind.bits .i64) v8.Bare &&& ~~~BitVec.ofInt (IntKind.bits .i64) v8.Members).toNat) != 0), sB 67 ((IntKind.wrap .i64 (BitVec.ofInt (IntKind.bits .i64) v8.Bare &&& ~~~BitVec.ofInt (IntKind.bits .i64) v8.Members).toNat) != 0), sI 66 (IntKind.wrap .i64 (BitVec.ofInt (IntKind.bits .i64) v8.Bare &&& ~~~BitVec.ofInt (IntKind.bits .i64) v8.Members).toNat), sI 65 v8.Members, sA 64 6 3 1, sI 63 v8.Bare, sA 62 6 3 2, sB 61 false, sB 60 false, sB 59 false, sB 58 r14, sI 57 r13, sI 56 x1, sI 55 v8.Members, sA 54 6 3 1, sB 53 false, sB 52 false, sB 51 false, sB 50 false, sI 49 v8.Id, sA 48 6 3 0, sI 47 v12.Id, (46, .fad ((Vrow.row v12))), (45, .fad ((Vrow.row v12))), sI 44 (IntKind.wrap .i64 (y2 - 1)), sI 43 y2, sR 42 2 2 0 1 false, sA 41 2 2 0, sB 40 true, sB 39 true, sI 38 y2, sB 37 false, sB 36 false, sB 35 r9, sI 34 v8.Id, sA 33 6 3 0, sI 5 y2, sA 6 6 3 0, sV 32 (Vrow.row v8), (31, .fad ((Vrow.row v8))), sI 30 y2, sB 29 (decide (y2 < (x0.Rows.length : Int))), sI 28 y2, sI 27 (x0.Rows.length : Int), sC 26 (cF 3 x0.Rows Vrow.row), sB 4 false, sA 2 2 2 0, sI 1 x1], [(6, (Vrow.row v8)), (2, (CV.frzRow (Vtab.row x0)))]⟩ (fun cx => ?_) ?_
                · refine AT.runU tOk [(0, []), (1, [2, 24, 25])] 34 [⟨[2, 24, 25], 3, 33, 34⟩] [1, 0] rfl kr (fun cx => ?_)
                  refine AT.big1 tOk 2 kr kr ?_
                  refine LAt.callV tOk [.rd, .rd, .rd] [] (impl_in n v8.Id 1 99 r9 er9) kr kr kr kr (.inl rfl) ?_
                  refine LAt.fin kr (And.intro (And.intro kr kr) ?_)
                  refine AT.runU tOk [(3, []), (4, [])] 31 [⟨[2, 24, 25], 3, 33, 34⟩] [4, 3, 2, 1, 0] rfl kr (fun cx => ?_)
                  refine AT.to ⟨82, 0, [sB 37 (!r9), sB 36 (!r9), sB 35 r9, sI 34 v8.Id, sA 33 6 3 0, sI 5 y2, sA 6 6 3 0, sV 32 (Vrow.row v8), (31, .fad ((Vrow.row v8))), sI 30 y2, sB 29 (decide (y2 < (x0.Rows.length : Int))), sI 28 y2, sI 27 (x0.Rows.length : Int), sC 26 (cF 3 x0.Rows Vrow.row), sB 4 false, sA 2 2 2 0, sI 1 x1], [(6, (Vrow.row v8)), (2, (CV.frzRow (Vtab.row x0)))]⟩ kr ?_
                  rw [h7]
                  refine AT.runU tOk [(5, []), (6, []), (7, [])] 28 [⟨[2, 24, 25], 3, 33, 34⟩] [7, 6, 5, 4, 3, 2, 1, 0] rfl kr (fun cx => ?_)
                  refine AT.to ⟨82, 0, [sB 40 (decide (y2 > 0)), sB 39 (decide (y2 > 0)), sI 38 y2, sB 37 false, sB 36 false, sB 35 r9, sI 34 v8.Id, sA 33 6 3 0, sI 5 y2, sA 6 6 3 0, sV 32 (Vrow.row v8), (31, .fad ((Vrow.row v8))), sI 30 y2, sB 29 (decide (y2 < (x0.Rows.length : Int))), sI 28 y2, sI 27 (x0.Rows.length : Int), sC 26 (cF 3 x0.Rows Vrow.row), sB 4 false, sA 2 2 2 0, sI 1 x1], [(6, (Vrow.row v8)), (2, (CV.frzRow (Vtab.row x0)))]⟩ kr ?_
                  rw [h8]
                  refine AT.runU tOk [(8, []), (9, [24, 25]), (10, []), (11, [])] 24 [⟨[24, 25], 57, 41, 42⟩, ⟨[2, 24, 25], 3, 33, 34⟩] [11, 10, 9, 8, 7, 6, 5, 4, 3, 2, 1, 0] rfl kr (fun cx => ?_)
                  refine AT.indexF tOk 12 (t := 57) (ty := 0) (x := (.tmp 42)) (y := (.tmp 44)) (d := 45) (g := (some (7, true))) ⟨(.box 2), [(0, 0)], 0, false, 3, (CV.frzEs (x0.Rows.map Vrow.row))⟩ (IntKind.wrap .i64 (y2 - 1)) (Vrow.row v12) _ kr kr kr kr kr kr rfl (idx_isF ev12) rfl (fun cx => ?_)
                  refine AT.runU tOk [(13, []), (14, []), (15, []), (16, [24, 25]), (17, []), (18, []), (19, []), (20, [])] 15 [⟨[24, 25], 3, 48, 49⟩, ⟨[24, 25], 57, 41, 42⟩, ⟨[2, 24, 25], 3, 33, 34⟩] [20, 19, 18, 17, 16, 15, 14, 13, 12, 11, 10, 9, 8, 7, 6, 5, 4, 3, 2, 1, 0] rfl kr (fun cx => ?_)
                  refine AT.to ⟨82, 0, [sB 53 (decide (v12.Id ≥ v8.Id)), sB 52 (decide (v12.Id ≥ v8.Id)), sB 51 (decide (v12.Id ≥ v8.Id)), sB 50 (decide (v12.Id ≥ v8.Id)), sI 49 v8.Id, sA 48 6 3 0, sI 47 v12.Id, (46, .fad ((Vrow.row v12))), (45, .fad ((Vrow.row v12))), sI 44 (IntKind.wrap .i64 (y2 - 1)), sI 43 y2, sR 42 2 2 0 1 false, sA 41 2 2 0, sB 40 true, sB 39 true, sI 38 y2, sB 37 false, sB 36 false, sB 35 r9, sI 34 v8.Id, sA 33 6 3 0, sI 5 y2, sA 6 6 3 0, sV 32 (Vrow.row v8), (31, .fad ((Vrow.row v8))), sI 30 y2, sB 29 (decide (y2 < (x0.Rows.length : Int))), sI 28 y2, sI 27 (x0.Rows.length : Int), sC 26 (cF 3 x0.Rows Vrow.row), sB 4 false, sA 2 2 2 0, sI 1 x1], [(6, (Vrow.row v8)), (2, (CV.frzRow (Vtab.row x0)))]⟩ kr ?_
                  rw [h11]
                  refine AT.runU tOk [(21, []), (22, [25]), (23, [])] 12 [⟨[25], 3, 54, 55⟩, ⟨[24, 25], 3, 48, 49⟩, ⟨[24, 25], 57, 41, 42⟩, ⟨[2, 24, 25], 3, 33, 34⟩] [23, 22, 21, 20, 19, 18, 17, 16, 15, 14, 13, 12, 11, 10, 9, 8, 7, 6, 5, 4, 3, 2, 1, 0] rfl kr (fun cx => ?_)
                  refine AT.big1 tOk 24 kr kr ?_
                  refine LAt.callV tOk [.rd] [] (impl_allPorts n x1 r13 er13) kr kr kr kr (.inl rfl) ?_
                  refine LAt.fin kr (And.intro (And.intro kr kr) ?_)
                  refine AT.big1 tOk 25 kr kr ?_
                  refine LAt.callV tOk [.rd, .rd, .rd] [] (impl_in n v8.Members 0 r13 r14 er14) kr kr kr kr (.inl rfl) ?_
                  refine LAt.fin kr (And.intro (And.intro kr kr) ?_)
                  refine AT.runU tOk [(26, []), (27, []), (28, [])] 7 [⟨[25], 3, 54, 55⟩, ⟨[24, 25], 3, 48, 49⟩, ⟨[24, 25], 57, 41, 42⟩, ⟨[2, 24, 25], 3, 33, 34⟩] [28, 27, 26, 25, 24, 23, 22, 21, 20, 19, 18, 17, 16, 15, 14, 13, 12, 11, 10, 9, 8, 7, 6, 5, 4, 3, 2, 1, 0] rfl kr (fun cx => ?_)
                  refine AT.to ⟨82, 0, [sB 61 (!r14), sB 60 (!r14), sB 59 (!r14), sB 58 r14, sI 57 r13, sI 56 x1, sI 55 v8.Members, sA 54 6 3 1, sB 53 false, sB 52 false, sB 51 false, sB 50 false, sI 49 v8.Id, sA 48 6 3 0, sI 47 v12.Id, (46, .fad ((Vrow.row v12))), (45, .fad ((Vrow.row v12))), sI 44 (IntKind.wrap .i64 (y2 - 1)), sI 43 y2, sR 42 2 2 0 1 false, sA 41 2 2 0, sB 40 true, sB 39 true, sI 38 y2, sB 37 false, sB 36 false, sB 35 r9, sI 34 v8.Id, sA 33 6 3 0, sI 5 y2, sA 6 6 3 0, sV 32 (Vrow.row v8), (31, .fad ((Vrow.row v8))), sI 30 y2, sB 29 (decide (y2 < (x0.Rows.length : Int))), sI 28 y2, sI 27 (x0.Rows.length : Int), sC 26 (cF 3 x0.Rows Vrow.row), sB 4 false, sA 2 2 2 0, sI 1 x1], [(6, (Vrow.row v8)), (2, (CV.frzRow (Vtab.row x0)))]⟩ kr ?_
                  rw [h12]
                  refine AT.runU tOk [(29, []), (30, []), (31, []), (32, []), (33, []), (34, []), (35, [])] 0 [⟨[], 3, 64, 65⟩, ⟨[], 3, 62, 63⟩, ⟨[25], 3, 54, 55⟩, ⟨[24, 25], 3, 48, 49⟩, ⟨[24, 25], 57, 41, 42⟩, ⟨[2, 24, 25], 3, 33, 34⟩] [35, 34, 33, 32, 31, 30, 29, 28, 27, 26, 25, 24, 23, 22, 21, 20, 19, 18, 17, 16, 15, 14, 13, 12, 11, 10, 9, 8, 7, 6, 5, 4, 3, 2, 1, 0] rfl kr (fun cx => ?_)
                  exact AT.done [68, 67, 66, 65, 64, 63, 62, 61, 60, 59, 58, 57, 56, 55, 54, 53, 52, 51, 50, 49, 48, 47, 46, 45, 44, 43, 42, 41, 40, 39, 38, 37, 36, 35, 34, 33, 5, 6, 32, 31, 30, 29, 28, 27, 26, 4, 2, 1] [6, 2] _ kr kr rfl
                refine Tr.to ⟨82, 0, [sB 68 ((IntKind.wrap .i64 (BitVec.ofInt (IntKind.bits .i64) v8.Bare &&& ~~~BitVec.ofInt (IntKind.bits .i64) v8.Members).toNat) != 0), sB 67 ((IntKind.wrap .i64 (BitVec.ofInt (IntKind.bits .i64) v8.Bare &&& ~~~BitVec.ofInt (IntKind.bits .i64) v8.Members).toNat) != 0), sI 66 (IntKind.wrap .i64 (BitVec.ofInt (IntKind.bits .i64) v8.Bare &&& ~~~BitVec.ofInt (IntKind.bits .i64) v8.Members).toNat), sI 65 v8.Members, sA 64 6 3 1, sI 63 v8.Bare, sA 62 6 3 2, sB 61 false, sB 60 false, sB 59 false, sB 58 r14, sI 57 r13, sI 56 x1, sI 55 v8.Members, sA 54 6 3 1, sB 53 false, sB 52 false, sB 51 false, sB 50 false, sI 49 v8.Id, sA 48 6 3 0, sI 47 v12.Id, (46, .fad ((Vrow.row v12))), (45, .fad ((Vrow.row v12))), sI 44 (IntKind.wrap .i64 (y2 - 1)), sI 43 y2, sR 42 2 2 0 1 false, sA 41 2 2 0, sB 40 true, sB 39 true, sI 38 y2, sB 37 false, sB 36 false, sB 35 r9, sI 34 v8.Id, sA 33 6 3 0, sI 5 y2, sA 6 6 3 0, sV 32 (Vrow.row v8), (31, .fad ((Vrow.row v8))), sI 30 y2, sB 29 (decide (y2 < (x0.Rows.length : Int))), sI 28 y2, sI 27 (x0.Rows.length : Int), sC 26 (cF 3 x0.Rows Vrow.row), sB 4 false, sA 2 2 2 0, sI 1 x1], [(6, (Vrow.row v8)), (2, (CV.frzRow (Vtab.row x0)))]⟩ kr ?_
                cases h13 : ((IntKind.wrap .i64 (BitVec.ofInt (IntKind.bits .i64) v8.Bare &&& ~~~BitVec.ofInt (IntKind.bits .i64) v8.Members).toNat) != 0)
                · have H := bifF h13 H
                  refine Tr.cf kr ?_
                  refine Tr.skip ?_
                  show Tr _ _ _ _ _
                  refine Tr.rgE tOk 2 1180591620717344194678 68 kr kr ?_
                  exact Exists.intro (mo7, (IntKind.wrap .i64 (y2 + 1))) (And.intro H (And.intro (Nat.lt_succ_self mo7) (St.sub_of [28, 27, 26, 4, 2, 1] [2] kr)))
                have H := bifT h13 H
                refine Tr.ct kr ?_
                refine Tr.rgn tOk 1 590295810358638542966 68 kr kr ?_
                refine Tr.ret ?_
                have H := Option.some.inj H
                subst H
                have H := Ho7
                dsimp only at H
                have H := Option.some.inj H
                subst H
                exact Fin.of _ [(false, [cB false])] kr rfl rfl
              have H := bifT h12 H
              refine Tr.draws mixed 36 kr ⟨82, 0, [sB 68 true, (67, .tup []), (66, .tup []), (65, .tup []), (64, .tup []), (63, .tup []), (62, .tup []), sB 61 true, sB 60 true, sB 59 true, sB 58 r14, sI 57 r13, sI 56 x1, sI 55 v8.Members, sA 54 6 3 1, sB 53 false, sB 52 false, sB 51 false, sB 50 false, sI 49 v8.Id, sA 48 6 3 0, sI 47 v12.Id, (46, .fad ((Vrow.row v12))), (45, .fad ((Vrow.row v12))), sI 44 (IntKind.wrap .i64 (y2 - 1)), sI 43 y2, sR 42 2 2 0 1 false, sA 41 2 2 0, sB 40 true, sB 39 true, sI 38 y2, sB 37 false, sB 36 false, sB 35 r9, sI 34 v8.Id, sA 33 6 3 0, sI 5 y2, sA 6 6 3 0, sV 32 (Vrow.row v8), (31, .fad ((Vrow.row v8))), sI 30 y2, sB 29 (decide (y2 < (x0.Rows.length : Int))), sI 28 y2, sI 27 (x0.Rows.length : Int), sC 26 (cF 3 x0.Rows Vrow.row), sB 4 false, sA 2 2 2 0, sI 1 x1], [(6, (Vrow.row v8)), (2, (CV.frzRow (Vtab.row x0)))]⟩ (fun cx => ?_) ?_
              · refine AT.runU tOk [(0, []), (1, [2, 24, 25])] 34 [⟨[2, 24, 25], 3, 33, 34⟩] [1, 0] rfl kr (fun cx => ?_)
                refine AT.big1 tOk 2 kr kr ?_
                refine LAt.callV tOk [.rd, .rd, .rd] [] (impl_in n v8.Id 1 99 r9 er9) kr kr kr kr (.inl rfl) ?_
                refine LAt.fin kr (And.intro (And.intro kr kr) ?_)
                refine AT.runU tOk [(3, []), (4, [])] 31 [⟨[2, 24, 25], 3, 33, 34⟩] [4, 3, 2, 1, 0] rfl kr (fun cx => ?_)
                refine AT.to ⟨82, 0, [sB 37 (!r9), sB 36 (!r9), sB 35 r9, sI 34 v8.Id, sA 33 6 3 0, sI 5 y2, sA 6 6 3 0, sV 32 (Vrow.row v8), (31, .fad ((Vrow.row v8))), sI 30 y2, sB 29 (decide (y2 < (x0.Rows.length : Int))), sI 28 y2, sI 27 (x0.Rows.length : Int), sC 26 (cF 3 x0.Rows Vrow.row), sB 4 false, sA 2 2 2 0, sI 1 x1], [(6, (Vrow.row v8)), (2, (CV.frzRow (Vtab.row x0)))]⟩ kr ?_
                rw [h7]
                refine AT.runU tOk [(5, []), (6, []), (7, [])] 28 [⟨[2, 24, 25], 3, 33, 34⟩] [7, 6, 5, 4, 3, 2, 1, 0] rfl kr (fun cx => ?_)
                refine AT.to ⟨82, 0, [sB 40 (decide (y2 > 0)), sB 39 (decide (y2 > 0)), sI 38 y2, sB 37 false, sB 36 false, sB 35 r9, sI 34 v8.Id, sA 33 6 3 0, sI 5 y2, sA 6 6 3 0, sV 32 (Vrow.row v8), (31, .fad ((Vrow.row v8))), sI 30 y2, sB 29 (decide (y2 < (x0.Rows.length : Int))), sI 28 y2, sI 27 (x0.Rows.length : Int), sC 26 (cF 3 x0.Rows Vrow.row), sB 4 false, sA 2 2 2 0, sI 1 x1], [(6, (Vrow.row v8)), (2, (CV.frzRow (Vtab.row x0)))]⟩ kr ?_
                rw [h8]
                refine AT.runU tOk [(8, []), (9, [24, 25]), (10, []), (11, [])] 24 [⟨[24, 25], 57, 41, 42⟩, ⟨[2, 24, 25], 3, 33, 34⟩] [11, 10, 9, 8, 7, 6, 5, 4, 3, 2, 1, 0] rfl kr (fun cx => ?_)
                refine AT.indexF tOk 12 (t := 57) (ty := 0) (x := (.tmp 42)) (y := (.tmp 44)) (d := 45) (g := (some (7, true))) ⟨(.box 2), [(0, 0)], 0, false, 3, (CV.frzEs (x0.Rows.map Vrow.row))⟩ (IntKind.wrap .i64 (y2 - 1)) (Vrow.row v12) _ kr kr kr kr kr kr rfl (idx_isF ev12) rfl (fun cx => ?_)
                refine AT.runU tOk [(13, []), (14, []), (15, []), (16, [24, 25]), (17, []), (18, []), (19, []), (20, [])] 15 [⟨[24, 25], 3, 48, 49⟩, ⟨[24, 25], 57, 41, 42⟩, ⟨[2, 24, 25], 3, 33, 34⟩] [20, 19, 18, 17, 16, 15, 14, 13, 12, 11, 10, 9, 8, 7, 6, 5, 4, 3, 2, 1, 0] rfl kr (fun cx => ?_)
                refine AT.to ⟨82, 0, [sB 53 (decide (v12.Id ≥ v8.Id)), sB 52 (decide (v12.Id ≥ v8.Id)), sB 51 (decide (v12.Id ≥ v8.Id)), sB 50 (decide (v12.Id ≥ v8.Id)), sI 49 v8.Id, sA 48 6 3 0, sI 47 v12.Id, (46, .fad ((Vrow.row v12))), (45, .fad ((Vrow.row v12))), sI 44 (IntKind.wrap .i64 (y2 - 1)), sI 43 y2, sR 42 2 2 0 1 false, sA 41 2 2 0, sB 40 true, sB 39 true, sI 38 y2, sB 37 false, sB 36 false, sB 35 r9, sI 34 v8.Id, sA 33 6 3 0, sI 5 y2, sA 6 6 3 0, sV 32 (Vrow.row v8), (31, .fad ((Vrow.row v8))), sI 30 y2, sB 29 (decide (y2 < (x0.Rows.length : Int))), sI 28 y2, sI 27 (x0.Rows.length : Int), sC 26 (cF 3 x0.Rows Vrow.row), sB 4 false, sA 2 2 2 0, sI 1 x1], [(6, (Vrow.row v8)), (2, (CV.frzRow (Vtab.row x0)))]⟩ kr ?_
                rw [h11]
                refine AT.runU tOk [(21, []), (22, [25]), (23, [])] 12 [⟨[25], 3, 54, 55⟩, ⟨[24, 25], 3, 48, 49⟩, ⟨[24, 25], 57, 41, 42⟩, ⟨[2, 24, 25], 3, 33, 34⟩] [23, 22, 21, 20, 19, 18, 17, 16, 15, 14, 13, 12, 11, 10, 9, 8, 7, 6, 5, 4, 3, 2, 1, 0] rfl kr (fun cx => ?_)
                refine AT.big1 tOk 24 kr kr ?_
                refine LAt.callV tOk [.rd] [] (impl_allPorts n x1 r13 er13) kr kr kr kr (.inl rfl) ?_
                refine LAt.fin kr (And.intro (And.intro kr kr) ?_)
                refine AT.big1 tOk 25 kr kr ?_
                refine LAt.callV tOk [.rd, .rd, .rd] [] (impl_in n v8.Members 0 r13 r14 er14) kr kr kr kr (.inl rfl) ?_
                refine LAt.fin kr (And.intro (And.intro kr kr) ?_)
                refine AT.runU tOk [(26, []), (27, []), (28, [])] 7 [⟨[25], 3, 54, 55⟩, ⟨[24, 25], 3, 48, 49⟩, ⟨[24, 25], 57, 41, 42⟩, ⟨[2, 24, 25], 3, 33, 34⟩] [28, 27, 26, 25, 24, 23, 22, 21, 20, 19, 18, 17, 16, 15, 14, 13, 12, 11, 10, 9, 8, 7, 6, 5, 4, 3, 2, 1, 0] rfl kr (fun cx => ?_)
                refine AT.to ⟨82, 0, [sB 61 (!r14), sB 60 (!r14), sB 59 (!r14), sB 58 r14, sI 57 r13, sI 56 x1, sI 55 v8.Members, sA 54 6 3 1, sB 53 false, sB 52 false, sB 51 false, sB 50 false, sI 49 v8.Id, sA 48 6 3 0, sI 47 v12.Id, (46, .fad ((Vrow.row v12))), (45, .fad ((Vrow.row v12))), sI 44 (IntKind.wrap .i64 (y2 - 1)), sI 43 y2, sR 42 2 2 0 1 false, sA 41 2 2 0, sB 40 true, sB 39 true, sI 38 y2, sB 37 false, sB 36 false, sB 35 r9, sI 34 v8.Id, sA 33 6 3 0, sI 5 y2, sA 6 6 3 0, sV 32 (Vrow.row v8), (31, .fad ((Vrow.row v8))), sI 30 y2, sB 29 (decide (y2 < (x0.Rows.length : Int))), sI 28 y2, sI 27 (x0.Rows.length : Int), sC 26 (cF 3 x0.Rows Vrow.row), sB 4 false, sA 2 2 2 0, sI 1 x1], [(6, (Vrow.row v8)), (2, (CV.frzRow (Vtab.row x0)))]⟩ kr ?_
                rw [h12]
                refine AT.runU tOk [(29, []), (30, []), (31, []), (32, []), (33, []), (34, []), (35, [])] 0 [⟨[25], 3, 54, 55⟩, ⟨[24, 25], 3, 48, 49⟩, ⟨[24, 25], 57, 41, 42⟩, ⟨[2, 24, 25], 3, 33, 34⟩] [35, 34, 33, 32, 31, 30, 29, 28, 27, 26, 25, 24, 23, 22, 21, 20, 19, 18, 17, 16, 15, 14, 13, 12, 11, 10, 9, 8, 7, 6, 5, 4, 3, 2, 1, 0] rfl kr (fun cx => ?_)
                exact AT.done [68, 67, 66, 65, 64, 63, 62, 61, 60, 59, 58, 57, 56, 55, 54, 53, 52, 51, 50, 49, 48, 47, 46, 45, 44, 43, 42, 41, 40, 39, 38, 37, 36, 35, 34, 33, 5, 6, 32, 31, 30, 29, 28, 27, 26, 4, 2, 1] [6, 2] _ kr kr rfl
              refine Tr.ct kr ?_
              refine Tr.rgn tOk 1 590295810358638542966 68 kr kr ?_
              refine Tr.ret ?_
              have H := Option.some.inj H
              subst H
              have H := Ho7
              dsimp only at H
              have H := Option.some.inj H
              subst H
              exact Fin.of _ [(false, [cB false])] kr rfl rfl
            have H := bifT h11 H
            refine Tr.draws mixed 36 kr ⟨82, 0, [sB 68 true, (67, .tup []), (66, .tup []), (65, .tup []), (64, .tup []), (63, .tup []), (62, .tup []), sB 61 true, sB 60 true, (59, .tup []), (58, .tup []), (57, .tup []), (56, .tup []), (55, .tup []), (54, .tup []), sB 53 true, sB 52 true, sB 51 true, sB 50 true, sI 49 v8.Id, sA 48 6 3 0, sI 47 v12.Id, (46, .fad ((Vrow.row v12))), (45, .fad ((Vrow.row v12))), sI 44 (IntKind.wrap .i64 (y2 - 1)), sI 43 y2, sR 42 2 2 0 1 false, sA 41 2 2 0, sB 40 true, sB 39 true, sI 38 y2, sB 37 false, sB 36 false, sB 35 r9, sI 34 v8.Id, sA 33 6 3 0, sI 5 y2, sA 6 6 3 0, sV 32 (Vrow.row v8), (31, .fad ((Vrow.row v8))), sI 30 y2, sB 29 (decide (y2 < (x0.Rows.length : Int))), sI 28 y2, sI 27 (x0.Rows.length : Int), sC 26 (cF 3 x0.Rows Vrow.row), sB 4 false, sA 2 2 2 0, sI 1 x1], [(6, (Vrow.row v8)), (2, (CV.frzRow (Vtab.row x0)))]⟩ (fun cx => ?_) ?_
            · refine AT.runU tOk [(0, []), (1, [2])] 34 [⟨[2], 3, 33, 34⟩] [1, 0] rfl kr (fun cx => ?_)
              refine AT.big1 tOk 2 kr kr ?_
              refine LAt.callV tOk [.rd, .rd, .rd] [] (impl_in n v8.Id 1 99 r9 er9) kr kr kr kr (.inl rfl) ?_
              refine LAt.fin kr (And.intro (And.intro kr kr) ?_)
              refine AT.runU tOk [(3, []), (4, [])] 31 [⟨[2], 3, 33, 34⟩] [4, 3, 2, 1, 0] rfl kr (fun cx => ?_)
              refine AT.to ⟨82, 0, [sB 37 (!r9), sB 36 (!r9), sB 35 r9, sI 34 v8.Id, sA 33 6 3 0, sI 5 y2, sA 6 6 3 0, sV 32 (Vrow.row v8), (31, .fad ((Vrow.row v8))), sI 30 y2, sB 29 (decide (y2 < (x0.Rows.length : Int))), sI 28 y2, sI 27 (x0.Rows.length : Int), sC 26 (cF 3 x0.Rows Vrow.row), sB 4 false, sA 2 2 2 0, sI 1 x1], [(6, (Vrow.row v8)), (2, (CV.frzRow (Vtab.row x0)))]⟩ kr ?_
              rw [h7]
              refine AT.runU tOk [(5, []), (6, []), (7, [])] 28 [⟨[2], 3, 33, 34⟩] [7, 6, 5, 4, 3, 2, 1, 0] rfl kr (fun cx => ?_)
              refine AT.to ⟨82, 0, [sB 40 (decide (y2 > 0)), sB 39 (decide (y2 > 0)), sI 38 y2, sB 37 false, sB 36 false, sB 35 r9, sI 34 v8.Id, sA 33 6 3 0, sI 5 y2, sA 6 6 3 0, sV 32 (Vrow.row v8), (31, .fad ((Vrow.row v8))), sI 30 y2, sB 29 (decide (y2 < (x0.Rows.length : Int))), sI 28 y2, sI 27 (x0.Rows.length : Int), sC 26 (cF 3 x0.Rows Vrow.row), sB 4 false, sA 2 2 2 0, sI 1 x1], [(6, (Vrow.row v8)), (2, (CV.frzRow (Vtab.row x0)))]⟩ kr ?_
              rw [h8]
              refine AT.runU tOk [(8, []), (9, []), (10, []), (11, [])] 24 [⟨[], 57, 41, 42⟩, ⟨[2], 3, 33, 34⟩] [11, 10, 9, 8, 7, 6, 5, 4, 3, 2, 1, 0] rfl kr (fun cx => ?_)
              refine AT.indexF tOk 12 (t := 57) (ty := 0) (x := (.tmp 42)) (y := (.tmp 44)) (d := 45) (g := (some (7, true))) ⟨(.box 2), [(0, 0)], 0, false, 3, (CV.frzEs (x0.Rows.map Vrow.row))⟩ (IntKind.wrap .i64 (y2 - 1)) (Vrow.row v12) _ kr kr kr kr kr kr rfl (idx_isF ev12) rfl (fun cx => ?_)
              refine AT.runU tOk [(13, []), (14, []), (15, []), (16, []), (17, []), (18, []), (19, []), (20, [])] 15 [⟨[], 3, 48, 49⟩, ⟨[], 57, 41, 42⟩, ⟨[2], 3, 33, 34⟩] [20, 19, 18, 17, 16, 15, 14, 13, 12, 11, 10, 9, 8, 7, 6, 5, 4, 3, 2, 1, 0] rfl kr (fun cx => ?_)
              refine AT.to ⟨82, 0, [sB 53 (decide (v12.Id ≥ v8.Id)), sB 52 (decide (v12.Id ≥ v8.Id)), sB 51 (decide (v12.Id ≥ v8.Id)), sB 50 (decide (v12.Id ≥ v8.Id)), sI 49 v8.Id, sA 48 6 3 0, sI 47 v12.Id, (46, .fad ((Vrow.row v12))), (45, .fad ((Vrow.row v12))), sI 44 (IntKind.wrap .i64 (y2 - 1)), sI 43 y2, sR 42 2 2 0 1 false, sA 41 2 2 0, sB 40 true, sB 39 true, sI 38 y2, sB 37 false, sB 36 false, sB 35 r9, sI 34 v8.Id, sA 33 6 3 0, sI 5 y2, sA 6 6 3 0, sV 32 (Vrow.row v8), (31, .fad ((Vrow.row v8))), sI 30 y2, sB 29 (decide (y2 < (x0.Rows.length : Int))), sI 28 y2, sI 27 (x0.Rows.length : Int), sC 26 (cF 3 x0.Rows Vrow.row), sB 4 false, sA 2 2 2 0, sI 1 x1], [(6, (Vrow.row v8)), (2, (CV.frzRow (Vtab.row x0)))]⟩ kr ?_
              rw [h11]
              refine AT.runU tOk [(21, []), (22, []), (23, []), (24, []), (25, []), (26, []), (27, []), (28, []), (29, []), (30, []), (31, []), (32, []), (33, []), (34, []), (35, [])] 0 [⟨[], 3, 48, 49⟩, ⟨[], 57, 41, 42⟩, ⟨[2], 3, 33, 34⟩] [35, 34, 33, 32, 31, 30, 29, 28, 27, 26, 25, 24, 23, 22, 21, 20, 19, 18, 17, 16, 15, 14, 13, 12, 11, 10, 9, 8, 7, 6, 5, 4, 3, 2, 1, 0] rfl kr (fun cx => ?_)
              exact AT.done [68, 67, 66, 65, 64, 63, 62, 61, 60, 59, 58, 57, 56, 55, 54, 53, 52, 51, 50, 49, 48, 47, 46, 45, 44, 43, 42, 41, 40, 39, 38, 37, 36, 35, 34, 33, 5, 6, 32, 31, 30, 29, 28, 27, 26, 4, 2, 1] [6, 2] _ kr kr rfl
            refine Tr.ct kr ?_
            refine Tr.rgn tOk 1 590295810358638542966 68 kr kr ?_
            refine Tr.ret ?_
            have H := Option.some.inj H
            subst H
            have H := Ho7
            dsimp only at H
            have H := Option.some.inj H
            subst H
            exact Fin.of _ [(false, [cB false])] kr rfl rfl
          have H := bifT h7 H
          refine Tr.draws mixed 36 kr ⟨82, 0, [sB 68 true, (67, .tup []), (66, .tup []), (65, .tup []), (64, .tup []), (63, .tup []), (62, .tup []), sB 61 true, sB 60 true, (59, .tup []), (58, .tup []), (57, .tup []), (56, .tup []), (55, .tup []), (54, .tup []), sB 53 true, sB 52 true, (51, .tup []), (50, .tup []), (49, .tup []), (48, .tup []), (47, .tup []), (46, .tup []), (45, .tup []), (44, .tup []), (43, .tup []), (42, .tup []), (41, .tup []), (40, .tup []), (39, .tup []), (38, .tup []), sB 37 true, sB 36 true, sB 35 r9, sI 34 v8.Id, sA 33 6 3 0, sI 5 y2, sA 6 6 3 0, sV 32 (Vrow.row v8), (31, .fad ((Vrow.row v8))), sI 30 y2, sB 29 (decide (y2 < (x0.Rows.length : Int))), sI 28 y2, sI 27 (x0.Rows.length : Int), sC 26 (cF 3 x0.Rows Vrow.row), sB 4 false, sA 2 2 2 0, sI 1 x1], [(6, (Vrow.row v8)), (2, (CV.frzRow (Vtab.row x0)))]⟩ (fun cx => ?_) ?_
          · refine AT.runU tOk [(0, []), (1, [2])] 34 [⟨[2], 3, 33, 34⟩] [1, 0] rfl kr (fun cx => ?_)
            refine AT.big1 tOk 2 kr kr ?_
            refine LAt.callV tOk [.rd, .rd, .rd] [] (impl_in n v8.Id 1 99 r9 er9) kr kr kr kr (.inl rfl) ?_
            refine LAt.fin kr (And.intro (And.intro kr kr) ?_)
            refine AT.runU tOk [(3, []), (4, [])] 31 [⟨[2], 3, 33, 34⟩] [4, 3, 2, 1, 0] rfl kr (fun cx => ?_)
            refine AT.to ⟨82, 0, [sB 37 (!r9), sB 36 (!r9), sB 35 r9, sI 34 v8.Id, sA 33 6 3 0, sI 5 y2, sA 6 6 3 0, sV 32 (Vrow.row v8), (31, .fad ((Vrow.row v8))), sI 30 y2, sB 29 (decide (y2 < (x0.Rows.length : Int))), sI 28 y2, sI 27 (x0.Rows.length : Int), sC 26 (cF 3 x0.Rows Vrow.row), sB 4 false, sA 2 2 2 0, sI 1 x1], [(6, (Vrow.row v8)), (2, (CV.frzRow (Vtab.row x0)))]⟩ kr ?_
            rw [h7]
            refine AT.runU tOk [(5, []), (6, []), (7, []), (8, []), (9, []), (10, []), (11, []), (12, []), (13, []), (14, []), (15, []), (16, []), (17, []), (18, []), (19, []), (20, []), (21, []), (22, []), (23, []), (24, []), (25, []), (26, []), (27, []), (28, []), (29, []), (30, []), (31, []), (32, []), (33, []), (34, []), (35, [])] 0 [⟨[2], 3, 33, 34⟩] [35, 34, 33, 32, 31, 30, 29, 28, 27, 26, 25, 24, 23, 22, 21, 20, 19, 18, 17, 16, 15, 14, 13, 12, 11, 10, 9, 8, 7, 6, 5, 4, 3, 2, 1, 0] rfl kr (fun cx => ?_)
            exact AT.done [68, 67, 66, 65, 64, 63, 62, 61, 60, 59, 58, 57, 56, 55, 54, 53, 52, 51, 50, 49, 48, 47, 46, 45, 44, 43, 42, 41, 40, 39, 38, 37, 36, 35, 34, 33, 5, 6, 32, 31, 30, 29, 28, 27, 26, 4, 2, 1] [6, 2] _ kr kr rfl
          refine Tr.ct kr ?_
          refine Tr.rgn tOk 1 590295810358638542966 68 kr kr ?_
          refine Tr.ret ?_
          have H := Option.some.inj H
          subst H
          have H := Ho7
          dsimp only at H
          have H := Option.some.inj H
          subst H
          exact Fin.of _ [(false, [cB false])] kr rfl rfl
        rintro _ H
        have H : (impl_VtabOk_J1 n x0) = some r := H
        unfold impl_VtabOk_J1 at H
        show Tr _ _ _ _ _
        refine Tr.seq ?_
        refine Tr.rs ?_
        refine LAt.runU tOk 2 kr ?_
        refine LAt.lenE tOk (t := 27) (ty := 3) (e := 3) (x := (.tmp 71)) (d := 72) (g := none) ⟨(.slot 71), [], 0, false, 1, (CV.frzEs (x0.Pvid.map intRow))⟩ (x0.Pvid).length _ kr kr kr kr kr (frz_len _ _) rfl ?_
        refine LAt.runU tOk 1 kr ?_
        refine LAt.doneM 16528282690043758247956 4 kr ?_
        obtain ⟨o4, eo4, Ho4⟩ := bind_some H
        clear H
        refine Tr.mid (ι := Unit) (fun v => ⟨82, 0, [sB 4 false], []⟩) (fun v => impl_VtabOk_J2 n = some r) ?_ ?_
        · refine Tr.block ?_
          refine Tr.loop (ι := Nat × (Int)) (fun v => ⟨82, 0, [sI 73 v.2, sI 72 (x0.Pvid.length : Int), sC 71 (cF 1 x0.Pvid intRow), sB 4 false, sA 2 2 2 0], [(2, (CV.frzRow (Vtab.row x0)))]⟩) (fun v => impl_VtabOk_L3 n v.1 x0 v.2 = some o4) (fun v => v.1) (n, 0) eo4 (St.sub_of [73, 72, 71, 4, 2] [2] kr) ?_
          rintro ⟨mo4, y3⟩ H
          have H : impl_VtabOk_L3 n mo4 x0 y3 = some o4 := H
          obtain _ | mo4 := mo4
          · cases (show (none : Option _) = some o4 from H)
          rw [impl_VtabOk_L3] at H
          refine Tr.rgn tOk 1 35417748621522339102740 4 kr kr ?_
          refine Tr.seq ?_
          cases h4 : (decide (y3 < (x0.Pvid.length : Int)))
          · have H := bifF h4 H
            refine Tr.cF h4 kr ?_
            refine Tr.exit ?_
            refine And.intro (fun _ => ?_) (fun h => absurd rfl h)
            have H := Option.some.inj H
            subst H
            have H := Ho4
            dsimp only at H
            exact Exists.intro () (And.intro H (St.sub_of [4] [] kr))
          have H := bifT h4 H
          refine Tr.cT h4 kr ?_
          refine Tr.skip ?_
          show Tr _ _ _ _ _
          refine Tr.seq ?_
          refine Tr.block ?_
          refine Tr.rs ?_
          obtain ⟨v5, ev5, H⟩ := bind_some H
          refine LAt.indexF tOk (t := 27) (ty := 0) (x := (.tmp 71)) (y := (.tmp 73)) (d := 75) (g := none) ⟨(.slot 71), [], 0, false, 1, (CV.frzEs (x0.Pvid.map intRow))⟩ y3 [cI v5] _ kr kr kr kr rfl (idx_isF ev5) rfl ?_
          refine LAt.runU tOk 2 kr ?_
          refine LAt.doneM 148754544210393824231700 4 kr ?_
          refine Tr.rs ?_
          refine LAt.runU tOk 2 kr ?_
          obtain ⟨r6, er6, H⟩ := bind_some H
          refine LAt.callV tOk [.rd, .rd] [] (impl_RowAt n x0 v5 r6 er6) kr kr kr kr (.inl rfl) ?_
          refine LAt.runU tOk 1 kr ?_
          refine LAt.doneM 2415490455987823526805780 4 kr ?_
          cases h5 : (decide (r6 < 0))
          · have H := bifF h5 H
            refine Tr.cF h5 kr ?_
            refine Tr.skip ?_
            show Tr _ _ _ _ _
            refine Tr.rgE tOk 2 4833342095217081876218132 4 kr kr ?_
            exact Exists.intro (mo4, (IntKind.wrap .i64 (y3 + 1))) (And.intro H (And.intro (Nat.lt_succ_self mo4) (St.sub_of [73, 72, 71, 4, 2] [2] kr)))
          have H := bifT h5 H
          refine Tr.cT h5 kr ?_
          refine Tr.rgn tOk 1 2415490455987823526805780 4 kr kr ?_
          refine Tr.ret ?_
          have H := Option.some.inj H
          subst H
          have H := Ho4
          dsimp only at H
          have H := Option.some.inj H
          subst H
          exact Fin.of _ [(false, [cB false])] kr rfl rfl
        rintro _ H
        have H : (impl_VtabOk_J2 n) = some r := H
        unfold impl_VtabOk_J2 at H
        show Tr _ _ _ _ _
        refine Tr.rgn tOk 1 16 0 kr kr ?_
        refine Tr.ret ?_
        have H := Option.some.inj H
        subst H
        exact Fin.of _ [(false, [cB true])] kr rfl rfl
      have H := bifT h3 H
      refine Tr.cT h3 kr ?_
      refine Tr.rgn tOk 1 22 4 kr kr ?_
      refine Tr.ret ?_
      have H := Option.some.inj H
      subst H
      exact Fin.of _ [(false, [cB false])] kr rfl rfl
    have H := bifT h2 H
    refine LAt.runU tOk 5 kr ?_
    refine LAt.doneM 16777238 4 kr ?_
    refine Tr.ct kr ?_
    refine Tr.rgn tOk 1 22 4 kr kr ?_
    refine Tr.ret ?_
    have H := Option.some.inj H
    subst H
    exact Fin.of _ [(false, [cB false])] kr rfl rfl
  have H := bifT h1 H
  refine LAt.runU tOk 12 kr ?_
  refine LAt.doneM 16777238 4 kr ?_
  refine Tr.ct kr ?_
  refine Tr.rgn tOk 1 22 4 kr kr ?_
  refine Tr.ret ?_
  have H := Option.some.inj H
  subst H
  exact Fin.of _ [(false, [cB false])] kr rfl rfl

def impl_isCountF (n : Nat) (x0 : Int) : Option (Bool) :=
  ((impl_inF n x0 0 1000000).bind fun r1 => (some r1))
/-- loop.example/g00326/impl.isCount -/
theorem impl_isCount (n : Nat) (x0 : Int) (r : Bool) (H : impl_isCountF n x0 = some r) : LCall Try.prog 145 [.val false [.lit (.int .i64 x0)]] [.val false [.lit (.bool r)]] [] := by
  refine LCall.of_body tOk Try.func145 rfl (c := (.seq (Rg Try.f145 0) (.seq (Rg Try.f145 1) .ret))) kr (Nat.le_of_ble_eq_true kr) 0 (rs := [.tmp 2]) rfl [] .nil [(false, [.lit (.bool r)])] [] [] fun cx => ?_
  show Tr _ _ _ ⟨5, 0, [sI 0 x0], []⟩ _
  unfold impl_isCountF at H
  refine Tr.rgn tOk 1 5 0 kr kr ?_
  refine Tr.rs ?_
  refine LAt.runU tOk 1 kr ?_
  obtain ⟨r1, er1, H⟩ := bind_some H
  refine LAt.callV tOk [.rd, .rd, .rd] [] (impl_in n x0 0 1000000 r1 er1) kr kr kr kr (.inl rfl) ?_
  refine LAt.runU tOk 1 kr ?_
  refine LAt.doneM 4 0 kr ?_
  refine Tr.ret ?_
  have H := Option.some.inj H
  subst H
  exact Fin.of _ [(false, [cB r1])] kr rfl rfl

def impl_BridgeOk_J1 (n : Nat) (x0 : Bridge) : Option (Bool) :=
  ((impl_inF n x0.Id 1 99).bind fun r2 => (bif (!r2) then (some false) else (bif (decide ((x0.Name.size : Int) > 10)) then (some false) else ((impl_inF n (x0.Ports.length : Int) 1 6).bind fun r3 => (bif (!r3) then (some false) else ((impl_FdbOkF n x0.F).bind fun r4 => (bif (!r4) then (some false) else ((impl_VtabOkF n x0.V (x0.Ports.length : Int)).bind fun r5 => (bif (!r5) then (some false) else ((impl_isCountF n x0.Ticks).bind fun r6 => (bif r6 then ((impl_isCountF n x0.Parse).bind fun r7 => (bif r7 then ((impl_isCountF n x0.Word).bind fun r8 => (bif r8 then ((impl_isCountF n x0.Drops).bind fun r9 => (bif r9 then ((impl_isCountF n x0.Vers).bind fun r10 => (some r10)) else (some false))) else (some false))) else (some false))) else (some false))))))))))))
def impl_BridgeOk_L2 (n : Nat) : Nat → Bridge → Int → Option ((Unit) ⊕ (Bool))
  | 0, _, _ => none
  | mo11 + 1, x0, y1 => (bif (decide (y1 < (x0.Ports.length : Int))) then ((idx x0.Ports y1).bind fun v12 => ((impl_PtOkF n v12).bind fun r13 => (bif (!r13) then (some (Sum.inr false)) else (impl_BridgeOk_L2 n mo11 x0 (IntKind.wrap .i64 (y1 + 1)))))) else (some (Sum.inl ())))
def impl_BridgeOkF (n : Nat) (x0 : Bridge) : Option (Bool) :=
  ((impl_BridgeOk_L2 n n x0 0).bind fun o => match o with | .inl _ => (impl_BridgeOk_J1 n x0) | .inr r => some r)
/-- loop.example/g00326/impl.BridgeOk -/
theorem impl_BridgeOk (n : Nat) (x0 : Bridge) (r : Bool) (H : impl_BridgeOkF n x0 = some r) : LCall Try.prog 88 [.val true (CV.frzRow (Bridge.row x0))] [.val false [.lit (.bool r)]] [] := by
  refine LCall.of_body tOk Try.func88 rfl (c := (.seq (Rg Try.f88 0) (.seq (.seq (Rg Try.f88 1) (.block 0 (.loop (.seq (Rg Try.f88 2) (.seq (.cond (.tmp 9) .skip (.exit 0)) (.seq (.block 1 (.seq (Rg Try.f88 3) (.seq (Rg Try.f88 4) (.cond (.tmp 14) (.seq (Rg Try.f88 5) .ret) .skip)))) (Rg Try.f88 6))))))) (.seq (.seq (Rg Try.f88 7) (.cond (.tmp 47) (.seq (Rg Try.f88 8) .ret) .skip)) (.seq (Rg Try.f88 9) .ret))))) kr (Nat.le_of_ble_eq_true kr) 0 (rs := [.tmp 2]) rfl [] .nil [(false, [.lit (.bool r)])] [] [] fun cx => ?_
  show Tr _ _ _ ⟨71, 0, [sV 0 (CV.frzRow (Bridge.row x0))], []⟩ _
  unfold impl_BridgeOkF at H
  refine Tr.rgn tOk 2 6 2 kr kr ?_
  refine Tr.seq ?_
  refine Tr.rs ?_
  refine LAt.runU tOk 2 kr ?_
  refine LAt.lenE tOk (t := 55) (ty := 3) (e := 114) (x := (.tmp 6)) (d := 7) (g := none) ⟨(.slot 6), [], 0, false, 8, (CV.frzEs (x0.Ports.map Pt.row))⟩ (x0.Ports).length _ kr kr kr kr kr (frz_len _ _) rfl ?_
  refine LAt.runU tOk 1 kr ?_
  refine LAt.doneM 454 2 kr ?_
  obtain ⟨o11, eo11, Ho11⟩ := bind_some H
  clear H
  refine Tr.mid (ι := Unit) (fun v => ⟨71, 0, [sB 2 false, sA 1 1 11 0], [(1, (CV.frzRow (Bridge.row x0)))]⟩) (fun v => impl_BridgeOk_J1 n x0 = some r) ?_ ?_
  · refine Tr.block ?_
    refine Tr.loop (ι := Nat × (Int)) (fun v => ⟨71, 0, [sI 8 v.2, sI 7 (x0.Ports.length : Int), sC 6 (cF 8 x0.Ports Pt.row), sB 2 false, sA 1 1 11 0], [(1, (CV.frzRow (Bridge.row x0)))]⟩) (fun v => impl_BridgeOk_L2 n v.1 x0 v.2 = some o11) (fun v => v.1) (n, 0) eo11 (St.sub_of [8, 7, 6, 2, 1] [1] kr) ?_
    rintro ⟨mo11, y1⟩ H
    have H : impl_BridgeOk_L2 n mo11 x0 y1 = some o11 := H
    obtain _ | mo11 := mo11
    · cases (show (none : Option _) = some o11 from H)
    rw [impl_BridgeOk_L2] at H
    refine Tr.rgn tOk 1 966 2 kr kr ?_
    refine Tr.seq ?_
    cases h10 : (decide (y1 < (x0.Ports.length : Int)))
    · have H := bifF h10 H
      refine Tr.cF h10 kr ?_
      refine Tr.exit ?_
      refine And.intro (fun _ => ?_) (fun h => absurd rfl h)
      have H := Option.some.inj H
      subst H
      have H := Ho11
      dsimp only at H
      exact Exists.intro () (And.intro H (St.sub_of [2, 1] [1] kr))
    have H := bifT h10 H
    refine Tr.cT h10 kr ?_
    refine Tr.skip ?_
    show Tr _ _ _ _ _
    refine Tr.seq ?_
    refine Tr.block ?_
    refine Tr.rs ?_
    obtain ⟨v12, ev12, H⟩ := bind_some H
    refine LAt.indexF tOk (t := 55) (ty := 0) (x := (.tmp 6)) (y := (.tmp 8)) (d := 10) (g := none) ⟨(.slot 6), [], 0, false, 8, (CV.frzEs (x0.Ports.map Pt.row))⟩ y1 (Pt.row v12) _ kr kr kr kr rfl (idx_isF ev12) rfl ?_
    refine LAt.runU tOk 3 kr ?_
    refine LAt.doneM 4054 18 kr ?_
    refine Tr.rs ?_
    refine LAt.runU tOk 1 kr ?_
    obtain ⟨r13, er13, H⟩ := bind_some H
    refine LAt.callV tOk [.rd] [] (impl_PtOk n v12 r13 er13) kr kr kr kr (.inl rfl) ?_
    refine LAt.runU tOk 1 kr ?_
    refine LAt.doneM 32726 18 kr ?_
    cases h11 : (!r13)
    · have H := bifF h11 H
      refine Tr.cF h11 kr ?_
      refine Tr.skip ?_
      show Tr _ _ _ _ _
      refine Tr.rgE tOk 2 65494 18 kr kr ?_
      exact Exists.intro (mo11, (IntKind.wrap .i64 (y1 + 1))) (And.intro H (And.intro (Nat.lt_succ_self mo11) (St.sub_of [8, 7, 6, 2, 1] [1] kr)))
    have H := bifT h11 H
    refine Tr.cT h11 kr ?_
    refine Tr.rgn tOk 1 32726 18 kr kr ?_
    refine Tr.ret ?_
    have H := Option.some.inj H
    subst H
    have H := Ho11
    dsimp only at H
    have H := Option.some.inj H
    subst H
    exact Fin.of _ [(false, [cB false])] kr rfl rfl
  rintro _ H
  have H : (impl_BridgeOk_J1 n x0) = some r := H
  unfold impl_BridgeOk_J1 at H
  show Tr _ _ _ _ _
  refine Tr.seq ?_
  refine Tr.rs ?_
  refine LAt.runU tOk 2 kr ?_
  obtain ⟨r2, er2, H⟩ := bind_some H
  refine LAt.callV tOk [.rd, .rd, .rd] [] (impl_in n x0.Id 1 99 r2 er2) kr kr kr kr (.inl rfl) ?_
  refine LAt.runU tOk 2 kr ?_
  refine LAt.to ⟨71, 0, [sB 20 (!r2), sB 19 (!r2), sB 18 r2, sI 17 x0.Id, sA 16 1 11 0, sB 2 false, sA 1 1 11 0], [(1, (CV.frzRow (Bridge.row x0)))]⟩ kr ?_
  cases h1 : (!r2)
  · have H := bifF h1 H
    refine LAt.runU tOk 6 kr ?_
    refine LAt.to ⟨71, 0, [sB 26 (decide ((x0.Name.size : Int) > 10)), sB 25 (decide ((x0.Name.size : Int) > 10)), sB 24 (decide ((x0.Name.size : Int) > 10)), sI 23 (x0.Name.size : Int), sC 22 (cS x0.Name), sA 21 1 11 1, sB 20 false, sB 19 false, sB 18 r2, sI 17 x0.Id, sA 16 1 11 0, sB 2 false, sA 1 1 11 0], [(1, (CV.frzRow (Bridge.row x0)))]⟩ kr ?_
    cases h2 : (decide ((x0.Name.size : Int) > 10))
    · have H := bifF h2 H
      refine LAt.runU tOk 2 kr ?_
      refine LAt.lenE tOk (t := 55) (ty := 3) (e := 114) (x := (.tmp 28)) (d := 29) (g := (some (10, false))) ⟨(.slot 28), [], 0, false, 8, (CV.frzEs (x0.Ports.map Pt.row))⟩ (x0.Ports).length _ kr kr kr kr kr (frz_len _ _) rfl ?_
      obtain ⟨r3, er3, H⟩ := bind_some H
      refine LAt.callV tOk [.rd, .rd, .rd] [] (impl_in n (x0.Ports.length : Int) 1 6 r3 er3) kr kr kr kr (.inl rfl) ?_
      refine LAt.runU tOk 3 kr ?_
      refine LAt.to ⟨71, 0, [sB 33 (!r3), sB 32 (!r3), sB 31 (!r3), sB 30 r3, sI 29 (x0.Ports.length : Int), sC 28 (cF 8 x0.Ports Pt.row), sA 27 1 11 2, sB 26 false, sB 25 false, sB 24 false, sI 23 (x0.Name.size : Int), sC 22 (cS x0.Name), sA 21 1 11 1, sB 20 false, sB 19 false, sB 18 r2, sI 17 x0.Id, sA 16 1 11 0, sB 2 false, sA 1 1 11 0], [(1, (CV.frzRow (Bridge.row x0)))]⟩ kr ?_
      cases h3 : (!r3)
      · have H := bifF h3 H
        refine LAt.runU tOk 2 kr ?_
        obtain ⟨r4, er4, H⟩ := bind_some H
        refine LAt.callV tOk [.rd] [] (impl_FdbOk n x0.F r4 er4) kr kr kr kr (.inl rfl) ?_
        refine LAt.runU tOk 3 kr ?_
        refine LAt.to ⟨71, 0, [sB 39 (!r4), sB 38 (!r4), sB 37 (!r4), sB 36 r4, sC 35 (cF 5 x0.F Fent.row), sA 34 1 11 3, sB 33 false, sB 32 false, sB 31 false, sB 30 r3, sI 29 (x0.Ports.length : Int), sC 28 (cF 8 x0.Ports Pt.row), sA 27 1 11 2, sB 26 false, sB 25 false, sB 24 false, sI 23 (x0.Name.size : Int), sC 22 (cS x0.Name), sA 21 1 11 1, sB 20 false, sB 19 false, sB 18 r2, sI 17 x0.Id, sA 16 1 11 0, sB 2 false, sA 1 1 11 0], [(1, (CV.frzRow (Bridge.row x0)))]⟩ kr ?_
        cases h4 : (!r4)
        · have H := bifF h4 H
          refine LAt.runU tOk 4 kr ?_
          refine LAt.lenE tOk (t := 55) (ty := 3) (e := 114) (x := (.tmp 43)) (d := 44) (g := (some (23, false))) ⟨(.slot 43), [], 0, false, 8, (CV.frzEs (x0.Ports.map Pt.row))⟩ (x0.Ports).length _ kr kr kr kr kr (frz_len _ _) rfl ?_
          obtain ⟨r5, er5, H⟩ := bind_some H
          refine LAt.callV tOk [.rd, .rd] [] (impl_VtabOk n x0.V (x0.Ports.length : Int) r5 er5) kr kr kr kr (.inl rfl) ?_
          refine LAt.runU tOk 2 kr ?_
          refine LAt.doneM 140737488355334 2 kr ?_
          cases h5 : (!r5)
          · have H := bifF h5 H
            refine Tr.cF h5 kr ?_
            refine Tr.skip ?_
            show Tr _ _ _ _ _
            refine Tr.rs ?_
            refine LAt.runU tOk 2 kr ?_
            obtain ⟨r6, er6, H⟩ := bind_some H
            refine LAt.callV tOk [.rd] [] (impl_isCount n x0.Ticks r6 er6) kr kr kr kr (.inl rfl) ?_
            refine LAt.runU tOk 1 kr ?_
            refine LAt.to ⟨71, 0, [sB 51 r6, sB 50 r6, sI 49 x0.Ticks, sA 48 1 11 6, sB 47 (!r5), sB 2 false, sA 1 1 11 0], [(1, (CV.frzRow (Bridge.row x0)))]⟩ kr ?_
            cases h6 : r6
            · have H := bifF h6 H
              refine LAt.runU tOk 20 kr ?_
              refine LAt.doneM 4 0 kr ?_
              refine Tr.ret ?_
              have H := Option.some.inj H
              subst H
              exact Fin.of _ [(false, [cB false])] kr rfl rfl
            have H := bifT h6 H
            refine LAt.runU tOk 2 kr ?_
            obtain ⟨r7, er7, H⟩ := bind_some H
            refine LAt.callV tOk [.rd] [] (impl_isCount n x0.Parse r7 er7) kr kr kr kr (.inl rfl) ?_
            refine LAt.runU tOk 2 kr ?_
            refine LAt.to ⟨71, 0, [sB 56 r7, sB 55 r7, sB 54 r7, sI 53 x0.Parse, sA 52 1 11 7, sB 51 true, sB 50 true, sI 49 x0.Ticks, sA 48 1 11 6, sB 47 (!r5), sB 2 false, sA 1 1 11 0], [(1, (CV.frzRow (Bridge.row x0)))]⟩ kr ?_
            cases h7 : r7
            · have H := bifF h7 H
              refine LAt.runU tOk 15 kr ?_
              refine LAt.doneM 4 0 kr ?_
              refine Tr.ret ?_
              have H := Option.some.inj H
              subst H
              exact Fin.of _ [(false, [cB false])] kr rfl rfl
            have H := bifT h7 H
            refine LAt.runU tOk 2 kr ?_
            obtain ⟨r8, er8, H⟩ := bind_some H
            refine LAt.callV tOk [.rd] [] (impl_isCount n x0.Word r8 er8) kr kr kr kr (.inl rfl) ?_
            refine LAt.runU tOk 2 kr ?_
            refine LAt.to ⟨71, 0, [sB 61 r8, sB 60 r8, sB 59 r8, sI 58 x0.Word, sA 57 1 11 8, sB 56 true, sB 55 true, sB 54 true, sI 53 x0.Parse, sA 52 1 11 7, sB 51 true, sB 50 true, sI 49 x0.Ticks, sA 48 1 11 6, sB 47 (!r5), sB 2 false, sA 1 1 11 0], [(1, (CV.frzRow (Bridge.row x0)))]⟩ kr ?_
            cases h8 : r8
            · have H := bifF h8 H
              refine LAt.runU tOk 10 kr ?_
              refine LAt.doneM 4 0 kr ?_
              refine Tr.ret ?_
              have H := Option.some.inj H
              subst H
              exact Fin.of _ [(false, [cB false])] kr rfl rfl
            have H := bifT h8 H
            refine LAt.runU tOk 2 kr ?_
            obtain ⟨r9, er9, H⟩ := bind_some H
            refine LAt.callV tOk [.rd] [] (impl_isCount n x0.Drops r9 er9) kr kr kr kr (.inl rfl) ?_
            refine LAt.runU tOk 2 kr ?_
            refine LAt.to ⟨71, 0, [sB 66 r9, sB 65 r9, sB 64 r9, sI 63 x0.Drops, sA 62 1 11 9, sB 61 true, sB 60 true, sB 59 true, sI 58 x0.Word, sA 57 1 11 8, sB 56 true, sB 55 true, sB 54 true, sI 53 x0.Parse, sA 52 1 11 7, sB 51 true, sB 50 true, sI 49 x0.Ticks, sA 48 1 11 6, sB 47 (!r5), sB 2 false, sA 1 1 11 0], [(1, (CV.frzRow (Bridge.row x0)))]⟩ kr ?_
            cases h9 : r9
            · have H := bifF h9 H
              refine LAt.runU tOk 5 kr ?_
              refine LAt.doneM 4 0 kr ?_
              refine Tr.ret ?_
              have H := Option.some.inj H
              subst H
              exact Fin.of _ [(false, [cB false])] kr rfl rfl
            have H := bifT h9 H
            refine LAt.runU tOk 2 kr ?_
            obtain ⟨r10, er10, H⟩ := bind_some H
            refine LAt.callV tOk [.rd] [] (impl_isCount n x0.Vers r10 er10) kr kr kr kr (.inl rfl) ?_
            refine LAt.runU tOk 2 kr ?_
            refine LAt.doneM 4 0 kr ?_
            refine Tr.ret ?_
            have H := Option.some.inj H
            subst H
            exact Fin.of _ [(false, [cB r10])] kr rfl rfl
          have H := bifT h5 H
          refine Tr.cT h5 kr ?_
          refine Tr.rgn tOk 1 6 2 kr kr ?_
          refine Tr.ret ?_
          have H := Option.some.inj H
          subst H
          exact Fin.of _ [(false, [cB false])] kr rfl rfl
        have H := bifT h4 H
        refine LAt.runU tOk 8 kr ?_
        refine LAt.doneM 140737488355334 2 kr ?_
        refine Tr.ct kr ?_
        refine Tr.rgn tOk 1 6 2 kr kr ?_
        refine Tr.ret ?_
        have H := Option.some.inj H
        subst H
        exact Fin.of _ [(false, [cB false])] kr rfl rfl
      have H := bifT h3 H
      refine LAt.runU tOk 14 kr ?_
      refine LAt.doneM 140737488355334 2 kr ?_
      refine Tr.ct kr ?_
      refine Tr.rgn tOk 1 6 2 kr kr ?_
      refine Tr.ret ?_
      have H := Option.some.inj H
      subst H
      exact Fin.of _ [(false, [cB false])] kr rfl rfl
    have H := bifT h2 H
    refine LAt.runU tOk 21 kr ?_
    refine LAt.doneM 140737488355334 2 kr ?_
    refine Tr.ct kr ?_
    refine Tr.rgn tOk 1 6 2 kr kr ?_
    refine Tr.ret ?_
    have H := Option.some.inj H
    subst H
    exact Fin.of _ [(false, [cB false])] kr rfl rfl
  have H := bifT h1 H
  refine LAt.runU tOk 27 kr ?_
  refine LAt.doneM 140737488355334 2 kr ?_
  refine Tr.ct kr ?_
  refine Tr.rgn tOk 1 6 2 kr kr ?_
  refine Tr.ret ?_
  have H := Option.some.inj H
  subst H
  exact Fin.of _ [(false, [cB false])] kr rfl rfl

def impl_thingF (n : Nat) (x0 : Val) (x1 : (List Int)) : Option (Bind) :=
  (bif (decide ([1, 3, 1].length + x1.length ≤ 268435456)) then (some (⟨([1, 3, 1] ++ x1), x0⟩ : Bind)) else none)
/-- loop.example/g00326/impl.thing -/
theorem impl_thing (n : Nat) (x0 : Val) (x1 : (List Int)) (r : Bind) (H : impl_thingF n x0 x1 = some r) : LCall Try.prog 126 [.own true (Val.row x0), .val false [.sl false 1 (CV.frzEs (x1.map intRow))]] [.val true (Bind.row r)] [] := by
  refine LCall.of_body tOk Try.func126 rfl (c := (.seq (Rg Try.f126 0) (.seq (Rd Try.f126 1) .ret))) kr (Nat.le_of_ble_eq_true kr) 0 (rs := [.cell 4 86]) rfl [] .nil [(true, (Bind.row r))] [] [] fun cx => ?_
  show Tr _ _ _ ⟨10, 0, [sV 0 (Val.row x0), sC 1 (cF 1 x1 intRow)], []⟩ _
  unfold impl_thingF at H
  refine Tr.rgn tOk 2 22 20 kr kr ?_
  obtain ⟨hg1, H⟩ := guard_some H
  refine Tr.draws mixed 6 kr ⟨10, 0, [sA 4 4 5 0], [(4, [cL 1 ([1, 3, 1] ++ x1) intRow, cI x0.K, cI x0.N, cS x0.S, cL 1 x0.O intRow])]⟩ (fun cx => ?_) ?_
  · refine AT.runU tOk [(1, []), (3, [4, 5])] 4 [⟨[4, 5], 76, 2, 8⟩] [3, 1] rfl kr (fun cx => ?_)
    refine AT.big1 tOk 0 kr kr ?_
    refine LAt.runU tOk 1 kr ?_
    refine LAt.fin kr (And.intro (And.intro kr kr) ?_)
    refine AT.big1 tOk 2 kr kr ?_
    refine LAt.appCU tOk (t := 27) (ty := 27) (e := 3) (x := (.tmp 5)) (y := (.tmp 6)) (d := 7) (g := none) ⟨.int .i64, 1, 8, [.lit (.int .i64 0)]⟩ intRow [1, 3, 1] x1 ⟨(.slot 6), [], 0, false, 1, (CV.frzEs (x1.map intRow))⟩ kr kr kr kr kr kr kr kr kr kr kr (.inr rfl) (fun _ => rfl) (fun _ => rfl) hg1 ?_
    refine LAt.fin kr (And.intro (And.intro kr kr) ?_)
    refine AT.big1 tOk 4 kr kr ?_
    refine LAt.runU tOk 1 kr ?_
    refine LAt.fin kr (And.intro (And.intro kr kr) ?_)
    refine AT.big1 tOk 5 kr kr ?_
    refine LAt.runU tOk 1 kr ?_
    refine LAt.fin kr (And.intro (And.intro kr kr) ?_)
    exact AT.done [4] [4] _ kr kr rfl
  refine Tr.ret ?_
  have H := Option.some.inj H
  subst H
  exact Fin.of _ [(true, [cL 1 ([1, 3, 1] ++ x1) intRow, cI x0.K, cI x0.N, cS x0.S, cL 1 x0.O intRow])] kr rfl rfl

def impl_numberF (n : Nat) (x0 : Int) : Option (Val) :=
  (some (⟨2, x0, (⟨#[]⟩ : ByteArray), ([] : List Int)⟩ : Val))
/-- loop.example/g00326/impl.number -/
theorem impl_number (n : Nat) (x0 : Int) (r : Val) (H : impl_numberF n x0 = some r) : LCall Try.prog 127 [.val false [.lit (.int .i64 x0)]] [.val true (Val.row r)] [] := by
  refine LCall.of_body tOk Try.func127 rfl (c := (.seq (Rg Try.f127 0) (.seq (Rg Try.f127 1) .ret))) kr (Nat.le_of_ble_eq_true kr) 0 (rs := [.cell 2 76]) rfl [] .nil [(true, (Val.row r))] [] [] fun cx => ?_
  show Tr _ _ _ ⟨5, 0, [sI 0 x0], []⟩ _
  unfold impl_numberF at H
  refine Tr.rgn tOk 1 5 4 kr kr ?_
  refine Tr.rgn tOk 3 4 4 kr kr ?_
  refine Tr.ret ?_
  have H := Option.some.inj H
  subst H
  exact Fin.of _ [(true, [cI 2, cI x0, cS (⟨#[]⟩ : ByteArray), cL 1 ([] : List Int) intRow])] kr rfl rfl

def impl_bitF (n : Nat) (x0 : Bool) : Option (Int) :=
  (bif x0 then (some 1) else (some 0))
/-- loop.example/g00326/impl.bit -/
theorem impl_bit (n : Nat) (x0 : Bool) (r : Int) (H : impl_bitF n x0 = some r) : LCall Try.prog 171 [.val false [.lit (.bool x0)]] [.val false [.lit (.int .i64 r)]] [] := by
  refine LCall.of_body tOk Try.func171 rfl (c := (.seq (Rg Try.f171 0) (.seq (.seq (Rg Try.f171 1) (.cond (.tmp 3) (.seq (Rg Try.f171 2) .ret) .skip)) (.seq (Rg Try.f171 3) .ret)))) kr (Nat.le_of_ble_eq_true kr) 0 (rs := [.tmp 2]) rfl [] .nil [(false, [.lit (.int .i64 r)])] [] [] fun cx => ?_
  show Tr _ _ _ ⟨4, 0, [sB 0 x0], []⟩ _
  unfold impl_bitF at H
  refine Tr.rgn tOk 1 5 0 kr kr ?_
  refine Tr.seq ?_
  refine Tr.rgn tOk 1 12 0 kr kr ?_
  cases h1 : x0
  · have H := bifF h1 H
    refine Tr.cf kr ?_
    refine Tr.skip ?_
    show Tr _ _ _ _ _
    refine Tr.rgn tOk 1 4 0 kr kr ?_
    refine Tr.ret ?_
    have H := Option.some.inj H
    subst H
    exact Fin.of _ [(false, [cI 0])] kr rfl rfl
  have H := bifT h1 H
  refine Tr.ct kr ?_
  refine Tr.rgn tOk 1 4 0 kr kr ?_
  refine Tr.ret ?_
  have H := Option.some.inj H
  subst H
  exact Fin.of _ [(false, [cI 1])] kr rfl rfl

def impl_StepVecF (n : Nat) (x0 : Vec) (x1 : Int) : Option (Vec × Bool) :=
  ((impl_VecOkF n x0).bind fun r1 => (bif (!r1) then (some (x0, false)) else ((impl_inF n x1 1 1000).bind fun r2 => (bif (!r2) then (some (x0, false)) else ((impl_VecOkF n (⟨x0.Root, (IntKind.wrap .i64 (x0.Cost + x1)), (IntKind.wrap .i64 (x0.Hops + 1)), x0.Bridge, x0.Port⟩ : Vec)).bind fun r3 => (bif (!r3) then (some (x0, false)) else (some ((⟨x0.Root, (IntKind.wrap .i64 (x0.Cost + x1)), (IntKind.wrap .i64 (x0.Hops + 1)), x0.Bridge, x0.Port⟩ : Vec), true))))))))
/-- loop.example/g00326/impl.StepVec -/
theorem impl_StepVec (n : Nat) (x0 : Vec) (x1 : Int) (r : Vec × Bool) (H : impl_StepVecF n x0 x1 = some r) : LCall Try.prog 188 [.val true (CV.frzRow (Vec.row x0)), .val false [.lit (.int .i64 x1)]] [.val true (Vec.row r.1), .val false [.lit (.bool r.2)]] [] := by
  refine LCall.of_body tOk Try.func188 rfl (c := (.seq (Rg Try.f188 0) (.seq (.seq (Rg Try.f188 1) (.cond (.tmp 14) (.seq (Rg Try.f188 2) .ret) .skip)) (.seq (Rg Try.f188 3) (.seq (Rg Try.f188 4) (.seq (Rg Try.f188 5) (.seq (.seq (Rg Try.f188 6) (.cond (.tmp 28) (.seq (Rg Try.f188 7) .ret) .skip)) (.seq (Rg Try.f188 8) .ret)))))))) kr (Nat.le_of_ble_eq_true kr) 0 (rs := [.cell 4 70, .tmp 5]) rfl [] .nil [(true, (Vec.row r.1)), (false, [.lit (.bool r.2)])] [] [] fun cx => ?_
  show Tr _ _ _ ⟨31, 0, [sV 0 (Vec.row x0), sI 1 x1], []⟩ _
  unfold impl_StepVecF at H
  refine Tr.rgn tOk 3 54 20 kr kr ?_
  refine Tr.seq ?_
  refine Tr.rs ?_
  refine LAt.runU tOk 1 kr ?_
  obtain ⟨r1, er1, H⟩ := bind_some H
  refine LAt.callV tOk [.rd] [] (impl_VecOk n x0 r1 er1) kr kr kr kr (.inl rfl) ?_
  refine LAt.runU tOk 2 kr ?_
  refine LAt.to ⟨31, 0, [sB 10 (!r1), sB 9 (!r1), sB 8 r1, sV 7 (Vec.row x0), sB 5 false, sA 4 4 5 0, sA 2 2 5 0, sI 1 x1], [(4, [cI 0, cI 0, cI 0, cI 0, cI 0]), (2, (Vec.row x0))]⟩ kr ?_
  cases h1 : (!r1)
  · have H := bifF h1 H
    refine LAt.runU tOk 1 kr ?_
    obtain ⟨r2, er2, H⟩ := bind_some H
    refine LAt.callV tOk [.rd, .rd, .rd] [] (impl_in n x1 1 1000 r2 er2) kr kr kr kr (.inl rfl) ?_
    refine LAt.runU tOk 2 kr ?_
    refine LAt.doneM 16438 20 kr ?_
    cases h2 : (!r2)
    · have H := bifF h2 H
      refine Tr.cF h2 kr ?_
      refine Tr.skip ?_
      show Tr _ _ _ _ _
      refine Tr.rgn tOk 3 118 84 kr kr ?_
      refine Tr.rgn tOk 6 116 84 kr kr ?_
      refine Tr.rgn tOk 5 116 84 kr kr ?_
      refine Tr.seq ?_
      refine Tr.rs ?_
      refine LAt.runU tOk 1 kr ?_
      obtain ⟨r3, er3, H⟩ := bind_some H
      refine LAt.callV tOk [.rd] [] (impl_VecOk n (⟨x0.Root, (IntKind.wrap .i64 (x0.Cost + x1)), (IntKind.wrap .i64 (x0.Hops + 1)), x0.Bridge, x0.Port⟩ : Vec) r3 er3) kr kr kr kr (.inl rfl) ?_
      refine LAt.runU tOk 1 kr ?_
      refine LAt.doneM 268435572 84 kr ?_
      cases h3 : (!r3)
      · have H := bifF h3 H
        refine Tr.cF h3 kr ?_
        refine Tr.skip ?_
        show Tr _ _ _ _ _
        refine Tr.rgn tOk 3 48 16 kr kr ?_
        refine Tr.ret ?_
        have H := Option.some.inj H
        subst H
        exact Fin.of _ [(true, [cI x0.Root, cI (IntKind.wrap .i64 (x0.Cost + x1)), cI (IntKind.wrap .i64 (x0.Hops + 1)), cI x0.Bridge, cI x0.Port]), (false, [cB true])] kr rfl rfl
      have H := bifT h3 H
      refine Tr.cT h3 kr ?_
      refine Tr.rgn tOk 3 112 80 kr kr ?_
      refine Tr.ret ?_
      have H := Option.some.inj H
      subst H
      exact Fin.of _ [(true, (Vec.row x0)), (false, [cB false])] kr rfl rfl
    have H := bifT h2 H
    refine Tr.cT h2 kr ?_
    refine Tr.rgn tOk 3 54 20 kr kr ?_
    refine Tr.ret ?_
    have H := Option.some.inj H
    subst H
    exact Fin.of _ [(true, (Vec.row x0)), (false, [cB false])] kr rfl rfl
  have H := bifT h1 H
  refine LAt.runU tOk 4 kr ?_
  refine LAt.doneM 16438 20 kr ?_
  refine Tr.ct kr ?_
  refine Tr.rgn tOk 3 54 20 kr kr ?_
  refine Tr.ret ?_
  have H := Option.some.inj H
  subst H
  exact Fin.of _ [(true, (Vec.row x0)), (false, [cB false])] kr rfl rfl

def impl_LessVecF (n : Nat) (x0 : Vec) (x1 : Vec) : Option (Bool) :=
  (bif (x0.Root != x1.Root) then (some (decide (x0.Root < x1.Root))) else (bif (x0.Cost != x1.Cost) then (some (decide (x0.Cost < x1.Cost))) else (bif (x0.Bridge != x1.Bridge) then (some (decide (x0.Bridge < x1.Bridge))) else (some (decide (x0.Port < x1.Port))))))
/-- loop.example/g00326/impl.LessVec -/
theorem impl_LessVec (n : Nat) (x0 : Vec) (x1 : Vec) (r : Bool) (H : impl_LessVecF n x0 x1 = some r) : LCall Try.prog 187 [.val true (CV.frzRow (Vec.row x0)), .val true (CV.frzRow (Vec.row x1))] [.val false [.lit (.bool r)]] [] := by
  refine LCall.of_body tOk Try.func187 rfl (c := (.seq (Rg Try.f187 0) (.seq (.block 0 (.seq (Rg Try.f187 1) (.cond (.tmp 5) (.seq (Rg Try.f187 2) .ret) (.seq (Rg Try.f187 3) (.cond (.tmp 16) (.seq (Rg Try.f187 4) .ret) (.seq (Rg Try.f187 5) (.cond (.tmp 27) (.seq (Rg Try.f187 6) .ret) .skip))))))) (.seq (Rg Try.f187 7) .ret)))) kr (Nat.le_of_ble_eq_true kr) 0 (rs := [.tmp 4]) rfl [] .nil [(false, [.lit (.bool r)])] [] [] fun cx => ?_
  show Tr _ _ _ ⟨43, 0, [sV 0 (Vec.row x0), sV 1 (Vec.row x1)], []⟩ _
  unfold impl_LessVecF at H
  refine Tr.rgn tOk 3 28 12 kr kr ?_
  refine Tr.seq ?_
  refine Tr.block ?_
  refine Tr.rgn tOk 6 60 12 kr kr ?_
  cases h1 : (x0.Root != x1.Root)
  · have H := bifF h1 H
    refine Tr.cF h1 kr ?_
    refine Tr.rgn tOk 6 65564 12 kr kr ?_
    cases h2 : (x0.Cost != x1.Cost)
    · have H := bifF h2 H
      refine Tr.cF h2 kr ?_
      refine Tr.rgn tOk 6 134217756 12 kr kr ?_
      cases h3 : (x0.Bridge != x1.Bridge)
      · have H := bifF h3 H
        refine Tr.cF h3 kr ?_
        refine Tr.skip ?_
        show Tr _ _ _ _ _
        refine Tr.rgn tOk 6 16 0 kr kr ?_
        refine Tr.ret ?_
        have H := Option.some.inj H
        subst H
        exact Fin.of _ [(false, [cB (decide (x0.Port < x1.Port))])] kr rfl rfl
      have H := bifT h3 H
      refine Tr.cT h3 kr ?_
      refine Tr.rgn tOk 6 28 12 kr kr ?_
      refine Tr.ret ?_
      have H := Option.some.inj H
      subst H
      exact Fin.of _ [(false, [cB (decide (x0.Bridge < x1.Bridge))])] kr rfl rfl
    have H := bifT h2 H
    refine Tr.cT h2 kr ?_
    refine Tr.rgn tOk 6 28 12 kr kr ?_
    refine Tr.ret ?_
    have H := Option.some.inj H
    subst H
    exact Fin.of _ [(false, [cB (decide (x0.Cost < x1.Cost))])] kr rfl rfl
  have H := bifT h1 H
  refine Tr.cT h1 kr ?_
  refine Tr.rgn tOk 6 28 12 kr kr ?_
  refine Tr.ret ?_
  have H := Option.some.inj H
  subst H
  exact Fin.of _ [(false, [cB (decide (x0.Root < x1.Root))])] kr rfl rfl

def impl_BestVec_J1 (n : Nat) (x0 : Int) (y11 : Int) (y12 : Int) (y13 : Int) (y14 : Int) : Option (Vec × Int) :=
  (some ((⟨y12, y13, y14, x0, 0⟩ : Vec), y11))
def impl_BestVec_J3 (n : Nat) (k : (Int × Int × Int × Int × Int × Int × Int × Int × Int × Int → Option ((Int × Int × Int × Int) ⊕ (Vec × Int)))) (r17 : Vec × Bool) (y1 : Int) (y10 : Int) (y2 : Int) (y3 : Int) (y4 : Int) (y5 : Int) (y6 : Int) (y7 : Int) (y8 : Int) (y9 : Int) (y18 : Bool) (y19 : Bool) (y20 : Bool) (y21 : Bool) (y22 : Bool) (y23 : Bool) (y24 : Bool) : Option ((Int × Int × Int × Int) ⊕ (Vec × Int)) :=
  (bif y18 then (k ((IntKind.wrap .i64 (y1 + 1)), y1, r17.1.Root, r17.1.Cost, r17.1.Hops, r17.1.Bridge, r17.1.Port, r17.1.Root, r17.1.Cost, r17.1.Hops)) else (k ((IntKind.wrap .i64 (y1 + 1)), y2, y3, y4, y5, y6, y7, y8, y9, y10)))
def impl_BestVec_L2 (n : Nat) : Nat → Int → (List Pt) → Int → Int → Int → Int → Int → Int → Int → Int → Int → Int → Option ((Int × Int × Int × Int) ⊕ (Vec × Int))
  | 0, _, _, _, _, _, _, _, _, _, _, _, _ => none
  | mo15 + 1, x0, x1, y1, y2, y3, y4, y5, y6, y7, y8, y9, y10 => (bif (decide (y1 < (x1.length : Int))) then ((idx x1 y1).bind fun v16 => (bif (!v16.Up) then (impl_BestVec_L2 n mo15 x0 x1 (IntKind.wrap .i64 (y1 + 1)) y2 y3 y4 y5 y6 y7 y8 y9 y10) else (bif (!v16.Has) then (impl_BestVec_L2 n mo15 x0 x1 (IntKind.wrap .i64 (y1 + 1)) y2 y3 y4 y5 y6 y7 y8 y9 y10) else ((impl_StepVecF n v16.Heard v16.Cost).bind fun r17 => (bif r17.2 then (bif (decide (r17.1.Root < x0)) then (bif (decide (y2 < 0)) then (impl_BestVec_J3 n (fun v => impl_BestVec_L2 n mo15 x0 x1 v.1 v.2.1 v.2.2.1 v.2.2.2.1 v.2.2.2.2.1 v.2.2.2.2.2.1 v.2.2.2.2.2.2.1 v.2.2.2.2.2.2.2.1 v.2.2.2.2.2.2.2.2.1 v.2.2.2.2.2.2.2.2.2) r17 y1 y10 y2 y3 y4 y5 y6 y7 y8 y9 true true true true true true true) else ((impl_LessVecF n r17.1 (⟨y3, y4, y5, y6, y7⟩ : Vec)).bind fun r25 => (impl_BestVec_J3 n (fun v => impl_BestVec_L2 n mo15 x0 x1 v.1 v.2.1 v.2.2.1 v.2.2.2.1 v.2.2.2.2.1 v.2.2.2.2.2.1 v.2.2.2.2.2.2.1 v.2.2.2.2.2.2.2.1 v.2.2.2.2.2.2.2.2.1 v.2.2.2.2.2.2.2.2.2) r17 y1 y10 y2 y3 y4 y5 y6 y7 y8 y9 r25 true true true true true true))) else (impl_BestVec_J3 n (fun v => impl_BestVec_L2 n mo15 x0 x1 v.1 v.2.1 v.2.2.1 v.2.2.2.1 v.2.2.2.2.1 v.2.2.2.2.2.1 v.2.2.2.2.2.2.1 v.2.2.2.2.2.2.2.1 v.2.2.2.2.2.2.2.2.1 v.2.2.2.2.2.2.2.2.2) r17 y1 y10 y2 y3 y4 y5 y6 y7 y8 y9 false false false true true true true)) else (impl_BestVec_J3 n (fun v => impl_BestVec_L2 n mo15 x0 x1 v.1 v.2.1 v.2.2.1 v.2.2.2.1 v.2.2.2.2.1 v.2.2.2.2.2.1 v.2.2.2.2.2.2.1 v.2.2.2.2.2.2.2.1 v.2.2.2.2.2.2.2.2.1 v.2.2.2.2.2.2.2.2.2) r17 y1 y10 y2 y3 y4 y5 y6 y7 y8 y9 false false false false false false false)))))) else (some (Sum.inl (y2, y8, y9, y10))))
def impl_BestVecF (n : Nat) (x0 : Int) (x1 : (List Pt)) : Option (Vec × Int) :=
  ((impl_BestVec_L2 n n x0 x1 0 (-1) 0 0 0 0 0 x0 0 0).bind fun o => match o with | .inl (y11, y12, y13, y14) => (impl_BestVec_J1 n x0 y11 y12 y13 y14) | .inr r => some r)
/-- loop.example/g00326/impl.BestVec -/
theorem impl_BestVec (n : Nat) (x0 : Int) (x1 : (List Pt)) (r : Vec × Int) (H : impl_BestVecF n x0 x1 = some r) : LCall Try.prog 175 [.val false [.lit (.int .i64 x0)], .val false [.sl false 8 (CV.frzEs (x1.map Pt.row))]] [.val true (Vec.row r.1), .val false [.lit (.int .i64 r.2)]] [] := by
  refine LCall.of_body tOk Try.func175 rfl (c := (.seq (Rg Try.f175 0) (.seq (Rg Try.f175 1) (.seq (Rg Try.f175 2) (.seq (.seq (Rg Try.f175 3) (.block 0 (.loop (.seq (Rg Try.f175 4) (.seq (.cond (.tmp 19) .skip (.exit 0)) (.seq (.block 1 (.seq (Rg Try.f175 5) (.seq (.seq (Rg Try.f175 6) (.cond (.tmp 30) (.exit 1) .skip)) (.seq (Rg Try.f175 7) (.seq (Rg Try.f175 8) (.cond (.tmp 54) (.seq (Rg Try.f175 9) (Rg Try.f175 10)) .skip)))))) (Rg Try.f175 11))))))) (.seq (Rg Try.f175 12) .ret)))))) kr (Nat.le_of_ble_eq_true kr) 0 (rs := [.cell 4 70, .tmp 5]) rfl [] .nil [(true, (Vec.row r.1)), (false, [.lit (.int .i64 r.2)])] [] [] fun cx => ?_
  show Tr _ _ _ ⟨68, 0, [sI 0 x0, sC 1 (cF 8 x1 Pt.row)], []⟩ _
  unfold impl_BestVecF at H
  refine Tr.rgn tOk 2 51 16 kr kr ?_
  refine Tr.rgn tOk 6 243 80 kr kr ?_
  refine Tr.rgn tOk 1 499 336 kr kr ?_
  refine Tr.seq ?_
  refine Tr.rs ?_
  refine LAt.runU tOk 1 kr ?_
  refine LAt.lenE tOk (t := 55) (ty := 3) (e := 114) (x := (.tmp 16)) (d := 17) (g := none) ⟨(.slot 16), [], 0, false, 8, (CV.frzEs (x1.map Pt.row))⟩ (x1).length _ kr kr kr kr kr (frz_len _ _) rfl ?_
  refine LAt.runU tOk 1 kr ?_
  refine LAt.doneM 459249 336 kr ?_
  obtain ⟨o15, eo15, Ho15⟩ := bind_some H
  clear H
  refine Tr.mid (ι := Int × Int × Int × Int) (fun v => ⟨68, 0, [sI 7 v.1, sA 6 6 5 0, sI 5 0, sA 4 4 5 0], [(6, [cI v.2.1, cI v.2.2.1, cI v.2.2.2, cI x0, cI 0]), (4, [cI 0, cI 0, cI 0, cI 0, cI 0])]⟩) (fun v => impl_BestVec_J1 n x0 v.1 v.2.1 v.2.2.1 v.2.2.2 = some r) ?_ ?_
  · refine Tr.block ?_
    refine Tr.loop (ι := Nat × (Int × Int × Int × Int × Int × Int × Int × Int × Int × Int)) (fun v => ⟨68, 0, [sI 18 v.2.1, sI 17 (x1.length : Int), sC 16 (cF 8 x1 Pt.row), sA 8 8 5 0, sI 7 v.2.2.1, sA 6 6 5 0, sI 5 0, sA 4 4 5 0, sI 0 x0], [(8, [cI v.2.2.2.1, cI v.2.2.2.2.1, cI v.2.2.2.2.2.1, cI v.2.2.2.2.2.2.1, cI v.2.2.2.2.2.2.2.1]), (6, [cI v.2.2.2.2.2.2.2.2.1, cI v.2.2.2.2.2.2.2.2.2.1, cI v.2.2.2.2.2.2.2.2.2.2, cI x0, cI 0]), (4, [cI 0, cI 0, cI 0, cI 0, cI 0])]⟩) (fun v => impl_BestVec_L2 n v.1 x0 x1 v.2.1 v.2.2.1 v.2.2.2.1 v.2.2.2.2.1 v.2.2.2.2.2.1 v.2.2.2.2.2.2.1 v.2.2.2.2.2.2.2.1 v.2.2.2.2.2.2.2.2.1 v.2.2.2.2.2.2.2.2.2.1 v.2.2.2.2.2.2.2.2.2.2 = some o15) (fun v => v.1) (n, (0, (-1), 0, 0, 0, 0, 0, x0, 0, 0)) eo15 (St.sub_of [18, 17, 16, 8, 7, 6, 5, 4, 0] [8, 6, 4] kr) ?_
    rintro ⟨mo15, y1, y2, y3, y4, y5, y6, y7, y8, y9, y10⟩ H
    have H : impl_BestVec_L2 n mo15 x0 x1 y1 y2 y3 y4 y5 y6 y7 y8 y9 y10 = some o15 := H
    obtain _ | mo15 := mo15
    · cases (show (none : Option _) = some o15 from H)
    rw [impl_BestVec_L2] at H
    refine Tr.rgn tOk 1 983537 336 kr kr ?_
    refine Tr.seq ?_
    cases h1 : (decide (y1 < (x1.length : Int)))
    · have H := bifF h1 H
      refine Tr.cF h1 kr ?_
      refine Tr.exit ?_
      refine And.intro (fun _ => ?_) (fun h => absurd rfl h)
      have H := Option.some.inj H
      subst H
      have H := Ho15
      dsimp only at H
      exact Exists.intro (y2, y8, y9, y10) (And.intro H (St.sub_of [7, 6, 5, 4] [6, 4] kr))
    have H := bifT h1 H
    refine Tr.cT h1 kr ?_
    refine Tr.skip ?_
    show Tr _ _ _ _ _
    refine Tr.seq ?_
    refine Tr.block ?_
    refine Tr.rs ?_
    refine LAt.runU tOk 1 kr ?_
    obtain ⟨v16, ev16, H⟩ := bind_some H
    refine LAt.indexF tOk (t := 55) (ty := 0) (x := (.tmp 16)) (y := (.tmp 18)) (d := 21) (g := none) ⟨(.slot 16), [], 0, false, 8, (CV.frzEs (x1.map Pt.row))⟩ y1 (Pt.row v16) _ kr kr kr kr rfl (idx_isF ev16) rfl ?_
    refine LAt.runU tOk 4 kr ?_
    refine LAt.doneM 8325105 1360 kr ?_
    refine Tr.seq ?_
    refine Tr.rs ?_
    refine LAt.runU tOk 4 kr ?_
    refine LAt.to ⟨68, 0, [sB 26 (!v16.Up), sB 25 (!v16.Up), sB 24 v16.Up, sA 23 10 8 0, sI 9 y1, sA 10 10 8 0, sV 22 (Pt.row v16), (21, .fad ((Pt.row v16))), sI 20 y1, sB 19 (decide (y1 < (x1.length : Int))), sI 18 y1, sI 17 (x1.length : Int), sC 16 (cF 8 x1 Pt.row), sA 8 8 5 0, sI 7 y2, sA 6 6 5 0, sI 5 0, sA 4 4 5 0, sI 0 x0], [(10, (Pt.row v16)), (8, [cI y3, cI y4, cI y5, cI y6, cI y7]), (6, [cI y8, cI y9, cI y10, cI x0, cI 0]), (4, [cI 0, cI 0, cI 0, cI 0, cI 0])]⟩ kr ?_
    cases h2 : (!v16.Up)
    · have H := bifF h2 H
      refine LAt.runU tOk 4 kr ?_
      refine LAt.doneM 2147420145 1360 kr ?_
      refine Tr.to ⟨68, 0, [sB 30 (!v16.Has), sB 29 (!v16.Has), sB 28 v16.Has, sA 27 10 8 2, sB 26 false, sB 25 false, sB 24 v16.Up, sA 23 10 8 0, sI 9 y1, sA 10 10 8 0, sV 22 (Pt.row v16), (21, .fad ((Pt.row v16))), sI 20 y1, sB 19 (decide (y1 < (x1.length : Int))), sI 18 y1, sI 17 (x1.length : Int), sC 16 (cF 8 x1 Pt.row), sA 8 8 5 0, sI 7 y2, sA 6 6 5 0, sI 5 0, sA 4 4 5 0, sI 0 x0], [(10, (Pt.row v16)), (8, [cI y3, cI y4, cI y5, cI y6, cI y7]), (6, [cI y8, cI y9, cI y10, cI x0, cI 0]), (4, [cI 0, cI 0, cI 0, cI 0, cI 0])]⟩ kr ?_
      cases h3 : (!v16.Has)
      · have H := bifF h3 H
        refine Tr.cf kr ?_
        refine Tr.skip ?_
        show Tr _ _ _ _ _
        refine Tr.rs ?_
        refine LAt.runU tOk 4 kr ?_
        obtain ⟨r17, er17, H⟩ := bind_some H
        refine LAt.callV tOk [.rd, .rd] [] (impl_StepVec n v16.Heard v16.Cost r17 er17) kr kr kr kr (.inl rfl) ?_
        refine LAt.movT tOk (ty := 189) (t := 36) (d := 31) (g := none) [(true, (Vec.row r17.1)), (false, [cB r17.2])] _ kr (.inl rfl) kr kr kr kr rfl ?_
        refine LAt.runU tOk 5 kr ?_
        refine LAt.doneM 481036279793 3408 kr ?_
        refine Tr.seq ?_
        refine Tr.mid (ι := Bool × Bool × Bool × Bool × Bool × Bool × Bool) (fun v => ⟨68, 0, [sB 54 v.1, sB 46 v.2.1, sB 45 v.2.2.1, sB 40 v.2.2.2.1, sB 39 v.2.2.2.2.1, sB 12 v.2.2.2.2.2.1, sA 11 11 5 0, sB 38 v.2.2.2.2.2.2, (31, .tup [(true, [.dead, .dead, .dead, .dead, .dead]), (false, [.dead])]), sV 37 (Vec.row r17.1), sI 35 v16.Cost, sA 34 10 8 1, sV 33 ((Pt.row v16).drop 3), sA 32 10 8 3, sB 30 false, sB 29 false, sB 28 v16.Has, sA 27 10 8 2, sB 26 false, sB 25 false, sB 24 v16.Up, sA 23 10 8 0, sI 9 y1, sA 10 10 8 0, sV 22 (Pt.row v16), (21, .fad ((Pt.row v16))), sI 20 y1, sB 19 true, sI 18 y1, sI 17 (x1.length : Int), sC 16 (cF 8 x1 Pt.row), sA 8 8 5 0, sI 7 y2, sA 6 6 5 0, sI 5 0, sA 4 4 5 0, sI 0 x0], [(11, (Vec.row r17.1)), (10, (Pt.row v16)), (8, [cI y3, cI y4, cI y5, cI y6, cI y7]), (6, [cI y8, cI y9, cI y10, cI x0, cI 0]), (4, [cI 0, cI 0, cI 0, cI 0, cI 0])]⟩) (fun v => impl_BestVec_J3 n (fun v => impl_BestVec_L2 n mo15 x0 x1 v.1 v.2.1 v.2.2.1 v.2.2.2.1 v.2.2.2.2.1 v.2.2.2.2.2.1 v.2.2.2.2.2.2.1 v.2.2.2.2.2.2.2.1 v.2.2.2.2.2.2.2.2.1 v.2.2.2.2.2.2.2.2.2) r17 y1 y10 y2 y3 y4 y5 y6 y7 y8 y9 v.1 v.2.1 v.2.2.1 v.2.2.2.1 v.2.2.2.2.1 v.2.2.2.2.2.1 v.2.2.2.2.2.2 = some o15) ?_ ?_
        · refine Tr.at ?_
          refine LAt.runU tOk 2 kr ?_
          refine LAt.to ⟨68, 0, [sB 40 r17.2, sB 39 r17.2, sB 12 r17.2, sA 11 11 5 0, sB 38 r17.2, (31, .tup [(true, [.dead, .dead, .dead, .dead, .dead]), (false, [.dead])]), sV 37 (Vec.row r17.1), sI 35 v16.Cost, sA 34 10 8 1, sV 33 ((Pt.row v16).drop 3), sA 32 10 8 3, sB 30 false, sB 29 false, sB 28 v16.Has, sA 27 10 8 2, sB 26 false, sB 25 false, sB 24 v16.Up, sA 23 10 8 0, sI 9 y1, sA 10 10 8 0, sV 22 (Pt.row v16), (21, .fad ((Pt.row v16))), sI 20 y1, sB 19 (decide (y1 < (x1.length : Int))), sI 18 y1, sI 17 (x1.length : Int), sC 16 (cF 8 x1 Pt.row), sA 8 8 5 0, sI 7 y2, sA 6 6 5 0, sI 5 0, sA 4 4 5 0, sI 0 x0], [(11, (Vec.row r17.1)), (10, (Pt.row v16)), (8, [cI y3, cI y4, cI y5, cI y6, cI y7]), (6, [cI y8, cI y9, cI y10, cI x0, cI 0]), (4, [cI 0, cI 0, cI 0, cI 0, cI 0])]⟩ kr ?_
          cases h5 : r17.2
          · have H := bifF h5 H
            refine LAt.runU tOk 14 kr ?_
            refine LAt.doneM 36028728299429873 3408 kr ?_
            refine Sb.to ⟨68, 0, [sB 54 false, (53, .tup []), (52, .tup []), (51, .tup []), (50, .tup []), (49, .tup []), (48, .tup []), (47, .tup []), sB 46 false, sB 45 false, (44, .tup []), (43, .tup []), (42, .tup []), (41, .tup []), sB 40 false, sB 39 false, sB 12 false, sA 11 11 5 0, sB 38 false, (31, .tup [(true, [.dead, .dead, .dead, .dead, .dead]), (false, [.dead])]), sV 37 (Vec.row r17.1), sI 35 v16.Cost, sA 34 10 8 1, sV 33 ((Pt.row v16).drop 3), sA 32 10 8 3, sB 30 false, sB 29 false, sB 28 v16.Has, sA 27 10 8 2, sB 26 false, sB 25 false, sB 24 v16.Up, sA 23 10 8 0, sI 9 y1, sA 10 10 8 0, sV 22 (Pt.row v16), (21, .fad ((Pt.row v16))), sI 20 y1, sB 19 (decide (y1 < (x1.length : Int))), sI 18 y1, sI 17 (x1.length : Int), sC 16 (cF 8 x1 Pt.row), sA 8 8 5 0, sI 7 y2, sA 6 6 5 0, sI 5 0, sA 4 4 5 0, sI 0 x0], [(11, (Vec.row r17.1)), (10, (Pt.row v16)), (8, [cI y3, cI y4, cI y5, cI y6, cI y7]), (6, [cI y8, cI y9, cI y10, cI x0, cI 0]), (4, [cI 0, cI 0, cI 0, cI 0, cI 0])]⟩ kr ?_
            rw [h1]
            exact Exists.intro (false, false, false, false, false, false, false) (And.intro H (St.sub_of [54, 46, 45, 40, 39, 12, 11, 38, 31, 37, 35, 34, 33, 32, 30, 29, 28, 27, 26, 25, 24, 23, 9, 10, 22, 21, 20, 19, 18, 17, 16, 8, 7, 6, 5, 4, 0] [11, 10, 8, 6, 4] kr))
          have H := bifT h5 H
          refine LAt.runU tOk 6 kr ?_
          refine LAt.to ⟨68, 0, [sB 46 (decide (r17.1.Root < x0)), sB 45 (decide (r17.1.Root < x0)), sB 44 (decide (r17.1.Root < x0)), sI 43 x0, sI 42 r17.1.Root, sA 41 11 5 0, sB 40 true, sB 39 true, sB 12 true, sA 11 11 5 0, sB 38 true, (31, .tup [(true, [.dead, .dead, .dead, .dead, .dead]), (false, [.dead])]), sV 37 (Vec.row r17.1), sI 35 v16.Cost, sA 34 10 8 1, sV 33 ((Pt.row v16).drop 3), sA 32 10 8 3, sB 30 false, sB 29 false, sB 28 v16.Has, sA 27 10 8 2, sB 26 false, sB 25 false, sB 24 v16.Up, sA 23 10 8 0, sI 9 y1, sA 10 10 8 0, sV 22 (Pt.row v16), (21, .fad ((Pt.row v16))), sI 20 y1, sB 19 (decide (y1 < (x1.length : Int))), sI 18 y1, sI 17 (x1.length : Int), sC 16 (cF 8 x1 Pt.row), sA 8 8 5 0, sI 7 y2, sA 6 6 5 0, sI 5 0, sA 4 4 5 0, sI 0 x0], [(11, (Vec.row r17.1)), (10, (Pt.row v16)), (8, [cI y3, cI y4, cI y5, cI y6, cI y7]), (6, [cI y8, cI y9, cI y10, cI x0, cI 0]), (4, [cI 0, cI 0, cI 0, cI 0, cI 0])]⟩ kr ?_
          cases h6 : (decide (r17.1.Root < x0))
          · have H := bifF h6 H
            refine LAt.runU tOk 8 kr ?_
            refine LAt.doneM 36028728299429873 3408 kr ?_
            refine Sb.to ⟨68, 0, [sB 54 false, (53, .tup []), (52, .tup []), (51, .tup []), (50, .tup []), (49, .tup []), (48, .tup []), (47, .tup []), sB 46 false, sB 45 false, sB 44 false, sI 43 x0, sI 42 r17.1.Root, sA 41 11 5 0, sB 40 true, sB 39 true, sB 12 true, sA 11 11 5 0, sB 38 true, (31, .tup [(true, [.dead, .dead, .dead, .dead, .dead]), (false, [.dead])]), sV 37 (Vec.row r17.1), sI 35 v16.Cost, sA 34 10 8 1, sV 33 ((Pt.row v16).drop 3), sA 32 10 8 3, sB 30 false, sB 29 false, sB 28 v16.Has, sA 27 10 8 2, sB 26 false, sB 25 false, sB 24 v16.Up, sA 23 10 8 0, sI 9 y1, sA 10 10 8 0, sV 22 (Pt.row v16), (21, .fad ((Pt.row v16))), sI 20 y1, sB 19 (decide (y1 < (x1.length : Int))), sI 18 y1, sI 17 (x1.length : Int), sC 16 (cF 8 x1 Pt.row), sA 8 8 5 0, sI 7 y2, sA 6 6 5 0, sI 5 0, sA 4 4 5 0, sI 0 x0], [(11, (Vec.row r17.1)), (10, (Pt.row v16)), (8, [cI y3, cI y4, cI y5, cI y6, cI y7]), (6, [cI y8, cI y9, cI y10, cI x0, cI 0]), (4, [cI 0, cI 0, cI 0, cI 0, cI 0])]⟩ kr ?_
            rw [h1]
            exact Exists.intro (false, false, false, true, true, true, true) (And.intro H (St.sub_of [54, 46, 45, 40, 39, 12, 11, 38, 31, 37, 35, 34, 33, 32, 30, 29, 28, 27, 26, 25, 24, 23, 9, 10, 22, 21, 20, 19, 18, 17, 16, 8, 7, 6, 5, 4, 0] [11, 10, 8, 6, 4] kr))
          have H := bifT h6 H
          refine LAt.runU tOk 3 kr ?_
          refine LAt.to ⟨68, 0, [sB 49 (decide (y2 < 0)), sB 48 (decide (y2 < 0)), sI 47 y2, sB 46 true, sB 45 true, sB 44 true, sI 43 x0, sI 42 r17.1.Root, sA 41 11 5 0, sB 40 true, sB 39 true, sB 12 true, sA 11 11 5 0, sB 38 true, (31, .tup [(true, [.dead, .dead, .dead, .dead, .dead]), (false, [.dead])]), sV 37 (Vec.row r17.1), sI 35 v16.Cost, sA 34 10 8 1, sV 33 ((Pt.row v16).drop 3), sA 32 10 8 3, sB 30 false, sB 29 false, sB 28 v16.Has, sA 27 10 8 2, sB 26 false, sB 25 false, sB 24 v16.Up, sA 23 10 8 0, sI 9 y1, sA 10 10 8 0, sV 22 (Pt.row v16), (21, .fad ((Pt.row v16))), sI 20 y1, sB 19 (decide (y1 < (x1.length : Int))), sI 18 y1, sI 17 (x1.length : Int), sC 16 (cF 8 x1 Pt.row), sA 8 8 5 0, sI 7 y2, sA 6 6 5 0, sI 5 0, sA 4 4 5 0, sI 0 x0], [(11, (Vec.row r17.1)), (10, (Pt.row v16)), (8, [cI y3, cI y4, cI y5, cI y6, cI y7]), (6, [cI y8, cI y9, cI y10, cI x0, cI 0]), (4, [cI 0, cI 0, cI 0, cI 0, cI 0])]⟩ kr ?_
          cases h7 : (decide (y2 < 0))
          · have H := bifF h7 H
            refine LAt.runU tOk 2 kr ?_
            obtain ⟨r25, er25, H⟩ := bind_some H
            refine LAt.callV tOk [.rd, .rd] [] (impl_LessVec n r17.1 (⟨y3, y4, y5, y6, y7⟩ : Vec) r25 er25) kr kr kr kr (.inl rfl) ?_
            refine LAt.runU tOk 2 kr ?_
            refine LAt.doneM 36028728299429873 3408 kr ?_
            refine Sb.to ⟨68, 0, [sB 54 r25, sB 53 r25, sB 52 r25, sV 51 [cI y3, cI y4, cI y5, cI y6, cI y7], sV 50 (Vec.row r17.1), sB 49 false, sB 48 false, sI 47 y2, sB 46 true, sB 45 true, sB 44 true, sI 43 x0, sI 42 r17.1.Root, sA 41 11 5 0, sB 40 true, sB 39 true, sB 12 true, sA 11 11 5 0, sB 38 true, (31, .tup [(true, [.dead, .dead, .dead, .dead, .dead]), (false, [.dead])]), sV 37 (Vec.row r17.1), sI 35 v16.Cost, sA 34 10 8 1, sV 33 ((Pt.row v16).drop 3), sA 32 10 8 3, sB 30 false, sB 29 false, sB 28 v16.Has, sA 27 10 8 2, sB 26 false, sB 25 false, sB 24 v16.Up, sA 23 10 8 0, sI 9 y1, sA 10 10 8 0, sV 22 (Pt.row v16), (21, .fad ((Pt.row v16))), sI 20 y1, sB 19 (decide (y1 < (x1.length : Int))), sI 18 y1, sI 17 (x1.length : Int), sC 16 (cF 8 x1 Pt.row), sA 8 8 5 0, sI 7 y2, sA 6 6 5 0, sI 5 0, sA 4 4 5 0, sI 0 x0], [(11, (Vec.row r17.1)), (10, (Pt.row v16)), (8, [cI y3, cI y4, cI y5, cI y6, cI y7]), (6, [cI y8, cI y9, cI y10, cI x0, cI 0]), (4, [cI 0, cI 0, cI 0, cI 0, cI 0])]⟩ kr ?_
            rw [h1]
            exact Exists.intro (r25, true, true, true, true, true, true) (And.intro H (St.sub_of [54, 46, 45, 40, 39, 12, 11, 38, 31, 37, 35, 34, 33, 32, 30, 29, 28, 27, 26, 25, 24, 23, 9, 10, 22, 21, 20, 19, 18, 17, 16, 8, 7, 6, 5, 4, 0] [11, 10, 8, 6, 4] kr))
          have H := bifT h7 H
          refine LAt.runU tOk 5 kr ?_
          refine LAt.doneM 36028728299429873 3408 kr ?_
          refine Sb.to ⟨68, 0, [sB 54 true, sB 53 true, (52, .tup []), (51, .tup []), (50, .tup []), sB 49 true, sB 48 true, sI 47 y2, sB 46 true, sB 45 true, sB 44 true, sI 43 x0, sI 42 r17.1.Root, sA 41 11 5 0, sB 40 true, sB 39 true, sB 12 true, sA 11 11 5 0, sB 38 true, (31, .tup [(true, [.dead, .dead, .dead, .dead, .dead]), (false, [.dead])]), sV 37 (Vec.row r17.1), sI 35 v16.Cost, sA 34 10 8 1, sV 33 ((Pt.row v16).drop 3), sA 32 10 8 3, sB 30 false, sB 29 false, sB 28 v16.Has, sA 27 10 8 2, sB 26 false, sB 25 false, sB 24 v16.Up, sA 23 10 8 0, sI 9 y1, sA 10 10 8 0, sV 22 (Pt.row v16), (21, .fad ((Pt.row v16))), sI 20 y1, sB 19 (decide (y1 < (x1.length : Int))), sI 18 y1, sI 17 (x1.length : Int), sC 16 (cF 8 x1 Pt.row), sA 8 8 5 0, sI 7 y2, sA 6 6 5 0, sI 5 0, sA 4 4 5 0, sI 0 x0], [(11, (Vec.row r17.1)), (10, (Pt.row v16)), (8, [cI y3, cI y4, cI y5, cI y6, cI y7]), (6, [cI y8, cI y9, cI y10, cI x0, cI 0]), (4, [cI 0, cI 0, cI 0, cI 0, cI 0])]⟩ kr ?_
          rw [h1]
          exact Exists.intro (true, true, true, true, true, true, true) (And.intro H (St.sub_of [54, 46, 45, 40, 39, 12, 11, 38, 31, 37, 35, 34, 33, 32, 30, 29, 28, 27, 26, 25, 24, 23, 9, 10, 22, 21, 20, 19, 18, 17, 16, 8, 7, 6, 5, 4, 0] [11, 10, 8, 6, 4] kr))
        rintro ⟨y18, y19, y20, y21, y22, y23, y24⟩ H
        have H : (impl_BestVec_J3 n (fun v => impl_BestVec_L2 n mo15 x0 x1 v.1 v.2.1 v.2.2.1 v.2.2.2.1 v.2.2.2.2.1 v.2.2.2.2.2.1 v.2.2.2.2.2.2.1 v.2.2.2.2.2.2.2.1 v.2.2.2.2.2.2.2.2.1 v.2.2.2.2.2.2.2.2.2) r17 y1 y10 y2 y3 y4 y5 y6 y7 y8 y9 y18 y19 y20 y21 y22 y23 y24) = some o15 := H
        unfold impl_BestVec_J3 at H
        show Tr _ _ _ _ _
        cases h4 : y18
        · have H := bifF h4 H
          refine Tr.cf kr ?_
          refine Tr.skip ?_
          show Tr _ _ _ _ _
          refine Tr.rgE tOk 2 36911610229348573169 3408 kr kr ?_
          exact Exists.intro (mo15, ((IntKind.wrap .i64 (y1 + 1)), y2, y3, y4, y5, y6, y7, y8, y9, y10)) (And.intro H (And.intro (Nat.lt_succ_self mo15) (St.sub_of [18, 17, 16, 8, 7, 6, 5, 4, 0] [8, 6, 4] kr)))
        have H := bifT h4 H
        refine Tr.ct kr ?_
        refine Tr.rgn tOk 4 126208472986361841 3408 kr kr ?_
        refine Tr.rgE tOk 9 36875581432329609201 3408 kr kr ?_
        show Tr _ _ _ _ _
        refine Tr.rgE tOk 2 73769069579748712433 3408 kr kr ?_
        exact Exists.intro (mo15, ((IntKind.wrap .i64 (y1 + 1)), y1, r17.1.Root, r17.1.Cost, r17.1.Hops, r17.1.Bridge, r17.1.Port, r17.1.Root, r17.1.Cost, r17.1.Hops)) (And.intro H (And.intro (Nat.lt_succ_self mo15) (St.sub_of [18, 17, 16, 8, 7, 6, 5, 4, 0] [8, 6, 4] kr)))
      have H := bifT h3 H
      refine Tr.ct kr ?_
      refine Tr.exit ?_
      refine And.intro (fun _ => ?_) (fun h => absurd rfl h)
      show Tr _ _ _ _ _
      refine Tr.rgE tOk 2 36893488149566523377 1360 kr kr ?_
      exact Exists.intro (mo15, ((IntKind.wrap .i64 (y1 + 1)), y2, y3, y4, y5, y6, y7, y8, y9, y10)) (And.intro H (And.intro (Nat.lt_succ_self mo15) (St.sub_of [18, 17, 16, 8, 7, 6, 5, 4, 0] [8, 6, 4] kr)))
    have H := bifT h2 H
    refine LAt.runU tOk 4 kr ?_
    refine LAt.doneM 2147420145 1360 kr ?_
    refine Tr.ct kr ?_
    refine Tr.exit ?_
    refine And.intro (fun _ => ?_) (fun h => absurd rfl h)
    show Tr _ _ _ _ _
    refine Tr.rgE tOk 2 36893488149566523377 1360 kr kr ?_
    exact Exists.intro (mo15, ((IntKind.wrap .i64 (y1 + 1)), y2, y3, y4, y5, y6, y7, y8, y9, y10)) (And.intro H (And.intro (Nat.lt_succ_self mo15) (St.sub_of [18, 17, 16, 8, 7, 6, 5, 4, 0] [8, 6, 4] kr)))
  rintro ⟨y11, y12, y13, y14⟩ H
  have H : (impl_BestVec_J1 n x0 y11 y12 y13 y14) = some r := H
  unfold impl_BestVec_J1 at H
  show Tr _ _ _ _ _
  refine Tr.rgn tOk 4 48 16 kr kr ?_
  refine Tr.ret ?_
  have H := Option.some.inj H
  subst H
  exact Fin.of _ [(true, [cI y12, cI y13, cI y14, cI x0, cI 0]), (false, [cI y11])] kr rfl rfl

def impl_SayVecF (n : Nat) (x0 : Int) (x1 : (List Pt)) (x2 : Int) : Option (Vec) :=
  ((impl_BestVecF n x0 x1).bind fun r1 => (some (⟨r1.1.Root, r1.1.Cost, r1.1.Hops, r1.1.Bridge, x2⟩ : Vec)))
/-- loop.example/g00326/impl.SayVec -/
theorem impl_SayVec (n : Nat) (x0 : Int) (x1 : (List Pt)) (x2 : Int) (r : Vec) (H : impl_SayVecF n x0 x1 x2 = some r) : LCall Try.prog 139 [.val false [.lit (.int .i64 x0)], .val false [.sl false 8 (CV.frzEs (x1.map Pt.row))], .val false [.lit (.int .i64 x2)]] [.val true (Vec.row r)] [] := by
  refine LCall.of_body tOk Try.func139 rfl (c := (.seq (Rg Try.f139 0) (.seq (Rg Try.f139 1) (.seq (Rg Try.f139 2) (.seq (Rg Try.f139 3) .ret))))) kr (Nat.le_of_ble_eq_true kr) 0 (rs := [.cell 6 70]) rfl [] .nil [(true, (Vec.row r))] [] [] fun cx => ?_
  show Tr _ _ _ ⟨18, 0, [sI 0 x0, sC 1 (cF 8 x1 Pt.row), sI 2 x2], []⟩ _
  unfold impl_SayVecF at H
  refine Tr.rgn tOk 1 71 64 kr kr ?_
  refine Tr.rs ?_
  refine LAt.runU tOk 2 kr ?_
  obtain ⟨r1, er1, H⟩ := bind_some H
  refine LAt.callV tOk [.rd, .rd] [] (impl_BestVec n x0 x1 r1 er1) kr kr kr kr (.inl rfl) ?_
  refine LAt.movT tOk (ty := 181) (t := 12) (d := 9) (g := none) [(true, (Vec.row r1.1)), (false, [cI r1.2])] _ kr (.inl rfl) kr kr kr kr rfl ?_
  refine LAt.runU tOk 5 kr ?_
  refine LAt.doneM 196 192 kr ?_
  refine Tr.rgn tOk 3 192 192 kr kr ?_
  refine Tr.rgn tOk 2 64 64 kr kr ?_
  refine Tr.ret ?_
  have H := Option.some.inj H
  subst H
  exact Fin.of _ [(true, [cI r1.1.Root, cI r1.1.Cost, cI r1.1.Hops, cI r1.1.Bridge, cI x2])] kr rfl rfl

def impl_RoleOfF (n : Nat) (x0 : Int) (x1 : (List Pt)) (x2 : Int) : Option (Int) :=
  ((impl_inF n x2 0 (IntKind.wrap .i64 ((x1.length : Int) - 1))).bind fun r1 => (bif (!r1) then (some 4) else ((idx x1 x2).bind fun v2 => (bif (!v2.Up) then (some 4) else ((impl_BestVecF n x0 x1).bind fun r3 => (bif (r3.2 == x2) then (some 1) else ((idx x1 x2).bind fun v4 => (bif (!v4.Has) then (some 2) else ((impl_SayVecF n x0 x1 x2).bind fun r5 => ((idx x1 x2).bind fun v6 => ((impl_LessVecF n r5 v6.Heard).bind fun r7 => (bif r7 then (some 2) else (some 3)))))))))))))
/-- loop.example/g00326/impl.RoleOf -/
theorem impl_RoleOf (n : Nat) (x0 : Int) (x1 : (List Pt)) (x2 : Int) (r : Int) (H : impl_RoleOfF n x0 x1 x2 = some r) : LCall Try.prog 172 [.val false [.lit (.int .i64 x0)], .val false [.sl false 8 (CV.frzEs (x1.map Pt.row))], .val false [.lit (.int .i64 x2)]] [.val false [.lit (.int .i64 r)]] [] := by
  refine LCall.of_body tOk Try.func172 rfl (c := (.seq (Rg Try.f172 0) (.seq (.seq (Rg Try.f172 1) (.cond (.tmp 22) (.seq (Rg Try.f172 2) .ret) .skip)) (.seq (Rg Try.f172 3) (.seq (.block 0 (.seq (Rg Try.f172 4) (.cond (.tmp 29) (.seq (Rg Try.f172 5) .ret) (.seq (Rd Try.f172 6) (.cond (.tmp 33) (.seq (Rg Try.f172 7) .ret) .skip))))) (.seq (Rg Try.f172 8) .ret)))))) kr (Nat.le_of_ble_eq_true kr) 0 (rs := [.tmp 6]) rfl [] .nil [(false, [.lit (.int .i64 r)])] [] [] fun cx => ?_
  show Tr _ _ _ ⟨52, 0, [sI 0 x0, sC 1 (cF 8 x1 Pt.row), sI 2 x2], []⟩ _
  unfold impl_RoleOfF at H
  refine Tr.rgn tOk 1 71 0 kr kr ?_
  refine Tr.seq ?_
  refine Tr.rs ?_
  refine LAt.runU tOk 2 kr ?_
  refine LAt.lenE tOk (t := 55) (ty := 3) (e := 114) (x := (.tmp 10)) (d := 11) (g := none) ⟨(.slot 10), [], 0, false, 8, (CV.frzEs (x1.map Pt.row))⟩ (x1).length _ kr kr kr kr kr (frz_len _ _) rfl ?_
  refine LAt.runU tOk 1 kr ?_
  obtain ⟨r1, er1, H⟩ := bind_some H
  refine LAt.callV tOk [.rd, .rd, .rd] [] (impl_in n x2 0 (IntKind.wrap .i64 ((x1.length : Int) - 1)) r1 er1) kr kr kr kr (.inl rfl) ?_
  refine LAt.runU tOk 2 kr ?_
  refine LAt.to ⟨52, 0, [sB 15 (!r1), sB 14 (!r1), sB 13 r1, sI 12 (IntKind.wrap .i64 ((x1.length : Int) - 1)), sI 11 (x1.length : Int), sC 10 (cF 8 x1 Pt.row), sI 9 x2, sI 6 0, sI 0 x0, sC 1 (cF 8 x1 Pt.row), sI 2 x2], []⟩ kr ?_
  cases h1 : (!r1)
  · have H := bifF h1 H
    refine LAt.runU tOk 2 kr ?_
    obtain ⟨v2, ev2, H⟩ := bind_some H
    refine LAt.indexF tOk (t := 55) (ty := 0) (x := (.tmp 16)) (y := (.tmp 17)) (d := 18) (g := (some (6, false))) ⟨(.slot 16), [], 0, false, 8, (CV.frzEs (x1.map Pt.row))⟩ x2 (Pt.row v2) _ kr kr kr kr rfl (idx_isF ev2) rfl ?_
    refine LAt.runU tOk 4 kr ?_
    refine LAt.doneM 4194375 0 kr ?_
    cases h2 : (!v2.Up)
    · have H := bifF h2 H
      refine Tr.cF h2 kr ?_
      refine Tr.skip ?_
      show Tr _ _ _ _ _
      refine Tr.rs ?_
      refine LAt.runU tOk 2 kr ?_
      obtain ⟨r3, er3, H⟩ := bind_some H
      refine LAt.callV tOk [.rd, .rd] [] (impl_BestVec n x0 x1 r3 er3) kr kr kr kr (.inl rfl) ?_
      refine LAt.movT tOk (ty := 181) (t := 26) (d := 23) (g := none) [(true, (Vec.row r3.1)), (false, [cI r3.2])] _ kr (.inl rfl) kr kr kr kr rfl ?_
      refine LAt.runU tOk 5 kr ?_
      refine LAt.doneM 327 0 kr ?_
      refine Tr.seq ?_
      refine Tr.block ?_
      refine Tr.rgn tOk 4 536870983 0 kr kr ?_
      cases h3 : (r3.2 == x2)
      · have H := bifF h3 H
        refine Tr.cF h3 kr ?_
        obtain ⟨v4, ev4, H⟩ := bind_some H
        refine Tr.to ⟨52, 0, [sB 29 (r3.2 == x2), sI 6 0, sI 0 x0, sC 1 (cF 8 x1 Pt.row), sI 2 x2], []⟩ kr ?_
        cases h4 : (!v4.Has)
        · have H := bifF h4 H
          obtain ⟨r5, er5, H⟩ := bind_some H
          obtain ⟨v6, ev6, H⟩ := bind_some H
          obtain ⟨r7, er7, H⟩ := bind_some H
          refine Tr.draws mixed 19 kr ⟨52, 0, [sB 33 r7, sI 6 0], []⟩ (fun cx => ?_) ?_
          · refine AT.runU tOk [(0, []), (1, [])] 17 [] [1, 0] rfl kr (fun cx => ?_)
            refine AT.indexF tOk 2 (t := 55) (ty := 0) (x := (.tmp 34)) (y := (.tmp 35)) (d := 36) (g := none) ⟨(.slot 34), [], 0, false, 8, (CV.frzEs (x1.map Pt.row))⟩ x2 (Pt.row v4) _ kr kr kr kr kr kr rfl (idx_isF ev4) rfl (fun cx => ?_)
            refine AT.runU tOk [(3, []), (4, []), (5, []), (6, [])] 12 [] [6, 5, 4, 3, 2, 1, 0] rfl kr (fun cx => ?_)
            refine AT.to ⟨52, 0, [sB 40 (!v4.Has), sB 39 (!v4.Has), sB 38 v4.Has, (37, .fad (((Pt.row v4).drop 2))), (36, .fad ((Pt.row v4))), sI 35 x2, sC 34 (cF 8 x1 Pt.row), sB 29 (r3.2 == x2), sI 6 0, sI 0 x0, sC 1 (cF 8 x1 Pt.row), sI 2 x2], []⟩ kr ?_
            rw [h4]
            refine AT.runU tOk [(7, []), (8, []), (9, []), (11, []), (12, [])] 7 [] [12, 11, 9, 8, 7, 6, 5, 4, 3, 2, 1, 0] rfl kr (fun cx => ?_)
            refine AT.indexF tOk 13 (t := 55) (ty := 0) (x := (.tmp 45)) (y := (.tmp 46)) (d := 47) (g := (some (6, false))) ⟨(.slot 45), [], 0, false, 8, (CV.frzEs (x1.map Pt.row))⟩ x2 (Pt.row v6) _ kr kr kr kr kr kr rfl (idx_isF ev6) rfl (fun cx => ?_)
            refine AT.runU tOk [(14, []), (15, [])] 4 [] [15, 14, 13, 12, 11, 9, 8, 7, 6, 5, 4, 3, 2, 1, 0] rfl kr (fun cx => ?_)
            refine AT.big1 tOk 10 kr kr ?_
            refine LAt.callV tOk [.rd, .rd, .rd] [] (impl_SayVec n x0 x1 x2 r5 er5) kr kr kr kr (.inl rfl) ?_
            refine LAt.fin kr (And.intro (And.intro kr kr) ?_)
            refine AT.big1 tOk 16 kr kr ?_
            refine LAt.callV tOk [.rd, .rd] [] (impl_LessVec n r5 v6.Heard r7 er7) kr kr kr kr (.inl rfl) ?_
            refine LAt.fin kr (And.intro (And.intro kr kr) ?_)
            refine AT.runU tOk [(17, []), (18, [])] 0 [] [18, 17, 16, 10, 15, 14, 13, 12, 11, 9, 8, 7, 6, 5, 4, 3, 2, 1, 0] rfl kr (fun cx => ?_)
            exact AT.done [33, 6] [] _ kr kr rfl
          cases h5 : r7
          · have H := bifF h5 H
            refine Tr.cf kr ?_
            refine Tr.skip ?_
            show Tr _ _ _ _ _
            refine Tr.rgn tOk 1 64 0 kr kr ?_
            refine Tr.ret ?_
            have H := Option.some.inj H
            subst H
            exact Fin.of _ [(false, [cI 3])] kr rfl rfl
          have H := bifT h5 H
          refine Tr.ct kr ?_
          refine Tr.rgn tOk 1 64 0 kr kr ?_
          refine Tr.ret ?_
          have H := Option.some.inj H
          subst H
          exact Fin.of _ [(false, [cI 2])] kr rfl rfl
        have H := bifT h4 H
        refine Tr.draws mixed 19 kr ⟨52, 0, [sB 33 true, sI 6 0], []⟩ (fun cx => ?_) ?_
        · refine AT.runU tOk [(0, []), (1, [])] 17 [] [1, 0] rfl kr (fun cx => ?_)
          refine AT.indexF tOk 2 (t := 55) (ty := 0) (x := (.tmp 34)) (y := (.tmp 35)) (d := 36) (g := none) ⟨(.slot 34), [], 0, false, 8, (CV.frzEs (x1.map Pt.row))⟩ x2 (Pt.row v4) _ kr kr kr kr kr kr rfl (idx_isF ev4) rfl (fun cx => ?_)
          refine AT.runU tOk [(3, []), (4, []), (5, []), (6, [])] 12 [] [6, 5, 4, 3, 2, 1, 0] rfl kr (fun cx => ?_)
          refine AT.to ⟨52, 0, [sB 40 (!v4.Has), sB 39 (!v4.Has), sB 38 v4.Has, (37, .fad (((Pt.row v4).drop 2))), (36, .fad ((Pt.row v4))), sI 35 x2, sC 34 (cF 8 x1 Pt.row), sB 29 (r3.2 == x2), sI 6 0, sI 0 x0, sC 1 (cF 8 x1 Pt.row), sI 2 x2], []⟩ kr ?_
          rw [h4]
          refine AT.runU tOk [(7, []), (8, []), (9, []), (10, []), (11, []), (12, []), (13, []), (14, []), (15, []), (16, []), (17, []), (18, [])] 0 [] [18, 17, 16, 15, 14, 13, 12, 11, 10, 9, 8, 7, 6, 5, 4, 3, 2, 1, 0] rfl kr (fun cx => ?_)
          exact AT.done [33, 6] [] _ kr kr rfl
        refine Tr.ct kr ?_
        refine Tr.rgn tOk 1 64 0 kr kr ?_
        refine Tr.ret ?_
        have H := Option.some.inj H
        subst H
        exact Fin.of _ [(false, [cI 2])] kr rfl rfl
      have H := bifT h3 H
      refine Tr.cT h3 kr ?_
      refine Tr.rgn tOk 1 64 0 kr kr ?_
      refine Tr.ret ?_
      have H := Option.some.inj H
      subst H
      exact Fin.of _ [(false, [cI 1])] kr rfl rfl
    have H := bifT h2 H
    refine Tr.cT h2 kr ?_
    refine Tr.rgn tOk 1 71 0 kr kr ?_
    refine Tr.ret ?_
    have H := Option.some.inj H
    subst H
    exact Fin.of _ [(false, [cI 4])] kr rfl rfl
  have H := bifT h1 H
  refine LAt.runU tOk 7 kr ?_
  refine LAt.doneM 4194375 0 kr ?_
  refine Tr.ct kr ?_
  refine Tr.rgn tOk 1 71 0 kr kr ?_
  refine Tr.ret ?_
  have H := Option.some.inj H
  subst H
  exact Fin.of _ [(false, [cI 4])] kr rfl rfl

def impl_portThingF (n : Nat) (x0 : Bridge) (x1 : Int) (x2 : Int) : Option (Int) :=
  (bif (x1 == 1) then ((idx x0.Ports x2).bind fun v4 => ((impl_bitF n v4.Up).bind fun r5 => (some r5))) else (bif (x1 == 2) then ((idx x0.Ports x2).bind fun v3 => (some v3.Cost)) else (bif (x1 == 3) then ((impl_RoleOfF n x0.Id x0.Ports x2).bind fun r2 => (some r2)) else ((idx x0.V.Pvid x2).bind fun v1 => (some v1)))))
/-- loop.example/g00326/impl.portThing -/
theorem impl_portThing (n : Nat) (x0 : Bridge) (x1 : Int) (x2 : Int) (r : Int) (H : impl_portThingF n x0 x1 x2 = some r) : LCall Try.prog 128 [.val true (CV.frzRow (Bridge.row x0)), .val false [.lit (.int .i64 x1)], .val false [.lit (.int .i64 x2)]] [.val false [.lit (.int .i64 r)]] [] := by
  refine LCall.of_body tOk Try.func128 rfl (c := (.seq (Rg Try.f128 0) (.seq (.seq (Rg Try.f128 1) (.block 0 (.seq (Rg Try.f128 2) (.cond (.tmp 8) (.seq (Rg Try.f128 3) .ret) (.seq (Rg Try.f128 4) (.cond (.tmp 17) (.seq (Rg Try.f128 5) .ret) (.seq (Rg Try.f128 6) (.cond (.tmp 25) (.seq (Rg Try.f128 7) .ret) .skip)))))))) (.seq (Rg Try.f128 8) .ret)))) kr (Nat.le_of_ble_eq_true kr) 0 (rs := [.tmp 6]) rfl [] .nil [(false, [.lit (.int .i64 r)])] [] [] fun cx => ?_
  show Tr _ _ _ ⟨39, 0, [sV 0 (CV.frzRow (Bridge.row x0)), sI 1 x1, sI 2 x2], []⟩ _
  unfold impl_portThingF at H
  refine Tr.rgn tOk 2 78 8 kr kr ?_
  refine Tr.seq ?_
  refine Tr.rgn tOk 1 204 8 kr kr ?_
  refine Tr.block ?_
  refine Tr.rgn tOk 2 460 8 kr kr ?_
  cases h1 : (x1 == 1)
  · have H := bifF h1 H
    refine Tr.cF h1 kr ?_
    refine Tr.rgn tOk 2 131276 8 kr kr ?_
    cases h2 : (x1 == 2)
    · have H := bifF h2 H
      refine Tr.cF h2 kr ?_
      refine Tr.rgn tOk 2 33554508 8 kr kr ?_
      cases h3 : (x1 == 3)
      · have H := bifF h3 H
        refine Tr.cF h3 kr ?_
        refine Tr.skip ?_
        show Tr _ _ _ _ _
        refine Tr.rs ?_
        refine LAt.runU tOk 4 kr ?_
        obtain ⟨v1, ev1, H⟩ := bind_some H
        refine LAt.indexF tOk (t := 27) (ty := 0) (x := (.tmp 35)) (y := (.tmp 36)) (d := 37) (g := none) ⟨(.slot 35), [], 0, false, 1, (CV.frzEs (x0.V.Pvid.map intRow))⟩ x2 [cI v1] _ kr kr kr kr rfl (idx_isF ev1) rfl ?_
        refine LAt.runU tOk 2 kr ?_
        refine LAt.doneM 64 0 kr ?_
        refine Tr.ret ?_
        have H := Option.some.inj H
        subst H
        exact Fin.of _ [(false, [cI v1])] kr rfl rfl
      have H := bifT h3 H
      refine Tr.cT h3 kr ?_
      refine Tr.rs ?_
      refine LAt.runU tOk 5 kr ?_
      obtain ⟨r2, er2, H⟩ := bind_some H
      refine LAt.callV tOk [.rd, .rd, .rd] [] (impl_RoleOf n x0.Id x0.Ports x2 r2 er2) kr kr kr kr (.inl rfl) ?_
      refine LAt.runU tOk 1 kr ?_
      refine LAt.doneM 76 8 kr ?_
      refine Tr.ret ?_
      have H := Option.some.inj H
      subst H
      exact Fin.of _ [(false, [cI r2])] kr rfl rfl
    have H := bifT h2 H
    refine Tr.cT h2 kr ?_
    refine Tr.rs ?_
    refine LAt.runU tOk 3 kr ?_
    obtain ⟨v3, ev3, H⟩ := bind_some H
    refine LAt.indexF tOk (t := 55) (ty := 0) (x := (.tmp 20)) (y := (.tmp 21)) (d := 22) (g := none) ⟨(.slot 20), [], 0, false, 8, (CV.frzEs (x0.Ports.map Pt.row))⟩ x2 (Pt.row v3) _ kr kr kr kr rfl (idx_isF ev3) rfl ?_
    refine LAt.runU tOk 3 kr ?_
    refine LAt.doneM 76 8 kr ?_
    refine Tr.ret ?_
    have H := Option.some.inj H
    subst H
    exact Fin.of _ [(false, [cI v3.Cost])] kr rfl rfl
  have H := bifT h1 H
  refine Tr.cT h1 kr ?_
  refine Tr.rs ?_
  refine LAt.runU tOk 3 kr ?_
  obtain ⟨v4, ev4, H⟩ := bind_some H
  refine LAt.indexF tOk (t := 55) (ty := 0) (x := (.tmp 11)) (y := (.tmp 12)) (d := 13) (g := none) ⟨(.slot 11), [], 0, false, 8, (CV.frzEs (x0.Ports.map Pt.row))⟩ x2 (Pt.row v4) _ kr kr kr kr rfl (idx_isF ev4) rfl ?_
  refine LAt.runU tOk 2 kr ?_
  obtain ⟨r5, er5, H⟩ := bind_some H
  refine LAt.callV tOk [.rd] [] (impl_bit n v4.Up r5 er5) kr kr kr kr (.inl rfl) ?_
  refine LAt.runU tOk 1 kr ?_
  refine LAt.doneM 76 8 kr ?_
  refine Tr.ret ?_
  have H := Option.some.inj H
  subst H
  exact Fin.of _ [(false, [cI r5])] kr rfl rfl
end Go.Proofs.Ytjdedhklbdkeoaa.Tw
