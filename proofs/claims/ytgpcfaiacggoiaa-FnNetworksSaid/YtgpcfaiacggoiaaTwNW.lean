/- Functions of the program, over trees. -/
import Derived.Test.YtgpcfaiacggoiaaProg
import Derived.Test.YtgpcfaiacggoiaaTlRule
import Derived.Test.YtgpcfaiacggoiaaTlU7
import Derived.Test.YtgpcfaiacggoiaaTwNW0
import Derived.WalkKit
set_option linter.unusedVariables false
set_option linter.unusedSimpArgs false
set_option maxRecDepth 100000
set_option maxHeartbeats 1000000
namespace Go.Proofs.Ytgpcfaiacggoiaa.Tw
open Go Go.TL Go.Proofs


def impl_withRow_J1 (n : Nat) (r1 : Vtab) (x0 : Vtab) (x1 : Vrow) (y4 : Int) : Option (Vtab) :=
  (bif (decide ((0 : Int) ≤ 0) && (decide ((0 : Int) ≤ y4) && decide ((y4 : Int) ≤ (x0.Rows.length : Int)))) then (bif (decide (([] : List Vrow).length + ((x0.Rows.drop ((0 : Int)).toNat).take (((y4 : Int)).toNat - ((0 : Int)).toNat)).length ≤ 268435456)) then (bif (decide ((([] : List Vrow) ++ ((x0.Rows.drop ((0 : Int)).toNat).take (((y4 : Int)).toNat - ((0 : Int)).toNat))).length + [x1].length ≤ 268435456)) then (bif (decide ((0 : Int) ≤ y4) && (decide ((y4 : Int) ≤ (x0.Rows.length : Int)) && decide (((x0.Rows.length : Int) : Int) ≤ (x0.Rows.length : Int)))) then (bif (decide (((([] : List Vrow) ++ ((x0.Rows.drop ((0 : Int)).toNat).take (((y4 : Int)).toNat - ((0 : Int)).toNat))) ++ [x1]).length + ((x0.Rows.drop ((y4 : Int)).toNat).take ((((x0.Rows.length : Int) : Int)).toNat - ((y4 : Int)).toNat)).length ≤ 268435456)) then (some (⟨(((([] : List Vrow) ++ ((x0.Rows.drop ((0 : Int)).toNat).take (((y4 : Int)).toNat - ((0 : Int)).toNat))) ++ [x1]) ++ ((x0.Rows.drop ((y4 : Int)).toNat).take ((((x0.Rows.length : Int) : Int)).toNat - ((y4 : Int)).toNat))), r1.Pvid⟩ : Vtab)) else none) else none) else none) else none) else none)
def impl_withRow_L2 (n : Nat) : Nat → Vtab → Vrow → Int → Option ((Int) ⊕ (Vtab))
  | 0, _, _, _ => none
  | mo10 + 1, x0, x1, y3 => (bif (decide (y3 < (x0.Rows.length : Int))) then ((idx x0.Rows y3).bind fun v11 => (bif (decide (v11.Id ≤ x1.Id)) then (impl_withRow_L2 n mo10 x0 x1 (IntKind.wrap .i64 (y3 + 1))) else (some (Sum.inl y3)))) else (some (Sum.inl y3)))
def impl_withRowF (n : Nat) (x0 : Vtab) (x1 : Vrow) : Option (Vtab) :=
  ((impl_copyVtabF n x0).bind fun r1 => ((impl_RowAtF n x0 x1.Id).bind fun r2 => (bif (decide (r2 ≥ 0)) then ((idx r1.Rows r2).bind fun v12 => (some (⟨(r1.Rows.set (r2.toNat) x1), r1.Pvid⟩ : Vtab))) else ((impl_withRow_L2 n n x0 x1 0).bind fun o => match o with | .inl y4 => (impl_withRow_J1 n r1 x0 x1 y4) | .inr r => some r))))
/-- loop.example/g00326/impl.withRow -/
theorem impl_withRow (n : Nat) (x0 : Vtab) (x1 : Vrow) (r : Vtab) (H : impl_withRowF n x0 x1 = some r) : LCall Try.prog 107 [.val true (CV.frzRow (Vtab.row x0)), .val true (CV.frzRow (Vrow.row x1))] [.val true (Vtab.row r)] [] := by
  refine LCall.of_body tOk Try.func107 rfl (c := (.seq (Rg Try.f107 0) (.seq (Rg Try.f107 1) (.seq (.seq (Rg Try.f107 2) (.seq (Rg Try.f107 3) (.cond (.tmp 15) (.seq (Rg Try.f107 4) (.seq (Rg Try.f107 5) .ret)) .skip))) (.seq (Rg Try.f107 6) (.seq (.block 0 (.loop (.seq (.seq (Rd Try.f107 7) (.cond (.tmp 37) .skip (.exit 0))) (.block 1 (Rg Try.f107 8))))) (.seq (Rd Try.f107 9) (.seq (Rg Try.f107 10) .ret)))))))) kr (Nat.le_of_ble_eq_true kr) 0 (rs := [.cell 4 29]) rfl [] .nil [(true, (Vtab.row r))] [] [] fun cx => ?_
  show Tr _ _ _ ⟨55, 0, [sV 0 (CV.frzRow (Vtab.row x0)), sV 1 (Vrow.row x1)], []⟩ _
  unfold impl_withRowF at H
  refine Tr.rgn tOk 3 28 28 kr kr ?_
  refine Tr.rs ?_
  refine LAt.runU tOk 1 kr ?_
  obtain ⟨r1, er1, H⟩ := bind_some H
  refine LAt.callV tOk [.rd] [] (impl_copyVtab n x0 r1 er1) kr kr kr kr (.inl rfl) ?_
  refine LAt.runU tOk 2 kr ?_
  refine LAt.doneM 60 60 kr ?_
  refine Tr.seq ?_
  refine Tr.rs ?_
  refine LAt.runU tOk 3 kr ?_
  obtain ⟨r2, er2, H⟩ := bind_some H
  refine LAt.callV tOk [.rd, .rd] [] (impl_RowAt n x0 x1.Id r2 er2) kr kr kr kr (.inl rfl) ?_
  refine LAt.runU tOk 1 kr ?_
  refine LAt.doneM 124 60 kr ?_
  refine Tr.rgn tOk 2 32892 60 kr kr ?_
  cases h1 : (decide (r2 ≥ 0))
  · have H := bifF h1 H
    refine Tr.cF h1 kr ?_
    refine Tr.skip ?_
    show Tr _ _ _ _ _
    refine Tr.rgn tOk 1 188 60 kr kr ?_
    refine Tr.seq ?_
    obtain ⟨o10, eo10, Ho10⟩ := bind_some H
    clear H
    refine Tr.mid (ι := Int) (fun v => ⟨55, 0, [sI 7 v, sA 5 5 2 0, sA 4 4 2 0, sA 3 3 3 0, sA 2 2 2 0], [(5, (Vtab.row r1)), (4, [cL 3 ([] : List Vrow) Vrow.row, cL 1 ([] : List Int) intRow]), (3, (Vrow.row x1)), (2, (CV.frzRow (Vtab.row x0)))]⟩) (fun v => impl_withRow_J1 n r1 x0 x1 v = some r) ?_ ?_
    · refine Tr.block ?_
      refine Tr.loop (ι := Nat × (Int)) (fun v => ⟨55, 0, [sI 7 v.2, sA 5 5 2 0, sA 4 4 2 0, sA 3 3 3 0, sA 2 2 2 0], [(5, (Vtab.row r1)), (4, [cL 3 ([] : List Vrow) Vrow.row, cL 1 ([] : List Int) intRow]), (3, (Vrow.row x1)), (2, (CV.frzRow (Vtab.row x0)))]⟩) (fun v => impl_withRow_L2 n v.1 x0 x1 v.2 = some o10) (fun v => v.1) (n, 0) eo10 (St.sub_of [7, 5, 4, 3, 2] [5, 4, 3, 2] kr) ?_
      rintro ⟨mo10, y3⟩ H
      have H : impl_withRow_L2 n mo10 x0 x1 y3 = some o10 := H
      obtain _ | mo10 := mo10
      · cases (show (none : Option _) = some o10 from H)
      rw [impl_withRow_L2] at H
      refine Tr.seq ?_
      refine Tr.to ⟨55, 0, [sI 7 y3, sA 5 5 2 0, sA 4 4 2 0, sA 3 3 3 0, sA 2 2 2 0], [(5, (Vtab.row r1)), (4, [cL 3 ([] : List Vrow) Vrow.row, cL 1 ([] : List Int) intRow]), (3, (Vrow.row x1)), (2, (CV.frzRow (Vtab.row x0)))]⟩ kr ?_
      cases h2 : (decide (y3 < (x0.Rows.length : Int)))
      · have H := bifF h2 H
        refine Tr.draws mixed 16 kr ⟨55, 0, [sB 37 false, (36, .tup []), (35, .tup []), (34, .tup []), (33, .tup []), (32, .tup []), (31, .tup []), (30, .tup []), (29, .tup []), (28, .tup []), sB 27 false, sB 26 false, sI 25 (x0.Rows.length : Int), sR 24 2 2 0 1 false, sA 23 2 2 0, sI 22 y3, sI 7 y3, sA 5 5 2 0, sA 4 4 2 0, sA 3 3 3 0, sA 2 2 2 0], [(5, (Vtab.row r1)), (4, [cL 3 ([] : List Vrow) Vrow.row, cL 1 ([] : List Int) intRow]), (3, (Vrow.row x1)), (2, (CV.frzRow (Vtab.row x0)))]⟩ (fun cx => ?_) ?_
        · refine AT.runU tOk [(0, []), (1, []), (2, [])] 13 [⟨[], 27, 23, 24⟩] [2, 1, 0] rfl kr (fun cx => ?_)
          refine AT.lenE tOk 3 (t := 27) (ty := 3) (e := 56) (x := (.tmp 24)) (d := 25) (g := none) ⟨(.box 2), [(0, 0)], 0, false, 3, (CV.frzEs (x0.Rows.map Vrow.row))⟩ (x0.Rows).length _ kr kr kr kr kr kr kr (frz_len _ _) rfl (fun cx => ?_)
          refine AT.runU tOk [(4, []), (5, [])] 10 [⟨[], 27, 23, 24⟩] [5, 4, 3, 2, 1, 0] rfl kr (fun cx => ?_)
          refine AT.to ⟨55, 0, [sB 27 (decide (y3 < (x0.Rows.length : Int))), sB 26 (decide (y3 < (x0.Rows.length : Int))), sI 25 (x0.Rows.length : Int), sR 24 2 2 0 1 false, sA 23 2 2 0, sI 22 y3, sI 7 y3, sA 5 5 2 0, sA 4 4 2 0, sA 3 3 3 0, sA 2 2 2 0], [(5, (Vtab.row r1)), (4, [cL 3 ([] : List Vrow) Vrow.row, cL 1 ([] : List Int) intRow]), (3, (Vrow.row x1)), (2, (CV.frzRow (Vtab.row x0)))]⟩ kr ?_
          rw [h2]
          refine AT.runU tOk [(6, []), (7, []), (8, []), (9, []), (10, []), (11, []), (12, []), (13, []), (14, []), (15, [])] 0 [⟨[], 27, 23, 24⟩] [15, 14, 13, 12, 11, 10, 9, 8, 7, 6, 5, 4, 3, 2, 1, 0] rfl kr (fun cx => ?_)
          exact AT.done [37, 36, 35, 34, 33, 32, 31, 30, 29, 28, 27, 26, 25, 24, 23, 22, 7, 5, 4, 3, 2] [5, 4, 3, 2] _ kr kr rfl
        refine Tr.cf kr ?_
        refine Tr.exit ?_
        refine And.intro (fun _ => ?_) (fun h => absurd rfl h)
        have H := Option.some.inj H
        subst H
        have H := Ho10
        dsimp only at H
        exact Exists.intro y3 (And.intro H (St.sub_of [7, 5, 4, 3, 2] [5, 4, 3, 2] kr))
      have H := bifT h2 H
      obtain ⟨v11, ev11, H⟩ := bind_some H
      refine Tr.draws mixed 16 kr ⟨55, 0, [sB 37 (decide (v11.Id ≤ x1.Id)), sB 36 (decide (v11.Id ≤ x1.Id)), sI 35 x1.Id, sA 34 3 3 0, sI 33 v11.Id, (32, .fad ((Vrow.row v11))), (31, .fad ((Vrow.row v11))), sI 30 y3, sR 29 2 2 0 1 false, sA 28 2 2 0, sB 27 true, sB 26 true, sI 25 (x0.Rows.length : Int), sR 24 2 2 0 1 false, sA 23 2 2 0, sI 22 y3, sI 7 y3, sA 5 5 2 0, sA 4 4 2 0, sA 3 3 3 0, sA 2 2 2 0], [(5, (Vtab.row r1)), (4, [cL 3 ([] : List Vrow) Vrow.row, cL 1 ([] : List Int) intRow]), (3, (Vrow.row x1)), (2, (CV.frzRow (Vtab.row x0)))]⟩ (fun cx => ?_) ?_
      · refine AT.runU tOk [(0, []), (1, []), (2, [])] 13 [⟨[], 27, 23, 24⟩] [2, 1, 0] rfl kr (fun cx => ?_)
        refine AT.lenE tOk 3 (t := 27) (ty := 3) (e := 56) (x := (.tmp 24)) (d := 25) (g := none) ⟨(.box 2), [(0, 0)], 0, false, 3, (CV.frzEs (x0.Rows.map Vrow.row))⟩ (x0.Rows).length _ kr kr kr kr kr kr kr (frz_len _ _) rfl (fun cx => ?_)
        refine AT.runU tOk [(4, []), (5, [])] 10 [⟨[], 27, 23, 24⟩] [5, 4, 3, 2, 1, 0] rfl kr (fun cx => ?_)
        refine AT.to ⟨55, 0, [sB 27 (decide (y3 < (x0.Rows.length : Int))), sB 26 (decide (y3 < (x0.Rows.length : Int))), sI 25 (x0.Rows.length : Int), sR 24 2 2 0 1 false, sA 23 2 2 0, sI 22 y3, sI 7 y3, sA 5 5 2 0, sA 4 4 2 0, sA 3 3 3 0, sA 2 2 2 0], [(5, (Vtab.row r1)), (4, [cL 3 ([] : List Vrow) Vrow.row, cL 1 ([] : List Int) intRow]), (3, (Vrow.row x1)), (2, (CV.frzRow (Vtab.row x0)))]⟩ kr ?_
        rw [h2]
        refine AT.runU tOk [(6, []), (7, []), (8, [])] 7 [⟨[], 27, 28, 29⟩, ⟨[], 27, 23, 24⟩] [8, 7, 6, 5, 4, 3, 2, 1, 0] rfl kr (fun cx => ?_)
        refine AT.indexF tOk 9 (t := 27) (ty := 0) (x := (.tmp 29)) (y := (.tmp 30)) (d := 31) (g := (some (5, true))) ⟨(.box 2), [(0, 0)], 0, false, 3, (CV.frzEs (x0.Rows.map Vrow.row))⟩ y3 (Vrow.row v11) _ kr kr kr kr kr kr rfl (idx_isF ev11) rfl (fun cx => ?_)
        refine AT.runU tOk [(10, []), (11, []), (12, []), (13, []), (14, []), (15, [])] 0 [⟨[], 3, 34, 35⟩, ⟨[], 27, 28, 29⟩, ⟨[], 27, 23, 24⟩] [15, 14, 13, 12, 11, 10, 9, 8, 7, 6, 5, 4, 3, 2, 1, 0] rfl kr (fun cx => ?_)
        exact AT.done [37, 36, 35, 34, 33, 32, 31, 30, 29, 28, 27, 26, 25, 24, 23, 22, 7, 5, 4, 3, 2] [5, 4, 3, 2] _ kr kr rfl
      refine Tr.to ⟨55, 0, [sB 37 (decide (v11.Id ≤ x1.Id)), sB 36 (decide (v11.Id ≤ x1.Id)), sI 35 x1.Id, sA 34 3 3 0, sI 33 v11.Id, (32, .fad ((Vrow.row v11))), (31, .fad ((Vrow.row v11))), sI 30 y3, sR 29 2 2 0 1 false, sA 28 2 2 0, sB 27 true, sB 26 true, sI 25 (x0.Rows.length : Int), sR 24 2 2 0 1 false, sA 23 2 2 0, sI 22 y3, sI 7 y3, sA 5 5 2 0, sA 4 4 2 0, sA 3 3 3 0, sA 2 2 2 0], [(5, (Vtab.row r1)), (4, [cL 3 ([] : List Vrow) Vrow.row, cL 1 ([] : List Int) intRow]), (3, (Vrow.row x1)), (2, (CV.frzRow (Vtab.row x0)))]⟩ kr ?_
      cases h3 : (decide (v11.Id ≤ x1.Id))
      · have H := bifF h3 H
        refine Tr.cf kr ?_
        refine Tr.exit ?_
        refine And.intro (fun _ => ?_) (fun h => absurd rfl h)
        have H := Option.some.inj H
        subst H
        have H := Ho10
        dsimp only at H
        exact Exists.intro y3 (And.intro H (St.sub_of [7, 5, 4, 3, 2] [5, 4, 3, 2] kr))
      have H := bifT h3 H
      refine Tr.ct kr ?_
      refine Tr.skip ?_
      show Tr _ _ _ _ _
      refine Tr.block ?_
      refine Tr.rgE tOk 3 1099507433660 60 kr kr ?_
      exact Exists.intro (mo10, (IntKind.wrap .i64 (y3 + 1))) (And.intro H (And.intro (Nat.lt_succ_self mo10) (St.sub_of [7, 5, 4, 3, 2] [5, 4, 3, 2] kr)))
    rintro y4 H
    have H : (impl_withRow_J1 n r1 x0 x1 y4) = some r := H
    unfold impl_withRow_J1 at H
    show Tr _ _ _ _ _
    obtain ⟨hg5, H⟩ := guard_some H
    obtain ⟨hg6, H⟩ := guard_some H
    obtain ⟨hg7, H⟩ := guard_some H
    obtain ⟨hg8, H⟩ := guard_some H
    obtain ⟨hg9, H⟩ := guard_some H
    refine Tr.draws mixed 15 kr ⟨55, 0, [sA 5 5 2 0, sA 4 4 2 0], [(5, [cL 3 (((([] : List Vrow) ++ ((x0.Rows.drop ((0 : Int)).toNat).take (((y4 : Int)).toNat - ((0 : Int)).toNat))) ++ [x1]) ++ ((x0.Rows.drop ((y4 : Int)).toNat).take ((((x0.Rows.length : Int) : Int)).toNat - ((y4 : Int)).toNat))) Vrow.row, cL 1 r1.Pvid intRow]), (4, [cL 3 ([] : List Vrow) Vrow.row, cL 1 ([] : List Int) intRow])]⟩ (fun cx => ?_) ?_
    · refine AT.runU tOk [(0, []), (1, [3, 4, 7, 12, 14]), (2, []), (5, [6, 7, 12, 14]), (8, []), (9, [11, 12, 14]), (10, [])] 8 [⟨[11, 12, 14], 27, 48, 49⟩, ⟨[6, 7, 12, 14], 56, 3, 45⟩, ⟨[3, 4, 7, 12, 14], 27, 40, 41⟩] [10, 9, 8, 5, 2, 1, 0] rfl kr (fun cx => ?_)
      refine AT.big3 tOk 3 6 11 kr (And.intro kr ?_) (And.intro kr ?_) (And.intro kr ?_)
      · refine LAt.cutG tOk (t := 27) (ty := 27) (e := 56) (x := (.tmp 41)) (lo := none) (hi := (some (.tmp 42))) (d := 43) (g := none) ⟨.st [(0, 1, 3), (1, 1, 3), (2, 1, 3)], 3, 24, [.lit (.int .i64 0), .lit (.int .i64 0), .lit (.int .i64 0)]⟩ Vrow.row x0.Rows ⟨(.box 2), [(0, 0)], 0, false, 3, (CV.frzEs (x0.Rows.map Vrow.row))⟩ 0 y4 kr kr kr kr kr kr rfl kr rfl kr kr hg5 ?_
        refine LAt.fin kr (And.intro (And.intro kr kr) ?_)
        refine AT.big3 tOk 4 6 11 kr (And.intro kr ?_) (And.intro kr ?_) (And.intro kr ?_)
        · refine LAt.appCU tOk (t := 27) (ty := 27) (e := 56) (x := (.const (.slice none 0 0))) (y := (.tmp 43)) (d := 44) (g := none) ⟨.st [(0, 1, 3), (1, 1, 3), (2, 1, 3)], 3, 24, [.lit (.int .i64 0), .lit (.int .i64 0), .lit (.int .i64 0)]⟩ Vrow.row ([] : List Vrow) ((x0.Rows.drop ((0 : Int)).toNat).take (((y4 : Int)).toNat - ((0 : Int)).toNat)) ⟨(.slot 43), [], 0, false, 3, (CV.frzEs (((x0.Rows.drop ((0 : Int)).toNat).take (((y4 : Int)).toNat - ((0 : Int)).toNat)).map Vrow.row))⟩ kr kr kr kr kr kr kr kr kr kr kr (.inr rfl) (fun _ => rfl) (fun _ => rfl) hg6 ?_
          refine LAt.fin kr (And.intro (And.intro kr kr) ?_)
          refine AT.big2 tOk 6 11 kr (And.intro kr ?_) (And.intro kr ?_)
          · refine LAt.runU tOk 1 kr ?_
            refine LAt.fin kr (And.intro (And.intro kr kr) ?_)
            refine AT.big2 tOk 7 11 kr (And.intro kr ?_) (And.intro kr ?_)
            · refine LAt.appMU tOk (t := 27) (ty := 27) (e := 56) (x := (.tmp 44)) (y := (.tmp 46)) (d := 47) (g := none) ⟨.st [(0, 1, 3), (1, 1, 3), (2, 1, 3)], 3, 24, [.lit (.int .i64 0), .lit (.int .i64 0), .lit (.int .i64 0)]⟩ Vrow.row (([] : List Vrow) ++ ((x0.Rows.drop ((0 : Int)).toNat).take (((y4 : Int)).toNat - ((0 : Int)).toNat))) [x1] kr kr kr kr kr kr kr kr kr kr hg7 ?_
              refine LAt.fin kr (And.intro (And.intro kr kr) ?_)
              refine AT.big1 tOk 11 kr kr ?_
              refine LAt.cutG tOk (t := 27) (ty := 27) (e := 56) (x := (.tmp 49)) (lo := (some (.tmp 50))) (hi := none) (d := 51) (g := none) ⟨.st [(0, 1, 3), (1, 1, 3), (2, 1, 3)], 3, 24, [.lit (.int .i64 0), .lit (.int .i64 0), .lit (.int .i64 0)]⟩ Vrow.row x0.Rows ⟨(.box 2), [(0, 0)], 0, false, 3, (CV.frzEs (x0.Rows.map Vrow.row))⟩ y4 (x0.Rows.length : Int) kr kr kr kr kr kr rfl kr rfl kr kr hg8 ?_
              refine LAt.fin kr (And.intro (And.intro kr kr) ?_)
              refine AT.big1 tOk 12 kr kr ?_
              refine LAt.appCU tOk (t := 27) (ty := 27) (e := 56) (x := (.tmp 47)) (y := (.tmp 51)) (d := 52) (g := none) ⟨.st [(0, 1, 3), (1, 1, 3), (2, 1, 3)], 3, 24, [.lit (.int .i64 0), .lit (.int .i64 0), .lit (.int .i64 0)]⟩ Vrow.row ((([] : List Vrow) ++ ((x0.Rows.drop ((0 : Int)).toNat).take (((y4 : Int)).toNat - ((0 : Int)).toNat))) ++ [x1]) ((x0.Rows.drop ((y4 : Int)).toNat).take ((((x0.Rows.length : Int) : Int)).toNat - ((y4 : Int)).toNat)) ⟨(.slot 51), [], 0, false, 3, (CV.frzEs (((x0.Rows.drop ((y4 : Int)).toNat).take ((((x0.Rows.length : Int) : Int)).toNat - ((y4 : Int)).toNat)).map Vrow.row))⟩ kr kr kr kr kr kr kr kr kr kr kr (.inr rfl) (fun _ => rfl) (fun _ => rfl) hg9 ?_
              refine LAt.fin kr (And.intro (And.intro kr kr) ?_)
              refine AT.runU tOk [(13, [])] 1 [⟨[11, 12, 14], 27, 48, 49⟩, ⟨[6, 7, 12, 14], 56, 3, 45⟩, ⟨[3, 4, 7, 12, 14], 27, 40, 41⟩] [13, 12, 11, 7, 6, 4, 3, 10, 9, 8, 5, 2, 1, 0] rfl kr (fun cx => ?_)
              refine AT.big1 tOk 14 kr kr ?_
              refine LAt.runU tOk 1 kr ?_
              refine LAt.fin kr (And.intro (And.intro kr kr) ?_)
              exact AT.done [5, 4] [5, 4] _ kr kr rfl
            · refine LAt.cutG tOk (t := 27) (ty := 27) (e := 56) (x := (.tmp 49)) (lo := (some (.tmp 50))) (hi := none) (d := 51) (g := none) ⟨.st [(0, 1, 3), (1, 1, 3), (2, 1, 3)], 3, 24, [.lit (.int .i64 0), .lit (.int .i64 0), .lit (.int .i64 0)]⟩ Vrow.row x0.Rows ⟨(.box 2), [(0, 0)], 0, false, 3, (CV.frzEs (x0.Rows.map Vrow.row))⟩ y4 (x0.Rows.length : Int) kr kr kr kr kr kr rfl kr rfl kr kr hg8 ?_
              refine LAt.fin kr (And.intro (And.intro kr kr) ?_)
              refine AT.big1 tOk 7 kr kr ?_
              refine LAt.appMU tOk (t := 27) (ty := 27) (e := 56) (x := (.tmp 44)) (y := (.tmp 46)) (d := 47) (g := none) ⟨.st [(0, 1, 3), (1, 1, 3), (2, 1, 3)], 3, 24, [.lit (.int .i64 0), .lit (.int .i64 0), .lit (.int .i64 0)]⟩ Vrow.row (([] : List Vrow) ++ ((x0.Rows.drop ((0 : Int)).toNat).take (((y4 : Int)).toNat - ((0 : Int)).toNat))) [x1] kr kr kr kr kr kr kr kr kr kr hg7 ?_
              refine LAt.fin kr (And.intro (And.intro kr kr) ?_)
              refine AT.big1 tOk 12 kr kr ?_
              refine LAt.appCU tOk (t := 27) (ty := 27) (e := 56) (x := (.tmp 47)) (y := (.tmp 51)) (d := 52) (g := none) ⟨.st [(0, 1, 3), (1, 1, 3), (2, 1, 3)], 3, 24, [.lit (.int .i64 0), .lit (.int .i64 0), .lit (.int .i64 0)]⟩ Vrow.row ((([] : List Vrow) ++ ((x0.Rows.drop ((0 : Int)).toNat).take (((y4 : Int)).toNat - ((0 : Int)).toNat))) ++ [x1]) ((x0.Rows.drop ((y4 : Int)).toNat).take ((((x0.Rows.length : Int) : Int)).toNat - ((y4 : Int)).toNat)) ⟨(.slot 51), [], 0, false, 3, (CV.frzEs (((x0.Rows.drop ((y4 : Int)).toNat).take ((((x0.Rows.length : Int) : Int)).toNat - ((y4 : Int)).toNat)).map Vrow.row))⟩ kr kr kr kr kr kr kr kr kr kr kr (.inr rfl) (fun _ => rfl) (fun _ => rfl) hg9 ?_
              refine LAt.fin kr (And.intro (And.intro kr kr) ?_)
              refine AT.runU tOk [(13, [])] 1 [⟨[11, 12, 14], 27, 48, 49⟩, ⟨[6, 7, 12, 14], 56, 3, 45⟩, ⟨[3, 4, 7, 12, 14], 27, 40, 41⟩] [13, 12, 7, 11, 6, 4, 3, 10, 9, 8, 5, 2, 1, 0] rfl kr (fun cx => ?_)
              refine AT.big1 tOk 14 kr kr ?_
              refine LAt.runU tOk 1 kr ?_
              refine LAt.fin kr (And.intro (And.intro kr kr) ?_)
              exact AT.done [5, 4] [5, 4] _ kr kr rfl
          · refine LAt.cutG tOk (t := 27) (ty := 27) (e := 56) (x := (.tmp 49)) (lo := (some (.tmp 50))) (hi := none) (d := 51) (g := none) ⟨.st [(0, 1, 3), (1, 1, 3), (2, 1, 3)], 3, 24, [.lit (.int .i64 0), .lit (.int .i64 0), .lit (.int .i64 0)]⟩ Vrow.row x0.Rows ⟨(.box 2), [(0, 0)], 0, false, 3, (CV.frzEs (x0.Rows.map Vrow.row))⟩ y4 (x0.Rows.length : Int) kr kr kr kr kr kr rfl kr rfl kr kr hg8 ?_
            refine LAt.fin kr (And.intro (And.intro kr kr) ?_)
            refine AT.big1 tOk 6 kr kr ?_
            refine LAt.runU tOk 1 kr ?_
            refine LAt.fin kr (And.intro (And.intro kr kr) ?_)
            refine AT.big1 tOk 7 kr kr ?_
            refine LAt.appMU tOk (t := 27) (ty := 27) (e := 56) (x := (.tmp 44)) (y := (.tmp 46)) (d := 47) (g := none) ⟨.st [(0, 1, 3), (1, 1, 3), (2, 1, 3)], 3, 24, [.lit (.int .i64 0), .lit (.int .i64 0), .lit (.int .i64 0)]⟩ Vrow.row (([] : List Vrow) ++ ((x0.Rows.drop ((0 : Int)).toNat).take (((y4 : Int)).toNat - ((0 : Int)).toNat))) [x1] kr kr kr kr kr kr kr kr kr kr hg7 ?_
            refine LAt.fin kr (And.intro (And.intro kr kr) ?_)
            refine AT.big1 tOk 12 kr kr ?_
            refine LAt.appCU tOk (t := 27) (ty := 27) (e := 56) (x := (.tmp 47)) (y := (.tmp 51)) (d := 52) (g := none) ⟨.st [(0, 1, 3), (1, 1, 3), (2, 1, 3)], 3, 24, [.lit (.int .i64 0), .lit (.int .i64 0), .lit (.int .i64 0)]⟩ Vrow.row ((([] : List Vrow) ++ ((x0.Rows.drop ((0 : Int)).toNat).take (((y4 : Int)).toNat - ((0 : Int)).toNat))) ++ [x1]) ((x0.Rows.drop ((y4 : Int)).toNat).take ((((x0.Rows.length : Int) : Int)).toNat - ((y4 : Int)).toNat)) ⟨(.slot 51), [], 0, false, 3, (CV.frzEs (((x0.Rows.drop ((y4 : Int)).toNat).take ((((x0.Rows.length : Int) : Int)).toNat - ((y4 : Int)).toNat)).map Vrow.row))⟩ kr kr kr kr kr kr kr kr kr kr kr (.inr rfl) (fun _ => rfl) (fun _ => rfl) hg9 ?_
            refine LAt.fin kr (And.intro (And.intro kr kr) ?_)
            refine AT.runU tOk [(13, [])] 1 [⟨[11, 12, 14], 27, 48, 49⟩, ⟨[6, 7, 12, 14], 56, 3, 45⟩, ⟨[3, 4, 7, 12, 14], 27, 40, 41⟩] [13, 12, 7, 6, 11, 4, 3, 10, 9, 8, 5, 2, 1, 0] rfl kr (fun cx => ?_)
            refine AT.big1 tOk 14 kr kr ?_
            refine LAt.runU tOk 1 kr ?_
            refine LAt.fin kr (And.intro (And.intro kr kr) ?_)
            exact AT.done [5, 4] [5, 4] _ kr kr rfl
        · refine LAt.runU tOk 1 kr ?_
          refine LAt.fin kr (And.intro (And.intro kr kr) ?_)
          refine AT.big2 tOk 4 11 kr (And.intro kr ?_) (And.intro kr ?_)
          · refine LAt.appCU tOk (t := 27) (ty := 27) (e := 56) (x := (.const (.slice none 0 0))) (y := (.tmp 43)) (d := 44) (g := none) ⟨.st [(0, 1, 3), (1, 1, 3), (2, 1, 3)], 3, 24, [.lit (.int .i64 0), .lit (.int .i64 0), .lit (.int .i64 0)]⟩ Vrow.row ([] : List Vrow) ((x0.Rows.drop ((0 : Int)).toNat).take (((y4 : Int)).toNat - ((0 : Int)).toNat)) ⟨(.slot 43), [], 0, false, 3, (CV.frzEs (((x0.Rows.drop ((0 : Int)).toNat).take (((y4 : Int)).toNat - ((0 : Int)).toNat)).map Vrow.row))⟩ kr kr kr kr kr kr kr kr kr kr kr (.inr rfl) (fun _ => rfl) (fun _ => rfl) hg6 ?_
            refine LAt.fin kr (And.intro (And.intro kr kr) ?_)
            refine AT.big2 tOk 7 11 kr (And.intro kr ?_) (And.intro kr ?_)
            · refine LAt.appMU tOk (t := 27) (ty := 27) (e := 56) (x := (.tmp 44)) (y := (.tmp 46)) (d := 47) (g := none) ⟨.st [(0, 1, 3), (1, 1, 3), (2, 1, 3)], 3, 24, [.lit (.int .i64 0), .lit (.int .i64 0), .lit (.int .i64 0)]⟩ Vrow.row (([] : List Vrow) ++ ((x0.Rows.drop ((0 : Int)).toNat).take (((y4 : Int)).toNat - ((0 : Int)).toNat))) [x1] kr kr kr kr kr kr kr kr kr kr hg7 ?_
              refine LAt.fin kr (And.intro (And.intro kr kr) ?_)
              refine AT.big1 tOk 11 kr kr ?_
              refine LAt.cutG tOk (t := 27) (ty := 27) (e := 56) (x := (.tmp 49)) (lo := (some (.tmp 50))) (hi := none) (d := 51) (g := none) ⟨.st [(0, 1, 3), (1, 1, 3), (2, 1, 3)], 3, 24, [.lit (.int .i64 0), .lit (.int .i64 0), .lit (.int .i64 0)]⟩ Vrow.row x0.Rows ⟨(.box 2), [(0, 0)], 0, false, 3, (CV.frzEs (x0.Rows.map Vrow.row))⟩ y4 (x0.Rows.length : Int) kr kr kr kr kr kr rfl kr rfl kr kr hg8 ?_
              refine LAt.fin kr (And.intro (And.intro kr kr) ?_)
              refine AT.big1 tOk 12 kr kr ?_
              refine LAt.appCU tOk (t := 27) (ty := 27) (e := 56) (x := (.tmp 47)) (y := (.tmp 51)) (d := 52) (g := none) ⟨.st [(0, 1, 3), (1, 1, 3), (2, 1, 3)], 3, 24, [.lit (.int .i64 0), .lit (.int .i64 0), .lit (.int .i64 0)]⟩ Vrow.row ((([] : List Vrow) ++ ((x0.Rows.drop ((0 : Int)).toNat).take (((y4 : Int)).toNat - ((0 : Int)).toNat))) ++ [x1]) ((x0.Rows.drop ((y4 : Int)).toNat).take ((((x0.Rows.length : Int) : Int)).toNat - ((y4 : Int)).toNat)) ⟨(.slot 51), [], 0, false, 3, (CV.frzEs (((x0.Rows.drop ((y4 : Int)).toNat).take ((((x0.Rows.length : Int) : Int)).toNat - ((y4 : Int)).toNat)).map Vrow.row))⟩ kr kr kr kr kr kr kr kr kr kr kr (.inr rfl) (fun _ => rfl) (fun _ => rfl) hg9 ?_
              refine LAt.fin kr (And.intro (And.intro kr kr) ?_)
              refine AT.runU tOk [(13, [])] 1 [⟨[11, 12, 14], 27, 48, 49⟩, ⟨[6, 7, 12, 14], 56, 3, 45⟩, ⟨[3, 4, 7, 12, 14], 27, 40, 41⟩] [13, 12, 11, 7, 4, 6, 3, 10, 9, 8, 5, 2, 1, 0] rfl kr (fun cx => ?_)
              refine AT.big1 tOk 14 kr kr ?_
              refine LAt.runU tOk 1 kr ?_
              refine LAt.fin kr (And.intro (And.intro kr kr) ?_)
              exact AT.done [5, 4] [5, 4] _ kr kr rfl
            · refine LAt.cutG tOk (t := 27) (ty := 27) (e := 56) (x := (.tmp 49)) (lo := (some (.tmp 50))) (hi := none) (d := 51) (g := none) ⟨.st [(0, 1, 3), (1, 1, 3), (2, 1, 3)], 3, 24, [.lit (.int .i64 0), .lit (.int .i64 0), .lit (.int .i64 0)]⟩ Vrow.row x0.Rows ⟨(.box 2), [(0, 0)], 0, false, 3, (CV.frzEs (x0.Rows.map Vrow.row))⟩ y4 (x0.Rows.length : Int) kr kr kr kr kr kr rfl kr rfl kr kr hg8 ?_
              refine LAt.fin kr (And.intro (And.intro kr kr) ?_)
              refine AT.big1 tOk 7 kr kr ?_
              refine LAt.appMU tOk (t := 27) (ty := 27) (e := 56) (x := (.tmp 44)) (y := (.tmp 46)) (d := 47) (g := none) ⟨.st [(0, 1, 3), (1, 1, 3), (2, 1, 3)], 3, 24, [.lit (.int .i64 0), .lit (.int .i64 0), .lit (.int .i64 0)]⟩ Vrow.row (([] : List Vrow) ++ ((x0.Rows.drop ((0 : Int)).toNat).take (((y4 : Int)).toNat - ((0 : Int)).toNat))) [x1] kr kr kr kr kr kr kr kr kr kr hg7 ?_
              refine LAt.fin kr (And.intro (And.intro kr kr) ?_)
              refine AT.big1 tOk 12 kr kr ?_
              refine LAt.appCU tOk (t := 27) (ty := 27) (e := 56) (x := (.tmp 47)) (y := (.tmp 51)) (d := 52) (g := none) ⟨.st [(0, 1, 3), (1, 1, 3), (2, 1, 3)], 3, 24, [.lit (.int .i64 0), .lit (.int .i64 0), .lit (.int .i64 0)]⟩ Vrow.row ((([] : List Vrow) ++ ((x0.Rows.drop ((0 : Int)).toNat).take (((y4 : Int)).toNat - ((0 : Int)).toNat))) ++ [x1]) ((x0.Rows.drop ((y4 : Int)).toNat).take ((((x0.Rows.length : Int) : Int)).toNat - ((y4 : Int)).toNat)) ⟨(.slot 51), [], 0, false, 3, (CV.frzEs (((x0.Rows.drop ((y4 : Int)).toNat).take ((((x0.Rows.length : Int) : Int)).toNat - ((y4 : Int)).toNat)).map Vrow.row))⟩ kr kr kr kr kr kr kr kr kr kr kr (.inr rfl) (fun _ => rfl) (fun _ => rfl) hg9 ?_
              refine LAt.fin kr (And.intro (And.intro kr kr) ?_)
              refine AT.runU tOk [(13, [])] 1 [⟨[11, 12, 14], 27, 48, 49⟩, ⟨[6, 7, 12, 14], 56, 3, 45⟩, ⟨[3, 4, 7, 12, 14], 27, 40, 41⟩] [13, 12, 7, 11, 4, 6, 3, 10, 9, 8, 5, 2, 1, 0] rfl kr (fun cx => ?_)
              refine AT.big1 tOk 14 kr kr ?_
              refine LAt.runU tOk 1 kr ?_
              refine LAt.fin kr (And.intro (And.intro kr kr) ?_)
              exact AT.done [5, 4] [5, 4] _ kr kr rfl
          · refine LAt.cutG tOk (t := 27) (ty := 27) (e := 56) (x := (.tmp 49)) (lo := (some (.tmp 50))) (hi := none) (d := 51) (g := none) ⟨.st [(0, 1, 3), (1, 1, 3), (2, 1, 3)], 3, 24, [.lit (.int .i64 0), .lit (.int .i64 0), .lit (.int .i64 0)]⟩ Vrow.row x0.Rows ⟨(.box 2), [(0, 0)], 0, false, 3, (CV.frzEs (x0.Rows.map Vrow.row))⟩ y4 (x0.Rows.length : Int) kr kr kr kr kr kr rfl kr rfl kr kr hg8 ?_
            refine LAt.fin kr (And.intro (And.intro kr kr) ?_)
            refine AT.big1 tOk 4 kr kr ?_
            refine LAt.appCU tOk (t := 27) (ty := 27) (e := 56) (x := (.const (.slice none 0 0))) (y := (.tmp 43)) (d := 44) (g := none) ⟨.st [(0, 1, 3), (1, 1, 3), (2, 1, 3)], 3, 24, [.lit (.int .i64 0), .lit (.int .i64 0), .lit (.int .i64 0)]⟩ Vrow.row ([] : List Vrow) ((x0.Rows.drop ((0 : Int)).toNat).take (((y4 : Int)).toNat - ((0 : Int)).toNat)) ⟨(.slot 43), [], 0, false, 3, (CV.frzEs (((x0.Rows.drop ((0 : Int)).toNat).take (((y4 : Int)).toNat - ((0 : Int)).toNat)).map Vrow.row))⟩ kr kr kr kr kr kr kr kr kr kr kr (.inr rfl) (fun _ => rfl) (fun _ => rfl) hg6 ?_
            refine LAt.fin kr (And.intro (And.intro kr kr) ?_)
            refine AT.big1 tOk 7 kr kr ?_
            refine LAt.appMU tOk (t := 27) (ty := 27) (e := 56) (x := (.tmp 44)) (y := (.tmp 46)) (d := 47) (g := none) ⟨.st [(0, 1, 3), (1, 1, 3), (2, 1, 3)], 3, 24, [.lit (.int .i64 0), .lit (.int .i64 0), .lit (.int .i64 0)]⟩ Vrow.row (([] : List Vrow) ++ ((x0.Rows.drop ((0 : Int)).toNat).take (((y4 : Int)).toNat - ((0 : Int)).toNat))) [x1] kr kr kr kr kr kr kr kr kr kr hg7 ?_
            refine LAt.fin kr (And.intro (And.intro kr kr) ?_)
            refine AT.big1 tOk 12 kr kr ?_
            refine LAt.appCU tOk (t := 27) (ty := 27) (e := 56) (x := (.tmp 47)) (y := (.tmp 51)) (d := 52) (g := none) ⟨.st [(0, 1, 3), (1, 1, 3), (2, 1, 3)], 3, 24, [.lit (.int .i64 0), .lit (.int .i64 0), .lit (.int .i64 0)]⟩ Vrow.row ((([] : List Vrow) ++ ((x0.Rows.drop ((0 : Int)).toNat).take (((y4 : Int)).toNat - ((0 : Int)).toNat))) ++ [x1]) ((x0.Rows.drop ((y4 : Int)).toNat).take ((((x0.Rows.length : Int) : Int)).toNat - ((y4 : Int)).toNat)) ⟨(.slot 51), [], 0, false, 3, (CV.frzEs (((x0.Rows.drop ((y4 : Int)).toNat).take ((((x0.Rows.length : Int) : Int)).toNat - ((y4 : Int)).toNat)).map Vrow.row))⟩ kr kr kr kr kr kr kr kr kr kr kr (.inr rfl) (fun _ => rfl) (fun _ => rfl) hg9 ?_
            refine LAt.fin kr (And.intro (And.intro kr kr) ?_)
            refine AT.runU tOk [(13, [])] 1 [⟨[11, 12, 14], 27, 48, 49⟩, ⟨[6, 7, 12, 14], 56, 3, 45⟩, ⟨[3, 4, 7, 12, 14], 27, 40, 41⟩] [13, 12, 7, 4, 11, 6, 3, 10, 9, 8, 5, 2, 1, 0] rfl kr (fun cx => ?_)
            refine AT.big1 tOk 14 kr kr ?_
            refine LAt.runU tOk 1 kr ?_
            refine LAt.fin kr (And.intro (And.intro kr kr) ?_)
            exact AT.done [5, 4] [5, 4] _ kr kr rfl
        · refine LAt.cutG tOk (t := 27) (ty := 27) (e := 56) (x := (.tmp 49)) (lo := (some (.tmp 50))) (hi := none) (d := 51) (g := none) ⟨.st [(0, 1, 3), (1, 1, 3), (2, 1, 3)], 3, 24, [.lit (.int .i64 0), .lit (.int .i64 0), .lit (.int .i64 0)]⟩ Vrow.row x0.Rows ⟨(.box 2), [(0, 0)], 0, false, 3, (CV.frzEs (x0.Rows.map Vrow.row))⟩ y4 (x0.Rows.length : Int) kr kr kr kr kr kr rfl kr rfl kr kr hg8 ?_
          refine LAt.fin kr (And.intro (And.intro kr kr) ?_)
          refine AT.big2 tOk 4 6 kr (And.intro kr ?_) (And.intro kr ?_)
          · refine LAt.appCU tOk (t := 27) (ty := 27) (e := 56) (x := (.const (.slice none 0 0))) (y := (.tmp 43)) (d := 44) (g := none) ⟨.st [(0, 1, 3), (1, 1, 3), (2, 1, 3)], 3, 24, [.lit (.int .i64 0), .lit (.int .i64 0), .lit (.int .i64 0)]⟩ Vrow.row ([] : List Vrow) ((x0.Rows.drop ((0 : Int)).toNat).take (((y4 : Int)).toNat - ((0 : Int)).toNat)) ⟨(.slot 43), [], 0, false, 3, (CV.frzEs (((x0.Rows.drop ((0 : Int)).toNat).take (((y4 : Int)).toNat - ((0 : Int)).toNat)).map Vrow.row))⟩ kr kr kr kr kr kr kr kr kr kr kr (.inr rfl) (fun _ => rfl) (fun _ => rfl) hg6 ?_
            refine LAt.fin kr (And.intro (And.intro kr kr) ?_)
            refine AT.big1 tOk 6 kr kr ?_
            refine LAt.runU tOk 1 kr ?_
            refine LAt.fin kr (And.intro (And.intro kr kr) ?_)
            refine AT.big1 tOk 7 kr kr ?_
            refine LAt.appMU tOk (t := 27) (ty := 27) (e := 56) (x := (.tmp 44)) (y := (.tmp 46)) (d := 47) (g := none) ⟨.st [(0, 1, 3), (1, 1, 3), (2, 1, 3)], 3, 24, [.lit (.int .i64 0), .lit (.int .i64 0), .lit (.int .i64 0)]⟩ Vrow.row (([] : List Vrow) ++ ((x0.Rows.drop ((0 : Int)).toNat).take (((y4 : Int)).toNat - ((0 : Int)).toNat))) [x1] kr kr kr kr kr kr kr kr kr kr hg7 ?_
            refine LAt.fin kr (And.intro (And.intro kr kr) ?_)
            refine AT.big1 tOk 12 kr kr ?_
            refine LAt.appCU tOk (t := 27) (ty := 27) (e := 56) (x := (.tmp 47)) (y := (.tmp 51)) (d := 52) (g := none) ⟨.st [(0, 1, 3), (1, 1, 3), (2, 1, 3)], 3, 24, [.lit (.int .i64 0), .lit (.int .i64 0), .lit (.int .i64 0)]⟩ Vrow.row ((([] : List Vrow) ++ ((x0.Rows.drop ((0 : Int)).toNat).take (((y4 : Int)).toNat - ((0 : Int)).toNat))) ++ [x1]) ((x0.Rows.drop ((y4 : Int)).toNat).take ((((x0.Rows.length : Int) : Int)).toNat - ((y4 : Int)).toNat)) ⟨(.slot 51), [], 0, false, 3, (CV.frzEs (((x0.Rows.drop ((y4 : Int)).toNat).take ((((x0.Rows.length : Int) : Int)).toNat - ((y4 : Int)).toNat)).map Vrow.row))⟩ kr kr kr kr kr kr kr kr kr kr kr (.inr rfl) (fun _ => rfl) (fun _ => rfl) hg9 ?_
            refine LAt.fin kr (And.intro (And.intro kr kr) ?_)
            refine AT.runU tOk [(13, [])] 1 [⟨[11, 12, 14], 27, 48, 49⟩, ⟨[6, 7, 12, 14], 56, 3, 45⟩, ⟨[3, 4, 7, 12, 14], 27, 40, 41⟩] [13, 12, 7, 6, 4, 11, 3, 10, 9, 8, 5, 2, 1, 0] rfl kr (fun cx => ?_)
            refine AT.big1 tOk 14 kr kr ?_
            refine LAt.runU tOk 1 kr ?_
            refine LAt.fin kr (And.intro (And.intro kr kr) ?_)
            exact AT.done [5, 4] [5, 4] _ kr kr rfl
          · refine LAt.runU tOk 1 kr ?_
            refine LAt.fin kr (And.intro (And.intro kr kr) ?_)
            refine AT.big1 tOk 4 kr kr ?_
            refine LAt.appCU tOk (t := 27) (ty := 27) (e := 56) (x := (.const (.slice none 0 0))) (y := (.tmp 43)) (d := 44) (g := none) ⟨.st [(0, 1, 3), (1, 1, 3), (2, 1, 3)], 3, 24, [.lit (.int .i64 0), .lit (.int .i64 0), .lit (.int .i64 0)]⟩ Vrow.row ([] : List Vrow) ((x0.Rows.drop ((0 : Int)).toNat).take (((y4 : Int)).toNat - ((0 : Int)).toNat)) ⟨(.slot 43), [], 0, false, 3, (CV.frzEs (((x0.Rows.drop ((0 : Int)).toNat).take (((y4 : Int)).toNat - ((0 : Int)).toNat)).map Vrow.row))⟩ kr kr kr kr kr kr kr kr kr kr kr (.inr rfl) (fun _ => rfl) (fun _ => rfl) hg6 ?_
            refine LAt.fin kr (And.intro (And.intro kr kr) ?_)
            refine AT.big1 tOk 7 kr kr ?_
            refine LAt.appMU tOk (t := 27) (ty := 27) (e := 56) (x := (.tmp 44)) (y := (.tmp 46)) (d := 47) (g := none) ⟨.st [(0, 1, 3), (1, 1, 3), (2, 1, 3)], 3, 24, [.lit (.int .i64 0), .lit (.int .i64 0), .lit (.int .i64 0)]⟩ Vrow.row (([] : List Vrow) ++ ((x0.Rows.drop ((0 : Int)).toNat).take (((y4 : Int)).toNat - ((0 : Int)).toNat))) [x1] kr kr kr kr kr kr kr kr kr kr hg7 ?_
            refine LAt.fin kr (And.intro (And.intro kr kr) ?_)
            refine AT.big1 tOk 12 kr kr ?_
            refine LAt.appCU tOk (t := 27) (ty := 27) (e := 56) (x := (.tmp 47)) (y := (.tmp 51)) (d := 52) (g := none) ⟨.st [(0, 1, 3), (1, 1, 3), (2, 1, 3)], 3, 24, [.lit (.int .i64 0), .lit (.int .i64 0), .lit (.int .i64 0)]⟩ Vrow.row ((([] : List Vrow) ++ ((x0.Rows.drop ((0 : Int)).toNat).take (((y4 : Int)).toNat - ((0 : Int)).toNat))) ++ [x1]) ((x0.Rows.drop ((y4 : Int)).toNat).take ((((x0.Rows.length : Int) : Int)).toNat - ((y4 : Int)).toNat)) ⟨(.slot 51), [], 0, false, 3, (CV.frzEs (((x0.Rows.drop ((y4 : Int)).toNat).take ((((x0.Rows.length : Int) : Int)).toNat - ((y4 : Int)).toNat)).map Vrow.row))⟩ kr kr kr kr kr kr kr kr kr kr kr (.inr rfl) (fun _ => rfl) (fun _ => rfl) hg9 ?_
            refine LAt.fin kr (And.intro (And.intro kr kr) ?_)
            refine AT.runU tOk [(13, [])] 1 [⟨[11, 12, 14], 27, 48, 49⟩, ⟨[6, 7, 12, 14], 56, 3, 45⟩, ⟨[3, 4, 7, 12, 14], 27, 40, 41⟩] [13, 12, 7, 4, 6, 11, 3, 10, 9, 8, 5, 2, 1, 0] rfl kr (fun cx => ?_)
            refine AT.big1 tOk 14 kr kr ?_
            refine LAt.runU tOk 1 kr ?_
            refine LAt.fin kr (And.intro (And.intro kr kr) ?_)
            exact AT.done [5, 4] [5, 4] _ kr kr rfl
      · refine LAt.runU tOk 1 kr ?_
        refine LAt.fin kr (And.intro (And.intro kr kr) ?_)
        refine AT.big2 tOk 3 11 kr (And.intro kr ?_) (And.intro kr ?_)
        · refine LAt.cutG tOk (t := 27) (ty := 27) (e := 56) (x := (.tmp 41)) (lo := none) (hi := (some (.tmp 42))) (d := 43) (g := none) ⟨.st [(0, 1, 3), (1, 1, 3), (2, 1, 3)], 3, 24, [.lit (.int .i64 0), .lit (.int .i64 0), .lit (.int .i64 0)]⟩ Vrow.row x0.Rows ⟨(.box 2), [(0, 0)], 0, false, 3, (CV.frzEs (x0.Rows.map Vrow.row))⟩ 0 y4 kr kr kr kr kr kr rfl kr rfl kr kr hg5 ?_
          refine LAt.fin kr (And.intro (And.intro kr kr) ?_)
          refine AT.big2 tOk 4 11 kr (And.intro kr ?_) (And.intro kr ?_)
          · refine LAt.appCU tOk (t := 27) (ty := 27) (e := 56) (x := (.const (.slice none 0 0))) (y := (.tmp 43)) (d := 44) (g := none) ⟨.st [(0, 1, 3), (1, 1, 3), (2, 1, 3)], 3, 24, [.lit (.int .i64 0), .lit (.int .i64 0), .lit (.int .i64 0)]⟩ Vrow.row ([] : List Vrow) ((x0.Rows.drop ((0 : Int)).toNat).take (((y4 : Int)).toNat - ((0 : Int)).toNat)) ⟨(.slot 43), [], 0, false, 3, (CV.frzEs (((x0.Rows.drop ((0 : Int)).toNat).take (((y4 : Int)).toNat - ((0 : Int)).toNat)).map Vrow.row))⟩ kr kr kr kr kr kr kr kr kr kr kr (.inr rfl) (fun _ => rfl) (fun _ => rfl) hg6 ?_
            refine LAt.fin kr (And.intro (And.intro kr kr) ?_)
            refine AT.big2 tOk 7 11 kr (And.intro kr ?_) (And.intro kr ?_)
            · refine LAt.appMU tOk (t := 27) (ty := 27) (e := 56) (x := (.tmp 44)) (y := (.tmp 46)) (d := 47) (g := none) ⟨.st [(0, 1, 3), (1, 1, 3), (2, 1, 3)], 3, 24, [.lit (.int .i64 0), .lit (.int .i64 0), .lit (.int .i64 0)]⟩ Vrow.row (([] : List Vrow) ++ ((x0.Rows.drop ((0 : Int)).toNat).take (((y4 : Int)).toNat - ((0 : Int)).toNat))) [x1] kr kr kr kr kr kr kr kr kr kr hg7 ?_
              refine LAt.fin kr (And.intro (And.intro kr kr) ?_)
              refine AT.big1 tOk 11 kr kr ?_
              refine LAt.cutG tOk (t := 27) (ty := 27) (e := 56) (x := (.tmp 49)) (lo := (some (.tmp 50))) (hi := none) (d := 51) (g := none) ⟨.st [(0, 1, 3), (1, 1, 3), (2, 1, 3)], 3, 24, [.lit (.int .i64 0), .lit (.int .i64 0), .lit (.int .i64 0)]⟩ Vrow.row x0.Rows ⟨(.box 2), [(0, 0)], 0, false, 3, (CV.frzEs (x0.Rows.map Vrow.row))⟩ y4 (x0.Rows.length : Int) kr kr kr kr kr kr rfl kr rfl kr kr hg8 ?_
              refine LAt.fin kr (And.intro (And.intro kr kr) ?_)
              refine AT.big1 tOk 12 kr kr ?_
              refine LAt.appCU tOk (t := 27) (ty := 27) (e := 56) (x := (.tmp 47)) (y := (.tmp 51)) (d := 52) (g := none) ⟨.st [(0, 1, 3), (1, 1, 3), (2, 1, 3)], 3, 24, [.lit (.int .i64 0), .lit (.int .i64 0), .lit (.int .i64 0)]⟩ Vrow.row ((([] : List Vrow) ++ ((x0.Rows.drop ((0 : Int)).toNat).take (((y4 : Int)).toNat - ((0 : Int)).toNat))) ++ [x1]) ((x0.Rows.drop ((y4 : Int)).toNat).take ((((x0.Rows.length : Int) : Int)).toNat - ((y4 : Int)).toNat)) ⟨(.slot 51), [], 0, false, 3, (CV.frzEs (((x0.Rows.drop ((y4 : Int)).toNat).take ((((x0.Rows.length : Int) : Int)).toNat - ((y4 : Int)).toNat)).map Vrow.row))⟩ kr kr kr kr kr kr kr kr kr kr kr (.inr rfl) (fun _ => rfl) (fun _ => rfl) hg9 ?_
              refine LAt.fin kr (And.intro (And.intro kr kr) ?_)
              refine AT.runU tOk [(13, [])] 1 [⟨[11, 12, 14], 27, 48, 49⟩, ⟨[6, 7, 12, 14], 56, 3, 45⟩, ⟨[3, 4, 7, 12, 14], 27, 40, 41⟩] [13, 12, 11, 7, 4, 3, 6, 10, 9, 8, 5, 2, 1, 0] rfl kr (fun cx => ?_)
              refine AT.big1 tOk 14 kr kr ?_
              refine LAt.runU tOk 1 kr ?_
              refine LAt.fin kr (And.intro (And.intro kr kr) ?_)
              exact AT.done [5, 4] [5, 4] _ kr kr rfl
            · refine LAt.cutG tOk (t := 27) (ty := 27) (e := 56) (x := (.tmp 49)) (lo := (some (.tmp 50))) (hi := none) (d := 51) (g := none) ⟨.st [(0, 1, 3), (1, 1, 3), (2, 1, 3)], 3, 24, [.lit (.int .i64 0), .lit (.int .i64 0), .lit (.int .i64 0)]⟩ Vrow.row x0.Rows ⟨(.box 2), [(0, 0)], 0, false, 3, (CV.frzEs (x0.Rows.map Vrow.row))⟩ y4 (x0.Rows.length : Int) kr kr kr kr kr kr rfl kr rfl kr kr hg8 ?_
              refine LAt.fin kr (And.intro (And.intro kr kr) ?_)
              refine AT.big1 tOk 7 kr kr ?_
              refine LAt.appMU tOk (t := 27) (ty := 27) (e := 56) (x := (.tmp 44)) (y := (.tmp 46)) (d := 47) (g := none) ⟨.st [(0, 1, 3), (1, 1, 3), (2, 1, 3)], 3, 24, [.lit (.int .i64 0), .lit (.int .i64 0), .lit (.int .i64 0)]⟩ Vrow.row (([] : List Vrow) ++ ((x0.Rows.drop ((0 : Int)).toNat).take (((y4 : Int)).toNat - ((0 : Int)).toNat))) [x1] kr kr kr kr kr kr kr kr kr kr hg7 ?_
              refine LAt.fin kr (And.intro (And.intro kr kr) ?_)
              refine AT.big1 tOk 12 kr kr ?_
              refine LAt.appCU tOk (t := 27) (ty := 27) (e := 56) (x := (.tmp 47)) (y := (.tmp 51)) (d := 52) (g := none) ⟨.st [(0, 1, 3), (1, 1, 3), (2, 1, 3)], 3, 24, [.lit (.int .i64 0), .lit (.int .i64 0), .lit (.int .i64 0)]⟩ Vrow.row ((([] : List Vrow) ++ ((x0.Rows.drop ((0 : Int)).toNat).take (((y4 : Int)).toNat - ((0 : Int)).toNat))) ++ [x1]) ((x0.Rows.drop ((y4 : Int)).toNat).take ((((x0.Rows.length : Int) : Int)).toNat - ((y4 : Int)).toNat)) ⟨(.slot 51), [], 0, false, 3, (CV.frzEs (((x0.Rows.drop ((y4 : Int)).toNat).take ((((x0.Rows.length : Int) : Int)).toNat - ((y4 : Int)).toNat)).map Vrow.row))⟩ kr kr kr kr kr kr kr kr kr kr kr (.inr rfl) (fun _ => rfl) (fun _ => rfl) hg9 ?_
              refine LAt.fin kr (And.intro (And.intro kr kr) ?_)
              refine AT.runU tOk [(13, [])] 1 [⟨[11, 12, 14], 27, 48, 49⟩, ⟨[6, 7, 12, 14], 56, 3, 45⟩, ⟨[3, 4, 7, 12, 14], 27, 40, 41⟩] [13, 12, 7, 11, 4, 3, 6, 10, 9, 8, 5, 2, 1, 0] rfl kr (fun cx => ?_)
              refine AT.big1 tOk 14 kr kr ?_
              refine LAt.runU tOk 1 kr ?_
              refine LAt.fin kr (And.intro (And.intro kr kr) ?_)
              exact AT.done [5, 4] [5, 4] _ kr kr rfl
          · refine LAt.cutG tOk (t := 27) (ty := 27) (e := 56) (x := (.tmp 49)) (lo := (some (.tmp 50))) (hi := none) (d := 51) (g := none) ⟨.st [(0, 1, 3), (1, 1, 3), (2, 1, 3)], 3, 24, [.lit (.int .i64 0), .lit (.int .i64 0), .lit (.int .i64 0)]⟩ Vrow.row x0.Rows ⟨(.box 2), [(0, 0)], 0, false, 3, (CV.frzEs (x0.Rows.map Vrow.row))⟩ y4 (x0.Rows.length : Int) kr kr kr kr kr kr rfl kr rfl kr kr hg8 ?_
            refine LAt.fin kr (And.intro (And.intro kr kr) ?_)
            refine AT.big1 tOk 4 kr kr ?_
            refine LAt.appCU tOk (t := 27) (ty := 27) (e := 56) (x := (.const (.slice none 0 0))) (y := (.tmp 43)) (d := 44) (g := none) ⟨.st [(0, 1, 3), (1, 1, 3), (2, 1, 3)], 3, 24, [.lit (.int .i64 0), .lit (.int .i64 0), .lit (.int .i64 0)]⟩ Vrow.row ([] : List Vrow) ((x0.Rows.drop ((0 : Int)).toNat).take (((y4 : Int)).toNat - ((0 : Int)).toNat)) ⟨(.slot 43), [], 0, false, 3, (CV.frzEs (((x0.Rows.drop ((0 : Int)).toNat).take (((y4 : Int)).toNat - ((0 : Int)).toNat)).map Vrow.row))⟩ kr kr kr kr kr kr kr kr kr kr kr (.inr rfl) (fun _ => rfl) (fun _ => rfl) hg6 ?_
            refine LAt.fin kr (And.intro (And.intro kr kr) ?_)
            refine AT.big1 tOk 7 kr kr ?_
            refine LAt.appMU tOk (t := 27) (ty := 27) (e := 56) (x := (.tmp 44)) (y := (.tmp 46)) (d := 47) (g := none) ⟨.st [(0, 1, 3), (1, 1, 3), (2, 1, 3)], 3, 24, [.lit (.int .i64 0), .lit (.int .i64 0), .lit (.int .i64 0)]⟩ Vrow.row (([] : List Vrow) ++ ((x0.Rows.drop ((0 : Int)).toNat).take (((y4 : Int)).toNat - ((0 : Int)).toNat))) [x1] kr kr kr kr kr kr kr kr kr kr hg7 ?_
            refine LAt.fin kr (And.intro (And.intro kr kr) ?_)
            refine AT.big1 tOk 12 kr kr ?_
            refine LAt.appCU tOk (t := 27) (ty := 27) (e := 56) (x := (.tmp 47)) (y := (.tmp 51)) (d := 52) (g := none) ⟨.st [(0, 1, 3), (1, 1, 3), (2, 1, 3)], 3, 24, [.lit (.int .i64 0), .lit (.int .i64 0), .lit (.int .i64 0)]⟩ Vrow.row ((([] : List Vrow) ++ ((x0.Rows.drop ((0 : Int)).toNat).take (((y4 : Int)).toNat - ((0 : Int)).toNat))) ++ [x1]) ((x0.Rows.drop ((y4 : Int)).toNat).take ((((x0.Rows.length : Int) : Int)).toNat - ((y4 : Int)).toNat)) ⟨(.slot 51), [], 0, false, 3, (CV.frzEs (((x0.Rows.drop ((y4 : Int)).toNat).take ((((x0.Rows.length : Int) : Int)).toNat - ((y4 : Int)).toNat)).map Vrow.row))⟩ kr kr kr kr kr kr kr kr kr kr kr (.inr rfl) (fun _ => rfl) (fun _ => rfl) hg9 ?_
            refine LAt.fin kr (And.intro (And.intro kr kr) ?_)
            refine AT.runU tOk [(13, [])] 1 [⟨[11, 12, 14], 27, 48, 49⟩, ⟨[6, 7, 12, 14], 56, 3, 45⟩, ⟨[3, 4, 7, 12, 14], 27, 40, 41⟩] [13, 12, 7, 4, 11, 3, 6, 10, 9, 8, 5, 2, 1, 0] rfl kr (fun cx => ?_)
            refine AT.big1 tOk 14 kr kr ?_
            refine LAt.runU tOk 1 kr ?_
            refine LAt.fin kr (And.intro (And.intro kr kr) ?_)
            exact AT.done [5, 4] [5, 4] _ kr kr rfl
        · refine LAt.cutG tOk (t := 27) (ty := 27) (e := 56) (x := (.tmp 49)) (lo := (some (.tmp 50))) (hi := none) (d := 51) (g := none) ⟨.st [(0, 1, 3), (1, 1, 3), (2, 1, 3)], 3, 24, [.lit (.int .i64 0), .lit (.int .i64 0), .lit (.int .i64 0)]⟩ Vrow.row x0.Rows ⟨(.box 2), [(0, 0)], 0, false, 3, (CV.frzEs (x0.Rows.map Vrow.row))⟩ y4 (x0.Rows.length : Int) kr kr kr kr kr kr rfl kr rfl kr kr hg8 ?_
          refine LAt.fin kr (And.intro (And.intro kr kr) ?_)
          refine AT.big1 tOk 3 kr kr ?_
          refine LAt.cutG tOk (t := 27) (ty := 27) (e := 56) (x := (.tmp 41)) (lo := none) (hi := (some (.tmp 42))) (d := 43) (g := none) ⟨.st [(0, 1, 3), (1, 1, 3), (2, 1, 3)], 3, 24, [.lit (.int .i64 0), .lit (.int .i64 0), .lit (.int .i64 0)]⟩ Vrow.row x0.Rows ⟨(.box 2), [(0, 0)], 0, false, 3, (CV.frzEs (x0.Rows.map Vrow.row))⟩ 0 y4 kr kr kr kr kr kr rfl kr rfl kr kr hg5 ?_
          refine LAt.fin kr (And.intro (And.intro kr kr) ?_)
          refine AT.big1 tOk 4 kr kr ?_
          refine LAt.appCU tOk (t := 27) (ty := 27) (e := 56) (x := (.const (.slice none 0 0))) (y := (.tmp 43)) (d := 44) (g := none) ⟨.st [(0, 1, 3), (1, 1, 3), (2, 1, 3)], 3, 24, [.lit (.int .i64 0), .lit (.int .i64 0), .lit (.int .i64 0)]⟩ Vrow.row ([] : List Vrow) ((x0.Rows.drop ((0 : Int)).toNat).take (((y4 : Int)).toNat - ((0 : Int)).toNat)) ⟨(.slot 43), [], 0, false, 3, (CV.frzEs (((x0.Rows.drop ((0 : Int)).toNat).take (((y4 : Int)).toNat - ((0 : Int)).toNat)).map Vrow.row))⟩ kr kr kr kr kr kr kr kr kr kr kr (.inr rfl) (fun _ => rfl) (fun _ => rfl) hg6 ?_
          refine LAt.fin kr (And.intro (And.intro kr kr) ?_)
          refine AT.big1 tOk 7 kr kr ?_
          refine LAt.appMU tOk (t := 27) (ty := 27) (e := 56) (x := (.tmp 44)) (y := (.tmp 46)) (d := 47) (g := none) ⟨.st [(0, 1, 3), (1, 1, 3), (2, 1, 3)], 3, 24, [.lit (.int .i64 0), .lit (.int .i64 0), .lit (.int .i64 0)]⟩ Vrow.row (([] : List Vrow) ++ ((x0.Rows.drop ((0 : Int)).toNat).take (((y4 : Int)).toNat - ((0 : Int)).toNat))) [x1] kr kr kr kr kr kr kr kr kr kr hg7 ?_
          refine LAt.fin kr (And.intro (And.intro kr kr) ?_)
          refine AT.big1 tOk 12 kr kr ?_
          refine LAt.appCU tOk (t := 27) (ty := 27) (e := 56) (x := (.tmp 47)) (y := (.tmp 51)) (d := 52) (g := none) ⟨.st [(0, 1, 3), (1, 1, 3), (2, 1, 3)], 3, 24, [.lit (.int .i64 0), .lit (.int .i64 0), .lit (.int .i64 0)]⟩ Vrow.row ((([] : List Vrow) ++ ((x0.Rows.drop ((0 : Int)).toNat).take (((y4 : Int)).toNat - ((0 : Int)).toNat))) ++ [x1]) ((x0.Rows.drop ((y4 : Int)).toNat).take ((((x0.Rows.length : Int) : Int)).toNat - ((y4 : Int)).toNat)) ⟨(.slot 51), [], 0, false, 3, (CV.frzEs (((x0.Rows.drop ((y4 : Int)).toNat).take ((((x0.Rows.length : Int) : Int)).toNat - ((y4 : Int)).toNat)).map Vrow.row))⟩ kr kr kr kr kr kr kr kr kr kr kr (.inr rfl) (fun _ => rfl) (fun _ => rfl) hg9 ?_
          refine LAt.fin kr (And.intro (And.intro kr kr) ?_)
          refine AT.runU tOk [(13, [])] 1 [⟨[11, 12, 14], 27, 48, 49⟩, ⟨[6, 7, 12, 14], 56, 3, 45⟩, ⟨[3, 4, 7, 12, 14], 27, 40, 41⟩] [13, 12, 7, 4, 3, 11, 6, 10, 9, 8, 5, 2, 1, 0] rfl kr (fun cx => ?_)
          refine AT.big1 tOk 14 kr kr ?_
          refine LAt.runU tOk 1 kr ?_
          refine LAt.fin kr (And.intro (And.intro kr kr) ?_)
          exact AT.done [5, 4] [5, 4] _ kr kr rfl
      · refine LAt.cutG tOk (t := 27) (ty := 27) (e := 56) (x := (.tmp 49)) (lo := (some (.tmp 50))) (hi := none) (d := 51) (g := none) ⟨.st [(0, 1, 3), (1, 1, 3), (2, 1, 3)], 3, 24, [.lit (.int .i64 0), .lit (.int .i64 0), .lit (.int .i64 0)]⟩ Vrow.row x0.Rows ⟨(.box 2), [(0, 0)], 0, false, 3, (CV.frzEs (x0.Rows.map Vrow.row))⟩ y4 (x0.Rows.length : Int) kr kr kr kr kr kr rfl kr rfl kr kr hg8 ?_
        refine LAt.fin kr (And.intro (And.intro kr kr) ?_)
        refine AT.big2 tOk 3 6 kr (And.intro kr ?_) (And.intro kr ?_)
        · refine LAt.cutG tOk (t := 27) (ty := 27) (e := 56) (x := (.tmp 41)) (lo := none) (hi := (some (.tmp 42))) (d := 43) (g := none) ⟨.st [(0, 1, 3), (1, 1, 3), (2, 1, 3)], 3, 24, [.lit (.int .i64 0), .lit (.int .i64 0), .lit (.int .i64 0)]⟩ Vrow.row x0.Rows ⟨(.box 2), [(0, 0)], 0, false, 3, (CV.frzEs (x0.Rows.map Vrow.row))⟩ 0 y4 kr kr kr kr kr kr rfl kr rfl kr kr hg5 ?_
          refine LAt.fin kr (And.intro (And.intro kr kr) ?_)
          refine AT.big2 tOk 4 6 kr (And.intro kr ?_) (And.intro kr ?_)
          · refine LAt.appCU tOk (t := 27) (ty := 27) (e := 56) (x := (.const (.slice none 0 0))) (y := (.tmp 43)) (d := 44) (g := none) ⟨.st [(0, 1, 3), (1, 1, 3), (2, 1, 3)], 3, 24, [.lit (.int .i64 0), .lit (.int .i64 0), .lit (.int .i64 0)]⟩ Vrow.row ([] : List Vrow) ((x0.Rows.drop ((0 : Int)).toNat).take (((y4 : Int)).toNat - ((0 : Int)).toNat)) ⟨(.slot 43), [], 0, false, 3, (CV.frzEs (((x0.Rows.drop ((0 : Int)).toNat).take (((y4 : Int)).toNat - ((0 : Int)).toNat)).map Vrow.row))⟩ kr kr kr kr kr kr kr kr kr kr kr (.inr rfl) (fun _ => rfl) (fun _ => rfl) hg6 ?_
            refine LAt.fin kr (And.intro (And.intro kr kr) ?_)
            refine AT.big1 tOk 6 kr kr ?_
            refine LAt.runU tOk 1 kr ?_
            refine LAt.fin kr (And.intro (And.intro kr kr) ?_)
            refine AT.big1 tOk 7 kr kr ?_
            refine LAt.appMU tOk (t := 27) (ty := 27) (e := 56) (x := (.tmp 44)) (y := (.tmp 46)) (d := 47) (g := none) ⟨.st [(0, 1, 3), (1, 1, 3), (2, 1, 3)], 3, 24, [.lit (.int .i64 0), .lit (.int .i64 0), .lit (.int .i64 0)]⟩ Vrow.row (([] : List Vrow) ++ ((x0.Rows.drop ((0 : Int)).toNat).take (((y4 : Int)).toNat - ((0 : Int)).toNat))) [x1] kr kr kr kr kr kr kr kr kr kr hg7 ?_
            refine LAt.fin kr (And.intro (And.intro kr kr) ?_)
            refine AT.big1 tOk 12 kr kr ?_
            refine LAt.appCU tOk (t := 27) (ty := 27) (e := 56) (x := (.tmp 47)) (y := (.tmp 51)) (d := 52) (g := none) ⟨.st [(0, 1, 3), (1, 1, 3), (2, 1, 3)], 3, 24, [.lit (.int .i64 0), .lit (.int .i64 0), .lit (.int .i64 0)]⟩ Vrow.row ((([] : List Vrow) ++ ((x0.Rows.drop ((0 : Int)).toNat).take (((y4 : Int)).toNat - ((0 : Int)).toNat))) ++ [x1]) ((x0.Rows.drop ((y4 : Int)).toNat).take ((((x0.Rows.length : Int) : Int)).toNat - ((y4 : Int)).toNat)) ⟨(.slot 51), [], 0, false, 3, (CV.frzEs (((x0.Rows.drop ((y4 : Int)).toNat).take ((((x0.Rows.length : Int) : Int)).toNat - ((y4 : Int)).toNat)).map Vrow.row))⟩ kr kr kr kr kr kr kr kr kr kr kr (.inr rfl) (fun _ => rfl) (fun _ => rfl) hg9 ?_
            refine LAt.fin kr (And.intro (And.intro kr kr) ?_)
            refine AT.runU tOk [(13, [])] 1 [⟨[11, 12, 14], 27, 48, 49⟩, ⟨[6, 7, 12, 14], 56, 3, 45⟩, ⟨[3, 4, 7, 12, 14], 27, 40, 41⟩] [13, 12, 7, 6, 4, 3, 11, 10, 9, 8, 5, 2, 1, 0] rfl kr (fun cx => ?_)
            refine AT.big1 tOk 14 kr kr ?_
            refine LAt.runU tOk 1 kr ?_
            refine LAt.fin kr (And.intro (And.intro kr kr) ?_)
            exact AT.done [5, 4] [5, 4] _ kr kr rfl
          · refine LAt.runU tOk 1 kr ?_
            refine LAt.fin kr (And.intro (And.intro kr kr) ?_)
            refine AT.big1 tOk 4 kr kr ?_
            refine LAt.appCU tOk (t := 27) (ty := 27) (e := 56) (x := (.const (.slice none 0 0))) (y := (.tmp 43)) (d := 44) (g := none) ⟨.st [(0, 1, 3), (1, 1, 3), (2, 1, 3)], 3, 24, [.lit (.int .i64 0), .lit (.int .i64 0), .lit (.int .i64 0)]⟩ Vrow.row ([] : List Vrow) ((x0.Rows.drop ((0 : Int)).toNat).take (((y4 : Int)).toNat - ((0 : Int)).toNat)) ⟨(.slot 43), [], 0, false, 3, (CV.frzEs (((x0.Rows.drop ((0 : Int)).toNat).take (((y4 : Int)).toNat - ((0 : Int)).toNat)).map Vrow.row))⟩ kr kr kr kr kr kr kr kr kr kr kr (.inr rfl) (fun _ => rfl) (fun _ => rfl) hg6 ?_
            refine LAt.fin kr (And.intro (And.intro kr kr) ?_)
            refine AT.big1 tOk 7 kr kr ?_
            refine LAt.appMU tOk (t := 27) (ty := 27) (e := 56) (x := (.tmp 44)) (y := (.tmp 46)) (d := 47) (g := none) ⟨.st [(0, 1, 3), (1, 1, 3), (2, 1, 3)], 3, 24, [.lit (.int .i64 0), .lit (.int .i64 0), .lit (.int .i64 0)]⟩ Vrow.row (([] : List Vrow) ++ ((x0.Rows.drop ((0 : Int)).toNat).take (((y4 : Int)).toNat - ((0 : Int)).toNat))) [x1] kr kr kr kr kr kr kr kr kr kr hg7 ?_
            refine LAt.fin kr (And.intro (And.intro kr kr) ?_)
            refine AT.big1 tOk 12 kr kr ?_
            refine LAt.appCU tOk (t := 27) (ty := 27) (e := 56) (x := (.tmp 47)) (y := (.tmp 51)) (d := 52) (g := none) ⟨.st [(0, 1, 3), (1, 1, 3), (2, 1, 3)], 3, 24, [.lit (.int .i64 0), .lit (.int .i64 0), .lit (.int .i64 0)]⟩ Vrow.row ((([] : List Vrow) ++ ((x0.Rows.drop ((0 : Int)).toNat).take (((y4 : Int)).toNat - ((0 : Int)).toNat))) ++ [x1]) ((x0.Rows.drop ((y4 : Int)).toNat).take ((((x0.Rows.length : Int) : Int)).toNat - ((y4 : Int)).toNat)) ⟨(.slot 51), [], 0, false, 3, (CV.frzEs (((x0.Rows.drop ((y4 : Int)).toNat).take ((((x0.Rows.length : Int) : Int)).toNat - ((y4 : Int)).toNat)).map Vrow.row))⟩ kr kr kr kr kr kr kr kr kr kr kr (.inr rfl) (fun _ => rfl) (fun _ => rfl) hg9 ?_
            refine LAt.fin kr (And.intro (And.intro kr kr) ?_)
            refine AT.runU tOk [(13, [])] 1 [⟨[11, 12, 14], 27, 48, 49⟩, ⟨[6, 7, 12, 14], 56, 3, 45⟩, ⟨[3, 4, 7, 12, 14], 27, 40, 41⟩] [13, 12, 7, 4, 6, 3, 11, 10, 9, 8, 5, 2, 1, 0] rfl kr (fun cx => ?_)
            refine AT.big1 tOk 14 kr kr ?_
            refine LAt.runU tOk 1 kr ?_
            refine LAt.fin kr (And.intro (And.intro kr kr) ?_)
            exact AT.done [5, 4] [5, 4] _ kr kr rfl
        · refine LAt.runU tOk 1 kr ?_
          refine LAt.fin kr (And.intro (And.intro kr kr) ?_)
          refine AT.big1 tOk 3 kr kr ?_
          refine LAt.cutG tOk (t := 27) (ty := 27) (e := 56) (x := (.tmp 41)) (lo := none) (hi := (some (.tmp 42))) (d := 43) (g := none) ⟨.st [(0, 1, 3), (1, 1, 3), (2, 1, 3)], 3, 24, [.lit (.int .i64 0), .lit (.int .i64 0), .lit (.int .i64 0)]⟩ Vrow.row x0.Rows ⟨(.box 2), [(0, 0)], 0, false, 3, (CV.frzEs (x0.Rows.map Vrow.row))⟩ 0 y4 kr kr kr kr kr kr rfl kr rfl kr kr hg5 ?_
          refine LAt.fin kr (And.intro (And.intro kr kr) ?_)
          refine AT.big1 tOk 4 kr kr ?_
          refine LAt.appCU tOk (t := 27) (ty := 27) (e := 56) (x := (.const (.slice none 0 0))) (y := (.tmp 43)) (d := 44) (g := none) ⟨.st [(0, 1, 3), (1, 1, 3), (2, 1, 3)], 3, 24, [.lit (.int .i64 0), .lit (.int .i64 0), .lit (.int .i64 0)]⟩ Vrow.row ([] : List Vrow) ((x0.Rows.drop ((0 : Int)).toNat).take (((y4 : Int)).toNat - ((0 : Int)).toNat)) ⟨(.slot 43), [], 0, false, 3, (CV.frzEs (((x0.Rows.drop ((0 : Int)).toNat).take (((y4 : Int)).toNat - ((0 : Int)).toNat)).map Vrow.row))⟩ kr kr kr kr kr kr kr kr kr kr kr (.inr rfl) (fun _ => rfl) (fun _ => rfl) hg6 ?_
          refine LAt.fin kr (And.intro (And.intro kr kr) ?_)
          refine AT.big1 tOk 7 kr kr ?_
          refine LAt.appMU tOk (t := 27) (ty := 27) (e := 56) (x := (.tmp 44)) (y := (.tmp 46)) (d := 47) (g := none) ⟨.st [(0, 1, 3), (1, 1, 3), (2, 1, 3)], 3, 24, [.lit (.int .i64 0), .lit (.int .i64 0), .lit (.int .i64 0)]⟩ Vrow.row (([] : List Vrow) ++ ((x0.Rows.drop ((0 : Int)).toNat).take (((y4 : Int)).toNat - ((0 : Int)).toNat))) [x1] kr kr kr kr kr kr kr kr kr kr hg7 ?_
          refine LAt.fin kr (And.intro (And.intro kr kr) ?_)
          refine AT.big1 tOk 12 kr kr ?_
          refine LAt.appCU tOk (t := 27) (ty := 27) (e := 56) (x := (.tmp 47)) (y := (.tmp 51)) (d := 52) (g := none) ⟨.st [(0, 1, 3), (1, 1, 3), (2, 1, 3)], 3, 24, [.lit (.int .i64 0), .lit (.int .i64 0), .lit (.int .i64 0)]⟩ Vrow.row ((([] : List Vrow) ++ ((x0.Rows.drop ((0 : Int)).toNat).take (((y4 : Int)).toNat - ((0 : Int)).toNat))) ++ [x1]) ((x0.Rows.drop ((y4 : Int)).toNat).take ((((x0.Rows.length : Int) : Int)).toNat - ((y4 : Int)).toNat)) ⟨(.slot 51), [], 0, false, 3, (CV.frzEs (((x0.Rows.drop ((y4 : Int)).toNat).take ((((x0.Rows.length : Int) : Int)).toNat - ((y4 : Int)).toNat)).map Vrow.row))⟩ kr kr kr kr kr kr kr kr kr kr kr (.inr rfl) (fun _ => rfl) (fun _ => rfl) hg9 ?_
          refine LAt.fin kr (And.intro (And.intro kr kr) ?_)
          refine AT.runU tOk [(13, [])] 1 [⟨[11, 12, 14], 27, 48, 49⟩, ⟨[6, 7, 12, 14], 56, 3, 45⟩, ⟨[3, 4, 7, 12, 14], 27, 40, 41⟩] [13, 12, 7, 4, 3, 6, 11, 10, 9, 8, 5, 2, 1, 0] rfl kr (fun cx => ?_)
          refine AT.big1 tOk 14 kr kr ?_
          refine LAt.runU tOk 1 kr ?_
          refine LAt.fin kr (And.intro (And.intro kr kr) ?_)
          exact AT.done [5, 4] [5, 4] _ kr kr rfl
    refine Tr.rgn tOk 2 16 16 kr kr ?_
    refine Tr.ret ?_
    have H := Option.some.inj H
    subst H
    exact Fin.of _ [(true, [cL 3 (((([] : List Vrow) ++ ((x0.Rows.drop ((0 : Int)).toNat).take (((y4 : Int)).toNat - ((0 : Int)).toNat))) ++ [x1]) ++ ((x0.Rows.drop ((y4 : Int)).toNat).take ((((x0.Rows.length : Int) : Int)).toNat - ((y4 : Int)).toNat))) Vrow.row, cL 1 r1.Pvid intRow])] kr rfl rfl
  have H := bifT h1 H
  refine Tr.cT h1 kr ?_
  refine Tr.rs ?_
  refine LAt.runU tOk 4 kr ?_
  obtain ⟨v12, ev12, H⟩ := bind_some H
  refine LAt.indexO tOk (t := 27) (ty := 0) (x := (.tmp 17)) (y := (.tmp 18)) (d := 20) (g := none) ⟨(.box 5), [(0, 0)], 0, true, 3, (r1.Rows.map Vrow.row)⟩ r2 (r2.toNat) (Vrow.row v12) _ kr kr kr kr rfl kr (idx_isE ev12) rfl rfl ?_
  refine LAt.storeB tOk (t := 56) (ty := 0) (ad := (.tmp 20)) (x := (.tmp 19)) (g := none) ⟨.st [(0, 1, 3), (1, 1, 3), (2, 1, 3)], 3, 24, [.lit (.int .i64 0), .lit (.int .i64 0), .lit (.int .i64 0)]⟩ true (Vrow.row x1) 5 0 (r2.toNat) 3 0 3 r1.Rows Vrow.row v12 x1 kr kr kr kr kr kr kr kr (idx_get ev12).2 kr kr kr kr ?_
  refine LAt.doneM 60 60 kr ?_
  refine Tr.rgn tOk 2 60 60 kr kr ?_
  refine Tr.ret ?_
  have H := Option.some.inj H
  subst H
  exact Fin.of _ [(true, [cL 3 (r1.Rows.set (r2.toNat) x1) Vrow.row, cL 1 r1.Pvid intRow])] kr rfl rfl

def impl_inF (n : Nat) (x0 : Int) (x1 : Int) (x2 : Int) : Option (Bool) :=
  (bif (decide (x0 ≥ x1)) then (some (decide (x0 ≤ x2))) else (some false))
/-- loop.example/g00326/impl.in -/
theorem impl_in (n : Nat) (x0 : Int) (x1 : Int) (x2 : Int) (r : Bool) (H : impl_inF n x0 x1 x2 = some r) : LCall Try.prog 82 [.val false [.lit (.int .i64 x0)], .val false [.lit (.int .i64 x1)], .val false [.lit (.int .i64 x2)]] [.val false [.lit (.bool r)]] [] := by
  refine LCall.of_body tOk Try.func82 rfl (c := (.seq (Rg Try.f82 0) (.seq (Rg Try.f82 1) .ret))) kr (Nat.le_of_ble_eq_true kr) 0 (rs := [.tmp 6]) rfl [] .nil [(false, [.lit (.bool r)])] [] [] fun cx => ?_
  show Tr _ _ _ ⟨15, 0, [sI 0 x0, sI 1 x1, sI 2 x2], []⟩ _
  unfold impl_inF at H
  refine Tr.rgn tOk 1 71 0 kr kr ?_
  refine Tr.rs ?_
  refine LAt.runU tOk 4 kr ?_
  refine LAt.to ⟨15, 0, [sB 10 (decide (x0 ≥ x1)), sB 9 (decide (x0 ≥ x1)), sI 8 x1, sI 7 x0, sB 6 false, sI 0 x0, sI 1 x1, sI 2 x2], []⟩ kr ?_
  cases h1 : (decide (x0 ≥ x1))
  · have H := bifF h1 H
    refine LAt.runU tOk 5 kr ?_
    refine LAt.doneM 64 0 kr ?_
    refine Tr.ret ?_
    have H := Option.some.inj H
    subst H
    exact Fin.of _ [(false, [cB false])] kr rfl rfl
  have H := bifT h1 H
  refine LAt.runU tOk 5 kr ?_
  refine LAt.doneM 64 0 kr ?_
  refine Tr.ret ?_
  have H := Option.some.inj H
  subst H
  exact Fin.of _ [(false, [cB (decide (x0 ≤ x2))])] kr rfl rfl

def impl_allPortsF (n : Nat) (x0 : Int) : Option (Int) :=
  (bif (decide ((0 : Int) ≤ x0)) then (some (IntKind.wrap .i64 ((IntKind.wrap .i64 (1 * 2 ^ min ((x0 : Int)).toNat (IntKind.bits .i64))) - 1))) else none)
/-- loop.example/g00326/impl.allPorts -/
theorem impl_allPorts (n : Nat) (x0 : Int) (r : Int) (H : impl_allPortsF n x0 = some r) : LCall Try.prog 110 [.val false [.lit (.int .i64 x0)]] [.val false [.lit (.int .i64 r)]] [] := by
  refine LCall.of_body tOk Try.func110 rfl (c := (.seq (Rg Try.f110 0) (.seq (Rg Try.f110 1) .ret))) kr (Nat.le_of_ble_eq_true kr) 0 (rs := [.tmp 2]) rfl [] .nil [(false, [.lit (.int .i64 r)])] [] [] fun cx => ?_
  show Tr _ _ _ ⟨6, 0, [sI 0 x0], []⟩ _
  unfold impl_allPortsF at H
  refine Tr.rgn tOk 1 5 0 kr kr ?_
  refine Tr.rs ?_
  refine LAt.runU tOk 1 kr ?_
  obtain ⟨hg1, H⟩ := guard_some H
  refine LAt.binC tOk (op := .shl) (t := 3) (ty := 3) (ty' := 3) (x := (.const (.int .i64 1))) (y := (.tmp 3)) (d := 4) (g := none) (.int .i64 1) (.int .i64 x0) (.int .i64 (IntKind.wrap .i64 (1 * 2 ^ min ((x0 : Int)).toNat (IntKind.bits .i64)))) _ kr kr kr kr kr (φ := (0 : Int) ≤ x0) kr (of_decide_eq_true hg1) rfl ?_
  refine LAt.runU tOk 2 kr ?_
  refine LAt.doneM 4 0 kr ?_
  refine Tr.ret ?_
  have H := Option.some.inj H
  subst H
  exact Fin.of _ [(false, [cI (IntKind.wrap .i64 ((IntKind.wrap .i64 (1 * 2 ^ min ((x0 : Int)).toNat (IntKind.bits .i64))) - 1))])] kr rfl rfl

def impl_VtabOk_J2 (n : Nat) : Option (Bool) :=
  (some true)
def impl_VtabOk_L3 (n : Nat) : Nat → Vtab → Int → Option ((Unit) ⊕ (Bool))
  | 0, _, _ => none
  | mo4 + 1, x0, y3 => (bif (decide (y3 < (x0.Pvid.length : Int))) then ((idx x0.Pvid y3).bind fun v5 => ((impl_RowAtF n x0 v5).bind fun r6 => (bif (decide (r6 < 0)) then (some (Sum.inr false)) else (impl_VtabOk_L3 n mo4 x0 (IntKind.wrap .i64 (y3 + 1)))))) else (some (Sum.inl ())))
def impl_VtabOk_J1 (n : Nat) (x0 : Vtab) : Option (Bool) :=
  ((impl_VtabOk_L3 n n x0 0).bind fun o => match o with | .inl _ => (impl_VtabOk_J2 n) | .inr r => some r)
def impl_VtabOk_L4 (n : Nat) : Nat → Vtab → Int → Int → Option ((Unit) ⊕ (Bool))
  | 0, _, _, _ => none
  | mo7 + 1, x0, x1, y2 => (bif (decide (y2 < (x0.Rows.length : Int))) then ((idx x0.Rows y2).bind fun v8 => ((impl_inF n v8.Id 1 99).bind fun r9 => (bif (!r9) then (some (Sum.inr false)) else (bif (decide (y2 > 0)) then ((idx x0.Rows (IntKind.wrap .i64 (y2 - 1))).bind fun v12 => (bif (decide (v12.Id ≥ v8.Id)) then (some (Sum.inr false)) else ((impl_allPortsF n x1).bind fun r13 => ((impl_inF n v8.Members 0 r13).bind fun r14 => (bif (!r14) then (some (Sum.inr false)) else (bif ((IntKind.wrap .i64 (BitVec.ofInt (IntKind.bits .i64) v8.Bare &&& ~~~BitVec.ofInt (IntKind.bits .i64) v8.Members).toNat) != 0) then (some (Sum.inr false)) else (impl_VtabOk_L4 n mo7 x0 x1 (IntKind.wrap .i64 (y2 + 1))))))))) else ((impl_allPortsF n x1).bind fun r10 => ((impl_inF n v8.Members 0 r10).bind fun r11 => (bif (!r11) then (some (Sum.inr false)) else (bif ((IntKind.wrap .i64 (BitVec.ofInt (IntKind.bits .i64) v8.Bare &&& ~~~BitVec.ofInt (IntKind.bits .i64) v8.Members).toNat) != 0) then (some (Sum.inr false)) else (impl_VtabOk_L4 n mo7 x0 x1 (IntKind.wrap .i64 (y2 + 1))))))))))) else (some (Sum.inl ())))
def impl_VtabOkF (n : Nat) (x0 : Vtab) (x1 : Int) : Option (Bool) :=
  ((impl_inF n x1 1 6).bind fun r1 => (bif (!r1) then (some false) else (bif ((x0.Pvid.length : Int) != x1) then (some false) else (bif (decide ((x0.Rows.length : Int) > 6)) then (some false) else ((impl_VtabOk_L4 n n x0 x1 0).bind fun o => match o with | .inl _ => (impl_VtabOk_J1 n x0) | .inr r => some r)))))
/-- loop.example/g00326/impl.VtabOk -/
theorem impl_VtabOk (n : Nat) (x0 : Vtab) (x1 : Int) (r : Bool) (H : impl_VtabOkF n x0 x1 = some r) : LCall Try.prog 41 [.val true (CV.frzRow (Vtab.row x0)), .val false [.lit (.int .i64 x1)]] [.val false [.lit (.bool r)]] [] := by
  refine LCall.of_body tOk Try.func41 rfl (c := (.seq (Rg Try.f41 0) (.seq (.seq (Rg Try.f41 1) (.cond (.tmp 24) (.seq (Rg Try.f41 2) .ret) .skip)) (.seq (.seq (Rg Try.f41 3) (.block 0 (.loop (.seq (Rg Try.f41 4) (.seq (.cond (.tmp 29) .skip (.exit 0)) (.seq (.block 1 (.seq (Rg Try.f41 5) (.seq (Rd Try.f41 6) (.cond (.tmp 68) (.seq (Rg Try.f41 7) .ret) .skip)))) (Rg Try.f41 8))))))) (.seq (.seq (Rg Try.f41 9) (.block 2 (.loop (.seq (Rg Try.f41 10) (.seq (.cond (.tmp 74) .skip (.exit 2)) (.seq (.block 3 (.seq (Rg Try.f41 11) (.seq (Rg Try.f41 12) (.cond (.tmp 80) (.seq (Rg Try.f41 13) .ret) .skip)))) (Rg Try.f41 14))))))) (.seq (Rg Try.f41 15) .ret)))))) kr (Nat.le_of_ble_eq_true kr) 0 (rs := [.tmp 4]) rfl [] .nil [(false, [.lit (.bool r)])] [] [] fun cx => ?_
  show Tr _ _ _ ⟨82, 0, [sV 0 (CV.frzRow (Vtab.row x0)), sI 1 x1], []⟩ _
  unfold impl_VtabOkF at H
  refine Tr.rgn tOk 2 22 4 kr kr ?_
  refine Tr.seq ?_
  refine Tr.rs ?_
  refine LAt.runU tOk 1 kr ?_
  obtain ⟨r1, er1, H⟩ := bind_some H
  refine LAt.callV tOk [.rd, .rd, .rd] [] (impl_in n x1 1 6 r1 er1) kr kr kr kr (.inl rfl) ?_
  refine LAt.runU tOk 2 kr ?_
  refine LAt.to ⟨82, 0, [sB 12 (!r1), sB 11 (!r1), sB 10 r1, sI 9 x1, sB 4 false, sA 2 2 2 0, sI 1 x1], [(2, (CV.frzRow (Vtab.row x0)))]⟩ kr ?_
  cases h1 : (!r1)
  · have H := bifF h1 H
    refine LAt.runU tOk 2 kr ?_
    refine LAt.lenE tOk (t := 23) (ty := 3) (e := 3) (x := (.tmp 14)) (d := 15) (g := (some (3, false))) ⟨(.slot 14), [], 0, false, 1, (CV.frzEs (x0.Pvid.map intRow))⟩ (x0.Pvid).length _ kr kr kr kr kr (frz_len _ _) rfl ?_
    refine LAt.runU tOk 4 kr ?_
    refine LAt.to ⟨82, 0, [sB 19 ((x0.Pvid.length : Int) != x1), sB 18 ((x0.Pvid.length : Int) != x1), sB 17 ((x0.Pvid.length : Int) != x1), sI 16 x1, sI 15 (x0.Pvid.length : Int), sC 14 (cF 1 x0.Pvid intRow), sA 13 2 2 1, sB 12 false, sB 11 false, sB 10 r1, sI 9 x1, sB 4 false, sA 2 2 2 0, sI 1 x1], [(2, (CV.frzRow (Vtab.row x0)))]⟩ kr ?_
    cases h2 : ((x0.Pvid.length : Int) != x1)
    · have H := bifF h2 H
      refine LAt.runU tOk 2 kr ?_
      refine LAt.lenE tOk (t := 27) (ty := 3) (e := 56) (x := (.tmp 21)) (d := 22) (g := (some (10, false))) ⟨(.slot 21), [], 0, false, 3, (CV.frzEs (x0.Rows.map Vrow.row))⟩ (x0.Rows).length _ kr kr kr kr kr (frz_len _ _) rfl ?_
      refine LAt.runU tOk 2 kr ?_
      refine LAt.doneM 16777238 4 kr ?_
      cases h3 : (decide ((x0.Rows.length : Int) > 6))
      · have H := bifF h3 H
        refine Tr.cF h3 kr ?_
        refine Tr.skip ?_
        show Tr _ _ _ _ _
        refine Tr.seq ?_
        refine Tr.rs ?_
        refine LAt.runU tOk 2 kr ?_
        refine LAt.lenE tOk (t := 27) (ty := 3) (e := 56) (x := (.tmp 26)) (d := 27) (g := none) ⟨(.slot 26), [], 0, false, 3, (CV.frzEs (x0.Rows.map Vrow.row))⟩ (x0.Rows).length _ kr kr kr kr kr (frz_len _ _) rfl ?_
        refine LAt.runU tOk 1 kr ?_
        refine LAt.doneM 469762070 4 kr ?_
        obtain ⟨o7, eo7, Ho7⟩ := bind_some H
        clear H
        refine Tr.mid (ι := Unit) (fun v => ⟨82, 0, [sB 4 false, sA 2 2 2 0], [(2, (CV.frzRow (Vtab.row x0)))]⟩) (fun v => impl_VtabOk_J1 n x0 = some r) ?_ ?_
        · refine Tr.block ?_
          refine Tr.loop (ι := Nat × (Int)) (fun v => ⟨82, 0, [sI 28 v.2, sI 27 (x0.Rows.length : Int), sC 26 (cF 3 x0.Rows Vrow.row), sB 4 false, sA 2 2 2 0, sI 1 x1], [(2, (CV.frzRow (Vtab.row x0)))]⟩) (fun v => impl_VtabOk_L4 n v.1 x0 x1 v.2 = some o7) (fun v => v.1) (n, 0) eo7 (St.sub_of [28, 27, 26, 4, 2, 1] [2] kr) ?_
          rintro ⟨mo7, y2⟩ H
          have H : impl_VtabOk_L4 n mo7 x0 x1 y2 = some o7 := H
          obtain _ | mo7 := mo7
          · cases (show (none : Option _) = some o7 from H)
          rw [impl_VtabOk_L4] at H
          refine Tr.rgn tOk 1 1006632982 4 kr kr ?_
          refine Tr.seq ?_
          cases h6 : (decide (y2 < (x0.Rows.length : Int)))
          · have H := bifF h6 H
            refine Tr.cF h6 kr ?_
            refine Tr.exit ?_
            refine And.intro (fun _ => ?_) (fun h => absurd rfl h)
            have H := Option.some.inj H
            subst H
            have H := Ho7
            dsimp only at H
            exact Exists.intro () (And.intro H (St.sub_of [4, 2] [2] kr))
          have H := bifT h6 H
          refine Tr.cT h6 kr ?_
          refine Tr.skip ?_
          show Tr _ _ _ _ _
          refine Tr.seq ?_
          refine Tr.block ?_
          refine Tr.rs ?_
          refine LAt.runU tOk 1 kr ?_
          obtain ⟨v8, ev8, H⟩ := bind_some H
          refine LAt.indexF tOk (t := 27) (ty := 0) (x := (.tmp 26)) (y := (.tmp 28)) (d := 31) (g := none) ⟨(.slot 26), [], 0, false, 3, (CV.frzEs (x0.Rows.map Vrow.row))⟩ y2 (Vrow.row v8) _ kr kr kr kr rfl (idx_isF ev8) rfl ?_
          refine LAt.runU tOk 4 kr ?_
          refine LAt.doneM 8522825846 68 kr ?_
          obtain ⟨r9, er9, H⟩ := bind_some H
          refine Tr.to ⟨82, 0, [sI 5 y2, sA 6 6 3 0, sV 32 (Vrow.row v8), (31, .fad ((Vrow.row v8))), sI 30 y2, sB 29 (decide (y2 < (x0.Rows.length : Int))), sI 28 y2, sI 27 (x0.Rows.length : Int), sC 26 (cF 3 x0.Rows Vrow.row), sB 4 false, sA 2 2 2 0, sI 1 x1], [(6, (Vrow.row v8)), (2, (CV.frzRow (Vtab.row x0)))]⟩ kr ?_
          cases h7 : (!r9)
          · have H := bifF h7 H
            refine Tr.to ⟨82, 0, [sI 5 y2, sA 6 6 3 0, sV 32 (Vrow.row v8), (31, .fad ((Vrow.row v8))), sI 30 y2, sB 29 (decide (y2 < (x0.Rows.length : Int))), sI 28 y2, sI 27 (x0.Rows.length : Int), sC 26 (cF 3 x0.Rows Vrow.row), sB 4 false, sA 2 2 2 0, sI 1 x1], [(6, (Vrow.row v8)), (2, (CV.frzRow (Vtab.row x0)))]⟩ kr ?_
            cases h8 : (decide (y2 > 0))
            · have H := bifF h8 H
              obtain ⟨r10, er10, H⟩ := bind_some H
              obtain ⟨r11, er11, H⟩ := bind_some H
              refine Tr.to ⟨82, 0, [sI 5 y2, sA 6 6 3 0, sV 32 (Vrow.row v8), (31, .fad ((Vrow.row v8))), sI 30 y2, sB 29 (decide (y2 < (x0.Rows.length : Int))), sI 28 y2, sI 27 (x0.Rows.length : Int), sC 26 (cF 3 x0.Rows Vrow.row), sB 4 false, sA 2 2 2 0, sI 1 x1], [(6, (Vrow.row v8)), (2, (CV.frzRow (Vtab.row x0)))]⟩ kr ?_
              cases h9 : (!r11)
              · have H := bifF h9 H
                refine Tr.draws mixed 36 kr ⟨82, 0, [sB 68 ((IntKind.wrap .i64 (BitVec.ofInt (IntKind.bits .i64) v8.Bare &&& ~~~BitVec.ofInt (IntKind.bits .i64) v8.Members).toNat) != 0), sB 67 ((IntKind.wrap .i64 (BitVec.ofInt (IntKind.bits .i64) v8.Bare &&& ~~~BitVec.ofInt (IntKind.bits .i64) v8.Members).toNat) != 0), sI 66 (IntKind.wrap .i64 (BitVec.ofInt (IntKind.bits .i64) v8.Bare &&& ~~~BitVec.ofInt (IntKind.bits .i64) v8.Members).toNat), sI 65 v8.Members, sA 64 6 3 1, sI 63 v8.Bare, sA 62 6 3 2, sB 61 false, sB 60 false, sB 59 false, sB 58 r11, sI 57 r10, sI 56 x1, sI 55 v8.Members, sA 54 6 3 1, sB 53 false, sB 52 false, sB 51 false, (50, .tup []), (49, .tup []), (48, .tup []), (47, .tup []), (46, .tup []), (45, .tup []), (44, .tup []), (43, .tup []), (42, .tup []), (41, .tup []), sB 40 false, sB 39 false, sI 38 y2, sB 37 false, sB 36 false, sB 35 r9, sI 34 v8.Id, sA 33 6 3 0, sI 5 y2, sA 6 6 3 0, sV 32 (Vrow.row v8), (31, .fad ((Vrow.row v8))), sI 30 y2, sB 29 (decide (y2 < (x0.Rows.length : Int))), sI 28 y2, sI 27 (x0.Rows.length : Int), sC 26 (cF 3 x0.Rows Vrow.row), sB 4 false, sA 2 2 2 0, sI 1 x1], [(6, (Vrow.row v8)), (2, (CV.frzRow (Vtab.row x0)))]⟩ (fun cx => ?_) ?_
                · refine AT.runU tOk [(0, []), (1, [2, 24, 25])] 34 [⟨[2, 24, 25], 3, 33, 34⟩] [1, 0] rfl kr (fun cx => ?_)
                  refine AT.big1 tOk 2 kr kr ?_
                  refine LAt.callV tOk [.rd, .rd, .rd] [] (impl_in n v8.Id 1 99 r9 er9) kr kr kr kr (.inl rfl) ?_
                  refine LAt.fin kr (And.intro (And.intro kr kr) ?_)
                  refine AT.runU tOk [(3, []), (4, [])] 31 [⟨[2, 24, 25], 3, 33, 34⟩] [4, 3, 2, 1, 0] rfl kr (fun cx => ?_)
                  refine AT.to ⟨82, 0, [sB 37 (!r9), sB 36 (!r9), sB 35 r9, sI 34 v8.Id, sA 33 6 3 0, sI 5 y2, sA 6 6 3 0, sV 32 (Vrow.row v8), (31, .fad ((Vrow.row v8))), sI 30 y2, sB 29 (decide (y2 < (x0.Rows.length : Int))), sI 28 y2, sI 27 (x0.Rows.length : Int), sC 26 (cF 3 x0.Rows Vrow.row), sB 4 false, sA 2 2 2 0, sI 1 x1], [(6, (Vrow.row v8)), (2, (CV.frzRow (Vtab.row x0)))]⟩ kr ?_
                  rw [h7]
                  refine AT.runU tOk [(5, []), (6, []), (7, [])] 28 [⟨[2, 24, 25], 3, 33, 34⟩] [7, 6, 5, 4, 3, 2, 1, 0] rfl kr (fun cx => ?_)
                  refine AT.to ⟨82, 0, [sB 40 (decide (y2 > 0)), sB 39 (decide (y2 > 0)), sI 38 y2, sB 37 false, sB 36 false, sB 35 r9, sI 34 v8.Id, sA 33 6 3 0, sI 5 y2, sA 6 6 3 0, sV 32 (Vrow.row v8), (31, .fad ((Vrow.row v8))), sI 30 y2, sB 29 (decide (y2 < (x0.Rows.length : Int))), sI 28 y2, sI 27 (x0.Rows.length : Int), sC 26 (cF 3 x0.Rows Vrow.row), sB 4 false, sA 2 2 2 0, sI 1 x1], [(6, (Vrow.row v8)), (2, (CV.frzRow (Vtab.row x0)))]⟩ kr ?_
                  rw [h8]
                  refine AT.runU tOk [(8, []), (9, []), (10, []), (11, []), (12, []), (13, []), (14, []), (15, []), (16, []), (17, []), (18, []), (19, []), (20, []), (21, []), (22, [25]), (23, [])] 12 [⟨[25], 3, 54, 55⟩, ⟨[2, 24, 25], 3, 33, 34⟩] [23, 22, 21, 20, 19, 18, 17, 16, 15, 14, 13, 12, 11, 10, 9, 8, 7, 6, 5, 4, 3, 2, 1, 0] rfl kr (fun cx => ?_)
                  refine AT.big1 tOk 24 kr kr ?_
                  refine LAt.callV tOk [.rd] [] (impl_allPorts n x1 r10 er10) kr kr kr kr (.inl rfl) ?_
                  refine LAt.fin kr (And.intro (And.intro kr kr) ?_)
                  refine AT.big1 tOk 25 kr kr ?_
                  refine LAt.callV tOk [.rd, .rd, .rd] [] (impl_in n v8.Members 0 r10 r11 er11) kr kr kr kr (.inl rfl) ?_
                  refine LAt.fin kr (And.intro (And.intro kr kr) ?_)
                  refine AT.runU tOk [(26, []), (27, []), (28, [])] 7 [⟨[25], 3, 54, 55⟩, ⟨[2, 24, 25], 3, 33, 34⟩] [28, 27, 26, 25, 24, 23, 22, 21, 20, 19, 18, 17, 16, 15, 14, 13, 12, 11, 10, 9, 8, 7, 6, 5, 4, 3, 2, 1, 0] rfl kr (fun cx => ?_)
                  refine AT.to ⟨82, 0, [sB 61 (!r11), sB 60 (!r11), sB 59 (!r11), sB 58 r11, sI 57 r10, sI 56 x1, sI 55 v8.Members, sA 54 6 3 1, sB 53 false, sB 52 false, sB 51 false, (50, .tup []), (49, .tup []), (48, .tup []), (47, .tup []), (46, .tup []), (45, .tup []), (44, .tup []), (43, .tup []), (42, .tup []), (41, .tup []), sB 40 false, sB 39 false, sI 38 y2, sB 37 false, sB 36 false, sB 35 r9, sI 34 v8.Id, sA 33 6 3 0, sI 5 y2, sA 6 6 3 0, sV 32 (Vrow.row v8), (31, .fad ((Vrow.row v8))), sI 30 y2, sB 29 (decide (y2 < (x0.Rows.length : Int))), sI 28 y2, sI 27 (x0.Rows.length : Int), sC 26 (cF 3 x0.Rows Vrow.row), sB 4 false, sA 2 2 2 0, sI 1 x1], [(6, (Vrow.row v8)), (2, (CV.frzRow (Vtab.row x0)))]⟩ kr ?_
                  rw [h9]
                  refine AT.runU tOk [(29, []), (30, []), (31, []), (32, []), (33, []), (34, []), (35, [])] 0 [⟨[], 3, 64, 65⟩, ⟨[], 3, 62, 63⟩, ⟨[25], 3, 54, 55⟩, ⟨[2, 24, 25], 3, 33, 34⟩] [35, 34, 33, 32, 31, 30, 29, 28, 27, 26, 25, 24, 23, 22, 21, 20, 19, 18, 17, 16, 15, 14, 13, 12, 11, 10, 9, 8, 7, 6, 5, 4, 3, 2, 1, 0] rfl kr (fun cx => ?_)
                  exact AT.done [68, 67, 66, 65, 64, 63, 62, 61, 60, 59, 58, 57, 56, 55, 54, 53, 52, 51, 50, 49, 48, 47, 46, 45, 44, 43, 42, 41, 40, 39, 38, 37, 36, 35, 34, 33, 5, 6, 32, 31, 30, 29, 28, 27, 26, 4, 2, 1] [6, 2] _ kr kr rfl
                refine Tr.to ⟨82, 0, [sB 68 ((IntKind.wrap .i64 (BitVec.ofInt (IntKind.bits .i64) v8.Bare &&& ~~~BitVec.ofInt (IntKind.bits .i64) v8.Members).toNat) != 0), sB 67 ((IntKind.wrap .i64 (BitVec.ofInt (IntKind.bits .i64) v8.Bare &&& ~~~BitVec.ofInt (IntKind.bits .i64) v8.Members).toNat) != 0), sI 66 (IntKind.wrap .i64 (BitVec.ofInt (IntKind.bits .i64) v8.Bare &&& ~~~BitVec.ofInt (IntKind.bits .i64) v8.Members).toNat), sI 65 v8.Members, sA 64 6 3 1, sI 63 v8.Bare, sA 62 6 3 2, sB 61 false, sB 60 false, sB 59 false, sB 58 r11, sI 57 r10, sI 56 x1, sI 55 v8.Members, sA 54 6 3 1, sB 53 false, sB 52 false, sB 51 false, (50, .tup []), (49, .tup []), (48, .tup []), (47, .tup []), (46, .tup []), (45, .tup []), (44, .tup []), (43, .tup []), (42, .tup []), (41, .tup []), sB 40 false, sB 39 false, sI 38 y2, sB 37 false, sB 36 false, sB 35 r9, sI 34 v8.Id, sA 33 6 3 0, sI 5 y2, sA 6 6 3 0, sV 32 (Vrow.row v8), (31, .fad ((Vrow.row v8))), sI 30 y2, sB 29 (decide (y2 < (x0.Rows.length : Int))), sI 28 y2, sI 27 (x0.Rows.length : Int), sC 26 (cF 3 x0.Rows Vrow.row), sB 4 false, sA 2 2 2 0, sI 1 x1], [(6, (Vrow.row v8)), (2, (CV.frzRow (Vtab.row x0)))]⟩ kr ?_
                cases h10 : ((IntKind.wrap .i64 (BitVec.ofInt (IntKind.bits .i64) v8.Bare &&& ~~~BitVec.ofInt (IntKind.bits .i64) v8.Members).toNat) != 0)
                · have H := bifF h10 H
                  refine Tr.cf kr ?_
                  refine Tr.skip ?_
                  show Tr _ _ _ _ _
                  refine Tr.rgE tOk 2 1180591620717344194678 68 kr kr ?_
                  exact Exists.intro (mo7, (IntKind.wrap .i64 (y2 + 1))) (And.intro H (And.intro (Nat.lt_succ_self mo7) (St.sub_of [28, 27, 26, 4, 2, 1] [2] kr)))
                have H := bifT h10 H
                refine Tr.ct kr ?_
                refine Tr.rgn tOk 1 590295810358638542966 68 kr kr ?_
                refine Tr.ret ?_
                have H := Option.some.inj H
                subst H
                have H := Ho7
                dsimp only at H
                have H := Option.some.inj H
                subst H
                exact Fin.of _ [(false, [cB false])] kr rfl rfl
              have H := bifT h9 H
              refine Tr.draws mixed 36 kr ⟨82, 0, [sB 68 true, (67, .tup []), (66, .tup []), (65, .tup []), (64, .tup []), (63, .tup []), (62, .tup []), sB 61 true, sB 60 true, sB 59 true, sB 58 r11, sI 57 r10, sI 56 x1, sI 55 v8.Members, sA 54 6 3 1, sB 53 false, sB 52 false, sB 51 false, (50, .tup []), (49, .tup []), (48, .tup []), (47, .tup []), (46, .tup []), (45, .tup []), (44, .tup []), (43, .tup []), (42, .tup []), (41, .tup []), sB 40 false, sB 39 false, sI 38 y2, sB 37 false, sB 36 false, sB 35 r9, sI 34 v8.Id, sA 33 6 3 0, sI 5 y2, sA 6 6 3 0, sV 32 (Vrow.row v8), (31, .fad ((Vrow.row v8))), sI 30 y2, sB 29 (decide (y2 < (x0.Rows.length : Int))), sI 28 y2, sI 27 (x0.Rows.length : Int), sC 26 (cF 3 x0.Rows Vrow.row), sB 4 false, sA 2 2 2 0, sI 1 x1], [(6, (Vrow.row v8)), (2, (CV.frzRow (Vtab.row x0)))]⟩ (fun cx => ?_) ?_
              · refine AT.runU tOk [(0, []), (1, [2, 24, 25])] 34 [⟨[2, 24, 25], 3, 33, 34⟩] [1, 0] rfl kr (fun cx => ?_)
                refine AT.big1 tOk 2 kr kr ?_
                refine LAt.callV tOk [.rd, .rd, .rd] [] (impl_in n v8.Id 1 99 r9 er9) kr kr kr kr (.inl rfl) ?_
                refine LAt.fin kr (And.intro (And.intro kr kr) ?_)
                refine AT.runU tOk [(3, []), (4, [])] 31 [⟨[2, 24, 25], 3, 33, 34⟩] [4, 3, 2, 1, 0] rfl kr (fun cx => ?_)
                refine AT.to ⟨82, 0, [sB 37 (!r9), sB 36 (!r9), sB 35 r9, sI 34 v8.Id, sA 33 6 3 0, sI 5 y2, sA 6 6 3 0, sV 32 (Vrow.row v8), (31, .fad ((Vrow.row v8))), sI 30 y2, sB 29 (decide (y2 < (x0.Rows.length : Int))), sI 28 y2, sI 27 (x0.Rows.length : Int), sC 26 (cF 3 x0.Rows Vrow.row), sB 4 false, sA 2 2 2 0, sI 1 x1], [(6, (Vrow.row v8)), (2, (CV.frzRow (Vtab.row x0)))]⟩ kr ?_
                rw [h7]
                refine AT.runU tOk [(5, []), (6, []), (7, [])] 28 [⟨[2, 24, 25], 3, 33, 34⟩] [7, 6, 5, 4, 3, 2, 1, 0] rfl kr (fun cx => ?_)
                refine AT.to ⟨82, 0, [sB 40 (decide (y2 > 0)), sB 39 (decide (y2 > 0)), sI 38 y2, sB 37 false, sB 36 false, sB 35 r9, sI 34 v8.Id, sA 33 6 3 0, sI 5 y2, sA 6 6 3 0, sV 32 (Vrow.row v8), (31, .fad ((Vrow.row v8))), sI 30 y2, sB 29 (decide (y2 < (x0.Rows.length : Int))), sI 28 y2, sI 27 (x0.Rows.length : Int), sC 26 (cF 3 x0.Rows Vrow.row), sB 4 false, sA 2 2 2 0, sI 1 x1], [(6, (Vrow.row v8)), (2, (CV.frzRow (Vtab.row x0)))]⟩ kr ?_
                rw [h8]
                refine AT.runU tOk [(8, []), (9, []), (10, []), (11, []), (12, []), (13, []), (14, []), (15, []), (16, []), (17, []), (18, []), (19, []), (20, []), (21, []), (22, [25]), (23, [])] 12 [⟨[25], 3, 54, 55⟩, ⟨[2, 24, 25], 3, 33, 34⟩] [23, 22, 21, 20, 19, 18, 17, 16, 15, 14, 13, 12, 11, 10, 9, 8, 7, 6, 5, 4, 3, 2, 1, 0] rfl kr (fun cx => ?_)
                refine AT.big1 tOk 24 kr kr ?_
                refine LAt.callV tOk [.rd] [] (impl_allPorts n x1 r10 er10) kr kr kr kr (.inl rfl) ?_
                refine LAt.fin kr (And.intro (And.intro kr kr) ?_)
                refine AT.big1 tOk 25 kr kr ?_
                refine LAt.callV tOk [.rd, .rd, .rd] [] (impl_in n v8.Members 0 r10 r11 er11) kr kr kr kr (.inl rfl) ?_
                refine LAt.fin kr (And.intro (And.intro kr kr) ?_)
                refine AT.runU tOk [(26, []), (27, []), (28, [])] 7 [⟨[25], 3, 54, 55⟩, ⟨[2, 24, 25], 3, 33, 34⟩] [28, 27, 26, 25, 24, 23, 22, 21, 20, 19, 18, 17, 16, 15, 14, 13, 12, 11, 10, 9, 8, 7, 6, 5, 4, 3, 2, 1, 0] rfl kr (fun cx => ?_)
                refine AT.to ⟨82, 0, [sB 61 (!r11), sB 60 (!r11), sB 59 (!r11), sB 58 r11, sI 57 r10, sI 56 x1, sI 55 v8.Members, sA 54 6 3 1, sB 53 false, sB 52 false, sB 51 false, (50, .tup []), (49, .tup []), (48, .tup []), (47, .tup []), (46, .tup []), (45, .tup []), (44, .tup []), (43, .tup []), (42, .tup []), (41, .tup []), sB 40 false, sB 39 false, sI 38 y2, sB 37 false, sB 36 false, sB 35 r9, sI 34 v8.Id, sA 33 6 3 0, sI 5 y2, sA 6 6 3 0, sV 32 (Vrow.row v8), (31, .fad ((Vrow.row v8))), sI 30 y2, sB 29 (decide (y2 < (x0.Rows.length : Int))), sI 28 y2, sI 27 (x0.Rows.length : Int), sC 26 (cF 3 x0.Rows Vrow.row), sB 4 false, sA 2 2 2 0, sI 1 x1], [(6, (Vrow.row v8)), (2, (CV.frzRow (Vtab.row x0)))]⟩ kr ?_
                rw [h9]
                refine AT.runU tOk [(29, []), (30, []), (31, []), (32, []), (33, []), (34, []), (35, [])] 0 [⟨[25], 3, 54, 55⟩, ⟨[2, 24, 25], 3, 33, 34⟩] [35, 34, 33, 32, 31, 30, 29, 28, 27, 26, 25, 24, 23, 22, 21, 20, 19, 18, 17, 16, 15, 14, 13, 12, 11, 10, 9, 8, 7, 6, 5, 4, 3, 2, 1, 0] rfl kr (fun cx => ?_)
                exact AT.done [68, 67, 66, 65, 64, 63, 62, 61, 60, 59, 58, 57, 56, 55, 54, 53, 52, 51, 50, 49, 48, 47, 46, 45, 44, 43, 42, 41, 40, 39, 38, 37, 36, 35, 34, 33, 5, 6, 32, 31, 30, 29, 28, 27, 26, 4, 2, 1] [6, 2] _ kr kr rfl
              refine Tr.ct kr ?_
              refine Tr.rgn tOk 1 590295810358638542966 68 kr kr ?_
              refine Tr.ret ?_
              have H := Option.some.inj H
              subst H
              have H := Ho7
              dsimp only at H
              have H := Option.some.inj H
              subst H
              exact Fin.of _ [(false, [cB false])] kr rfl rfl
            have H := bifT h8 H
            obtain ⟨v12, ev12, H⟩ := bind_some H
            refine Tr.to ⟨82, 0, [sI 5 y2, sA 6 6 3 0, sV 32 (Vrow.row v8), (31, .fad ((Vrow.row v8))), sI 30 y2, sB 29 (decide (y2 < (x0.Rows.length : Int))), sI 28 y2, sI 27 (x0.Rows.length : Int), sC 26 (cF 3 x0.Rows Vrow.row), sB 4 false, sA 2 2 2 0, sI 1 x1], [(6, (Vrow.row v8)), (2, (CV.frzRow (Vtab.row x0)))]⟩ kr ?_
            cases h11 : (decide (v12.Id ≥ v8.Id))
            · have H := bifF h11 H
              obtain ⟨r13, er13, H⟩ := bind_some H
              obtain ⟨r14, er14, H⟩ := bind_some H
              refine Tr.to ⟨82, 0, [sI 5 y2, sA 6 6 3 0, sV 32 (Vrow.row v8), (31, .fad ((Vrow.row v8))), sI 30 y2, sB 29 (decide (y2 < (x0.Rows.length : Int))), sI 28 y2, sI 27 (x0.Rows.length : Int), sC 26 (cF 3 x0.Rows Vrow.row), sB 4 false, sA 2 2 2 0, sI 1 x1], [(6, (Vrow.row v8)), (2, (CV.frzRow (Vtab.row x0)))]⟩ kr ?_
              cases h12 : (!r14)
              · have H := bifF h12 H
                refine Tr.draws mixed 36 kr ⟨82, 0, [sB 68 ((IntKind.wrap .i64 (BitVec.ofInt (IntKind.bits .i64) v8.Bare &&& ~~~BitVec.ofInt (IntKind.bits .i64) v8.Members).toNat) != 0), sB 67 ((IntKind.wrap .i64 (BitVec.ofInt (IntKind.bits .i64) v8.Bare &&& ~~~BitVec.ofInt (IntKind.bits .i64) v8.Members).toNat) != 0), sI 66 (IntKind.wrap .i64 (BitVec.ofInt (IntKind.bits .i64) v8.Bare &&& ~~~BitVec.ofInt (IntKind.bits .i64) v8.Members).toNat), sI 65 v8.Members, sA 64 6 3 1, sI 63 v8.Bare, sA 62 6 3 2, sB 61 false, sB 60 false, sB 59 false, sB 58 r14, sI 57 r13, sI 56 x1, sI 55 v8.Members, sA 54 6 3 1, sB 53 false, sB 52 false, sB 51 false, sB 50 false, sI 49 v8.Id, sA 48 6 3 0, sI 47 v12.Id, (46, .fad ((Vrow.row v12))), (45, .fad ((Vrow.row v12))), sI 44 (IntKind.wrap .i64 (y2 - 1)), sI 43 y2, sR 42 2 2 0 1 false, sA 41 2 2 0, sB 40 true, sB 39 true, sI 38 y2, sB 37 false, sB 36 false, sB 35 r9, sI 34 v8.Id, sA 33 6 3 0, sI 5 y2, sA 6 6 3 0, sV 32 (Vrow.row v8), (31, .fad ((Vrow.row v8))), sI 30 y2, sB 29 (decide (y2 < (x0.Rows.length : Int))), sI 28 y2, sI 27 (x0.Rows.length : Int), sC 26 (cF 3 x0.Rows Vrow.row), sB 4 false, sA 2 2 2 0, sI 1 x1], [(6, (Vrow.row v8)), (2, (CV.frzRow (Vtab.row x0)))]⟩ (fun cx => ?_) ?_
                · refine AT.runU tOk [(0, []), (1, [2, 24, 25])] 34 [⟨[2, 24, 25], 3, 33, 34⟩] [1, 0] rfl kr (fun cx => ?_)
                  refine AT.big1 tOk 2 kr kr ?_
                  refine LAt.callV tOk [.rd, .rd, .rd] [] (impl_in n v8.Id 1 99 r9 er9) kr kr kr kr (.inl rfl) ?_
                  refine LAt.fin kr (And.intro (And.intro kr kr) ?_)
                  refine AT.runU tOk [(3, []), (4, [])] 31 [⟨[2, 24, 25], 3, 33, 34⟩] [4, 3, 2, 1, 0] rfl kr (fun cx => ?_)
                  refine AT.to ⟨82, 0, [sB 37 (!r9), sB 36 (!r9), sB 35 r9, sI 34 v8.Id, sA 33 6 3 0, sI 5 y2, sA 6 6 3 0, sV 32 (Vrow.row v8), (31, .fad ((Vrow.row v8))), sI 30 y2, sB 29 (decide (y2 < (x0.Rows.length : Int))), sI 28 y2, sI 27 (x0.Rows.length : Int), sC 26 (cF 3 x0.Rows Vrow.row), sB 4 false, sA 2 2 2 0, sI 1 x1], [(6, (Vrow.row v8)), (2, (CV.frzRow (Vtab.row x0)))]⟩ kr ?_
                  rw [h7]
                  refine AT.runU tOk [(5, []), (6, []), (7, [])] 28 [⟨[2, 24, 25], 3, 33, 34⟩] [7, 6, 5, 4, 3, 2, 1, 0] rfl kr (fun cx => ?_)
                  refine AT.to ⟨82, 0, [sB 40 (decide (y2 > 0)), sB 39 (decide (y2 > 0)), sI 38 y2, sB 37 false, sB 36 false, sB 35 r9, sI 34 v8.Id, sA 33 6 3 0, sI 5 y2, sA 6 6 3 0, sV 32 (Vrow.row v8), (31, .fad ((Vrow.row v8))), sI 30 y2, sB 29 (decide (y2 < (x0.Rows.length : Int))), sI 28 y2, sI 27 (x0.Rows.length : Int), sC 26 (cF 3 x0.Rows Vrow.row), sB 4 false, sA 2 2 2 0, sI 1 x1], [(6, (Vrow.row v8)), (2, (CV.frzRow (Vtab.row x0)))]⟩ kr ?_
                  rw [h8]
                  refine AT.runU tOk [(8, []), (9, [24, 25]), (10, []), (11, [])] 24 [⟨[24, 25], 27, 41, 42⟩, ⟨[2, 24, 25], 3, 33, 34⟩] [11, 10, 9, 8, 7, 6, 5, 4, 3, 2, 1, 0] rfl kr (fun cx => ?_)
                  refine AT.indexF tOk 12 (t := 27) (ty := 0) (x := (.tmp 42)) (y := (.tmp 44)) (d := 45) (g := (some (7, true))) ⟨(.box 2), [(0, 0)], 0, false, 3, (CV.frzEs (x0.Rows.map Vrow.row))⟩ (IntKind.wrap .i64 (y2 - 1)) (Vrow.row v12) _ kr kr kr kr kr kr rfl (idx_isF ev12) rfl (fun cx => ?_)
                  refine AT.runU tOk [(13, []), (14, []), (15, []), (16, [24, 25]), (17, []), (18, []), (19, []), (20, [])] 15 [⟨[24, 25], 3, 48, 49⟩, ⟨[24, 25], 27, 41, 42⟩, ⟨[2, 24, 25], 3, 33, 34⟩] [20, 19, 18, 17, 16, 15, 14, 13, 12, 11, 10, 9, 8, 7, 6, 5, 4, 3, 2, 1, 0] rfl kr (fun cx => ?_)
                  refine AT.to ⟨82, 0, [sB 53 (decide (v12.Id ≥ v8.Id)), sB 52 (decide (v12.Id ≥ v8.Id)), sB 51 (decide (v12.Id ≥ v8.Id)), sB 50 (decide (v12.Id ≥ v8.Id)), sI 49 v8.Id, sA 48 6 3 0, sI 47 v12.Id, (46, .fad ((Vrow.row v12))), (45, .fad ((Vrow.row v12))), sI 44 (IntKind.wrap .i64 (y2 - 1)), sI 43 y2, sR 42 2 2 0 1 false, sA 41 2 2 0, sB 40 true, sB 39 true, sI 38 y2, sB 37 false, sB 36 false, sB 35 r9, sI 34 v8.Id, sA 33 6 3 0, sI 5 y2, sA 6 6 3 0, sV 32 (Vrow.row v8), (31, .fad ((Vrow.row v8))), sI 30 y2, sB 29 (decide (y2 < (x0.Rows.length : Int))), sI 28 y2, sI 27 (x0.Rows.length : Int), sC 26 (cF 3 x0.Rows Vrow.row), sB 4 false, sA 2 2 2 0, sI 1 x1], [(6, (Vrow.row v8)), (2, (CV.frzRow (Vtab.row x0)))]⟩ kr ?_
                  rw [h11]
                  refine AT.runU tOk [(21, []), (22, [25]), (23, [])] 12 [⟨[25], 3, 54, 55⟩, ⟨[24, 25], 3, 48, 49⟩, ⟨[24, 25], 27, 41, 42⟩, ⟨[2, 24, 25], 3, 33, 34⟩] [23, 22, 21, 20, 19, 18, 17, 16, 15, 14, 13, 12, 11, 10, 9, 8, 7, 6, 5, 4, 3, 2, 1, 0] rfl kr (fun cx => ?_)
                  refine AT.big1 tOk 24 kr kr ?_
                  refine LAt.callV tOk [.rd] [] (impl_allPorts n x1 r13 er13) kr kr kr kr (.inl rfl) ?_
                  refine LAt.fin kr (And.intro (And.intro kr kr) ?_)
                  refine AT.big1 tOk 25 kr kr ?_
                  refine LAt.callV tOk [.rd, .rd, .rd] [] (impl_in n v8.Members 0 r13 r14 er14) kr kr kr kr (.inl rfl) ?_
                  refine LAt.fin kr (And.intro (And.intro kr kr) ?_)
                  refine AT.runU tOk [(26, []), (27, []), (28, [])] 7 [⟨[25], 3, 54, 55⟩, ⟨[24, 25], 3, 48, 49⟩, ⟨[24, 25], 27, 41, 42⟩, ⟨[2, 24, 25], 3, 33, 34⟩] [28, 27, 26, 25, 24, 23, 22, 21, 20, 19, 18, 17, 16, 15, 14, 13, 12, 11, 10, 9, 8, 7, 6, 5, 4, 3, 2, 1, 0] rfl kr (fun cx => ?_)
                  refine AT.to ⟨82, 0, [sB 61 (!r14), sB 60 (!r14), sB 59 (!r14), sB 58 r14, sI 57 r13, sI 56 x1, sI 55 v8.Members, sA 54 6 3 1, sB 53 false, sB 52 false, sB 51 false, sB 50 false, sI 49 v8.Id, sA 48 6 3 0, sI 47 v12.Id, (46, .fad ((Vrow.row v12))), (45, .fad ((Vrow.row v12))), sI 44 (IntKind.wrap .i64 (y2 - 1)), sI 43 y2, sR 42 2 2 0 1 false, sA 41 2 2 0, sB 40 true, sB 39 true, sI 38 y2, sB 37 false, sB 36 false, sB 35 r9, sI 34 v8.Id, sA 33 6 3 0, sI 5 y2, sA 6 6 3 0, sV 32 (Vrow.row v8), (31, .fad ((Vrow.row v8))), sI 30 y2, sB 29 (decide (y2 < (x0.Rows.length : Int))), sI 28 y2, sI 27 (x0.Rows.length : Int), sC 26 (cF 3 x0.Rows Vrow.row), sB 4 false, sA 2 2 2 0, sI 1 x1], [(6, (Vrow.row v8)), (2, (CV.frzRow (Vtab.row x0)))]⟩ kr ?_
                  rw [h12]
                  refine AT.runU tOk [(29, []), (30, []), (31, []), (32, []), (33, []), (34, []), (35, [])] 0 [⟨[], 3, 64, 65⟩, ⟨[], 3, 62, 63⟩, ⟨[25], 3, 54, 55⟩, ⟨[24, 25], 3, 48, 49⟩, ⟨[24, 25], 27, 41, 42⟩, ⟨[2, 24, 25], 3, 33, 34⟩] [35, 34, 33, 32, 31, 30, 29, 28, 27, 26, 25, 24, 23, 22, 21, 20, 19, 18, 17, 16, 15, 14, 13, 12, 11, 10, 9, 8, 7, 6, 5, 4, 3, 2, 1, 0] rfl kr (fun cx => ?_)
                  exact AT.done [68, 67, 66, 65, 64, 63, 62, 61, 60, 59, 58, 57, 56, 55, 54, 53, 52, 51, 50, 49, 48, 47, 46, 45, 44, 43, 42, 41, 40, 39, 38, 37, 36, 35, 34, 33, 5, 6, 32, 31, 30, 29, 28, 27, 26, 4, 2, 1] [6, 2] _ kr kr rfl
                refine Tr.to ⟨82, 0, [sB 68 ((IntKind.wrap .i64 (BitVec.ofInt (IntKind.bits .i64) v8.Bare &&& ~~~BitVec.ofInt (IntKind.bits .i64) v8.Members).toNat) != 0), sB 67 ((IntKind.wrap .i64 (BitVec.ofInt (IntKind.bits .i64) v8.Bare &&& ~~~BitVec.ofInt (IntKind.bits .i64) v8.Members).toNat) != 0), sI 66 (IntKind.wrap .i64 (BitVec.ofInt (IntKind.bits .i64) v8.Bare &&& ~~~BitVec.ofInt (IntKind.bits .i64) v8.Members).toNat), sI 65 v8.Members, sA 64 6 3 1, sI 63 v8.Bare, sA 62 6 3 2, sB 61 false, sB 60 false, sB 59 false, sB 58 r14, sI 57 r13, sI 56 x1, sI 55 v8.Members, sA 54 6 3 1, sB 53 false, sB 52 false, sB 51 false, sB 50 false, sI 49 v8.Id, sA 48 6 3 0, sI 47 v12.Id, (46, .fad ((Vrow.row v12))), (45, .fad ((Vrow.row v12))), sI 44 (IntKind.wrap .i64 (y2 - 1)), sI 43 y2, sR 42 2 2 0 1 false, sA 41 2 2 0, sB 40 true, sB 39 true, sI 38 y2, sB 37 false, sB 36 false, sB 35 r9, sI 34 v8.Id, sA 33 6 3 0, sI 5 y2, sA 6 6 3 0, sV 32 (Vrow.row v8), (31, .fad ((Vrow.row v8))), sI 30 y2, sB 29 (decide (y2 < (x0.Rows.length : Int))), sI 28 y2, sI 27 (x0.Rows.length : Int), sC 26 (cF 3 x0.Rows Vrow.row), sB 4 false, sA 2 2 2 0, sI 1 x1], [(6, (Vrow.row v8)), (2, (CV.frzRow (Vtab.row x0)))]⟩ kr ?_
                cases h13 : ((IntKind.wrap .i64 (BitVec.ofInt (IntKind.bits .i64) v8.Bare &&& ~~~BitVec.ofInt (IntKind.bits .i64) v8.Members).toNat) != 0)
                · have H := bifF h13 H
                  refine Tr.cf kr ?_
                  refine Tr.skip ?_
                  show Tr _ _ _ _ _
                  refine Tr.rgE tOk 2 1180591620717344194678 68 kr kr ?_
                  exact Exists.intro (mo7, (IntKind.wrap .i64 (y2 + 1))) (And.intro H (And.intro (Nat.lt_succ_self mo7) (St.sub_of [28, 27, 26, 4, 2, 1] [2] kr)))
                have H := bifT h13 H
                refine Tr.ct kr ?_
                refine Tr.rgn tOk 1 590295810358638542966 68 kr kr ?_
                refine Tr.ret ?_
                have H := Option.some.inj H
                subst H
                have H := Ho7
                dsimp only at H
                have H := Option.some.inj H
                subst H
                exact Fin.of _ [(false, [cB false])] kr rfl rfl
              have H := bifT h12 H
              refine Tr.draws mixed 36 kr ⟨82, 0, [sB 68 true, (67, .tup []), (66, .tup []), (65, .tup []), (64, .tup []), (63, .tup []), (62, .tup []), sB 61 true, sB 60 true, sB 59 true, sB 58 r14, sI 57 r13, sI 56 x1, sI 55 v8.Members, sA 54 6 3 1, sB 53 false, sB 52 false, sB 51 false, sB 50 false, sI 49 v8.Id, sA 48 6 3 0, sI 47 v12.Id, (46, .fad ((Vrow.row v12))), (45, .fad ((Vrow.row v12))), sI 44 (IntKind.wrap .i64 (y2 - 1)), sI 43 y2, sR 42 2 2 0 1 false, sA 41 2 2 0, sB 40 true, sB 39 true, sI 38 y2, sB 37 false, sB 36 false, sB 35 r9, sI 34 v8.Id, sA 33 6 3 0, sI 5 y2, sA 6 6 3 0, sV 32 (Vrow.row v8), (31, .fad ((Vrow.row v8))), sI 30 y2, sB 29 (decide (y2 < (x0.Rows.length : Int))), sI 28 y2, sI 27 (x0.Rows.length : Int), sC 26 (cF 3 x0.Rows Vrow.row), sB 4 false, sA 2 2 2 0, sI 1 x1], [(6, (Vrow.row v8)), (2, (CV.frzRow (Vtab.row x0)))]⟩ (fun cx => ?_) ?_
              · refine AT.runU tOk [(0, []), (1, [2, 24, 25])] 34 [⟨[2, 24, 25], 3, 33, 34⟩] [1, 0] rfl kr (fun cx => ?_)
                refine AT.big1 tOk 2 kr kr ?_
                refine LAt.callV tOk [.rd, .rd, .rd] [] (impl_in n v8.Id 1 99 r9 er9) kr kr kr kr (.inl rfl) ?_
                refine LAt.fin kr (And.intro (And.intro kr kr) ?_)
                refine AT.runU tOk [(3, []), (4, [])] 31 [⟨[2, 24, 25], 3, 33, 34⟩] [4, 3, 2, 1, 0] rfl kr (fun cx => ?_)
                refine AT.to ⟨82, 0, [sB 37 (!r9), sB 36 (!r9), sB 35 r9, sI 34 v8.Id, sA 33 6 3 0, sI 5 y2, sA 6 6 3 0, sV 32 (Vrow.row v8), (31, .fad ((Vrow.row v8))), sI 30 y2, sB 29 (decide (y2 < (x0.Rows.length : Int))), sI 28 y2, sI 27 (x0.Rows.length : Int), sC 26 (cF 3 x0.Rows Vrow.row), sB 4 false, sA 2 2 2 0, sI 1 x1], [(6, (Vrow.row v8)), (2, (CV.frzRow (Vtab.row x0)))]⟩ kr ?_
                rw [h7]
                refine AT.runU tOk [(5, []), (6, []), (7, [])] 28 [⟨[2, 24, 25], 3, 33, 34⟩] [7, 6, 5, 4, 3, 2, 1, 0] rfl kr (fun cx => ?_)
                refine AT.to ⟨82, 0, [sB 40 (decide (y2 > 0)), sB 39 (decide (y2 > 0)), sI 38 y2, sB 37 false, sB 36 false, sB 35 r9, sI 34 v8.Id, sA 33 6 3 0, sI 5 y2, sA 6 6 3 0, sV 32 (Vrow.row v8), (31, .fad ((Vrow.row v8))), sI 30 y2, sB 29 (decide (y2 < (x0.Rows.length : Int))), sI 28 y2, sI 27 (x0.Rows.length : Int), sC 26 (cF 3 x0.Rows Vrow.row), sB 4 false, sA 2 2 2 0, sI 1 x1], [(6, (Vrow.row v8)), (2, (CV.frzRow (Vtab.row x0)))]⟩ kr ?_
                rw [h8]
                refine AT.runU tOk [(8, []), (9, [24, 25]), (10, []), (11, [])] 24 [⟨[24, 25], 27, 41, 42⟩, ⟨[2, 24, 25], 3, 33, 34⟩] [11, 10, 9, 8, 7, 6, 5, 4, 3, 2, 1, 0] rfl kr (fun cx => ?_)
                refine AT.indexF tOk 12 (t := 27) (ty := 0) (x := (.tmp 42)) (y := (.tmp 44)) (d := 45) (g := (some (7, true))) ⟨(.box 2), [(0, 0)], 0, false, 3, (CV.frzEs (x0.Rows.map Vrow.row))⟩ (IntKind.wrap .i64 (y2 - 1)) (Vrow.row v12) _ kr kr kr kr kr kr rfl (idx_isF ev12) rfl (fun cx => ?_)
                refine AT.runU tOk [(13, []), (14, []), (15, []), (16, [24, 25]), (17, []), (18, []), (19, []), (20, [])] 15 [⟨[24, 25], 3, 48, 49⟩, ⟨[24, 25], 27, 41, 42⟩, ⟨[2, 24, 25], 3, 33, 34⟩] [20, 19, 18, 17, 16, 15, 14, 13, 12, 11, 10, 9, 8, 7, 6, 5, 4, 3, 2, 1, 0] rfl kr (fun cx => ?_)
                refine AT.to ⟨82, 0, [sB 53 (decide (v12.Id ≥ v8.Id)), sB 52 (decide (v12.Id ≥ v8.Id)), sB 51 (decide (v12.Id ≥ v8.Id)), sB 50 (decide (v12.Id ≥ v8.Id)), sI 49 v8.Id, sA 48 6 3 0, sI 47 v12.Id, (46, .fad ((Vrow.row v12))), (45, .fad ((Vrow.row v12))), sI 44 (IntKind.wrap .i64 (y2 - 1)), sI 43 y2, sR 42 2 2 0 1 false, sA 41 2 2 0, sB 40 true, sB 39 true, sI 38 y2, sB 37 false, sB 36 false, sB 35 r9, sI 34 v8.Id, sA 33 6 3 0, sI 5 y2, sA 6 6 3 0, sV 32 (Vrow.row v8), (31, .fad ((Vrow.row v8))), sI 30 y2, sB 29 (decide (y2 < (x0.Rows.length : Int))), sI 28 y2, sI 27 (x0.Rows.length : Int), sC 26 (cF 3 x0.Rows Vrow.row), sB 4 false, sA 2 2 2 0, sI 1 x1], [(6, (Vrow.row v8)), (2, (CV.frzRow (Vtab.row x0)))]⟩ kr ?_
                rw [h11]
                refine AT.runU tOk [(21, []), (22, [25]), (23, [])] 12 [⟨[25], 3, 54, 55⟩, ⟨[24, 25], 3, 48, 49⟩, ⟨[24, 25], 27, 41, 42⟩, ⟨[2, 24, 25], 3, 33, 34⟩] [23, 22, 21, 20, 19, 18, 17, 16, 15, 14, 13, 12, 11, 10, 9, 8, 7, 6, 5, 4, 3, 2, 1, 0] rfl kr (fun cx => ?_)
                refine AT.big1 tOk 24 kr kr ?_
                refine LAt.callV tOk [.rd] [] (impl_allPorts n x1 r13 er13) kr kr kr kr (.inl rfl) ?_
                refine LAt.fin kr (And.intro (And.intro kr kr) ?_)
                refine AT.big1 tOk 25 kr kr ?_
                refine LAt.callV tOk [.rd, .rd, .rd] [] (impl_in n v8.Members 0 r13 r14 er14) kr kr kr kr (.inl rfl) ?_
                refine LAt.fin kr (And.intro (And.intro kr kr) ?_)
                refine AT.runU tOk [(26, []), (27, []), (28, [])] 7 [⟨[25], 3, 54, 55⟩, ⟨[24, 25], 3, 48, 49⟩, ⟨[24, 25], 27, 41, 42⟩, ⟨[2, 24, 25], 3, 33, 34⟩] [28, 27, 26, 25, 24, 23, 22, 21, 20, 19, 18, 17, 16, 15, 14, 13, 12, 11, 10, 9, 8, 7, 6, 5, 4, 3, 2, 1, 0] rfl kr (fun cx => ?_)
                refine AT.to ⟨82, 0, [sB 61 (!r14), sB 60 (!r14), sB 59 (!r14), sB 58 r14, sI 57 r13, sI 56 x1, sI 55 v8.Members, sA 54 6 3 1, sB 53 false, sB 52 false, sB 51 false, sB 50 false, sI 49 v8.Id, sA 48 6 3 0, sI 47 v12.Id, (46, .fad ((Vrow.row v12))), (45, .fad ((Vrow.row v12))), sI 44 (IntKind.wrap .i64 (y2 - 1)), sI 43 y2, sR 42 2 2 0 1 false, sA 41 2 2 0, sB 40 true, sB 39 true, sI 38 y2, sB 37 false, sB 36 false, sB 35 r9, sI 34 v8.Id, sA 33 6 3 0, sI 5 y2, sA 6 6 3 0, sV 32 (Vrow.row v8), (31, .fad ((Vrow.row v8))), sI 30 y2, sB 29 (decide (y2 < (x0.Rows.length : Int))), sI 28 y2, sI 27 (x0.Rows.length : Int), sC 26 (cF 3 x0.Rows Vrow.row), sB 4 false, sA 2 2 2 0, sI 1 x1], [(6, (Vrow.row v8)), (2, (CV.frzRow (Vtab.row x0)))]⟩ kr ?_
                rw [h12]
                refine AT.runU tOk [(29, []), (30, []), (31, []), (32, []), (33, []), (34, []), (35, [])] 0 [⟨[25], 3, 54, 55⟩, ⟨[24, 25], 3, 48, 49⟩, ⟨[24, 25], 27, 41, 42⟩, ⟨[2, 24, 25], 3, 33, 34⟩] [35, 34, 33, 32, 31, 30, 29, 28, 27, 26, 25, 24, 23, 22, 21, 20, 19, 18, 17, 16, 15, 14, 13, 12, 11, 10, 9, 8, 7, 6, 5, 4, 3, 2, 1, 0] rfl kr (fun cx => ?_)
                exact AT.done [68, 67, 66, 65, 64, 63, 62, 61, 60, 59, 58, 57, 56, 55, 54, 53, 52, 51, 50, 49, 48, 47, 46, 45, 44, 43, 42, 41, 40, 39, 38, 37, 36, 35, 34, 33, 5, 6, 32, 31, 30, 29, 28, 27, 26, 4, 2, 1] [6, 2] _ kr kr rfl
              refine Tr.ct kr ?_
              refine Tr.rgn tOk 1 590295810358638542966 68 kr kr ?_
              refine Tr.ret ?_
              have H := Option.some.inj H
              subst H
              have H := Ho7
              dsimp only at H
              have H := Option.some.inj H
              subst H
              exact Fin.of _ [(false, [cB false])] kr rfl rfl
            have H := bifT h11 H
            refine Tr.draws mixed 36 kr ⟨82, 0, [sB 68 true, (67, .tup []), (66, .tup []), (65, .tup []), (64, .tup []), (63, .tup []), (62, .tup []), sB 61 true, sB 60 true, (59, .tup []), (58, .tup []), (57, .tup []), (56, .tup []), (55, .tup []), (54, .tup []), sB 53 true, sB 52 true, sB 51 true, sB 50 true, sI 49 v8.Id, sA 48 6 3 0, sI 47 v12.Id, (46, .fad ((Vrow.row v12))), (45, .fad ((Vrow.row v12))), sI 44 (IntKind.wrap .i64 (y2 - 1)), sI 43 y2, sR 42 2 2 0 1 false, sA 41 2 2 0, sB 40 true, sB 39 true, sI 38 y2, sB 37 false, sB 36 false, sB 35 r9, sI 34 v8.Id, sA 33 6 3 0, sI 5 y2, sA 6 6 3 0, sV 32 (Vrow.row v8), (31, .fad ((Vrow.row v8))), sI 30 y2, sB 29 (decide (y2 < (x0.Rows.length : Int))), sI 28 y2, sI 27 (x0.Rows.length : Int), sC 26 (cF 3 x0.Rows Vrow.row), sB 4 false, sA 2 2 2 0, sI 1 x1], [(6, (Vrow.row v8)), (2, (CV.frzRow (Vtab.row x0)))]⟩ (fun cx => ?_) ?_
            · refine AT.runU tOk [(0, []), (1, [2])] 34 [⟨[2], 3, 33, 34⟩] [1, 0] rfl kr (fun cx => ?_)
              refine AT.big1 tOk 2 kr kr ?_
              refine LAt.callV tOk [.rd, .rd, .rd] [] (impl_in n v8.Id 1 99 r9 er9) kr kr kr kr (.inl rfl) ?_
              refine LAt.fin kr (And.intro (And.intro kr kr) ?_)
              refine AT.runU tOk [(3, []), (4, [])] 31 [⟨[2], 3, 33, 34⟩] [4, 3, 2, 1, 0] rfl kr (fun cx => ?_)
              refine AT.to ⟨82, 0, [sB 37 (!r9), sB 36 (!r9), sB 35 r9, sI 34 v8.Id, sA 33 6 3 0, sI 5 y2, sA 6 6 3 0, sV 32 (Vrow.row v8), (31, .fad ((Vrow.row v8))), sI 30 y2, sB 29 (decide (y2 < (x0.Rows.length : Int))), sI 28 y2, sI 27 (x0.Rows.length : Int), sC 26 (cF 3 x0.Rows Vrow.row), sB 4 false, sA 2 2 2 0, sI 1 x1], [(6, (Vrow.row v8)), (2, (CV.frzRow (Vtab.row x0)))]⟩ kr ?_
              rw [h7]
              refine AT.runU tOk [(5, []), (6, []), (7, [])] 28 [⟨[2], 3, 33, 34⟩] [7, 6, 5, 4, 3, 2, 1, 0] rfl kr (fun cx => ?_)
              refine AT.to ⟨82, 0, [sB 40 (decide (y2 > 0)), sB 39 (decide (y2 > 0)), sI 38 y2, sB 37 false, sB 36 false, sB 35 r9, sI 34 v8.Id, sA 33 6 3 0, sI 5 y2, sA 6 6 3 0, sV 32 (Vrow.row v8), (31, .fad ((Vrow.row v8))), sI 30 y2, sB 29 (decide (y2 < (x0.Rows.length : Int))), sI 28 y2, sI 27 (x0.Rows.length : Int), sC 26 (cF 3 x0.Rows Vrow.row), sB 4 false, sA 2 2 2 0, sI 1 x1], [(6, (Vrow.row v8)), (2, (CV.frzRow (Vtab.row x0)))]⟩ kr ?_
              rw [h8]
              refine AT.runU tOk [(8, []), (9, []), (10, []), (11, [])] 24 [⟨[], 27, 41, 42⟩, ⟨[2], 3, 33, 34⟩] [11, 10, 9, 8, 7, 6, 5, 4, 3, 2, 1, 0] rfl kr (fun cx => ?_)
              refine AT.indexF tOk 12 (t := 27) (ty := 0) (x := (.tmp 42)) (y := (.tmp 44)) (d := 45) (g := (some (7, true))) ⟨(.box 2), [(0, 0)], 0, false, 3, (CV.frzEs (x0.Rows.map Vrow.row))⟩ (IntKind.wrap .i64 (y2 - 1)) (Vrow.row v12) _ kr kr kr kr kr kr rfl (idx_isF ev12) rfl (fun cx => ?_)
              refine AT.runU tOk [(13, []), (14, []), (15, []), (16, []), (17, []), (18, []), (19, []), (20, [])] 15 [⟨[], 3, 48, 49⟩, ⟨[], 27, 41, 42⟩, ⟨[2], 3, 33, 34⟩] [20, 19, 18, 17, 16, 15, 14, 13, 12, 11, 10, 9, 8, 7, 6, 5, 4, 3, 2, 1, 0] rfl kr (fun cx => ?_)
              refine AT.to ⟨82, 0, [sB 53 (decide (v12.Id ≥ v8.Id)), sB 52 (decide (v12.Id ≥ v8.Id)), sB 51 (decide (v12.Id ≥ v8.Id)), sB 50 (decide (v12.Id ≥ v8.Id)), sI 49 v8.Id, sA 48 6 3 0, sI 47 v12.Id, (46, .fad ((Vrow.row v12))), (45, .fad ((Vrow.row v12))), sI 44 (IntKind.wrap .i64 (y2 - 1)), sI 43 y2, sR 42 2 2 0 1 false, sA 41 2 2 0, sB 40 true, sB 39 true, sI 38 y2, sB 37 false, sB 36 false, sB 35 r9, sI 34 v8.Id, sA 33 6 3 0, sI 5 y2, sA 6 6 3 0, sV 32 (Vrow.row v8), (31, .fad ((Vrow.row v8))), sI 30 y2, sB 29 (decide (y2 < (x0.Rows.length : Int))), sI 28 y2, sI 27 (x0.Rows.length : Int), sC 26 (cF 3 x0.Rows Vrow.row), sB 4 false, sA 2 2 2 0, sI 1 x1], [(6, (Vrow.row v8)), (2, (CV.frzRow (Vtab.row x0)))]⟩ kr ?_
              rw [h11]
              refine AT.runU tOk [(21, []), (22, []), (23, []), (24, []), (25, []), (26, []), (27, []), (28, []), (29, []), (30, []), (31, []), (32, []), (33, []), (34, []), (35, [])] 0 [⟨[], 3, 48, 49⟩, ⟨[], 27, 41, 42⟩, ⟨[2], 3, 33, 34⟩] [35, 34, 33, 32, 31, 30, 29, 28, 27, 26, 25, 24, 23, 22, 21, 20, 19, 18, 17, 16, 15, 14, 13, 12, 11, 10, 9, 8, 7, 6, 5, 4, 3, 2, 1, 0] rfl kr (fun cx => ?_)
              exact AT.done [68, 67, 66, 65, 64, 63, 62, 61, 60, 59, 58, 57, 56, 55, 54, 53, 52, 51, 50, 49, 48, 47, 46, 45, 44, 43, 42, 41, 40, 39, 38, 37, 36, 35, 34, 33, 5, 6, 32, 31, 30, 29, 28, 27, 26, 4, 2, 1] [6, 2] _ kr kr rfl
            refine Tr.ct kr ?_
            refine Tr.rgn tOk 1 590295810358638542966 68 kr kr ?_
            refine Tr.ret ?_
            have H := Option.some.inj H
            subst H
            have H := Ho7
            dsimp only at H
            have H := Option.some.inj H
            subst H
            exact Fin.of _ [(false, [cB false])] kr rfl rfl
          have H := bifT h7 H
          refine Tr.draws mixed 36 kr ⟨82, 0, [sB 68 true, (67, .tup []), (66, .tup []), (65, .tup []), (64, .tup []), (63, .tup []), (62, .tup []), sB 61 true, sB 60 true, (59, .tup []), (58, .tup []), (57, .tup []), (56, .tup []), (55, .tup []), (54, .tup []), sB 53 true, sB 52 true, (51, .tup []), (50, .tup []), (49, .tup []), (48, .tup []), (47, .tup []), (46, .tup []), (45, .tup []), (44, .tup []), (43, .tup []), (42, .tup []), (41, .tup []), (40, .tup []), (39, .tup []), (38, .tup []), sB 37 true, sB 36 true, sB 35 r9, sI 34 v8.Id, sA 33 6 3 0, sI 5 y2, sA 6 6 3 0, sV 32 (Vrow.row v8), (31, .fad ((Vrow.row v8))), sI 30 y2, sB 29 (decide (y2 < (x0.Rows.length : Int))), sI 28 y2, sI 27 (x0.Rows.length : Int), sC 26 (cF 3 x0.Rows Vrow.row), sB 4 false, sA 2 2 2 0, sI 1 x1], [(6, (Vrow.row v8)), (2, (CV.frzRow (Vtab.row x0)))]⟩ (fun cx => ?_) ?_
          · refine AT.runU tOk [(0, []), (1, [2])] 34 [⟨[2], 3, 33, 34⟩] [1, 0] rfl kr (fun cx => ?_)
            refine AT.big1 tOk 2 kr kr ?_
            refine LAt.callV tOk [.rd, .rd, .rd] [] (impl_in n v8.Id 1 99 r9 er9) kr kr kr kr (.inl rfl) ?_
            refine LAt.fin kr (And.intro (And.intro kr kr) ?_)
            refine AT.runU tOk [(3, []), (4, [])] 31 [⟨[2], 3, 33, 34⟩] [4, 3, 2, 1, 0] rfl kr (fun cx => ?_)
            refine AT.to ⟨82, 0, [sB 37 (!r9), sB 36 (!r9), sB 35 r9, sI 34 v8.Id, sA 33 6 3 0, sI 5 y2, sA 6 6 3 0, sV 32 (Vrow.row v8), (31, .fad ((Vrow.row v8))), sI 30 y2, sB 29 (decide (y2 < (x0.Rows.length : Int))), sI 28 y2, sI 27 (x0.Rows.length : Int), sC 26 (cF 3 x0.Rows Vrow.row), sB 4 false, sA 2 2 2 0, sI 1 x1], [(6, (Vrow.row v8)), (2, (CV.frzRow (Vtab.row x0)))]⟩ kr ?_
            rw [h7]
            refine AT.runU tOk [(5, []), (6, []), (7, []), (8, []), (9, []), (10, []), (11, []), (12, []), (13, []), (14, []), (15, []), (16, []), (17, []), (18, []), (19, []), (20, []), (21, []), (22, []), (23, []), (24, []), (25, []), (26, []), (27, []), (28, []), (29, []), (30, []), (31, []), (32, []), (33, []), (34, []), (35, [])] 0 [⟨[2], 3, 33, 34⟩] [35, 34, 33, 32, 31, 30, 29, 28, 27, 26, 25, 24, 23, 22, 21, 20, 19, 18, 17, 16, 15, 14, 13, 12, 11, 10, 9, 8, 7, 6, 5, 4, 3, 2, 1, 0] rfl kr (fun cx => ?_)
            exact AT.done [68, 67, 66, 65, 64, 63, 62, 61, 60, 59, 58, 57, 56, 55, 54, 53, 52, 51, 50, 49, 48, 47, 46, 45, 44, 43, 42, 41, 40, 39, 38, 37, 36, 35, 34, 33, 5, 6, 32, 31, 30, 29, 28, 27, 26, 4, 2, 1] [6, 2] _ kr kr rfl
          refine Tr.ct kr ?_
          refine Tr.rgn tOk 1 590295810358638542966 68 kr kr ?_
          refine Tr.ret ?_
          have H := Option.some.inj H
          subst H
          have H := Ho7
          dsimp only at H
          have H := Option.some.inj H
          subst H
          exact Fin.of _ [(false, [cB false])] kr rfl rfl
        rintro _ H
        have H : (impl_VtabOk_J1 n x0) = some r := H
        unfold impl_VtabOk_J1 at H
        show Tr _ _ _ _ _
        refine Tr.seq ?_
        refine Tr.rs ?_
        refine LAt.runU tOk 2 kr ?_
        refine LAt.lenE tOk (t := 23) (ty := 3) (e := 3) (x := (.tmp 71)) (d := 72) (g := none) ⟨(.slot 71), [], 0, false, 1, (CV.frzEs (x0.Pvid.map intRow))⟩ (x0.Pvid).length _ kr kr kr kr kr (frz_len _ _) rfl ?_
        refine LAt.runU tOk 1 kr ?_
        refine LAt.doneM 16528282690043758247956 4 kr ?_
        obtain ⟨o4, eo4, Ho4⟩ := bind_some H
        clear H
        refine Tr.mid (ι := Unit) (fun v => ⟨82, 0, [sB 4 false], []⟩) (fun v => impl_VtabOk_J2 n = some r) ?_ ?_
        · refine Tr.block ?_
          refine Tr.loop (ι := Nat × (Int)) (fun v => ⟨82, 0, [sI 73 v.2, sI 72 (x0.Pvid.length : Int), sC 71 (cF 1 x0.Pvid intRow), sB 4 false, sA 2 2 2 0], [(2, (CV.frzRow (Vtab.row x0)))]⟩) (fun v => impl_VtabOk_L3 n v.1 x0 v.2 = some o4) (fun v => v.1) (n, 0) eo4 (St.sub_of [73, 72, 71, 4, 2] [2] kr) ?_
          rintro ⟨mo4, y3⟩ H
          have H : impl_VtabOk_L3 n mo4 x0 y3 = some o4 := H
          obtain _ | mo4 := mo4
          · cases (show (none : Option _) = some o4 from H)
          rw [impl_VtabOk_L3] at H
          refine Tr.rgn tOk 1 35417748621522339102740 4 kr kr ?_
          refine Tr.seq ?_
          cases h4 : (decide (y3 < (x0.Pvid.length : Int)))
          · have H := bifF h4 H
            refine Tr.cF h4 kr ?_
            refine Tr.exit ?_
            refine And.intro (fun _ => ?_) (fun h => absurd rfl h)
            have H := Option.some.inj H
            subst H
            have H := Ho4
            dsimp only at H
            exact Exists.intro () (And.intro H (St.sub_of [4] [] kr))
          have H := bifT h4 H
          refine Tr.cT h4 kr ?_
          refine Tr.skip ?_
          show Tr _ _ _ _ _
          refine Tr.seq ?_
          refine Tr.block ?_
          refine Tr.rs ?_
          obtain ⟨v5, ev5, H⟩ := bind_some H
          refine LAt.indexF tOk (t := 23) (ty := 0) (x := (.tmp 71)) (y := (.tmp 73)) (d := 75) (g := none) ⟨(.slot 71), [], 0, false, 1, (CV.frzEs (x0.Pvid.map intRow))⟩ y3 [cI v5] _ kr kr kr kr rfl (idx_isF ev5) rfl ?_
          refine LAt.runU tOk 2 kr ?_
          refine LAt.doneM 148754544210393824231700 4 kr ?_
          refine Tr.rs ?_
          refine LAt.runU tOk 2 kr ?_
          obtain ⟨r6, er6, H⟩ := bind_some H
          refine LAt.callV tOk [.rd, .rd] [] (impl_RowAt n x0 v5 r6 er6) kr kr kr kr (.inl rfl) ?_
          refine LAt.runU tOk 1 kr ?_
          refine LAt.doneM 2415490455987823526805780 4 kr ?_
          cases h5 : (decide (r6 < 0))
          · have H := bifF h5 H
            refine Tr.cF h5 kr ?_
            refine Tr.skip ?_
            show Tr _ _ _ _ _
            refine Tr.rgE tOk 2 4833342095217081876218132 4 kr kr ?_
            exact Exists.intro (mo4, (IntKind.wrap .i64 (y3 + 1))) (And.intro H (And.intro (Nat.lt_succ_self mo4) (St.sub_of [73, 72, 71, 4, 2] [2] kr)))
          have H := bifT h5 H
          refine Tr.cT h5 kr ?_
          refine Tr.rgn tOk 1 2415490455987823526805780 4 kr kr ?_
          refine Tr.ret ?_
          have H := Option.some.inj H
          subst H
          have H := Ho4
          dsimp only at H
          have H := Option.some.inj H
          subst H
          exact Fin.of _ [(false, [cB false])] kr rfl rfl
        rintro _ H
        have H : (impl_VtabOk_J2 n) = some r := H
        unfold impl_VtabOk_J2 at H
        show Tr _ _ _ _ _
        refine Tr.rgn tOk 1 16 0 kr kr ?_
        refine Tr.ret ?_
        have H := Option.some.inj H
        subst H
        exact Fin.of _ [(false, [cB true])] kr rfl rfl
      have H := bifT h3 H
      refine Tr.cT h3 kr ?_
      refine Tr.rgn tOk 1 22 4 kr kr ?_
      refine Tr.ret ?_
      have H := Option.some.inj H
      subst H
      exact Fin.of _ [(false, [cB false])] kr rfl rfl
    have H := bifT h2 H
    refine LAt.runU tOk 5 kr ?_
    refine LAt.doneM 16777238 4 kr ?_
    refine Tr.ct kr ?_
    refine Tr.rgn tOk 1 22 4 kr kr ?_
    refine Tr.ret ?_
    have H := Option.some.inj H
    subst H
    exact Fin.of _ [(false, [cB false])] kr rfl rfl
  have H := bifT h1 H
  refine LAt.runU tOk 12 kr ?_
  refine LAt.doneM 16777238 4 kr ?_
  refine Tr.ct kr ?_
  refine Tr.rgn tOk 1 22 4 kr kr ?_
  refine Tr.ret ?_
  have H := Option.some.inj H
  subst H
  exact Fin.of _ [(false, [cB false])] kr rfl rfl

def impl_turnedF (n : Nat) (x0 : Vtab) (x1 : Vtab) : Option (Vtab × Bool) :=
  ((impl_VtabOkF n x0 (x0.Pvid.length : Int)).bind fun r1 => (bif (!r1) then ((impl_copyVtabF n x0).bind fun r4 => (some (r4, false))) else ((impl_VtabOkF n x1 (x0.Pvid.length : Int)).bind fun r2 => (bif (!r2) then ((impl_copyVtabF n x0).bind fun r3 => (some (r3, false))) else (some (x1, true))))))
/-- loop.example/g00326/impl.turned -/
theorem impl_turned (n : Nat) (x0 : Vtab) (x1 : Vtab) (r : Vtab × Bool) (H : impl_turnedF n x0 x1 = some r) : LCall Try.prog 83 [.val true (CV.frzRow (Vtab.row x0)), .own true (Vtab.row x1)] [.val true (Vtab.row r.1), .val false [.lit (.bool r.2)]] [] := by
  refine LCall.of_body tOk Try.func83 rfl (c := (.seq (Rg Try.f83 0) (.seq (.seq (Rg Try.f83 1) (.cond (.tmp 19) (.seq (Rg Try.f83 2) .ret) .skip)) (.seq (Rg Try.f83 3) .ret)))) kr (Nat.le_of_ble_eq_true kr) 0 (rs := [.cell 4 29, .tmp 5]) rfl [] .nil [(true, (Vtab.row r.1)), (false, [.lit (.bool r.2)])] [] [] fun cx => ?_
  show Tr _ _ _ ⟨23, 0, [sV 0 (CV.frzRow (Vtab.row x0)), sV 1 (Vtab.row x1)], []⟩ _
  unfold impl_turnedF at H
  refine Tr.rgn tOk 4 60 28 kr kr ?_
  refine Tr.seq ?_
  refine Tr.rs ?_
  refine LAt.runU tOk 3 kr ?_
  refine LAt.lenE tOk (t := 23) (ty := 3) (e := 3) (x := (.tmp 8)) (d := 9) (g := none) ⟨(.slot 8), [], 0, false, 1, (CV.frzEs (x0.Pvid.map intRow))⟩ (x0.Pvid).length _ kr kr kr kr kr (frz_len _ _) rfl ?_
  obtain ⟨r1, er1, H⟩ := bind_some H
  refine LAt.callV tOk [.rd, .rd] [] (impl_VtabOk n x0 (x0.Pvid.length : Int) r1 er1) kr kr kr kr (.inl rfl) ?_
  refine LAt.runU tOk 2 kr ?_
  refine LAt.to ⟨23, 0, [sB 12 (!r1), sB 11 (!r1), sB 10 r1, sI 9 (x0.Pvid.length : Int), sC 8 (cF 1 x0.Pvid intRow), sA 7 2 2 1, sV 6 (CV.frzRow (Vtab.row x0)), sB 5 false, sA 4 4 2 0, sA 3 3 2 0, sA 2 2 2 0], [(4, [cL 3 ([] : List Vrow) Vrow.row, cL 1 ([] : List Int) intRow]), (3, (Vtab.row x1)), (2, (CV.frzRow (Vtab.row x0)))]⟩ kr ?_
  cases h1 : (!r1)
  · have H := bifF h1 H
    refine LAt.runU tOk 3 kr ?_
    refine LAt.lenE tOk (t := 23) (ty := 3) (e := 3) (x := (.tmp 15)) (d := 16) (g := (some (6, false))) ⟨(.slot 15), [], 0, false, 1, (CV.frzEs (x0.Pvid.map intRow))⟩ (x0.Pvid).length _ kr kr kr kr kr (frz_len _ _) rfl ?_
    obtain ⟨r2, er2, H⟩ := bind_some H
    refine LAt.callV tOk [.rd, .rd] [.box 3] (impl_VtabOk n x1 (x0.Pvid.length : Int) r2 er2) kr kr kr kr (.inr (rets_cons (mine_cons mine_lit mine_nil) rets_nil)) ?_
    refine LAt.runU tOk 2 kr ?_
    refine LAt.doneM 524348 28 kr ?_
    cases h2 : (!r2)
    · have H := bifF h2 H
      refine Tr.cF h2 kr ?_
      refine Tr.skip ?_
      show Tr _ _ _ _ _
      refine Tr.rgn tOk 3 48 16 kr kr ?_
      refine Tr.ret ?_
      have H := Option.some.inj H
      subst H
      exact Fin.of _ [(true, (Vtab.row x1)), (false, [cB true])] kr rfl rfl
    have H := bifT h2 H
    refine Tr.cT h2 kr ?_
    refine Tr.rs ?_
    refine LAt.runU tOk 1 kr ?_
    obtain ⟨r3, er3, H⟩ := bind_some H
    refine LAt.callV tOk [.rd] [] (impl_copyVtab n x0 r3 er3) kr kr kr kr (.inl rfl) ?_
    refine LAt.runU tOk 2 kr ?_
    refine LAt.doneM 56 24 kr ?_
    refine Tr.ret ?_
    have H := Option.some.inj H
    subst H
    exact Fin.of _ [(true, (Vtab.row r3)), (false, [cB false])] kr rfl rfl
  have H := bifT h1 H
  refine LAt.runU tOk 7 kr ?_
  refine LAt.doneM 524348 28 kr ?_
  refine Tr.ct kr ?_
  refine Tr.rs ?_
  refine LAt.runU tOk 1 kr ?_
  obtain ⟨r4, er4, H⟩ := bind_some H
  refine LAt.callV tOk [.rd] [] (impl_copyVtab n x0 r4 er4) kr kr kr kr (.inl rfl) ?_
  refine LAt.runU tOk 2 kr ?_
  refine LAt.doneM 56 24 kr ?_
  refine Tr.ret ?_
  have H := Option.some.inj H
  subst H
  exact Fin.of _ [(true, (Vtab.row r4)), (false, [cB false])] kr rfl rfl

def impl_PutRowF (n : Nat) (x0 : Vtab) (x1 : Vrow) : Option (Vtab × Bool) :=
  ((impl_withRowF n x0 x1).bind fun r1 => ((impl_turnedF n x0 r1).bind fun r2 => (some (r2.1, r2.2))))
/-- loop.example/g00326/impl.PutRow -/
theorem impl_PutRow (n : Nat) (x0 : Vtab) (x1 : Vrow) (r : Vtab × Bool) (H : impl_PutRowF n x0 x1 = some r) : LCall Try.prog 37 [.val true (CV.frzRow (Vtab.row x0)), .val true (CV.frzRow (Vrow.row x1))] [.val true (Vtab.row r.1), .val false [.lit (.bool r.2)]] [] := by
  refine LCall.of_body tOk Try.func37 rfl (c := (.seq (Rg Try.f37 0) (.seq (Rd Try.f37 1) .ret))) kr (Nat.le_of_ble_eq_true kr) 0 (rs := [.cell 4 29, .tmp 5]) rfl [] .nil [(true, (Vtab.row r.1)), (false, [.lit (.bool r.2)])] [] [] fun cx => ?_
  show Tr _ _ _ ⟨13, 0, [sV 0 (CV.frzRow (Vtab.row x0)), sV 1 (Vrow.row x1)], []⟩ _
  unfold impl_PutRowF at H
  refine Tr.rgn tOk 4 60 28 kr kr ?_
  obtain ⟨r1, er1, H⟩ := bind_some H
  obtain ⟨r2, er2, H⟩ := bind_some H
  refine Tr.draws mixed 9 kr ⟨13, 0, [sB 5 r2.2, sA 4 4 2 0], [(4, (Vtab.row r2.1))]⟩ (fun cx => ?_) ?_
  · refine AT.runU tOk [(0, [4, 7]), (1, [3, 4, 7]), (2, [3, 4, 7])] 6 [⟨[3, 4, 7], 56, 3, 8⟩, ⟨[3, 4, 7], 29, 2, 7⟩, ⟨[4, 7], 29, 2, 6⟩] [2, 1, 0] rfl kr (fun cx => ?_)
    refine AT.big1 tOk 3 kr kr ?_
    refine LAt.callV tOk [.rd, .rd] [] (impl_withRow n x0 x1 r1 er1) kr kr kr kr (.inl rfl) ?_
    refine LAt.fin kr (And.intro (And.intro kr kr) ?_)
    refine AT.big1 tOk 4 kr kr ?_
    refine LAt.callV tOk [.rd, .own] [] (impl_turned n x0 r1 r2 er2) kr kr kr kr (.inl rfl) ?_
    refine LAt.fin kr (And.intro (And.intro kr kr) ?_)
    refine AT.runU tOk [(5, []), (6, [])] 2 [⟨[3, 4, 7], 56, 3, 8⟩, ⟨[3, 4, 7], 29, 2, 7⟩, ⟨[4, 7], 29, 2, 6⟩] [6, 5, 4, 3, 2, 1, 0] rfl kr (fun cx => ?_)
    refine AT.big1 tOk 7 kr kr ?_
    refine LAt.runU tOk 1 kr ?_
    refine LAt.fin kr (And.intro (And.intro kr kr) ?_)
    refine AT.runU tOk [(8, [])] 0 [⟨[3, 4, 7], 56, 3, 8⟩, ⟨[3, 4, 7], 29, 2, 7⟩, ⟨[4, 7], 29, 2, 6⟩] [8, 7, 6, 5, 4, 3, 2, 1, 0] rfl kr (fun cx => ?_)
    exact AT.done [5, 4] [4] _ kr kr rfl
  refine Tr.ret ?_
  have H := Option.some.inj H
  subst H
  exact Fin.of _ [(true, (Vtab.row r2.1)), (false, [cB r2.2])] kr rfl rfl

def laws_sameInts_J1 (n : Nat) : Option (Bool) :=
  (some true)
def laws_sameInts_L2 (n : Nat) : Nat → (List Int) → (List Int) → Int → Option ((Unit) ⊕ (Bool))
  | 0, _, _, _ => none
  | mo2 + 1, x0, x1, y1 => (bif (decide (y1 < (x0.length : Int))) then ((idx x0 y1).bind fun v3 => ((idx x1 y1).bind fun v4 => (bif (v3 != v4) then (some (Sum.inr false)) else (laws_sameInts_L2 n mo2 x0 x1 (IntKind.wrap .i64 (y1 + 1)))))) else (some (Sum.inl ())))
def laws_sameIntsF (n : Nat) (x0 : (List Int)) (x1 : (List Int)) : Option (Bool) :=
  (bif ((x0.length : Int) != (x1.length : Int)) then (some false) else ((laws_sameInts_L2 n n x0 x1 0).bind fun o => match o with | .inl _ => (laws_sameInts_J1 n) | .inr r => some r))
/-- loop.example/g00326/laws.sameInts -/
theorem laws_sameInts (n : Nat) (x0 : (List Int)) (x1 : (List Int)) (r : Bool) (H : laws_sameIntsF n x0 x1 = some r) : LCall Try.prog 109 [.val false [.sl false 1 (CV.frzEs (x0.map intRow))], .val false [.sl false 1 (CV.frzEs (x1.map intRow))]] [.val false [.lit (.bool r)]] [] := by
  refine LCall.of_body tOk Try.func109 rfl (c := (.seq (Rg Try.f109 0) (.seq (.seq (Rg Try.f109 1) (.cond (.tmp 10) (.seq (Rg Try.f109 2) .ret) .skip)) (.seq (.seq (Rg Try.f109 3) (.block 0 (.loop (.seq (.seq (Rg Try.f109 4) (.cond (.tmp 14) .skip (.exit 0))) (.seq (.block 1 (.seq (Rd Try.f109 6) (.cond (.tmp 25) (.seq (Rg Try.f109 7) .ret) .skip))) (Rg Try.f109 5)))))) (.seq (Rg Try.f109 8) .ret))))) kr (Nat.le_of_ble_eq_true kr) 0 (rs := [.tmp 4]) rfl [] .nil [(false, [.lit (.bool r)])] [] [] fun cx => ?_
  show Tr _ _ _ ⟨26, 0, [sC 0 (cF 1 x0 intRow), sC 1 (cF 1 x1 intRow)], []⟩ _
  unfold laws_sameIntsF at H
  refine Tr.rgn tOk 1 19 0 kr kr ?_
  refine Tr.seq ?_
  refine Tr.rs ?_
  refine LAt.runU tOk 1 kr ?_
  refine LAt.lenE tOk (t := 23) (ty := 3) (e := 3) (x := (.tmp 6)) (d := 7) (g := none) ⟨(.slot 6), [], 0, false, 1, (CV.frzEs (x0.map intRow))⟩ (x0).length _ kr kr kr kr kr (frz_len _ _) rfl ?_
  refine LAt.runU tOk 1 kr ?_
  refine LAt.lenE tOk (t := 23) (ty := 3) (e := 3) (x := (.tmp 8)) (d := 9) (g := none) ⟨(.slot 8), [], 0, false, 1, (CV.frzEs (x1.map intRow))⟩ (x1).length _ kr kr kr kr kr (frz_len _ _) rfl ?_
  refine LAt.runU tOk 1 kr ?_
  refine LAt.doneM 1043 0 kr ?_
  cases h1 : ((x0.length : Int) != (x1.length : Int))
  · have H := bifF h1 H
    refine Tr.cF h1 kr ?_
    refine Tr.skip ?_
    show Tr _ _ _ _ _
    refine Tr.seq ?_
    refine Tr.rgn tOk 1 51 0 kr kr ?_
    obtain ⟨o2, eo2, Ho2⟩ := bind_some H
    clear H
    refine Tr.mid (ι := Unit) (fun v => ⟨26, 0, [sB 4 false], []⟩) (fun v => laws_sameInts_J1 n = some r) ?_ ?_
    · refine Tr.block ?_
      refine Tr.loop (ι := Nat × (Int)) (fun v => ⟨26, 0, [sI 5 v.2, sB 4 false, sC 0 (cF 1 x0 intRow), sC 1 (cF 1 x1 intRow)], []⟩) (fun v => laws_sameInts_L2 n v.1 x0 x1 v.2 = some o2) (fun v => v.1) (n, 0) eo2 (St.sub_of [5, 4, 0, 1] [] kr) ?_
      rintro ⟨mo2, y1⟩ H
      have H : laws_sameInts_L2 n mo2 x0 x1 y1 = some o2 := H
      obtain _ | mo2 := mo2
      · cases (show (none : Option _) = some o2 from H)
      rw [laws_sameInts_L2] at H
      refine Tr.seq ?_
      refine Tr.rs ?_
      refine LAt.runU tOk 2 kr ?_
      refine LAt.lenE tOk (t := 23) (ty := 3) (e := 3) (x := (.tmp 12)) (d := 13) (g := none) ⟨(.slot 12), [], 0, false, 1, (CV.frzEs (x0.map intRow))⟩ (x0).length _ kr kr kr kr kr (frz_len _ _) rfl ?_
      refine LAt.runU tOk 1 kr ?_
      refine LAt.doneM 30771 0 kr ?_
      cases h2 : (decide (y1 < (x0.length : Int)))
      · have H := bifF h2 H
        refine Tr.cF h2 kr ?_
        refine Tr.exit ?_
        refine And.intro (fun _ => ?_) (fun h => absurd rfl h)
        have H := Option.some.inj H
        subst H
        have H := Ho2
        dsimp only at H
        exact Exists.intro () (And.intro H (St.sub_of [4] [] kr))
      have H := bifT h2 H
      refine Tr.cT h2 kr ?_
      refine Tr.skip ?_
      show Tr _ _ _ _ _
      refine Tr.seq ?_
      refine Tr.block ?_
      obtain ⟨v3, ev3, H⟩ := bind_some H
      obtain ⟨v4, ev4, H⟩ := bind_some H
      refine Tr.draws mixed 9 kr ⟨26, 0, [sB 25 (v3 != v4), sI 24 v4, (23, .fad ([cI v4])), sI 22 y1, sC 21 (cF 1 x1 intRow), sI 20 v3, (19, .fad ([cI v3])), sI 18 y1, sC 17 (cF 1 x0 intRow), sB 14 (decide (y1 < (x0.length : Int))), sI 13 (x0.length : Int), sC 12 (cF 1 x0 intRow), sI 11 y1, sI 5 y1, sB 4 false, sC 0 (cF 1 x0 intRow), sC 1 (cF 1 x1 intRow)], []⟩ (fun cx => ?_) ?_
      · refine AT.runU tOk [(0, []), (1, [])] 7 [] [1, 0] rfl kr (fun cx => ?_)
        refine AT.indexF tOk 2 (t := 23) (ty := 0) (x := (.tmp 17)) (y := (.tmp 18)) (d := 19) (g := none) ⟨(.slot 17), [], 0, false, 1, (CV.frzEs (x0.map intRow))⟩ y1 [cI v3] _ kr kr kr kr kr kr rfl (idx_isF ev3) rfl (fun cx => ?_)
        refine AT.runU tOk [(3, []), (4, []), (5, [])] 3 [] [5, 4, 3, 2, 1, 0] rfl kr (fun cx => ?_)
        refine AT.indexF tOk 6 (t := 23) (ty := 0) (x := (.tmp 21)) (y := (.tmp 22)) (d := 23) (g := none) ⟨(.slot 21), [], 0, false, 1, (CV.frzEs (x1.map intRow))⟩ y1 [cI v4] _ kr kr kr kr kr kr rfl (idx_isF ev4) rfl (fun cx => ?_)
        refine AT.runU tOk [(7, []), (8, [])] 0 [] [8, 7, 6, 5, 4, 3, 2, 1, 0] rfl kr (fun cx => ?_)
        exact AT.done [25, 24, 23, 22, 21, 20, 19, 18, 17, 14, 13, 12, 11, 5, 4, 0, 1] [] _ kr kr rfl
      refine Tr.to ⟨26, 0, [sB 25 (v3 != v4), sI 24 v4, (23, .fad ([cI v4])), sI 22 y1, sC 21 (cF 1 x1 intRow), sI 20 v3, (19, .fad ([cI v3])), sI 18 y1, sC 17 (cF 1 x0 intRow), sB 14 (decide (y1 < (x0.length : Int))), sI 13 (x0.length : Int), sC 12 (cF 1 x0 intRow), sI 11 y1, sI 5 y1, sB 4 false, sC 0 (cF 1 x0 intRow), sC 1 (cF 1 x1 intRow)], []⟩ kr ?_
      cases h3 : (v3 != v4)
      · have H := bifF h3 H
        refine Tr.cf kr ?_
        refine Tr.skip ?_
        show Tr _ _ _ _ _
        refine Tr.rgE tOk 3 67106867 0 kr kr ?_
        exact Exists.intro (mo2, (IntKind.wrap .i64 (y1 + 1))) (And.intro H (And.intro (Nat.lt_succ_self mo2) (St.sub_of [5, 4, 0, 1] [] kr)))
      have H := bifT h3 H
      refine Tr.ct kr ?_
      refine Tr.rgn tOk 1 67008563 0 kr kr ?_
      refine Tr.ret ?_
      have H := Option.some.inj H
      subst H
      have H := Ho2
      dsimp only at H
      have H := Option.some.inj H
      subst H
      exact Fin.of _ [(false, [cB false])] kr rfl rfl
    rintro _ H
    have H : (laws_sameInts_J1 n) = some r := H
    unfold laws_sameInts_J1 at H
    show Tr _ _ _ _ _
    refine Tr.rgn tOk 1 16 0 kr kr ?_
    refine Tr.ret ?_
    have H := Option.some.inj H
    subst H
    exact Fin.of _ [(false, [cB true])] kr rfl rfl
  have H := bifT h1 H
  refine Tr.cT h1 kr ?_
  refine Tr.rgn tOk 1 19 0 kr kr ?_
  refine Tr.ret ?_
  have H := Option.some.inj H
  subst H
  exact Fin.of _ [(false, [cB false])] kr rfl rfl

def laws_sameVtab_J1 (n : Nat) : Option (Bool) :=
  (some true)
def laws_sameVtab_L2 (n : Nat) : Nat → Vtab → Vtab → Int → Option ((Unit) ⊕ (Bool))
  | 0, _, _, _ => none
  | mo3 + 1, x0, x1, y2 => (bif (decide (y2 < (x0.Rows.length : Int))) then ((idx x0.Rows y2).bind fun v4 => ((idx x1.Rows y2).bind fun v5 => (bif (!((v4.Id == v5.Id) && ((v4.Members == v5.Members) && ((v4.Bare == v5.Bare) && true)))) then (some (Sum.inr false)) else (laws_sameVtab_L2 n mo3 x0 x1 (IntKind.wrap .i64 (y2 + 1)))))) else (some (Sum.inl ())))
def laws_sameVtabF (n : Nat) (x0 : Vtab) (x1 : Vtab) : Option (Bool) :=
  (bif ((x0.Rows.length : Int) != (x1.Rows.length : Int)) then (some false) else ((laws_sameIntsF n x0.Pvid x1.Pvid).bind fun r1 => (bif (!r1) then (some false) else ((laws_sameVtab_L2 n n x0 x1 0).bind fun o => match o with | .inl _ => (laws_sameVtab_J1 n) | .inr r => some r))))
/-- loop.example/g00326/laws.sameVtab -/
theorem laws_sameVtab (n : Nat) (x0 : Vtab) (x1 : Vtab) (r : Bool) (H : laws_sameVtabF n x0 x1 = some r) : LCall Try.prog 39 [.val true (CV.frzRow (Vtab.row x0)), .val true (CV.frzRow (Vtab.row x1))] [.val false [.lit (.bool r)]] [] := by
  refine LCall.of_body tOk Try.func39 rfl (c := (.seq (Rg Try.f39 0) (.seq (.seq (Rg Try.f39 1) (.cond (.tmp 20) (.seq (Rg Try.f39 2) .ret) .skip)) (.seq (.seq (Rg Try.f39 3) (.block 0 (.loop (.seq (.seq (Rg Try.f39 4) (.cond (.tmp 25) .skip (.exit 0))) (.seq (.block 1 (.seq (Rd Try.f39 6) (.cond (.tmp 38) (.seq (Rg Try.f39 7) .ret) .skip))) (Rg Try.f39 5)))))) (.seq (Rg Try.f39 8) .ret))))) kr (Nat.le_of_ble_eq_true kr) 0 (rs := [.tmp 4]) rfl [] .nil [(false, [.lit (.bool r)])] [] [] fun cx => ?_
  show Tr _ _ _ ⟨39, 0, [sV 0 (CV.frzRow (Vtab.row x0)), sV 1 (CV.frzRow (Vtab.row x1))], []⟩ _
  unfold laws_sameVtabF at H
  refine Tr.rgn tOk 3 28 12 kr kr ?_
  refine Tr.seq ?_
  refine Tr.rs ?_
  refine LAt.runU tOk 2 kr ?_
  refine LAt.lenE tOk (t := 27) (ty := 3) (e := 56) (x := (.tmp 7)) (d := 8) (g := none) ⟨(.slot 7), [], 0, false, 3, (CV.frzEs (x0.Rows.map Vrow.row))⟩ (x0.Rows).length _ kr kr kr kr kr (frz_len _ _) rfl ?_
  refine LAt.runU tOk 2 kr ?_
  refine LAt.lenE tOk (t := 27) (ty := 3) (e := 56) (x := (.tmp 10)) (d := 11) (g := none) ⟨(.slot 10), [], 0, false, 3, (CV.frzEs (x1.Rows.map Vrow.row))⟩ (x1.Rows).length _ kr kr kr kr kr (frz_len _ _) rfl ?_
  refine LAt.runU tOk 2 kr ?_
  refine LAt.to ⟨39, 0, [sB 13 ((x0.Rows.length : Int) != (x1.Rows.length : Int)), sB 12 ((x0.Rows.length : Int) != (x1.Rows.length : Int)), sI 11 (x1.Rows.length : Int), sC 10 (cF 3 x1.Rows Vrow.row), sA 9 3 2 0, sI 8 (x0.Rows.length : Int), sC 7 (cF 3 x0.Rows Vrow.row), sA 6 2 2 0, sB 4 false, sA 3 3 2 0, sA 2 2 2 0], [(3, (CV.frzRow (Vtab.row x1))), (2, (CV.frzRow (Vtab.row x0)))]⟩ kr ?_
  cases h1 : ((x0.Rows.length : Int) != (x1.Rows.length : Int))
  · have H := bifF h1 H
    refine LAt.runU tOk 4 kr ?_
    obtain ⟨r1, er1, H⟩ := bind_some H
    refine LAt.callV tOk [.rd, .rd] [] (laws_sameInts n x0.Pvid x1.Pvid r1 er1) kr kr kr kr (.inl rfl) ?_
    refine LAt.runU tOk 2 kr ?_
    refine LAt.doneM 1048604 12 kr ?_
    cases h2 : (!r1)
    · have H := bifF h2 H
      refine Tr.cF h2 kr ?_
      refine Tr.skip ?_
      show Tr _ _ _ _ _
      refine Tr.seq ?_
      refine Tr.rgn tOk 1 60 12 kr kr ?_
      obtain ⟨o3, eo3, Ho3⟩ := bind_some H
      clear H
      refine Tr.mid (ι := Unit) (fun v => ⟨39, 0, [sB 4 false], []⟩) (fun v => laws_sameVtab_J1 n = some r) ?_ ?_
      · refine Tr.block ?_
        refine Tr.loop (ι := Nat × (Int)) (fun v => ⟨39, 0, [sI 5 v.2, sB 4 false, sA 3 3 2 0, sA 2 2 2 0], [(3, (CV.frzRow (Vtab.row x1))), (2, (CV.frzRow (Vtab.row x0)))]⟩) (fun v => laws_sameVtab_L2 n v.1 x0 x1 v.2 = some o3) (fun v => v.1) (n, 0) eo3 (St.sub_of [5, 4, 3, 2] [3, 2] kr) ?_
        rintro ⟨mo3, y2⟩ H
        have H : laws_sameVtab_L2 n mo3 x0 x1 y2 = some o3 := H
        obtain _ | mo3 := mo3
        · cases (show (none : Option _) = some o3 from H)
        rw [laws_sameVtab_L2] at H
        refine Tr.seq ?_
        refine Tr.rs ?_
        refine LAt.runU tOk 3 kr ?_
        refine LAt.lenE tOk (t := 27) (ty := 3) (e := 56) (x := (.tmp 23)) (d := 24) (g := none) ⟨(.slot 23), [], 0, false, 3, (CV.frzEs (x0.Rows.map Vrow.row))⟩ (x0.Rows).length _ kr kr kr kr kr (frz_len _ _) rfl ?_
        refine LAt.runU tOk 1 kr ?_
        refine LAt.doneM 65011772 12 kr ?_
        cases h3 : (decide (y2 < (x0.Rows.length : Int)))
        · have H := bifF h3 H
          refine Tr.cF h3 kr ?_
          refine Tr.exit ?_
          refine And.intro (fun _ => ?_) (fun h => absurd rfl h)
          have H := Option.some.inj H
          subst H
          have H := Ho3
          dsimp only at H
          exact Exists.intro () (And.intro H (St.sub_of [4] [] kr))
        have H := bifT h3 H
        refine Tr.cT h3 kr ?_
        refine Tr.skip ?_
        show Tr _ _ _ _ _
        refine Tr.seq ?_
        refine Tr.block ?_
        obtain ⟨v4, ev4, H⟩ := bind_some H
        obtain ⟨v5, ev5, H⟩ := bind_some H
        refine Tr.draws mixed 11 kr ⟨39, 0, [sB 38 (!((v4.Id == v5.Id) && ((v4.Members == v5.Members) && ((v4.Bare == v5.Bare) && true)))), sV 37 (Vrow.row v5), (36, .fad ((Vrow.row v5))), sI 35 y2, sR 34 3 2 0 1 false, sA 33 3 2 0, sV 32 (Vrow.row v4), (31, .fad ((Vrow.row v4))), sI 30 y2, sR 29 2 2 0 1 false, sA 28 2 2 0, sB 25 (decide (y2 < (x0.Rows.length : Int))), sI 24 (x0.Rows.length : Int), sC 23 (cF 3 x0.Rows Vrow.row), sA 22 2 2 0, sI 21 y2, sI 5 y2, sB 4 false, sA 3 3 2 0, sA 2 2 2 0], [(3, (CV.frzRow (Vtab.row x1))), (2, (CV.frzRow (Vtab.row x0)))]⟩ (fun cx => ?_) ?_
        · refine AT.runU tOk [(0, []), (1, [10]), (2, [])] 8 [⟨[10], 27, 28, 29⟩] [2, 1, 0] rfl kr (fun cx => ?_)
          refine AT.indexF tOk 3 (t := 27) (ty := 0) (x := (.tmp 29)) (y := (.tmp 30)) (d := 31) (g := none) ⟨(.box 2), [(0, 0)], 0, false, 3, (CV.frzEs (x0.Rows.map Vrow.row))⟩ y2 (Vrow.row v4) _ kr kr kr kr kr kr rfl (idx_isF ev4) rfl (fun cx => ?_)
          refine AT.runU tOk [(4, []), (5, []), (6, [10]), (7, [])] 3 [⟨[10], 27, 33, 34⟩, ⟨[10], 27, 28, 29⟩] [7, 6, 5, 4, 3, 2, 1, 0] rfl kr (fun cx => ?_)
          refine AT.indexF tOk 8 (t := 27) (ty := 0) (x := (.tmp 34)) (y := (.tmp 35)) (d := 36) (g := none) ⟨(.box 3), [(0, 0)], 0, false, 3, (CV.frzEs (x1.Rows.map Vrow.row))⟩ y2 (Vrow.row v5) _ kr kr kr kr kr kr rfl (idx_isF ev5) rfl (fun cx => ?_)
          refine AT.runU tOk [(9, [])] 1 [⟨[10], 27, 33, 34⟩, ⟨[10], 27, 28, 29⟩] [9, 8, 7, 6, 5, 4, 3, 2, 1, 0] rfl kr (fun cx => ?_)
          refine AT.big1 tOk 10 kr kr ?_
          refine LAt.eqSG true (t := 56) (ty := 56) (ty' := 4) (x := (.tmp 32)) (y := (.tmp 37)) (d := 38) (g := none) ((v4.Id == v5.Id) && ((v4.Members == v5.Members) && ((v4.Bare == v5.Bare) && true))) _ kr kr kr kr rfl ?_
          refine LAt.fin kr (And.intro (And.intro kr kr) ?_)
          exact AT.done [38, 37, 36, 35, 34, 33, 32, 31, 30, 29, 28, 25, 24, 23, 22, 21, 5, 4, 3, 2] [3, 2] _ kr kr rfl
        refine Tr.to ⟨39, 0, [sB 38 (!((v4.Id == v5.Id) && ((v4.Members == v5.Members) && ((v4.Bare == v5.Bare) && true)))), sV 37 (Vrow.row v5), (36, .fad ((Vrow.row v5))), sI 35 y2, sR 34 3 2 0 1 false, sA 33 3 2 0, sV 32 (Vrow.row v4), (31, .fad ((Vrow.row v4))), sI 30 y2, sR 29 2 2 0 1 false, sA 28 2 2 0, sB 25 (decide (y2 < (x0.Rows.length : Int))), sI 24 (x0.Rows.length : Int), sC 23 (cF 3 x0.Rows Vrow.row), sA 22 2 2 0, sI 21 y2, sI 5 y2, sB 4 false, sA 3 3 2 0, sA 2 2 2 0], [(3, (CV.frzRow (Vtab.row x1))), (2, (CV.frzRow (Vtab.row x0)))]⟩ kr ?_
        cases h4 : (!((v4.Id == v5.Id) && ((v4.Members == v5.Members) && ((v4.Bare == v5.Bare) && true))))
        · have H := bifF h4 H
          refine Tr.cf kr ?_
          refine Tr.skip ?_
          show Tr _ _ _ _ _
          refine Tr.rgE tOk 3 549753716796 12 kr kr ?_
          exact Exists.intro (mo3, (IntKind.wrap .i64 (y2 + 1))) (And.intro H (And.intro (Nat.lt_succ_self mo3) (St.sub_of [5, 4, 3, 2] [3, 2] kr)))
        have H := bifT h4 H
        refine Tr.ct kr ?_
        refine Tr.rgn tOk 1 549552390204 12 kr kr ?_
        refine Tr.ret ?_
        have H := Option.some.inj H
        subst H
        have H := Ho3
        dsimp only at H
        have H := Option.some.inj H
        subst H
        exact Fin.of _ [(false, [cB false])] kr rfl rfl
      rintro _ H
      have H : (laws_sameVtab_J1 n) = some r := H
      unfold laws_sameVtab_J1 at H
      show Tr _ _ _ _ _
      refine Tr.rgn tOk 1 16 0 kr kr ?_
      refine Tr.ret ?_
      have H := Option.some.inj H
      subst H
      exact Fin.of _ [(false, [cB true])] kr rfl rfl
    have H := bifT h2 H
    refine Tr.cT h2 kr ?_
    refine Tr.rgn tOk 1 28 12 kr kr ?_
    refine Tr.ret ?_
    have H := Option.some.inj H
    subst H
    exact Fin.of _ [(false, [cB false])] kr rfl rfl
  have H := bifT h1 H
  refine LAt.runU tOk 7 kr ?_
  refine LAt.doneM 1048604 12 kr ?_
  refine Tr.ct kr ?_
  refine Tr.rgn tOk 1 28 12 kr kr ?_
  refine Tr.ret ?_
  have H := Option.some.inj H
  subst H
  exact Fin.of _ [(false, [cB false])] kr rfl rfl

def impl_withoutRowF (n : Nat) (x0 : Vtab) (x1 : Int) : Option (Vtab) :=
  ((impl_copyVtabF n x0).bind fun r1 => ((impl_RowAtF n x0 x1).bind fun r2 => (bif (decide (r2 ≥ 0)) then (bif (decide ((0 : Int) ≤ 0) && (decide ((0 : Int) ≤ r2) && decide ((r2 : Int) ≤ (x0.Rows.length : Int)))) then (bif (decide (([] : List Vrow).length + ((x0.Rows.drop ((0 : Int)).toNat).take (((r2 : Int)).toNat - ((0 : Int)).toNat)).length ≤ 268435456)) then (bif (decide ((0 : Int) ≤ (IntKind.wrap .i64 (r2 + 1))) && (decide (((IntKind.wrap .i64 (r2 + 1)) : Int) ≤ (x0.Rows.length : Int)) && decide (((x0.Rows.length : Int) : Int) ≤ (x0.Rows.length : Int)))) then (bif (decide ((([] : List Vrow) ++ ((x0.Rows.drop ((0 : Int)).toNat).take (((r2 : Int)).toNat - ((0 : Int)).toNat))).length + ((x0.Rows.drop (((IntKind.wrap .i64 (r2 + 1)) : Int)).toNat).take ((((x0.Rows.length : Int) : Int)).toNat - (((IntKind.wrap .i64 (r2 + 1)) : Int)).toNat)).length ≤ 268435456)) then (some (⟨((([] : List Vrow) ++ ((x0.Rows.drop ((0 : Int)).toNat).take (((r2 : Int)).toNat - ((0 : Int)).toNat))) ++ ((x0.Rows.drop (((IntKind.wrap .i64 (r2 + 1)) : Int)).toNat).take ((((x0.Rows.length : Int) : Int)).toNat - (((IntKind.wrap .i64 (r2 + 1)) : Int)).toNat))), r1.Pvid⟩ : Vtab)) else none) else none) else none) else none) else (some r1))))
/-- loop.example/g00326/impl.withoutRow -/
theorem impl_withoutRow (n : Nat) (x0 : Vtab) (x1 : Int) (r : Vtab) (H : impl_withoutRowF n x0 x1 = some r) : LCall Try.prog 103 [.val true (CV.frzRow (Vtab.row x0)), .val false [.lit (.int .i64 x1)]] [.val true (Vtab.row r)] [] := by
  refine LCall.of_body tOk Try.func103 rfl (c := (.seq (Rg Try.f103 0) (.seq (Rg Try.f103 1) (.seq (.seq (Rg Try.f103 2) (.seq (Rg Try.f103 3) (.cond (.tmp 13) (Rd Try.f103 4) .skip))) (.seq (Rg Try.f103 5) .ret))))) kr (Nat.le_of_ble_eq_true kr) 0 (rs := [.cell 4 29]) rfl [] .nil [(true, (Vtab.row r))] [] [] fun cx => ?_
  show Tr _ _ _ ⟨27, 0, [sV 0 (CV.frzRow (Vtab.row x0)), sI 1 x1], []⟩ _
  unfold impl_withoutRowF at H
  refine Tr.rgn tOk 2 22 20 kr kr ?_
  refine Tr.rs ?_
  refine LAt.runU tOk 1 kr ?_
  obtain ⟨r1, er1, H⟩ := bind_some H
  refine LAt.callV tOk [.rd] [] (impl_copyVtab n x0 r1 er1) kr kr kr kr (.inl rfl) ?_
  refine LAt.runU tOk 2 kr ?_
  refine LAt.doneM 54 52 kr ?_
  refine Tr.seq ?_
  refine Tr.rs ?_
  refine LAt.runU tOk 2 kr ?_
  obtain ⟨r2, er2, H⟩ := bind_some H
  refine LAt.callV tOk [.rd, .rd] [] (impl_RowAt n x0 x1 r2 er2) kr kr kr kr (.inl rfl) ?_
  refine LAt.runU tOk 1 kr ?_
  refine LAt.doneM 116 52 kr ?_
  refine Tr.rgn tOk 2 8308 52 kr kr ?_
  cases h1 : (decide (r2 ≥ 0))
  · have H := bifF h1 H
    refine Tr.cF h1 kr ?_
    refine Tr.skip ?_
    show Tr _ _ _ _ _
    refine Tr.rgn tOk 2 16 16 kr kr ?_
    refine Tr.ret ?_
    have H := Option.some.inj H
    subst H
    exact Fin.of _ [(true, (Vtab.row r1))] kr rfl rfl
  have H := bifT h1 H
  refine Tr.cT h1 kr ?_
  obtain ⟨hg3, H⟩ := guard_some H
  obtain ⟨hg4, H⟩ := guard_some H
  obtain ⟨hg5, H⟩ := guard_some H
  obtain ⟨hg6, H⟩ := guard_some H
  refine Tr.draw mixed 13 kr ⟨27, 0, [sA 5 5 2 0, sA 4 4 2 0], [(5, [cL 3 ((([] : List Vrow) ++ ((x0.Rows.drop ((0 : Int)).toNat).take (((r2 : Int)).toNat - ((0 : Int)).toNat))) ++ ((x0.Rows.drop (((IntKind.wrap .i64 (r2 + 1)) : Int)).toNat).take ((((x0.Rows.length : Int) : Int)).toNat - (((IntKind.wrap .i64 (r2 + 1)) : Int)).toNat))) Vrow.row, cL 1 r1.Pvid intRow]), (4, [cL 3 ([] : List Vrow) Vrow.row, cL 1 ([] : List Int) intRow])]⟩ (fun cx => ?_) ?_
  · refine AT.runU tOk [(0, []), (1, [3, 4, 10, 12]), (2, []), (5, []), (6, [9, 10, 12]), (7, []), (8, [])] 6 [⟨[9, 10, 12], 27, 19, 20⟩, ⟨[3, 4, 10, 12], 27, 14, 15⟩] [8, 7, 6, 5, 2, 1, 0] rfl kr (fun cx => ?_)
    refine AT.big2 tOk 3 9 kr (And.intro kr ?_) (And.intro kr ?_)
    · refine LAt.cutG tOk (t := 27) (ty := 27) (e := 56) (x := (.tmp 15)) (lo := none) (hi := (some (.tmp 16))) (d := 17) (g := none) ⟨.st [(0, 1, 3), (1, 1, 3), (2, 1, 3)], 3, 24, [.lit (.int .i64 0), .lit (.int .i64 0), .lit (.int .i64 0)]⟩ Vrow.row x0.Rows ⟨(.box 2), [(0, 0)], 0, false, 3, (CV.frzEs (x0.Rows.map Vrow.row))⟩ 0 r2 kr kr kr kr kr kr rfl kr rfl kr kr hg3 ?_
      refine LAt.fin kr (And.intro (And.intro kr kr) ?_)
      refine AT.big2 tOk 4 9 kr (And.intro kr ?_) (And.intro kr ?_)
      · refine LAt.appCU tOk (t := 27) (ty := 27) (e := 56) (x := (.const (.slice none 0 0))) (y := (.tmp 17)) (d := 18) (g := none) ⟨.st [(0, 1, 3), (1, 1, 3), (2, 1, 3)], 3, 24, [.lit (.int .i64 0), .lit (.int .i64 0), .lit (.int .i64 0)]⟩ Vrow.row ([] : List Vrow) ((x0.Rows.drop ((0 : Int)).toNat).take (((r2 : Int)).toNat - ((0 : Int)).toNat)) ⟨(.slot 17), [], 0, false, 3, (CV.frzEs (((x0.Rows.drop ((0 : Int)).toNat).take (((r2 : Int)).toNat - ((0 : Int)).toNat)).map Vrow.row))⟩ kr kr kr kr kr kr kr kr kr kr kr (.inr rfl) (fun _ => rfl) (fun _ => rfl) hg4 ?_
        refine LAt.fin kr (And.intro (And.intro kr kr) ?_)
        refine AT.big1 tOk 9 kr kr ?_
        refine LAt.cutG tOk (t := 27) (ty := 27) (e := 56) (x := (.tmp 20)) (lo := (some (.tmp 22))) (hi := none) (d := 23) (g := none) ⟨.st [(0, 1, 3), (1, 1, 3), (2, 1, 3)], 3, 24, [.lit (.int .i64 0), .lit (.int .i64 0), .lit (.int .i64 0)]⟩ Vrow.row x0.Rows ⟨(.box 2), [(0, 0)], 0, false, 3, (CV.frzEs (x0.Rows.map Vrow.row))⟩ (IntKind.wrap .i64 (r2 + 1)) (x0.Rows.length : Int) kr kr kr kr kr kr rfl kr rfl kr kr hg5 ?_
        refine LAt.fin kr (And.intro (And.intro kr kr) ?_)
        refine AT.big1 tOk 10 kr kr ?_
        refine LAt.appCU tOk (t := 27) (ty := 27) (e := 56) (x := (.tmp 18)) (y := (.tmp 23)) (d := 24) (g := none) ⟨.st [(0, 1, 3), (1, 1, 3), (2, 1, 3)], 3, 24, [.lit (.int .i64 0), .lit (.int .i64 0), .lit (.int .i64 0)]⟩ Vrow.row (([] : List Vrow) ++ ((x0.Rows.drop ((0 : Int)).toNat).take (((r2 : Int)).toNat - ((0 : Int)).toNat))) ((x0.Rows.drop (((IntKind.wrap .i64 (r2 + 1)) : Int)).toNat).take ((((x0.Rows.length : Int) : Int)).toNat - (((IntKind.wrap .i64 (r2 + 1)) : Int)).toNat)) ⟨(.slot 23), [], 0, false, 3, (CV.frzEs (((x0.Rows.drop (((IntKind.wrap .i64 (r2 + 1)) : Int)).toNat).take ((((x0.Rows.length : Int) : Int)).toNat - (((IntKind.wrap .i64 (r2 + 1)) : Int)).toNat)).map Vrow.row))⟩ kr kr kr kr kr kr kr kr kr kr kr (.inr rfl) (fun _ => rfl) (fun _ => rfl) hg6 ?_
        refine LAt.fin kr (And.intro (And.intro kr kr) ?_)
        refine AT.runU tOk [(11, [])] 1 [⟨[9, 10, 12], 27, 19, 20⟩, ⟨[3, 4, 10, 12], 27, 14, 15⟩] [11, 10, 9, 4, 3, 8, 7, 6, 5, 2, 1, 0] rfl kr (fun cx => ?_)
        refine AT.big1 tOk 12 kr kr ?_
        refine LAt.runU tOk 1 kr ?_
        refine LAt.fin kr (And.intro (And.intro kr kr) ?_)
        exact AT.done [5, 4] [5, 4] _ kr kr rfl
      · refine LAt.cutG tOk (t := 27) (ty := 27) (e := 56) (x := (.tmp 20)) (lo := (some (.tmp 22))) (hi := none) (d := 23) (g := none) ⟨.st [(0, 1, 3), (1, 1, 3), (2, 1, 3)], 3, 24, [.lit (.int .i64 0), .lit (.int .i64 0), .lit (.int .i64 0)]⟩ Vrow.row x0.Rows ⟨(.box 2), [(0, 0)], 0, false, 3, (CV.frzEs (x0.Rows.map Vrow.row))⟩ (IntKind.wrap .i64 (r2 + 1)) (x0.Rows.length : Int) kr kr kr kr kr kr rfl kr rfl kr kr hg5 ?_
        refine LAt.fin kr (And.intro (And.intro kr kr) ?_)
        refine AT.big1 tOk 4 kr kr ?_
        refine LAt.appCU tOk (t := 27) (ty := 27) (e := 56) (x := (.const (.slice none 0 0))) (y := (.tmp 17)) (d := 18) (g := none) ⟨.st [(0, 1, 3), (1, 1, 3), (2, 1, 3)], 3, 24, [.lit (.int .i64 0), .lit (.int .i64 0), .lit (.int .i64 0)]⟩ Vrow.row ([] : List Vrow) ((x0.Rows.drop ((0 : Int)).toNat).take (((r2 : Int)).toNat - ((0 : Int)).toNat)) ⟨(.slot 17), [], 0, false, 3, (CV.frzEs (((x0.Rows.drop ((0 : Int)).toNat).take (((r2 : Int)).toNat - ((0 : Int)).toNat)).map Vrow.row))⟩ kr kr kr kr kr kr kr kr kr kr kr (.inr rfl) (fun _ => rfl) (fun _ => rfl) hg4 ?_
        refine LAt.fin kr (And.intro (And.intro kr kr) ?_)
        refine AT.big1 tOk 10 kr kr ?_
        refine LAt.appCU tOk (t := 27) (ty := 27) (e := 56) (x := (.tmp 18)) (y := (.tmp 23)) (d := 24) (g := none) ⟨.st [(0, 1, 3), (1, 1, 3), (2, 1, 3)], 3, 24, [.lit (.int .i64 0), .lit (.int .i64 0), .lit (.int .i64 0)]⟩ Vrow.row (([] : List Vrow) ++ ((x0.Rows.drop ((0 : Int)).toNat).take (((r2 : Int)).toNat - ((0 : Int)).toNat))) ((x0.Rows.drop (((IntKind.wrap .i64 (r2 + 1)) : Int)).toNat).take ((((x0.Rows.length : Int) : Int)).toNat - (((IntKind.wrap .i64 (r2 + 1)) : Int)).toNat)) ⟨(.slot 23), [], 0, false, 3, (CV.frzEs (((x0.Rows.drop (((IntKind.wrap .i64 (r2 + 1)) : Int)).toNat).take ((((x0.Rows.length : Int) : Int)).toNat - (((IntKind.wrap .i64 (r2 + 1)) : Int)).toNat)).map Vrow.row))⟩ kr kr kr kr kr kr kr kr kr kr kr (.inr rfl) (fun _ => rfl) (fun _ => rfl) hg6 ?_
        refine LAt.fin kr (And.intro (And.intro kr kr) ?_)
        refine AT.runU tOk [(11, [])] 1 [⟨[9, 10, 12], 27, 19, 20⟩, ⟨[3, 4, 10, 12], 27, 14, 15⟩] [11, 10, 4, 9, 3, 8, 7, 6, 5, 2, 1, 0] rfl kr (fun cx => ?_)
        refine AT.big1 tOk 12 kr kr ?_
        refine LAt.runU tOk 1 kr ?_
        refine LAt.fin kr (And.intro (And.intro kr kr) ?_)
        exact AT.done [5, 4] [5, 4] _ kr kr rfl
    · refine LAt.cutG tOk (t := 27) (ty := 27) (e := 56) (x := (.tmp 20)) (lo := (some (.tmp 22))) (hi := none) (d := 23) (g := none) ⟨.st [(0, 1, 3), (1, 1, 3), (2, 1, 3)], 3, 24, [.lit (.int .i64 0), .lit (.int .i64 0), .lit (.int .i64 0)]⟩ Vrow.row x0.Rows ⟨(.box 2), [(0, 0)], 0, false, 3, (CV.frzEs (x0.Rows.map Vrow.row))⟩ (IntKind.wrap .i64 (r2 + 1)) (x0.Rows.length : Int) kr kr kr kr kr kr rfl kr rfl kr kr hg5 ?_
      refine LAt.fin kr (And.intro (And.intro kr kr) ?_)
      refine AT.big1 tOk 3 kr kr ?_
      refine LAt.cutG tOk (t := 27) (ty := 27) (e := 56) (x := (.tmp 15)) (lo := none) (hi := (some (.tmp 16))) (d := 17) (g := none) ⟨.st [(0, 1, 3), (1, 1, 3), (2, 1, 3)], 3, 24, [.lit (.int .i64 0), .lit (.int .i64 0), .lit (.int .i64 0)]⟩ Vrow.row x0.Rows ⟨(.box 2), [(0, 0)], 0, false, 3, (CV.frzEs (x0.Rows.map Vrow.row))⟩ 0 r2 kr kr kr kr kr kr rfl kr rfl kr kr hg3 ?_
      refine LAt.fin kr (And.intro (And.intro kr kr) ?_)
      refine AT.big1 tOk 4 kr kr ?_
      refine LAt.appCU tOk (t := 27) (ty := 27) (e := 56) (x := (.const (.slice none 0 0))) (y := (.tmp 17)) (d := 18) (g := none) ⟨.st [(0, 1, 3), (1, 1, 3), (2, 1, 3)], 3, 24, [.lit (.int .i64 0), .lit (.int .i64 0), .lit (.int .i64 0)]⟩ Vrow.row ([] : List Vrow) ((x0.Rows.drop ((0 : Int)).toNat).take (((r2 : Int)).toNat - ((0 : Int)).toNat)) ⟨(.slot 17), [], 0, false, 3, (CV.frzEs (((x0.Rows.drop ((0 : Int)).toNat).take (((r2 : Int)).toNat - ((0 : Int)).toNat)).map Vrow.row))⟩ kr kr kr kr kr kr kr kr kr kr kr (.inr rfl) (fun _ => rfl) (fun _ => rfl) hg4 ?_
      refine LAt.fin kr (And.intro (And.intro kr kr) ?_)
      refine AT.big1 tOk 10 kr kr ?_
      refine LAt.appCU tOk (t := 27) (ty := 27) (e := 56) (x := (.tmp 18)) (y := (.tmp 23)) (d := 24) (g := none) ⟨.st [(0, 1, 3), (1, 1, 3), (2, 1, 3)], 3, 24, [.lit (.int .i64 0), .lit (.int .i64 0), .lit (.int .i64 0)]⟩ Vrow.row (([] : List Vrow) ++ ((x0.Rows.drop ((0 : Int)).toNat).take (((r2 : Int)).toNat - ((0 : Int)).toNat))) ((x0.Rows.drop (((IntKind.wrap .i64 (r2 + 1)) : Int)).toNat).take ((((x0.Rows.length : Int) : Int)).toNat - (((IntKind.wrap .i64 (r2 + 1)) : Int)).toNat)) ⟨(.slot 23), [], 0, false, 3, (CV.frzEs (((x0.Rows.drop (((IntKind.wrap .i64 (r2 + 1)) : Int)).toNat).take ((((x0.Rows.length : Int) : Int)).toNat - (((IntKind.wrap .i64 (r2 + 1)) : Int)).toNat)).map Vrow.row))⟩ kr kr kr kr kr kr kr kr kr kr kr (.inr rfl) (fun _ => rfl) (fun _ => rfl) hg6 ?_
      refine LAt.fin kr (And.intro (And.intro kr kr) ?_)
      refine AT.runU tOk [(11, [])] 1 [⟨[9, 10, 12], 27, 19, 20⟩, ⟨[3, 4, 10, 12], 27, 14, 15⟩] [11, 10, 4, 3, 9, 8, 7, 6, 5, 2, 1, 0] rfl kr (fun cx => ?_)
      refine AT.big1 tOk 12 kr kr ?_
      refine LAt.runU tOk 1 kr ?_
      refine LAt.fin kr (And.intro (And.intro kr kr) ?_)
      exact AT.done [5, 4] [5, 4] _ kr kr rfl
  show Tr _ _ _ _ _
  refine Tr.rgn tOk 2 16 16 kr kr ?_
  refine Tr.ret ?_
  have H := Option.some.inj H
  subst H
  exact Fin.of _ [(true, [cL 3 ((([] : List Vrow) ++ ((x0.Rows.drop ((0 : Int)).toNat).take (((r2 : Int)).toNat - ((0 : Int)).toNat))) ++ ((x0.Rows.drop (((IntKind.wrap .i64 (r2 + 1)) : Int)).toNat).take ((((x0.Rows.length : Int) : Int)).toNat - (((IntKind.wrap .i64 (r2 + 1)) : Int)).toNat))) Vrow.row, cL 1 r1.Pvid intRow])] kr rfl rfl

def impl_DropRowF (n : Nat) (x0 : Vtab) (x1 : Int) : Option (Vtab × Bool) :=
  ((impl_RowAtF n x0 x1).bind fun r1 => (bif (decide (r1 < 0)) then ((impl_copyVtabF n x0).bind fun r4 => (some (r4, false))) else ((impl_withoutRowF n x0 x1).bind fun r2 => ((impl_turnedF n x0 r2).bind fun r3 => (some (r3.1, r3.2))))))
/-- loop.example/g00326/impl.DropRow -/
theorem impl_DropRow (n : Nat) (x0 : Vtab) (x1 : Int) (r : Vtab × Bool) (H : impl_DropRowF n x0 x1 = some r) : LCall Try.prog 35 [.val true (CV.frzRow (Vtab.row x0)), .val false [.lit (.int .i64 x1)]] [.val true (Vtab.row r.1), .val false [.lit (.bool r.2)]] [] := by
  refine LCall.of_body tOk Try.func35 rfl (c := (.seq (Rg Try.f35 0) (.seq (.seq (Rg Try.f35 1) (.cond (.tmp 9) (.seq (Rg Try.f35 2) .ret) .skip)) (.seq (Rd Try.f35 3) .ret)))) kr (Nat.le_of_ble_eq_true kr) 0 (rs := [.cell 4 29, .tmp 5]) rfl [] .nil [(true, (Vtab.row r.1)), (false, [.lit (.bool r.2)])] [] [] fun cx => ?_
  show Tr _ _ _ ⟨19, 0, [sV 0 (CV.frzRow (Vtab.row x0)), sI 1 x1], []⟩ _
  unfold impl_DropRowF at H
  refine Tr.rgn tOk 3 54 20 kr kr ?_
  refine Tr.seq ?_
  refine Tr.rs ?_
  refine LAt.runU tOk 2 kr ?_
  obtain ⟨r1, er1, H⟩ := bind_some H
  refine LAt.callV tOk [.rd, .rd] [] (impl_RowAt n x0 x1 r1 er1) kr kr kr kr (.inl rfl) ?_
  refine LAt.runU tOk 1 kr ?_
  refine LAt.doneM 566 20 kr ?_
  cases h1 : (decide (r1 < 0))
  · have H := bifF h1 H
    refine Tr.cF h1 kr ?_
    refine Tr.skip ?_
    show Tr _ _ _ _ _
    obtain ⟨r2, er2, H⟩ := bind_some H
    obtain ⟨r3, er3, H⟩ := bind_some H
    refine Tr.draws mixed 9 kr ⟨19, 0, [sB 5 r3.2, sA 4 4 2 0], [(4, (Vtab.row r3.1))]⟩ (fun cx => ?_) ?_
    · refine AT.runU tOk [(0, [4, 7]), (1, [3, 4, 7]), (2, [])] 6 [⟨[3, 4, 7], 29, 2, 13⟩, ⟨[4, 7], 29, 2, 12⟩] [2, 1, 0] rfl kr (fun cx => ?_)
      refine AT.big1 tOk 3 kr kr ?_
      refine LAt.callV tOk [.rd, .rd] [] (impl_withoutRow n x0 x1 r2 er2) kr kr kr kr (.inl rfl) ?_
      refine LAt.fin kr (And.intro (And.intro kr kr) ?_)
      refine AT.big1 tOk 4 kr kr ?_
      refine LAt.callV tOk [.rd, .own] [] (impl_turned n x0 r2 r3 er3) kr kr kr kr (.inl rfl) ?_
      refine LAt.fin kr (And.intro (And.intro kr kr) ?_)
      refine AT.runU tOk [(5, []), (6, [])] 2 [⟨[3, 4, 7], 29, 2, 13⟩, ⟨[4, 7], 29, 2, 12⟩] [6, 5, 4, 3, 2, 1, 0] rfl kr (fun cx => ?_)
      refine AT.big1 tOk 7 kr kr ?_
      refine LAt.runU tOk 1 kr ?_
      refine LAt.fin kr (And.intro (And.intro kr kr) ?_)
      refine AT.runU tOk [(8, [])] 0 [⟨[3, 4, 7], 29, 2, 13⟩, ⟨[4, 7], 29, 2, 12⟩] [8, 7, 6, 5, 4, 3, 2, 1, 0] rfl kr (fun cx => ?_)
      exact AT.done [5, 4] [4] _ kr kr rfl
    refine Tr.ret ?_
    have H := Option.some.inj H
    subst H
    exact Fin.of _ [(true, (Vtab.row r3.1)), (false, [cB r3.2])] kr rfl rfl
  have H := bifT h1 H
  refine Tr.cT h1 kr ?_
  refine Tr.rs ?_
  refine LAt.runU tOk 1 kr ?_
  obtain ⟨r4, er4, H⟩ := bind_some H
  refine LAt.callV tOk [.rd] [] (impl_copyVtab n x0 r4 er4) kr kr kr kr (.inl rfl) ?_
  refine LAt.runU tOk 2 kr ?_
  refine LAt.doneM 54 20 kr ?_
  refine Tr.ret ?_
  have H := Option.some.inj H
  subst H
  exact Fin.of _ [(true, (Vtab.row r4)), (false, [cB false])] kr rfl rfl

def laws_has_J1 (n : Nat) : Option (Bool) :=
  (some false)
def laws_has_L2 (n : Nat) : Nat → (List Int) → Int → Int → Option ((Unit) ⊕ (Bool))
  | 0, _, _, _ => none
  | mo2 + 1, x0, x1, y1 => (bif (decide (y1 < (x0.length : Int))) then ((idx x0 y1).bind fun v3 => (bif (v3 == x1) then (some (Sum.inr true)) else (laws_has_L2 n mo2 x0 x1 (IntKind.wrap .i64 (y1 + 1))))) else (some (Sum.inl ())))
def laws_hasF (n : Nat) (x0 : (List Int)) (x1 : Int) : Option (Bool) :=
  ((laws_has_L2 n n x0 x1 0).bind fun o => match o with | .inl _ => (laws_has_J1 n) | .inr r => some r)
/-- loop.example/g00326/laws.has -/
theorem laws_has (n : Nat) (x0 : (List Int)) (x1 : Int) (r : Bool) (H : laws_hasF n x0 x1 = some r) : LCall Try.prog 42 [.val false [.sl false 1 (CV.frzEs (x0.map intRow))], .val false [.lit (.int .i64 x1)]] [.val false [.lit (.bool r)]] [] := by
  refine LCall.of_body tOk Try.func42 rfl (c := (.seq (Rg Try.f42 0) (.seq (.seq (Rg Try.f42 1) (.block 0 (.loop (.seq (.seq (Rg Try.f42 2) (.cond (.tmp 9) .skip (.exit 0))) (.seq (.block 1 (.seq (Rg Try.f42 4) (.cond (.tmp 17) (.seq (Rg Try.f42 5) .ret) .skip))) (Rg Try.f42 3)))))) (.seq (Rg Try.f42 6) .ret)))) kr (Nat.le_of_ble_eq_true kr) 0 (rs := [.tmp 4]) rfl [] .nil [(false, [.lit (.bool r)])] [] [] fun cx => ?_
  show Tr _ _ _ ⟨18, 0, [sC 0 (cF 1 x0 intRow), sI 1 x1], []⟩ _
  unfold laws_hasF at H
  refine Tr.rgn tOk 1 19 0 kr kr ?_
  refine Tr.seq ?_
  refine Tr.rgn tOk 1 51 0 kr kr ?_
  obtain ⟨o2, eo2, Ho2⟩ := bind_some H
  clear H
  refine Tr.mid (ι := Unit) (fun v => ⟨18, 0, [sB 4 false], []⟩) (fun v => laws_has_J1 n = some r) ?_ ?_
  · refine Tr.block ?_
    refine Tr.loop (ι := Nat × (Int)) (fun v => ⟨18, 0, [sI 5 v.2, sB 4 false, sC 0 (cF 1 x0 intRow), sI 1 x1], []⟩) (fun v => laws_has_L2 n v.1 x0 x1 v.2 = some o2) (fun v => v.1) (n, 0) eo2 (St.sub_of [5, 4, 0, 1] [] kr) ?_
    rintro ⟨mo2, y1⟩ H
    have H : laws_has_L2 n mo2 x0 x1 y1 = some o2 := H
    obtain _ | mo2 := mo2
    · cases (show (none : Option _) = some o2 from H)
    rw [laws_has_L2] at H
    refine Tr.seq ?_
    refine Tr.rs ?_
    refine LAt.runU tOk 2 kr ?_
    refine LAt.lenE tOk (t := 23) (ty := 3) (e := 3) (x := (.tmp 7)) (d := 8) (g := none) ⟨(.slot 7), [], 0, false, 1, (CV.frzEs (x0.map intRow))⟩ (x0).length _ kr kr kr kr kr (frz_len _ _) rfl ?_
    refine LAt.runU tOk 1 kr ?_
    refine LAt.doneM 1011 0 kr ?_
    cases h1 : (decide (y1 < (x0.length : Int)))
    · have H := bifF h1 H
      refine Tr.cF h1 kr ?_
      refine Tr.exit ?_
      refine And.intro (fun _ => ?_) (fun h => absurd rfl h)
      have H := Option.some.inj H
      subst H
      have H := Ho2
      dsimp only at H
      exact Exists.intro () (And.intro H (St.sub_of [4] [] kr))
    have H := bifT h1 H
    refine Tr.cT h1 kr ?_
    refine Tr.skip ?_
    show Tr _ _ _ _ _
    refine Tr.seq ?_
    refine Tr.block ?_
    refine Tr.rs ?_
    refine LAt.runU tOk 2 kr ?_
    obtain ⟨v3, ev3, H⟩ := bind_some H
    refine LAt.indexF tOk (t := 23) (ty := 0) (x := (.tmp 12)) (y := (.tmp 13)) (d := 14) (g := none) ⟨(.slot 12), [], 0, false, 1, (CV.frzEs (x0.map intRow))⟩ y1 [cI v3] _ kr kr kr kr rfl (idx_isF ev3) rfl ?_
    refine LAt.runU tOk 3 kr ?_
    refine LAt.doneM 259059 0 kr ?_
    cases h2 : (v3 == x1)
    · have H := bifF h2 H
      refine Tr.cF h2 kr ?_
      refine Tr.skip ?_
      show Tr _ _ _ _ _
      refine Tr.rgE tOk 3 262131 0 kr kr ?_
      exact Exists.intro (mo2, (IntKind.wrap .i64 (y1 + 1))) (And.intro H (And.intro (Nat.lt_succ_self mo2) (St.sub_of [5, 4, 0, 1] [] kr)))
    have H := bifT h2 H
    refine Tr.cT h2 kr ?_
    refine Tr.rgn tOk 1 259059 0 kr kr ?_
    refine Tr.ret ?_
    have H := Option.some.inj H
    subst H
    have H := Ho2
    dsimp only at H
    have H := Option.some.inj H
    subst H
    exact Fin.of _ [(false, [cB true])] kr rfl rfl
  rintro _ H
  have H : (laws_has_J1 n) = some r := H
  unfold laws_has_J1 at H
  show Tr _ _ _ _ _
  refine Tr.rgn tOk 1 16 0 kr kr ?_
  refine Tr.ret ?_
  have H := Option.some.inj H
  subst H
  exact Fin.of _ [(false, [cB false])] kr rfl rfl

def laws_FnNetworks_J1 (n : Nat) (r2 : Vtab × Vrow) (r3 : Vtab × Bool) (r4 : Vtab × Bool) (y5 : Bool) : Option (Bool) :=
  (bif y5 then (bif (r3.2 == r4.2) then ((laws_sameVtabF n r3.1 r2.1).bind fun r14 => (some r14)) else (some false)) else ((impl_RowAtF n r3.1 r2.2.Id).bind fun r6 => ((impl_DropRowF n r3.1 r2.2.Id).bind fun r7 => (bif (decide (r6 < 0)) then (some false) else ((idx r3.1.Rows r6).bind fun v8 => (bif (!((v8.Id == r2.2.Id) && ((v8.Members == r2.2.Members) && ((v8.Bare == r2.2.Bare) && true)))) then (some false) else ((impl_VtabOkF n r3.1 (r2.1.Pvid.length : Int)).bind fun r9 => (bif (!r9) then (some false) else (bif r7.2 then ((impl_RowAtF n r7.1 r2.2.Id).bind fun r12 => (bif (r12 == (-1)) then ((impl_VtabOkF n r7.1 (r2.1.Pvid.length : Int)).bind fun r13 => (some r13)) else (some false))) else ((laws_hasF n r3.1.Pvid r2.2.Id).bind fun r10 => (bif r10 then ((laws_sameVtabF n r7.1 r3.1).bind fun r11 => (some r11)) else (some false))))))))))))
def laws_FnNetworksF (n : Nat) (x0 : (List Int)) : Option (Bool) :=
  ((laws_bigF n x0).bind fun r1 => (bif r1 then (some true) else ((spec_DrawPutRowF n x0).bind fun r2 => ((impl_PutRowF n r2.1 r2.2).bind fun r3 => ((spec_PutRowF n r2.1 r2.2).bind fun r4 => (bif (!(r3.2 == r4.2)) then (laws_FnNetworks_J1 n r2 r3 r4 true) else ((laws_sameVtabF n r3.1 r4.1).bind fun r15 => (bif (!r15) then (laws_FnNetworks_J1 n r2 r3 r4 true) else (laws_FnNetworks_J1 n r2 r3 r4 (!r3.2))))))))))
/-- loop.example/g00326/laws.FnNetworks -/
theorem laws_FnNetworks (n : Nat) (x0 : (List Int)) (r : Bool) (H : laws_FnNetworksF n x0 = some r) : LCall Try.prog 6 [.val false [.sl false 1 (CV.frzEs (x0.map byteRow))]] [.val false [.lit (.bool r)]] [] := by
  refine LCall.of_body tOk Try.func6 rfl (c := (.seq (Rg Try.f6 0) (.seq (.seq (Rg Try.f6 1) (.cond (.tmp 14) (.seq (Rg Try.f6 2) .ret) .skip)) (.seq (Rg Try.f6 3) (.seq (Rg Try.f6 4) (.seq (Rg Try.f6 5) (.seq (Rg Try.f6 6) (.seq (.seq (Rg Try.f6 7) (.cond (.tmp 47) (.seq (Rg Try.f6 8) .ret) .skip)) (.seq (Rg Try.f6 9) (.seq (Rg Try.f6 10) (.seq (.seq (Rd Try.f6 11) (.cond (.tmp 83) (.seq (Rg Try.f6 12) .ret) .skip)) (.seq (.seq (Rg Try.f6 13) (.cond (.tmp 84) (.seq (Rg Try.f6 14) .ret) .skip)) (.seq (Rg Try.f6 15) .ret))))))))))))) kr (Nat.le_of_ble_eq_true kr) 0 (rs := [.tmp 2]) rfl [] .nil [(false, [.lit (.bool r)])] [] [] fun cx => ?_
  show Tr _ _ _ ⟨105, 0, [sC 0 (cF 1 x0 byteRow)], []⟩ _
  unfold laws_FnNetworksF at H
  refine Tr.rgn tOk 1 5 0 kr kr ?_
  refine Tr.seq ?_
  refine Tr.rs ?_
  refine LAt.runU tOk 1 kr ?_
  obtain ⟨r1, er1, H⟩ := bind_some H
  refine LAt.callV tOk [.rd] [] (laws_big n x0 r1 er1) kr kr kr kr (.inl rfl) ?_
  refine LAt.doneM 16389 0 kr ?_
  cases h1 : r1
  · have H := bifF h1 H
    refine Tr.cf kr ?_
    refine Tr.skip ?_
    show Tr _ _ _ _ _
    refine Tr.rs ?_
    refine LAt.runU tOk 1 kr ?_
    obtain ⟨r2, er2, H⟩ := bind_some H
    refine LAt.callV tOk [.rd] [] (spec_DrawPutRow n x0 r2 er2) kr kr kr kr (.inl rfl) ?_
    refine LAt.movT tOk (ty := 57) (t := 17) (d := 15) (g := none) [(true, (Vtab.row r2.1)), (true, (Vrow.row r2.2))] _ kr (.inl rfl) kr kr kr kr rfl ?_
    refine LAt.runU tOk 6 kr ?_
    refine LAt.doneM 28 24 kr ?_
    refine Tr.rs ?_
    refine LAt.runU tOk 2 kr ?_
    refine LAt.lenE tOk (t := 23) (ty := 3) (e := 3) (x := (.tmp 21)) (d := 22) (g := none) ⟨(.box 3), [(0, 0)], 1, true, 1, (r2.1.Pvid.map intRow)⟩ (r2.1.Pvid).length _ kr kr kr kr kr (map_len _ _) rfl ?_
    refine LAt.runU tOk 1 kr ?_
    refine LAt.doneM 60 24 kr ?_
    refine Tr.rs ?_
    refine LAt.runU tOk 2 kr ?_
    obtain ⟨r3, er3, H⟩ := bind_some H
    refine LAt.callV tOk [.rd, .rd] [.box 3] (impl_PutRow n r2.1 r2.2 r3 er3) kr kr kr kr (.inr (rets_cons (Vtab.row_mine _) (rets_cons (mine_cons mine_lit mine_nil) rets_nil))) ?_
    refine LAt.movT tOk (ty := 30) (t := 26) (d := 23) (g := none) [(true, (Vtab.row r3.1)), (false, [cB r3.2])] _ kr (.inl rfl) kr kr kr kr rfl ?_
    refine LAt.runU tOk 5 kr ?_
    refine LAt.doneM 252 88 kr ?_
    refine Tr.rs ?_
    refine LAt.runU tOk 2 kr ?_
    obtain ⟨r4, er4, H⟩ := bind_some H
    refine LAt.callV tOk [.rd, .rd] [.box 3] (spec_PutRow n r2.1 r2.2 r4 er4) kr kr kr kr (.inr (rets_cons (Vtab.row_mine _) (rets_cons (mine_cons mine_lit mine_nil) rets_nil))) ?_
    refine LAt.movT tOk (ty := 30) (t := 32) (d := 29) (g := none) [(true, (Vtab.row r4.1)), (false, [cB r4.2])] _ kr (.inl rfl) kr kr kr kr rfl ?_
    refine LAt.runU tOk 5 kr ?_
    refine LAt.doneM 1020 344 kr ?_
    refine Tr.seq ?_
    refine Tr.seq ?_
    refine Tr.mid (ι := Bool) (fun v => ⟨105, 0, [sB 47 v, sB 9 r4.2, sB 7 r3.2, sA 6 6 2 0, sI 5 (r2.1.Pvid.length : Int), sA 4 4 3 0, sA 3 3 2 0, sB 2 false], [(6, (Vtab.row r3.1)), (4, (Vrow.row r2.2)), (3, (Vtab.row r2.1))]⟩) (fun v => laws_FnNetworks_J1 n r2 r3 r4 v = some r) ?_ ?_
    · refine Tr.at ?_
      refine LAt.runU tOk 4 kr ?_
      refine LAt.to ⟨105, 0, [sB 38 (!(r3.2 == r4.2)), sB 37 (!(r3.2 == r4.2)), sB 36 r4.2, sB 35 r3.2, sB 9 r4.2, sA 8 8 2 0, sB 7 r3.2, sA 6 6 2 0, sI 5 (r2.1.Pvid.length : Int), sA 4 4 3 0, sA 3 3 2 0, sB 2 false], [(8, (Vtab.row r4.1)), (6, (Vtab.row r3.1)), (4, (Vrow.row r2.2)), (3, (Vtab.row r2.1))]⟩ kr ?_
      cases h10 : (!(r3.2 == r4.2))
      · have H := bifF h10 H
        refine LAt.runU tOk 2 kr ?_
        obtain ⟨r15, er15, H⟩ := bind_some H
        refine LAt.callV tOk [.rd, .rd] [.box 6, .box 8] (laws_sameVtab n r3.1 r4.1 r15 er15) kr kr kr kr (.inr (rets_cons (mine_cons mine_lit mine_nil) rets_nil)) ?_
        refine LAt.runU tOk 3 kr ?_
        refine LAt.to ⟨105, 0, [sB 44 (!r15), sB 43 (!r15), sB 42 (!r15), sB 41 r15, sR 40 8 2 0 2 true, sR 39 6 2 0 2 true, sB 38 false, sB 37 false, sB 36 r4.2, sB 35 r3.2, sB 9 r4.2, sA 8 8 2 0, sB 7 r3.2, sA 6 6 2 0, sI 5 (r2.1.Pvid.length : Int), sA 4 4 3 0, sA 3 3 2 0, sB 2 false], [(8, (Vtab.row r4.1)), (6, (Vtab.row r3.1)), (4, (Vrow.row r2.2)), (3, (Vtab.row r2.1))]⟩ kr ?_
        cases h11 : (!r15)
        · have H := bifF h11 H
          refine LAt.runU tOk 3 kr ?_
          refine LAt.doneM 140737488356092 88 kr ?_
          exact Exists.intro (!r3.2) (And.intro H (St.sub_of [47, 9, 7, 6, 5, 4, 3, 2] [6, 4, 3] kr))
        have H := bifT h11 H
        refine LAt.runU tOk 3 kr ?_
        refine LAt.doneM 140737488356092 88 kr ?_
        exact Exists.intro true (And.intro H (St.sub_of [47, 9, 7, 6, 5, 4, 3, 2] [6, 4, 3] kr))
      have H := bifT h10 H
      refine LAt.runU tOk 9 kr ?_
      refine LAt.doneM 140737488356092 88 kr ?_
      exact Exists.intro true (And.intro H (St.sub_of [47, 9, 7, 6, 5, 4, 3, 2] [6, 4, 3] kr))
    rintro y5 H
    have H : (laws_FnNetworks_J1 n r2 r3 r4 y5) = some r := H
    unfold laws_FnNetworks_J1 at H
    show Tr _ _ _ _ _
    cases h2 : y5
    · have H := bifF h2 H
      refine Tr.cf kr ?_
      refine Tr.skip ?_
      show Tr _ _ _ _ _
      refine Tr.rs ?_
      refine LAt.runU tOk 3 kr ?_
      obtain ⟨r6, er6, H⟩ := bind_some H
      refine LAt.callV tOk [.rd, .rd] [.box 6] (impl_RowAt n r3.1 r2.2.Id r6 er6) kr kr kr kr (.inr (rets_cons (mine_cons mine_lit mine_nil) rets_nil)) ?_
      refine LAt.runU tOk 1 kr ?_
      refine LAt.doneM 1140 80 kr ?_
      refine Tr.rs ?_
      refine LAt.runU tOk 3 kr ?_
      obtain ⟨r7, er7, H⟩ := bind_some H
      refine LAt.callV tOk [.rd, .rd] [.box 6] (impl_DropRow n r3.1 r2.2.Id r7 er7) kr kr kr kr (.inr (rets_cons (Vtab.row_mine _) (rets_cons (mine_cons mine_lit mine_nil) rets_nil))) ?_
      refine LAt.movT tOk (ty := 30) (t := 64) (d := 60) (g := none) [(true, (Vtab.row r7.1)), (false, [cB r7.2])] _ kr (.inl rfl) kr kr kr kr rfl ?_
      refine LAt.runU tOk 5 kr ?_
      refine LAt.doneM 7284 2128 kr ?_
      refine Tr.seq ?_
      refine Tr.to ⟨105, 0, [sB 12 r7.2, sA 11 11 2 0, sI 10 r6, sA 6 6 2 0, sI 5 (r2.1.Pvid.length : Int), sA 4 4 3 0, sB 2 false], [(11, (Vtab.row r7.1)), (6, (Vtab.row r3.1)), (4, (Vrow.row r2.2))]⟩ kr ?_
      cases h3 : (decide (r6 < 0))
      · have H := bifF h3 H
        obtain ⟨v8, ev8, H⟩ := bind_some H
        refine Tr.to ⟨105, 0, [sB 12 r7.2, sA 11 11 2 0, sI 10 r6, sA 6 6 2 0, sI 5 (r2.1.Pvid.length : Int), sA 4 4 3 0, sB 2 false], [(11, (Vtab.row r7.1)), (6, (Vtab.row r3.1)), (4, (Vrow.row r2.2))]⟩ kr ?_
        cases h4 : (!((v8.Id == r2.2.Id) && ((v8.Members == r2.2.Members) && ((v8.Bare == r2.2.Bare) && true))))
        · have H := bifF h4 H
          obtain ⟨r9, er9, H⟩ := bind_some H
          refine Tr.draws mixed 17 kr ⟨105, 0, [sB 83 (!r9), sB 12 r7.2, sA 11 11 2 0, sA 6 6 2 0, sI 5 (r2.1.Pvid.length : Int), sA 4 4 3 0, sB 2 false], [(11, (Vtab.row r7.1)), (6, (Vtab.row r3.1)), (4, (Vrow.row r2.2))]⟩ (fun cx => ?_) ?_
          · refine AT.runU tOk [(0, []), (1, []), (2, [])] 14 [] [2, 1, 0] rfl kr (fun cx => ?_)
            refine AT.to ⟨105, 0, [sB 69 (decide (r6 < 0)), sB 68 (decide (r6 < 0)), sI 67 r6, sB 12 r7.2, sA 11 11 2 0, sI 10 r6, sA 6 6 2 0, sI 5 (r2.1.Pvid.length : Int), sA 4 4 3 0, sB 2 false], [(11, (Vtab.row r7.1)), (6, (Vtab.row r3.1)), (4, (Vrow.row r2.2))]⟩ kr ?_
            rw [h3]
            refine AT.runU tOk [(3, []), (4, [9, 14]), (5, [])] 11 [⟨[9, 14], 27, 70, 71⟩] [5, 4, 3, 2, 1, 0] rfl kr (fun cx => ?_)
            refine AT.indexO tOk 6 (t := 27) (ty := 0) (x := (.tmp 71)) (y := (.tmp 72)) (d := 73) (g := (some (2, false))) ⟨(.box 6), [(0, 0)], 0, true, 3, (r3.1.Rows.map Vrow.row)⟩ r6 (r6.toNat) (Vrow.row v8) _ kr kr kr kr kr kr rfl kr (idx_isE ev8) rfl rfl (fun cx => ?_)
            refine AT.runU tOk [(8, [9, 14])] 9 [⟨[9, 14], 56, 4, 75⟩, ⟨[9, 14], 27, 70, 71⟩] [8, 6, 5, 4, 3, 2, 1, 0] rfl kr (fun cx => ?_)
            refine AT.big1 tOk 7 kr kr ?_
            refine LAt.loadE tOk (t := 56) (ty := 56) (x := (.tmp 73)) (d := 74) (g := (some (2, false))) ⟨.st [(0, 1, 3), (1, 1, 3), (2, 1, 3)], 3, 24, [.lit (.int .i64 0), .lit (.int .i64 0), .lit (.int .i64 0)]⟩ (.box 6) [(0, 0), (0, (r6.toNat))] 3 0 [.sl true 2 [(Vtab.row r3.1)]] (Vrow.row v8) _ kr kr kr kr kr (getQ_elemB rfl (idx_get ev8).2) rfl (by intro h; cases h) kr kr rfl ?_
            refine LAt.fin kr (And.intro (And.intro kr kr) ?_)
            refine AT.big1 tOk 9 kr kr ?_
            refine LAt.eqSG true (t := 56) (ty := 56) (ty' := 4) (x := (.tmp 74)) (y := (.tmp 75)) (d := 76) (g := (some (2, false))) ((v8.Id == r2.2.Id) && ((v8.Members == r2.2.Members) && ((v8.Bare == r2.2.Bare) && true))) _ kr kr kr kr rfl ?_
            refine LAt.fin kr (And.intro (And.intro kr kr) ?_)
            refine AT.runU tOk [(10, []), (11, [])] 5 [⟨[9, 14], 56, 4, 75⟩, ⟨[9, 14], 27, 70, 71⟩] [11, 10, 9, 7, 8, 6, 5, 4, 3, 2, 1, 0] rfl kr (fun cx => ?_)
            refine AT.to ⟨105, 0, [sB 78 (!((v8.Id == r2.2.Id) && ((v8.Members == r2.2.Members) && ((v8.Bare == r2.2.Bare) && true)))), sB 77 (!((v8.Id == r2.2.Id) && ((v8.Members == r2.2.Members) && ((v8.Bare == r2.2.Bare) && true)))), sB 76 (!((v8.Id == r2.2.Id) && ((v8.Members == r2.2.Members) && ((v8.Bare == r2.2.Bare) && true)))), sV 74 (Vrow.row v8), sV 75 (Vrow.row r2.2), (73, .adr (.box 6) [(0, 0), (0, (r6.toNat))] 3 0), sI 72 r6, sR 71 6 2 0 1 false, sA 70 6 2 0, sB 69 false, sB 68 false, sI 67 r6, sB 12 r7.2, sA 11 11 2 0, sI 10 r6, sA 6 6 2 0, sI 5 (r2.1.Pvid.length : Int), sA 4 4 3 0, sB 2 false], [(11, (Vtab.row r7.1)), (6, (Vtab.row r3.1)), (4, (Vrow.row r2.2))]⟩ kr ?_
            rw [h4]
            refine AT.runU tOk [(12, [14]), (13, [])] 3 [⟨[14], 29, 6, 79⟩, ⟨[9, 14], 56, 4, 75⟩, ⟨[9, 14], 27, 70, 71⟩] [13, 12, 11, 10, 9, 7, 8, 6, 5, 4, 3, 2, 1, 0] rfl kr (fun cx => ?_)
            refine AT.big1 tOk 14 kr kr ?_
            refine LAt.callV tOk [.rd, .rd] [.box 6] (impl_VtabOk n r3.1 (r2.1.Pvid.length : Int) r9 er9) kr kr kr kr (.inr (rets_cons (mine_cons mine_lit mine_nil) rets_nil)) ?_
            refine LAt.fin kr (And.intro (And.intro kr kr) ?_)
            refine AT.runU tOk [(15, []), (16, [])] 0 [⟨[14], 29, 6, 79⟩, ⟨[9, 14], 56, 4, 75⟩, ⟨[9, 14], 27, 70, 71⟩] [16, 15, 14, 13, 12, 11, 10, 9, 7, 8, 6, 5, 4, 3, 2, 1, 0] rfl kr (fun cx => ?_)
            exact AT.done [83, 12, 11, 6, 5, 4, 2] [11, 6, 4] _ kr kr rfl
          refine Tr.to ⟨105, 0, [sB 83 (!r9), sB 12 r7.2, sA 11 11 2 0, sA 6 6 2 0, sI 5 (r2.1.Pvid.length : Int), sA 4 4 3 0, sB 2 false], [(11, (Vtab.row r7.1)), (6, (Vtab.row r3.1)), (4, (Vrow.row r2.2))]⟩ kr ?_
          cases h5 : (!r9)
          · have H := bifF h5 H
            refine Tr.cf kr ?_
            refine Tr.skip ?_
            show Tr _ _ _ _ _
            refine Tr.seq ?_
            refine Tr.rgn tOk 1 19342813113834066795300980 2128 kr kr ?_
            cases h6 : r7.2
            · have H := bifF h6 H
              refine Tr.cf kr ?_
              refine Tr.skip ?_
              show Tr _ _ _ _ _
              refine Tr.rs ?_
              refine LAt.runU tOk 4 kr ?_
              obtain ⟨r10, er10, H⟩ := bind_some H
              refine LAt.callV tOk [.rd, .rd] [.box 6] (laws_has n r3.1.Pvid r2.2.Id r10 er10) kr kr kr kr (.inr (rets_cons (mine_cons mine_lit mine_nil) rets_nil)) ?_
              refine LAt.runU tOk 1 kr ?_
              refine LAt.to ⟨105, 0, [sB 100 r10, sB 99 r10, sI 98 r2.2.Id, sA 97 4 3 0, sR 96 6 2 1 1 false, sA 95 6 2 1, sB 84 false, sA 11 11 2 0, sA 6 6 2 0, sI 5 (r2.1.Pvid.length : Int), sA 4 4 3 0, sB 2 false], [(11, (Vtab.row r7.1)), (6, (Vtab.row r3.1)), (4, (Vrow.row r2.2))]⟩ kr ?_
              cases h7 : r10
              · have H := bifF h7 H
                refine LAt.runU tOk 5 kr ?_
                refine LAt.doneM 4 0 kr ?_
                refine Tr.ret ?_
                have H := Option.some.inj H
                subst H
                exact Fin.of _ [(false, [cB false])] kr rfl rfl
              have H := bifT h7 H
              refine LAt.runU tOk 2 kr ?_
              obtain ⟨r11, er11, H⟩ := bind_some H
              refine LAt.callV tOk [.rd, .rd] [.box 11, .box 6] (laws_sameVtab n r7.1 r3.1 r11 er11) kr kr kr kr (.inr (rets_cons (mine_cons mine_lit mine_nil) rets_nil)) ?_
              refine LAt.runU tOk 2 kr ?_
              refine LAt.doneM 4 0 kr ?_
              refine Tr.ret ?_
              have H := Option.some.inj H
              subst H
              exact Fin.of _ [(false, [cB r11])] kr rfl rfl
            have H := bifT h6 H
            refine Tr.ct kr ?_
            refine Tr.rs ?_
            refine LAt.runU tOk 3 kr ?_
            obtain ⟨r12, er12, H⟩ := bind_some H
            refine LAt.callV tOk [.rd, .rd] [.box 11] (impl_RowAt n r7.1 r2.2.Id r12 er12) kr kr kr kr (.inr (rets_cons (mine_cons mine_lit mine_nil) rets_nil)) ?_
            refine LAt.runU tOk 2 kr ?_
            refine LAt.to ⟨105, 0, [sB 90 (r12 == (-1)), sB 89 (r12 == (-1)), sI 88 r12, sI 87 r2.2.Id, sA 86 4 3 0, sR 85 11 2 0 2 true, sB 84 true, sA 11 11 2 0, sA 6 6 2 0, sI 5 (r2.1.Pvid.length : Int), sA 4 4 3 0, sB 2 false], [(11, (Vtab.row r7.1)), (6, (Vtab.row r3.1)), (4, (Vrow.row r2.2))]⟩ kr ?_
            cases h8 : (r12 == (-1))
            · have H := bifF h8 H
              refine LAt.runU tOk 5 kr ?_
              refine LAt.doneM 2132 2128 kr ?_
              refine Tr.ret ?_
              have H := Option.some.inj H
              subst H
              exact Fin.of _ [(false, [cB false])] kr rfl rfl
            have H := bifT h8 H
            refine LAt.runU tOk 2 kr ?_
            obtain ⟨r13, er13, H⟩ := bind_some H
            refine LAt.callV tOk [.rd, .rd] [.box 11] (impl_VtabOk n r7.1 (r2.1.Pvid.length : Int) r13 er13) kr kr kr kr (.inr (rets_cons (mine_cons mine_lit mine_nil) rets_nil)) ?_
            refine LAt.runU tOk 2 kr ?_
            refine LAt.doneM 2132 2128 kr ?_
            refine Tr.ret ?_
            have H := Option.some.inj H
            subst H
            exact Fin.of _ [(false, [cB r13])] kr rfl rfl
          have H := bifT h5 H
          refine Tr.ct kr ?_
          refine Tr.rgn tOk 1 6260 2128 kr kr ?_
          refine Tr.ret ?_
          have H := Option.some.inj H
          subst H
          exact Fin.of _ [(false, [cB false])] kr rfl rfl
        have H := bifT h4 H
        refine Tr.draws mixed 17 kr ⟨105, 0, [sB 83 true, sB 12 r7.2, sA 11 11 2 0, sA 6 6 2 0, sI 5 (r2.1.Pvid.length : Int), sA 4 4 3 0, sB 2 false], [(11, (Vtab.row r7.1)), (6, (Vtab.row r3.1)), (4, (Vrow.row r2.2))]⟩ (fun cx => ?_) ?_
        · refine AT.runU tOk [(0, []), (1, []), (2, [])] 14 [] [2, 1, 0] rfl kr (fun cx => ?_)
          refine AT.to ⟨105, 0, [sB 69 (decide (r6 < 0)), sB 68 (decide (r6 < 0)), sI 67 r6, sB 12 r7.2, sA 11 11 2 0, sI 10 r6, sA 6 6 2 0, sI 5 (r2.1.Pvid.length : Int), sA 4 4 3 0, sB 2 false], [(11, (Vtab.row r7.1)), (6, (Vtab.row r3.1)), (4, (Vrow.row r2.2))]⟩ kr ?_
          rw [h3]
          refine AT.runU tOk [(3, []), (4, [9]), (5, [])] 11 [⟨[9], 27, 70, 71⟩] [5, 4, 3, 2, 1, 0] rfl kr (fun cx => ?_)
          refine AT.indexO tOk 6 (t := 27) (ty := 0) (x := (.tmp 71)) (y := (.tmp 72)) (d := 73) (g := (some (2, false))) ⟨(.box 6), [(0, 0)], 0, true, 3, (r3.1.Rows.map Vrow.row)⟩ r6 (r6.toNat) (Vrow.row v8) _ kr kr kr kr kr kr rfl kr (idx_isE ev8) rfl rfl (fun cx => ?_)
          refine AT.runU tOk [(8, [9])] 9 [⟨[9], 56, 4, 75⟩, ⟨[9], 27, 70, 71⟩] [8, 6, 5, 4, 3, 2, 1, 0] rfl kr (fun cx => ?_)
          refine AT.big1 tOk 7 kr kr ?_
          refine LAt.loadE tOk (t := 56) (ty := 56) (x := (.tmp 73)) (d := 74) (g := (some (2, false))) ⟨.st [(0, 1, 3), (1, 1, 3), (2, 1, 3)], 3, 24, [.lit (.int .i64 0), .lit (.int .i64 0), .lit (.int .i64 0)]⟩ (.box 6) [(0, 0), (0, (r6.toNat))] 3 0 [.sl true 2 [(Vtab.row r3.1)]] (Vrow.row v8) _ kr kr kr kr kr (getQ_elemB rfl (idx_get ev8).2) rfl (by intro h; cases h) kr kr rfl ?_
          refine LAt.fin kr (And.intro (And.intro kr kr) ?_)
          refine AT.big1 tOk 9 kr kr ?_
          refine LAt.eqSG true (t := 56) (ty := 56) (ty' := 4) (x := (.tmp 74)) (y := (.tmp 75)) (d := 76) (g := (some (2, false))) ((v8.Id == r2.2.Id) && ((v8.Members == r2.2.Members) && ((v8.Bare == r2.2.Bare) && true))) _ kr kr kr kr rfl ?_
          refine LAt.fin kr (And.intro (And.intro kr kr) ?_)
          refine AT.runU tOk [(10, []), (11, [])] 5 [⟨[9], 56, 4, 75⟩, ⟨[9], 27, 70, 71⟩] [11, 10, 9, 7, 8, 6, 5, 4, 3, 2, 1, 0] rfl kr (fun cx => ?_)
          refine AT.to ⟨105, 0, [sB 78 (!((v8.Id == r2.2.Id) && ((v8.Members == r2.2.Members) && ((v8.Bare == r2.2.Bare) && true)))), sB 77 (!((v8.Id == r2.2.Id) && ((v8.Members == r2.2.Members) && ((v8.Bare == r2.2.Bare) && true)))), sB 76 (!((v8.Id == r2.2.Id) && ((v8.Members == r2.2.Members) && ((v8.Bare == r2.2.Bare) && true)))), sV 74 (Vrow.row v8), sV 75 (Vrow.row r2.2), (73, .adr (.box 6) [(0, 0), (0, (r6.toNat))] 3 0), sI 72 r6, sR 71 6 2 0 1 false, sA 70 6 2 0, sB 69 false, sB 68 false, sI 67 r6, sB 12 r7.2, sA 11 11 2 0, sI 10 r6, sA 6 6 2 0, sI 5 (r2.1.Pvid.length : Int), sA 4 4 3 0, sB 2 false], [(11, (Vtab.row r7.1)), (6, (Vtab.row r3.1)), (4, (Vrow.row r2.2))]⟩ kr ?_
          rw [h4]
          refine AT.runU tOk [(12, []), (13, []), (14, []), (15, []), (16, [])] 0 [⟨[9], 56, 4, 75⟩, ⟨[9], 27, 70, 71⟩] [16, 15, 14, 13, 12, 11, 10, 9, 7, 8, 6, 5, 4, 3, 2, 1, 0] rfl kr (fun cx => ?_)
          exact AT.done [83, 12, 11, 6, 5, 4, 2] [11, 6, 4] _ kr kr rfl
        refine Tr.ct kr ?_
        refine Tr.rgn tOk 1 6260 2128 kr kr ?_
        refine Tr.ret ?_
        have H := Option.some.inj H
        subst H
        exact Fin.of _ [(false, [cB false])] kr rfl rfl
      have H := bifT h3 H
      refine Tr.draws mixed 17 kr ⟨105, 0, [sB 83 true, sB 12 r7.2, sA 11 11 2 0, sA 6 6 2 0, sI 5 (r2.1.Pvid.length : Int), sA 4 4 3 0, sB 2 false], [(11, (Vtab.row r7.1)), (6, (Vtab.row r3.1)), (4, (Vrow.row r2.2))]⟩ (fun cx => ?_) ?_
      · refine AT.runU tOk [(0, []), (1, []), (2, [])] 14 [] [2, 1, 0] rfl kr (fun cx => ?_)
        refine AT.to ⟨105, 0, [sB 69 (decide (r6 < 0)), sB 68 (decide (r6 < 0)), sI 67 r6, sB 12 r7.2, sA 11 11 2 0, sI 10 r6, sA 6 6 2 0, sI 5 (r2.1.Pvid.length : Int), sA 4 4 3 0, sB 2 false], [(11, (Vtab.row r7.1)), (6, (Vtab.row r3.1)), (4, (Vrow.row r2.2))]⟩ kr ?_
        rw [h3]
        refine AT.runU tOk [(3, []), (4, []), (5, []), (6, []), (7, []), (8, []), (9, []), (10, []), (11, []), (12, []), (13, []), (14, []), (15, []), (16, [])] 0 [] [16, 15, 14, 13, 12, 11, 10, 9, 8, 7, 6, 5, 4, 3, 2, 1, 0] rfl kr (fun cx => ?_)
        exact AT.done [83, 12, 11, 6, 5, 4, 2] [11, 6, 4] _ kr kr rfl
      refine Tr.ct kr ?_
      refine Tr.rgn tOk 1 6260 2128 kr kr ?_
      refine Tr.ret ?_
      have H := Option.some.inj H
      subst H
      exact Fin.of _ [(false, [cB false])] kr rfl rfl
    have H := bifT h2 H
    refine Tr.ct kr ?_
    refine Tr.rs ?_
    refine LAt.runU tOk 4 kr ?_
    refine LAt.to ⟨105, 0, [sB 51 (r3.2 == r4.2), sB 50 (r3.2 == r4.2), sB 49 r4.2, sB 48 r3.2, sB 47 true, sB 9 r4.2, sB 7 r3.2, sA 6 6 2 0, sI 5 (r2.1.Pvid.length : Int), sA 4 4 3 0, sA 3 3 2 0, sB 2 false], [(6, (Vtab.row r3.1)), (4, (Vrow.row r2.2)), (3, (Vtab.row r2.1))]⟩ kr ?_
    cases h9 : (r3.2 == r4.2)
    · have H := bifF h9 H
      refine LAt.runU tOk 5 kr ?_
      refine LAt.doneM 116 80 kr ?_
      refine Tr.ret ?_
      have H := Option.some.inj H
      subst H
      exact Fin.of _ [(false, [cB false])] kr rfl rfl
    have H := bifT h9 H
    refine LAt.runU tOk 2 kr ?_
    obtain ⟨r14, er14, H⟩ := bind_some H
    refine LAt.callV tOk [.rd, .rd] [.box 6, .box 3] (laws_sameVtab n r3.1 r2.1 r14 er14) kr kr kr kr (.inr (rets_cons (mine_cons mine_lit mine_nil) rets_nil)) ?_
    refine LAt.runU tOk 2 kr ?_
    refine LAt.doneM 116 80 kr ?_
    refine Tr.ret ?_
    have H := Option.some.inj H
    subst H
    exact Fin.of _ [(false, [cB r14])] kr rfl rfl
  have H := bifT h1 H
  refine Tr.ct kr ?_
  refine Tr.rgn tOk 1 5 0 kr kr ?_
  refine Tr.ret ?_
  have H := Option.some.inj H
  subst H
  exact Fin.of _ [(false, [cB true])] kr rfl rfl
end Go.Proofs.Ytgpcfaiacggoiaa.Tw
