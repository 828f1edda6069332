/- Functions of the program, over trees. -/
import Derived.Test.YtgpcfaiacggoiaaProg
import Derived.Test.YtgpcfaiacggoiaaTlRule
import Derived.Test.YtgpcfaiacggoiaaTlU3
import Derived.Test.YtgpcfaiacggoiaaTwBN0
import Derived.WalkKit
set_option linter.unusedVariables false
set_option linter.unusedSimpArgs false
set_option maxRecDepth 100000
set_option maxHeartbeats 1000000
namespace Go.Proofs.Ytgpcfaiacggoiaa.Tw
open Go Go.TL Go.Proofs


def laws_markVrowS_J1 (n : Nat) (y4 : (List Vrow)) (y5 : Int) : Option (Int × (List Vrow)) :=
  (some (y5, y4))
def laws_markVrowS_L2 (n : Nat) : Nat → Int → (List Vrow) → Int → Option (((List Vrow) × Int) ⊕ (Int × (List Vrow)))
  | 0, _, _, _ => none
  | mo6 + 1, y1, y2, y3 => (bif (decide (y1 < (y2.length : Int))) then ((idx y2 y1).bind fun v7 => ((idx (y2.set (y1.toNat) (⟨y3, v7.Members, v7.Bare⟩ : Vrow)) y1).bind fun v8 => ((idx ((y2.set (y1.toNat) (⟨y3, v7.Members, v7.Bare⟩ : Vrow)).set (y1.toNat) (⟨v8.Id, (IntKind.wrap .i64 (y3 + 1)), v8.Bare⟩ : Vrow)) y1).bind fun v9 => (laws_markVrowS_L2 n mo6 (IntKind.wrap .i64 (y1 + 1)) (((y2.set (y1.toNat) (⟨y3, v7.Members, v7.Bare⟩ : Vrow)).set (y1.toNat) (⟨v8.Id, (IntKind.wrap .i64 (y3 + 1)), v8.Bare⟩ : Vrow)).set (y1.toNat) (⟨v9.Id, v9.Members, (IntKind.wrap .i64 ((IntKind.wrap .i64 (y3 + 1)) + 1))⟩ : Vrow)) (IntKind.wrap .i64 ((IntKind.wrap .i64 ((IntKind.wrap .i64 (y3 + 1)) + 1)) + 1)))))) else (some (Sum.inl (y2, y3))))
def laws_markVrowSF (n : Nat) (x0 : (List Vrow)) (x1 : Int) : Option (Int × (List Vrow)) :=
  ((laws_markVrowS_L2 n n 0 x0 x1).bind fun o => match o with | .inl (y4, y5) => (laws_markVrowS_J1 n y4 y5) | .inr r => some r)
/-- loop.example/g00326/laws.markVrowS -/
theorem laws_markVrowS (n : Nat) (x0 : (List Vrow)) (x1 : Int) (r : Int × (List Vrow)) (H : laws_markVrowSF n x0 x1 = some r) : LCall Try.prog 86 [.io false [.sl true 3 (x0.map Vrow.row)], .val false [.lit (.int .i64 x1)]] [.val false [.lit (.int .i64 r.1)]] [(0, [.sl true 3 (r.2.map Vrow.row)])] := by
  refine LCall.of_body tOk Try.func86 rfl (c := (.seq (.region 0 (rg Try.f86 0) false) (.seq (.seq (.region 1 (rg Try.f86 1) false) (.block 0 (.loop (.seq (.seq (.region 2 (rg Try.f86 2) false) (.cond (.tmp 9) .skip (.exit 0))) (.seq (.block 1 (.seq (.region 4 (rg Try.f86 4) false) (.seq (.region 5 (rg Try.f86 5) false) (.seq (.region 6 (rg Try.f86 6) false) (.seq (.region 7 (rg Try.f86 7) false) (.seq (.region 8 (rg Try.f86 8) false) (.region 9 (rg Try.f86 9) false))))))) (.region 3 (rg Try.f86 3) false)))))) (.seq (.region 10 (rg Try.f86 10) false) .ret)))) (by kernel_rfl) (Nat.le_of_ble_eq_true (by kernel_rfl)) 1 (rs := [.tmp 4]) rfl [0] (by decide) [(false, [.lit (.int .i64 r.1)])] [[.sl true 3 (r.2.map Vrow.row)]] [] fun cx => ?_
  show Tr _ _ _ ⟨34, 1, [(0, .val false [.sl true 3 (x0.map Vrow.row)]), (1, .val false [.lit (.int .i64 x1)])], []⟩ _
  unfold laws_markVrowSF at H
  refine Tr.rs ?_
  refine LAt.runU tOk 1 (by kernel_rfl) ?_
  refine LAt.doneU [4, 0, 1] [] (by kernel_rfl) ?_
  refine Tr.seq ?_
  refine Tr.rs ?_
  refine LAt.runU tOk 1 (by kernel_rfl) ?_
  refine LAt.doneU [5, 4, 0, 1] [] (by kernel_rfl) ?_
  obtain ⟨o6, eo6, Ho6⟩ := bind_some H
  clear H
  refine Tr.mid (ι := (List Vrow) × Int) (fun v => ⟨34, 1, [(4, .val false [.lit (.int .i64 0)]), (0, .val false [.sl true 3 (v.1.map Vrow.row)]), (1, .val false [.lit (.int .i64 v.2)])], []⟩) (fun v => laws_markVrowS_J1 n v.1 v.2 = some r) ?_ ?_
  · refine Tr.block ?_
    refine Tr.loop (ι := Nat × (Int × (List Vrow) × Int)) (fun v => ⟨34, 1, [(5, .val false [.lit (.int .i64 v.2.1)]), (4, .val false [.lit (.int .i64 0)]), (0, .val false [.sl true 3 (v.2.2.1.map Vrow.row)]), (1, .val false [.lit (.int .i64 v.2.2.2)])], []⟩) (fun v => laws_markVrowS_L2 n v.1 v.2.1 v.2.2.1 v.2.2.2 = some o6) (fun v => v.1) (n, (0, x0, x1)) eo6 (St.sub_of [5, 4, 0, 1] [] (by kernel_rfl)) ?_
    rintro ⟨mo6, y1, y2, y3⟩ H
    have H : laws_markVrowS_L2 n mo6 y1 y2 y3 = some o6 := H
    obtain _ | mo6 := mo6
    · cases (show (none : Option _) = some o6 from H)
    · rw [laws_markVrowS_L2] at H
      refine Tr.seq ?_
      refine Tr.rs ?_
      refine LAt.runU tOk 2 (by kernel_rfl) ?_
      refine LAt.lenE tOk (t := 27) (ty := 3) (e := 56) (x := (.tmp 7)) (d := 8) (g := none) ⟨(.slot 0), [], 0, true, 3, (y2.map Vrow.row)⟩ (y2).length _ (by kernel_rfl) (by kernel_rfl) (by kernel_rfl) (by kernel_rfl) (by kernel_rfl) (map_len _ _) rfl ?_
      refine LAt.runU tOk 1 (by kernel_rfl) ?_
      refine LAt.doneU [9, 8, 7, 6, 5, 4, 0, 1] [] (by kernel_rfl) ?_
      refine Tr.to ⟨34, 1, [(9, .val false [.lit (.bool (decide (y1 < (y2.length : Int))))]), (8, .val false [.lit (.int .i64 (y2.length : Int))]), (7, .ref (.slot 0) [] 0 0 1 false), (6, .val false [.lit (.int .i64 y1)]), (5, .val false [.lit (.int .i64 y1)]), (4, .val false [.lit (.int .i64 0)]), (0, .val false [.sl true 3 (y2.map Vrow.row)]), (1, .val false [.lit (.int .i64 y3)])], []⟩ (by kernel_rfl) ?_
      cases h1 : (decide (y1 < (y2.length : Int)))
      · have H := bifF h1 H
        refine Tr.cond (b := false) (by kernel_rfl) (fun h => nomatch h) (fun _ => ?_)
        refine Tr.exit ?_
        refine And.intro (fun _ => ?_) (fun h => absurd rfl h)
        have H := Option.some.inj H
        subst H
        have H := Ho6
        dsimp only at H
        exact Exists.intro (y2, y3) (And.intro H (St.sub_of [4, 0, 1] [] (by kernel_rfl)))
      · have H := bifT h1 H
        refine Tr.cond (b := true) (by kernel_rfl) (fun _ => ?_) (fun h => nomatch h)
        refine Tr.skip ?_
        show Tr _ _ _ _ _
        refine Tr.seq ?_
        refine Tr.block ?_
        refine Tr.rs ?_
        refine LAt.runU tOk 3 (by kernel_rfl) ?_
        obtain ⟨v7, ev7, H⟩ := bind_some H
        refine LAt.indexO tOk (t := 27) (ty := 0) (x := (.tmp 12)) (y := (.tmp 13)) (d := 15) (g := none) ⟨(.slot 0), [], 0, true, 3, (y2.map Vrow.row)⟩ y1 (y1.toNat) (Vrow.row v7) _ (by kernel_rfl) (by kernel_rfl) (by kernel_rfl) (by kernel_rfl) rfl (by kernel_rfl) (idx_isE ev7) rfl rfl ?_
        refine LAt.runU tOk 1 (by kernel_rfl) ?_
        refine LAt.storeU tOk (t := 3) (ty := 0) (ad := (.tmp 16)) (x := (.tmp 14)) (g := none) ⟨.int .i64, 1, 8, [.lit (.int .i64 0)]⟩ false [.lit (.int .i64 y3)] (.slot 0) [(0, (y1.toNat))] [(0, (y1.toNat))] 3 0 [.sl true 3 (y2.map Vrow.row)] (Vrow.row v7) [.sl true 3 (y2.map Vrow.row)] [.sl true 3 ((y2.set (y1.toNat) (⟨y3, v7.Members, v7.Bare⟩ : Vrow)).map Vrow.row)] (by kernel_rfl) (by kernel_rfl) (by kernel_rfl) (by kernel_rfl) (by kernel_rfl) (by kernel_rfl) (getQ_elem rfl (idx_get ev7).2) rfl (by intro h; cases h) (by kernel_rfl) (by kernel_rfl) (by kernel_rfl) (modQ_elem (new := (⟨y3, v7.Members, v7.Bare⟩ : Vrow)) rfl (idx_get ev7).2 rfl) (by kernel_rfl) ?_
        refine LAt.doneU [0, 16, 15, 14, 13, 9, 8, 6, 5, 4, 1] [] (by kernel_rfl) ?_
        refine Tr.rs ?_
        refine LAt.runU tOk 3 (by kernel_rfl) ?_
        refine LAt.doneU [1, 18, 17, 0, 16, 15, 14, 13, 9, 8, 6, 5, 4] [] (by kernel_rfl) ?_
        refine Tr.rs ?_
        refine LAt.runU tOk 3 (by kernel_rfl) ?_
        obtain ⟨v8, ev8, H⟩ := bind_some H
        refine LAt.indexO tOk (t := 27) (ty := 0) (x := (.tmp 19)) (y := (.tmp 20)) (d := 22) (g := none) ⟨(.slot 0), [], 0, true, 3, ((y2.set (y1.toNat) (⟨y3, v7.Members, v7.Bare⟩ : Vrow)).map Vrow.row)⟩ y1 (y1.toNat) (Vrow.row v8) _ (by kernel_rfl) (by kernel_rfl) (by kernel_rfl) (by kernel_rfl) rfl (by kernel_rfl) (idx_isE ev8) rfl rfl ?_
        refine LAt.runU tOk 1 (by kernel_rfl) ?_
        refine LAt.storeU tOk (t := 3) (ty := 0) (ad := (.tmp 23)) (x := (.tmp 21)) (g := none) ⟨.int .i64, 1, 8, [.lit (.int .i64 0)]⟩ false [.lit (.int .i64 (IntKind.wrap .i64 (y3 + 1)))] (.slot 0) [(0, (y1.toNat))] [(0, (y1.toNat))] 3 1 [.sl true 3 ((y2.set (y1.toNat) (⟨y3, v7.Members, v7.Bare⟩ : Vrow)).map Vrow.row)] (Vrow.row v8) [.sl true 3 ((y2.set (y1.toNat) (⟨y3, v7.Members, v7.Bare⟩ : Vrow)).map Vrow.row)] [.sl true 3 (((y2.set (y1.toNat) (⟨y3, v7.Members, v7.Bare⟩ : Vrow)).set (y1.toNat) (⟨v8.Id, (IntKind.wrap .i64 (y3 + 1)), v8.Bare⟩ : Vrow)).map Vrow.row)] (by kernel_rfl) (by kernel_rfl) (by kernel_rfl) (by kernel_rfl) (by kernel_rfl) (by kernel_rfl) (getQ_elem rfl (idx_get ev8).2) rfl (by intro h; cases h) (by kernel_rfl) (by kernel_rfl) (by kernel_rfl) (modQ_elem (new := (⟨v8.Id, (IntKind.wrap .i64 (y3 + 1)), v8.Bare⟩ : Vrow)) rfl (idx_get ev8).2 rfl) (by kernel_rfl) ?_
        refine LAt.doneU [0, 23, 22, 21, 20, 1, 18, 17, 16, 15, 14, 13, 9, 8, 6, 5, 4] [] (by kernel_rfl) ?_
        refine Tr.rs ?_
        refine LAt.runU tOk 3 (by kernel_rfl) ?_
        refine LAt.doneU [1, 25, 24, 0, 23, 22, 21, 20, 18, 17, 16, 15, 14, 13, 9, 8, 6, 5, 4] [] (by kernel_rfl) ?_
        refine Tr.rs ?_
        refine LAt.runU tOk 3 (by kernel_rfl) ?_
        obtain ⟨v9, ev9, H⟩ := bind_some H
        refine LAt.indexO tOk (t := 27) (ty := 0) (x := (.tmp 26)) (y := (.tmp 27)) (d := 29) (g := none) ⟨(.slot 0), [], 0, true, 3, (((y2.set (y1.toNat) (⟨y3, v7.Members, v7.Bare⟩ : Vrow)).set (y1.toNat) (⟨v8.Id, (IntKind.wrap .i64 (y3 + 1)), v8.Bare⟩ : Vrow)).map Vrow.row)⟩ y1 (y1.toNat) (Vrow.row v9) _ (by kernel_rfl) (by kernel_rfl) (by kernel_rfl) (by kernel_rfl) rfl (by kernel_rfl) (idx_isE ev9) rfl rfl ?_
        refine LAt.runU tOk 1 (by kernel_rfl) ?_
        refine LAt.storeU tOk (t := 3) (ty := 0) (ad := (.tmp 30)) (x := (.tmp 28)) (g := none) ⟨.int .i64, 1, 8, [.lit (.int .i64 0)]⟩ false [.lit (.int .i64 (IntKind.wrap .i64 ((IntKind.wrap .i64 (y3 + 1)) + 1)))] (.slot 0) [(0, (y1.toNat))] [(0, (y1.toNat))] 3 2 [.sl true 3 (((y2.set (y1.toNat) (⟨y3, v7.Members, v7.Bare⟩ : Vrow)).set (y1.toNat) (⟨v8.Id, (IntKind.wrap .i64 (y3 + 1)), v8.Bare⟩ : Vrow)).map Vrow.row)] (Vrow.row v9) [.sl true 3 (((y2.set (y1.toNat) (⟨y3, v7.Members, v7.Bare⟩ : Vrow)).set (y1.toNat) (⟨v8.Id, (IntKind.wrap .i64 (y3 + 1)), v8.Bare⟩ : Vrow)).map Vrow.row)] [.sl true 3 ((((y2.set (y1.toNat) (⟨y3, v7.Members, v7.Bare⟩ : Vrow)).set (y1.toNat) (⟨v8.Id, (IntKind.wrap .i64 (y3 + 1)), v8.Bare⟩ : Vrow)).set (y1.toNat) (⟨v9.Id, v9.Members, (IntKind.wrap .i64 ((IntKind.wrap .i64 (y3 + 1)) + 1))⟩ : Vrow)).map Vrow.row)] (by kernel_rfl) (by kernel_rfl) (by kernel_rfl) (by kernel_rfl) (by kernel_rfl) (by kernel_rfl) (getQ_elem rfl (idx_get ev9).2) rfl (by intro h; cases h) (by kernel_rfl) (by kernel_rfl) (by kernel_rfl) (modQ_elem (new := (⟨v9.Id, v9.Members, (IntKind.wrap .i64 ((IntKind.wrap .i64 (y3 + 1)) + 1))⟩ : Vrow)) rfl (idx_get ev9).2 rfl) (by kernel_rfl) ?_
        refine LAt.doneU [0, 30, 29, 28, 27, 1, 25, 24, 23, 22, 21, 20, 18, 17, 16, 15, 14, 13, 9, 8, 6, 5, 4] [] (by kernel_rfl) ?_
        refine Tr.at ?_
        refine LAt.runU tOk 3 (by kernel_rfl) ?_
        refine LAt.doneU [1, 32, 31, 0, 30, 29, 28, 27, 25, 24, 23, 22, 21, 20, 18, 17, 16, 15, 14, 13, 9, 8, 6, 5, 4] [] (by kernel_rfl) ?_
        show Tr _ _ _ _ _
        refine Tr.at ?_
        refine LAt.runU tOk 3 (by kernel_rfl) ?_
        refine LAt.doneU [5, 11, 10, 1, 32, 31, 0, 30, 29, 28, 27, 25, 24, 23, 22, 21, 20, 18, 17, 16, 15, 14, 13, 9, 8, 6, 4] [] (by kernel_rfl) ?_
        exact Exists.intro (mo6, ((IntKind.wrap .i64 (y1 + 1)), (((y2.set (y1.toNat) (⟨y3, v7.Members, v7.Bare⟩ : Vrow)).set (y1.toNat) (⟨v8.Id, (IntKind.wrap .i64 (y3 + 1)), v8.Bare⟩ : Vrow)).set (y1.toNat) (⟨v9.Id, v9.Members, (IntKind.wrap .i64 ((IntKind.wrap .i64 (y3 + 1)) + 1))⟩ : Vrow)), (IntKind.wrap .i64 ((IntKind.wrap .i64 ((IntKind.wrap .i64 (y3 + 1)) + 1)) + 1)))) (And.intro H (And.intro (Nat.lt_succ_self mo6) (St.sub_of [5, 4, 0, 1] [] (by kernel_rfl))))
  · rintro ⟨y4, y5⟩ H
    have H : (laws_markVrowS_J1 n y4 y5) = some r := H
    unfold laws_markVrowS_J1 at H
    show Tr _ _ _ _ _
    refine Tr.rs ?_
    refine LAt.runU tOk 2 (by kernel_rfl) ?_
    refine LAt.doneU [4, 0] [] (by kernel_rfl) ?_
    refine Tr.ret ?_
    have H := Option.some.inj H
    subst H
    exact Fin.ofY _ [(false, [.lit (.int .i64 y5)])] [false] _ [[.sl true 3 (y4.map Vrow.row)]] _ [] (by kernel_rfl) rfl rfl rfl (by kernel_rfl) (by kernel_rfl) (by kernel_rfl) (by kernel_rfl) rfl rfl rfl

def laws_markIntS_J1 (n : Nat) (y4 : (List Int)) (y5 : Int) : Option (Int × (List Int)) :=
  (some (y5, y4))
def laws_markIntS_L2 (n : Nat) : Nat → Int → (List Int) → Int → Option (((List Int) × Int) ⊕ (Int × (List Int)))
  | 0, _, _, _ => none
  | mo6 + 1, y1, y2, y3 => (bif (decide (y1 < (y2.length : Int))) then ((idx y2 y1).bind fun v7 => (laws_markIntS_L2 n mo6 (IntKind.wrap .i64 (y1 + 1)) (y2.set (y1.toNat) y3) (IntKind.wrap .i64 (y3 + 1)))) else (some (Sum.inl (y2, y3))))
def laws_markIntSF (n : Nat) (x0 : (List Int)) (x1 : Int) : Option (Int × (List Int)) :=
  ((laws_markIntS_L2 n n 0 x0 x1).bind fun o => match o with | .inl (y4, y5) => (laws_markIntS_J1 n y4 y5) | .inr r => some r)
/-- loop.example/g00326/laws.markIntS -/
theorem laws_markIntS (n : Nat) (x0 : (List Int)) (x1 : Int) (r : Int × (List Int)) (H : laws_markIntSF n x0 x1 = some r) : LCall Try.prog 87 [.io false [.sl true 1 (x0.map intRow)], .val false [.lit (.int .i64 x1)]] [.val false [.lit (.int .i64 r.1)]] [(0, [.sl true 1 (r.2.map intRow)])] := by
  refine LCall.of_body tOk Try.func87 rfl (c := (.seq (.region 0 (rg Try.f87 0) false) (.seq (.seq (.region 1 (rg Try.f87 1) false) (.block 0 (.loop (.seq (.seq (.region 2 (rg Try.f87 2) false) (.cond (.tmp 9) .skip (.exit 0))) (.seq (.block 1 (.seq (.region 4 (rg Try.f87 4) false) (.region 5 (rg Try.f87 5) false))) (.region 3 (rg Try.f87 3) false)))))) (.seq (.region 6 (rg Try.f87 6) false) .ret)))) (by kernel_rfl) (Nat.le_of_ble_eq_true (by kernel_rfl)) 1 (rs := [.tmp 4]) rfl [0] (by decide) [(false, [.lit (.int .i64 r.1)])] [[.sl true 1 (r.2.map intRow)]] [] fun cx => ?_
  show Tr _ _ _ ⟨19, 1, [(0, .val false [.sl true 1 (x0.map intRow)]), (1, .val false [.lit (.int .i64 x1)])], []⟩ _
  unfold laws_markIntSF at H
  refine Tr.rs ?_
  refine LAt.runU tOk 1 (by kernel_rfl) ?_
  refine LAt.doneU [4, 0, 1] [] (by kernel_rfl) ?_
  refine Tr.seq ?_
  refine Tr.rs ?_
  refine LAt.runU tOk 1 (by kernel_rfl) ?_
  refine LAt.doneU [5, 4, 0, 1] [] (by kernel_rfl) ?_
  obtain ⟨o6, eo6, Ho6⟩ := bind_some H
  clear H
  refine Tr.mid (ι := (List Int) × Int) (fun v => ⟨19, 1, [(4, .val false [.lit (.int .i64 0)]), (0, .val false [.sl true 1 (v.1.map intRow)]), (1, .val false [.lit (.int .i64 v.2)])], []⟩) (fun v => laws_markIntS_J1 n v.1 v.2 = some r) ?_ ?_
  · refine Tr.block ?_
    refine Tr.loop (ι := Nat × (Int × (List Int) × Int)) (fun v => ⟨19, 1, [(5, .val false [.lit (.int .i64 v.2.1)]), (4, .val false [.lit (.int .i64 0)]), (0, .val false [.sl true 1 (v.2.2.1.map intRow)]), (1, .val false [.lit (.int .i64 v.2.2.2)])], []⟩) (fun v => laws_markIntS_L2 n v.1 v.2.1 v.2.2.1 v.2.2.2 = some o6) (fun v => v.1) (n, (0, x0, x1)) eo6 (St.sub_of [5, 4, 0, 1] [] (by kernel_rfl)) ?_
    rintro ⟨mo6, y1, y2, y3⟩ H
    have H : laws_markIntS_L2 n mo6 y1 y2 y3 = some o6 := H
    obtain _ | mo6 := mo6
    · cases (show (none : Option _) = some o6 from H)
    · rw [laws_markIntS_L2] at H
      refine Tr.seq ?_
      refine Tr.rs ?_
      refine LAt.runU tOk 2 (by kernel_rfl) ?_
      refine LAt.lenE tOk (t := 23) (ty := 3) (e := 3) (x := (.tmp 7)) (d := 8) (g := none) ⟨(.slot 0), [], 0, true, 1, (y2.map intRow)⟩ (y2).length _ (by kernel_rfl) (by kernel_rfl) (by kernel_rfl) (by kernel_rfl) (by kernel_rfl) (map_len _ _) rfl ?_
      refine LAt.runU tOk 1 (by kernel_rfl) ?_
      refine LAt.doneU [9, 8, 7, 6, 5, 4, 0, 1] [] (by kernel_rfl) ?_
      refine Tr.to ⟨19, 1, [(9, .val false [.lit (.bool (decide (y1 < (y2.length : Int))))]), (8, .val false [.lit (.int .i64 (y2.length : Int))]), (7, .ref (.slot 0) [] 0 0 1 false), (6, .val false [.lit (.int .i64 y1)]), (5, .val false [.lit (.int .i64 y1)]), (4, .val false [.lit (.int .i64 0)]), (0, .val false [.sl true 1 (y2.map intRow)]), (1, .val false [.lit (.int .i64 y3)])], []⟩ (by kernel_rfl) ?_
      cases h1 : (decide (y1 < (y2.length : Int)))
      · have H := bifF h1 H
        refine Tr.cond (b := false) (by kernel_rfl) (fun h => nomatch h) (fun _ => ?_)
        refine Tr.exit ?_
        refine And.intro (fun _ => ?_) (fun h => absurd rfl h)
        have H := Option.some.inj H
        subst H
        have H := Ho6
        dsimp only at H
        exact Exists.intro (y2, y3) (And.intro H (St.sub_of [4, 0, 1] [] (by kernel_rfl)))
      · have H := bifT h1 H
        refine Tr.cond (b := true) (by kernel_rfl) (fun _ => ?_) (fun h => nomatch h)
        refine Tr.skip ?_
        show Tr _ _ _ _ _
        refine Tr.seq ?_
        refine Tr.block ?_
        refine Tr.rs ?_
        refine LAt.runU tOk 3 (by kernel_rfl) ?_
        obtain ⟨v7, ev7, H⟩ := bind_some H
        refine LAt.indexO tOk (t := 23) (ty := 0) (x := (.tmp 12)) (y := (.tmp 13)) (d := 15) (g := none) ⟨(.slot 0), [], 0, true, 1, (y2.map intRow)⟩ y1 (y1.toNat) (intRow v7) _ (by kernel_rfl) (by kernel_rfl) (by kernel_rfl) (by kernel_rfl) rfl (by kernel_rfl) (idx_isE ev7) rfl rfl ?_
        refine LAt.storeU tOk (t := 3) (ty := 0) (ad := (.tmp 15)) (x := (.tmp 14)) (g := none) ⟨.int .i64, 1, 8, [.lit (.int .i64 0)]⟩ false [.lit (.int .i64 y3)] (.slot 0) [(0, (y1.toNat))] [(0, (y1.toNat))] 1 0 [.sl true 1 (y2.map intRow)] (intRow v7) [.sl true 1 (y2.map intRow)] [.sl true 1 ((y2.set (y1.toNat) y3).map intRow)] (by kernel_rfl) (by kernel_rfl) (by kernel_rfl) (by kernel_rfl) (by kernel_rfl) (by kernel_rfl) (getQ_elem rfl (idx_get ev7).2) rfl (by intro h; cases h) (by kernel_rfl) (by kernel_rfl) (by kernel_rfl) (modQ_elem (new := y3) rfl (idx_get ev7).2 rfl) (by kernel_rfl) ?_
        refine LAt.doneU [0, 15, 14, 13, 9, 8, 6, 5, 4, 1] [] (by kernel_rfl) ?_
        refine Tr.at ?_
        refine LAt.runU tOk 3 (by kernel_rfl) ?_
        refine LAt.doneU [1, 17, 16, 0, 15, 14, 13, 9, 8, 6, 5, 4] [] (by kernel_rfl) ?_
        show Tr _ _ _ _ _
        refine Tr.at ?_
        refine LAt.runU tOk 3 (by kernel_rfl) ?_
        refine LAt.doneU [5, 11, 10, 1, 17, 16, 0, 15, 14, 13, 9, 8, 6, 4] [] (by kernel_rfl) ?_
        exact Exists.intro (mo6, ((IntKind.wrap .i64 (y1 + 1)), (y2.set (y1.toNat) y3), (IntKind.wrap .i64 (y3 + 1)))) (And.intro H (And.intro (Nat.lt_succ_self mo6) (St.sub_of [5, 4, 0, 1] [] (by kernel_rfl))))
  · rintro ⟨y4, y5⟩ H
    have H : (laws_markIntS_J1 n y4 y5) = some r := H
    unfold laws_markIntS_J1 at H
    show Tr _ _ _ _ _
    refine Tr.rs ?_
    refine LAt.runU tOk 2 (by kernel_rfl) ?_
    refine LAt.doneU [4, 0] [] (by kernel_rfl) ?_
    refine Tr.ret ?_
    have H := Option.some.inj H
    subst H
    exact Fin.ofY _ [(false, [.lit (.int .i64 y5)])] [false] _ [[.sl true 1 (y4.map intRow)]] _ [] (by kernel_rfl) rfl rfl rfl (by kernel_rfl) (by kernel_rfl) (by kernel_rfl) (by kernel_rfl) rfl rfl rfl

def laws_markVtabF (n : Nat) (x0 : Vtab) (x1 : Int) : Option (Int × Vtab) :=
  ((laws_markVrowSF n x0.Rows x1).bind fun r1 => ((laws_markIntSF n x0.Pvid r1.1).bind fun r2 => (some (r2.1, (⟨r1.2, r2.2⟩ : Vtab)))))
/-- loop.example/g00326/laws.markVtab -/
theorem laws_markVtab (n : Nat) (x0 : Vtab) (x1 : Int) (r : Int × Vtab) (H : laws_markVtabF n x0 x1 = some r) : LCall Try.prog 20 [.io true (Vtab.row x0), .val false [.lit (.int .i64 x1)]] [.val false [.lit (.int .i64 r.1)]] [(0, (Vtab.row r.2))] := by
  refine LCall.of_body tOk Try.func20 rfl (c := (.seq (.region 0 (rg Try.f20 0) false) (.seq (.region 1 (rg Try.f20 1) false) (.seq (.region 2 (rg Try.f20 2) false) (.seq (.region 3 (rg Try.f20 3) false) .ret))))) (by kernel_rfl) (Nat.le_of_ble_eq_true (by kernel_rfl)) 1 (rs := [.tmp 4]) rfl [0] (by decide) [(false, [.lit (.int .i64 r.1)])] [(Vtab.row r.2)] [] fun cx => ?_
  show Tr _ _ _ ⟨14, 1, [(0, .val true (Vtab.row x0)), (1, .val false [.lit (.int .i64 x1)])], []⟩ _
  unfold laws_markVtabF at H
  refine Tr.rs ?_
  refine LAt.boxK (T := lk tab) (t := 29) (ty := 0) (x := 0) (d := 2) (g := none) true (Vtab.row x0) (by kernel_rfl) (by kernel_rfl) (by kernel_rfl) (by kernel_rfl) (by kernel_rfl) (by kernel_rfl) ?_
  refine LAt.runU tOk 1 (by kernel_rfl) ?_
  refine LAt.doneU [4, 0, 2, 1] [2] (by kernel_rfl) ?_
  refine Tr.rs ?_
  refine LAt.runU tOk 3 (by kernel_rfl) ?_
  obtain ⟨r1, er1, H⟩ := bind_some H
  refine LAt.callL tOk [.lend, .rd] (f := 86) (av := #[.tmp 6, .tmp 7]) (ats := #[27, 3]) (d := (some 8)) (ty := 3) (g := none) (by kernel_rfl) (by kernel_rfl) (by kernel_rfl) [] (laws_markVrowS n x0.Rows x1 r1 er1) (by kernel_rfl) (.inl rfl) ?_
  refine LAt.runU tOk 1 (by kernel_rfl) ?_
  refine LAt.doneU [1, 4, 2, 0] [2] (by kernel_rfl) ?_
  refine Tr.rs ?_
  refine LAt.runU tOk 3 (by kernel_rfl) ?_
  obtain ⟨r2, er2, H⟩ := bind_some H
  refine LAt.callL tOk [.lend, .rd] (f := 87) (av := #[.tmp 10, .tmp 11]) (ats := #[23, 3]) (d := (some 12)) (ty := 3) (g := none) (by kernel_rfl) (by kernel_rfl) (by kernel_rfl) [] (laws_markIntS n x0.Pvid r1.1 r2 er2) (by kernel_rfl) (.inl rfl) ?_
  refine LAt.runU tOk 1 (by kernel_rfl) ?_
  refine LAt.doneU [1, 4, 0] [2] (by kernel_rfl) ?_
  refine Tr.rs ?_
  refine LAt.runU tOk 2 (by kernel_rfl) ?_
  refine LAt.doneU [4, 0] [2] (by kernel_rfl) ?_
  refine Tr.ret ?_
  have H := Option.some.inj H
  subst H
  exact Fin.ofY _ [(false, [.lit (.int .i64 r2.1)])] [true] _ [[.sl true 3 (r1.2.map Vrow.row), .sl true 1 (r2.2.map intRow)]] _ [] (by kernel_rfl) rfl rfl rfl (by kernel_rfl) (by kernel_rfl) (by kernel_rfl) (by kernel_rfl) rfl rfl rfl

def laws_markBridgeF (n : Nat) (x0 : Bridge) (x1 : Int) : Option (Int × Bridge) :=
  ((laws_markPtSF n x0.Ports x1).bind fun r1 => ((laws_markFentSF n x0.F r1.1).bind fun r2 => ((laws_markVtabF n x0.V r2.1).bind fun r3 => (some (r3.1, (⟨x0.Id, x0.Name, r1.2, r2.2, r3.2, x0.Ticks, x0.Parse, x0.Word, x0.Drops, x0.Vers⟩ : Bridge))))))
/-- loop.example/g00326/laws.markBridge -/
theorem laws_markBridge (n : Nat) (x0 : Bridge) (x1 : Int) (r : Int × Bridge) (H : laws_markBridgeF n x0 x1 = some r) : LCall Try.prog 58 [.io true (Bridge.row x0), .val false [.lit (.int .i64 x1)]] [.val false [.lit (.int .i64 r.1)]] [(0, (Bridge.row r.2))] := by
  refine LCall.of_body tOk Try.func58 rfl (c := (.seq (.region 0 (rg Try.f58 0) false) (.seq (.region 1 (rg Try.f58 1) false) (.seq (.region 2 (rg Try.f58 2) false) (.seq (.region 3 (rg Try.f58 3) false) (.seq (.region 4 (rg Try.f58 4) false) .ret)))))) (by kernel_rfl) (Nat.le_of_ble_eq_true (by kernel_rfl)) 1 (rs := [.tmp 4]) rfl [0] (by decide) [(false, [.lit (.int .i64 r.1)])] [(Bridge.row r.2)] [] fun cx => ?_
  show Tr _ _ _ ⟨18, 1, [(0, .val true (Bridge.row x0)), (1, .val false [.lit (.int .i64 x1)])], []⟩ _
  unfold laws_markBridgeF at H
  refine Tr.rs ?_
  refine LAt.boxK (T := lk tab) (t := 79) (ty := 0) (x := 0) (d := 2) (g := none) true (Bridge.row x0) (by kernel_rfl) (by kernel_rfl) (by kernel_rfl) (by kernel_rfl) (by kernel_rfl) (by kernel_rfl) ?_
  refine LAt.runU tOk 1 (by kernel_rfl) ?_
  refine LAt.doneU [4, 0, 2, 1] [2] (by kernel_rfl) ?_
  refine Tr.rs ?_
  refine LAt.runU tOk 3 (by kernel_rfl) ?_
  obtain ⟨r1, er1, H⟩ := bind_some H
  refine LAt.callL tOk [.lend, .rd] (f := 122) (av := #[.tmp 6, .tmp 7]) (ats := #[43, 3]) (d := (some 8)) (ty := 3) (g := none) (by kernel_rfl) (by kernel_rfl) (by kernel_rfl) [] (laws_markPtS n x0.Ports x1 r1 er1) (by kernel_rfl) (.inl rfl) ?_
  refine LAt.runU tOk 1 (by kernel_rfl) ?_
  refine LAt.doneU [1, 4, 2, 0] [2] (by kernel_rfl) ?_
  refine Tr.rs ?_
  refine LAt.runU tOk 3 (by kernel_rfl) ?_
  obtain ⟨r2, er2, H⟩ := bind_some H
  refine LAt.callL tOk [.lend, .rd] (f := 123) (av := #[.tmp 10, .tmp 11]) (ats := #[77, 3]) (d := (some 12)) (ty := 3) (g := none) (by kernel_rfl) (by kernel_rfl) (by kernel_rfl) [] (laws_markFentS n x0.F r1.1 r2 er2) (by kernel_rfl) (.inl rfl) ?_
  refine LAt.runU tOk 1 (by kernel_rfl) ?_
  refine LAt.doneU [1, 4, 2, 0] [2] (by kernel_rfl) ?_
  refine Tr.rs ?_
  refine LAt.runU tOk 3 (by kernel_rfl) ?_
  obtain ⟨r3, er3, H⟩ := bind_some H
  refine LAt.callL tOk [.lend, .rd] (f := 20) (av := #[.tmp 14, .tmp 15]) (ats := #[29, 3]) (d := (some 16)) (ty := 3) (g := none) (by kernel_rfl) (by kernel_rfl) (by kernel_rfl) [] (laws_markVtab n x0.V r2.1 r3 er3) (by kernel_rfl) (.inl rfl) ?_
  refine LAt.runU tOk 1 (by kernel_rfl) ?_
  refine LAt.doneU [1, 4, 0] [2] (by kernel_rfl) ?_
  refine Tr.rs ?_
  refine LAt.runU tOk 2 (by kernel_rfl) ?_
  refine LAt.doneU [4, 0] [2] (by kernel_rfl) ?_
  refine Tr.ret ?_
  have H := Option.some.inj H
  subst H
  exact Fin.ofY _ [(false, [.lit (.int .i64 r3.1)])] [true] _ [[.lit (.int .i64 x0.Id), .lit (.string x0.Name), .sl true 8 (r1.2.map Pt.row), .sl true 5 (r2.2.map Fent.row), .sl true 3 (r3.2.Rows.map Vrow.row), .sl true 1 (r3.2.Pvid.map intRow), .lit (.int .i64 x0.Ticks), .lit (.int .i64 x0.Parse), .lit (.int .i64 x0.Word), .lit (.int .i64 x0.Drops), .lit (.int .i64 x0.Vers)]] _ [] (by kernel_rfl) rfl rfl rfl (by kernel_rfl) (by kernel_rfl) (by kernel_rfl) (by kernel_rfl) rfl rfl rfl

def laws_heldPtS_J1 (n : Nat) (y3 : Int) : Option (Int) :=
  (some y3)
def laws_heldPtS_L2 (n : Nat) : Nat → (List Pt) → Int → Int → Option ((Int) ⊕ (Int))
  | 0, _, _, _ => none
  | mo4 + 1, x0, y1, y2 => (bif (decide (y1 < (x0.length : Int))) then ((idx x0 y1).bind fun v5 => (bif (decide ((3 : Int) ≠ 0)) then (bif (!(v5.Up == ((Int.tmod y2 3) == 0))) then (some (Sum.inr (-1))) else ((idx x0 y1).bind fun v7 => (bif (v7.Cost != (IntKind.wrap .i64 (y2 + 1))) then (some (Sum.inr (-1))) else ((idx x0 y1).bind fun v8 => (bif (decide ((3 : Int) ≠ 0)) then (bif (!(v8.Has == ((Int.tmod (IntKind.wrap .i64 ((IntKind.wrap .i64 (y2 + 1)) + 1)) 3) == 0))) then (some (Sum.inr (-1))) else ((idx x0 y1).bind fun v10 => (bif (v10.Heard.Root != (IntKind.wrap .i64 ((IntKind.wrap .i64 ((IntKind.wrap .i64 (y2 + 1)) + 1)) + 1))) then (some (Sum.inr (-1))) else ((idx x0 y1).bind fun v11 => (bif (v11.Heard.Cost != (IntKind.wrap .i64 ((IntKind.wrap .i64 ((IntKind.wrap .i64 ((IntKind.wrap .i64 (y2 + 1)) + 1)) + 1)) + 1))) then (some (Sum.inr (-1))) else ((idx x0 y1).bind fun v12 => (bif (v12.Heard.Hops != (IntKind.wrap .i64 ((IntKind.wrap .i64 ((IntKind.wrap .i64 ((IntKind.wrap .i64 ((IntKind.wrap .i64 (y2 + 1)) + 1)) + 1)) + 1)) + 1))) then (some (Sum.inr (-1))) else ((idx x0 y1).bind fun v13 => (bif (v13.Heard.Bridge != (IntKind.wrap .i64 ((IntKind.wrap .i64 ((IntKind.wrap .i64 ((IntKind.wrap .i64 ((IntKind.wrap .i64 ((IntKind.wrap .i64 (y2 + 1)) + 1)) + 1)) + 1)) + 1)) + 1))) then (some (Sum.inr (-1))) else ((idx x0 y1).bind fun v14 => (bif (v14.Heard.Port != (IntKind.wrap .i64 ((IntKind.wrap .i64 ((IntKind.wrap .i64 ((IntKind.wrap .i64 ((IntKind.wrap .i64 ((IntKind.wrap .i64 ((IntKind.wrap .i64 (y2 + 1)) + 1)) + 1)) + 1)) + 1)) + 1)) + 1))) then (some (Sum.inr (-1))) else (laws_heldPtS_L2 n mo4 x0 (IntKind.wrap .i64 (y1 + 1)) (IntKind.wrap .i64 ((IntKind.wrap .i64 ((IntKind.wrap .i64 ((IntKind.wrap .i64 ((IntKind.wrap .i64 ((IntKind.wrap .i64 ((IntKind.wrap .i64 ((IntKind.wrap .i64 (y2 + 1)) + 1)) + 1)) + 1)) + 1)) + 1)) + 1)) + 1)))))))))))))) else none))))) else none)) else (some (Sum.inl y2)))
def laws_heldPtSF (n : Nat) (x0 : (List Pt)) (x1 : Int) : Option (Int) :=
  ((laws_heldPtS_L2 n n x0 0 x1).bind fun o => match o with | .inl y3 => (laws_heldPtS_J1 n y3) | .inr r => some r)
/-- loop.example/g00326/laws.heldPtS -/
theorem laws_heldPtS (n : Nat) (x0 : (List Pt)) (x1 : Int) (r : Int) (H : laws_heldPtSF n x0 x1 = some r) : LCall Try.prog 124 [.val false [.sl false 8 (CV.frzEs (x0.map Pt.row))], .val false [.lit (.int .i64 x1)]] [.val false [.lit (.int .i64 r)]] [] := by
  refine LCall.of_body tOk Try.func124 rfl (c := (.seq (.region 0 (rg Try.f124 0) false) (.seq (.seq (.region 1 (rg Try.f124 1) false) (.block 0 (.loop (.seq (.seq (.region 2 (rg Try.f124 2) false) (.cond (.tmp 9) .skip (.exit 0))) (.seq (.block 1 (.seq (.seq (.region 4 (rg Try.f124 4) false) (.cond (.tmp 20) (.seq (.region 5 (rg Try.f124 5) false) .ret) .skip)) (.seq (.region 6 (rg Try.f124 6) false) (.seq (.seq (.region 7 (rg Try.f124 7) false) (.cond (.tmp 29) (.seq (.region 8 (rg Try.f124 8) false) .ret) .skip)) (.seq (.region 9 (rg Try.f124 9) false) (.seq (.seq (.region 10 (rg Try.f124 10) false) (.cond (.tmp 40) (.seq (.region 11 (rg Try.f124 11) false) .ret) .skip)) (.seq (.region 12 (rg Try.f124 12) false) (.seq (.seq (.region 13 (rg Try.f124 13) false) (.cond (.tmp 50) (.seq (.region 14 (rg Try.f124 14) false) .ret) .skip)) (.seq (.region 15 (rg Try.f124 15) false) (.seq (.seq (.region 16 (rg Try.f124 16) false) (.cond (.tmp 60) (.seq (.region 17 (rg Try.f124 17) false) .ret) .skip)) (.seq (.region 18 (rg Try.f124 18) false) (.seq (.seq (.region 19 (rg Try.f124 19) false) (.cond (.tmp 70) (.seq (.region 20 (rg Try.f124 20) false) .ret) .skip)) (.seq (.region 21 (rg Try.f124 21) false) (.seq (.seq (.region 22 (rg Try.f124 22) false) (.cond (.tmp 80) (.seq (.region 23 (rg Try.f124 23) false) .ret) .skip)) (.seq (.region 24 (rg Try.f124 24) false) (.seq (.seq (.region 25 (rg Try.f124 25) false) (.cond (.tmp 90) (.seq (.region 26 (rg Try.f124 26) false) .ret) .skip)) (.region 27 (rg Try.f124 27) false))))))))))))))))) (.region 3 (rg Try.f124 3) false)))))) (.seq (.region 28 (rg Try.f124 28) false) .ret)))) (by kernel_rfl) (Nat.le_of_ble_eq_true (by kernel_rfl)) 0 (rs := [.tmp 4]) rfl [] .nil [(false, [.lit (.int .i64 r)])] [] [] fun cx => ?_
  show Tr _ _ _ ⟨94, 0, [(0, .val false [.sl false 8 (CV.frzEs (x0.map Pt.row))]), (1, .val false [.lit (.int .i64 x1)])], []⟩ _
  unfold laws_heldPtSF at H
  refine Tr.rs ?_
  refine LAt.runU tOk 1 (by kernel_rfl) ?_
  refine LAt.doneU [4, 0, 1] [] (by kernel_rfl) ?_
  refine Tr.seq ?_
  refine Tr.rs ?_
  refine LAt.runU tOk 1 (by kernel_rfl) ?_
  refine LAt.doneU [5, 4, 0, 1] [] (by kernel_rfl) ?_
  obtain ⟨o4, eo4, Ho4⟩ := bind_some H
  clear H
  refine Tr.mid (ι := Int) (fun v => ⟨94, 0, [(4, .val false [.lit (.int .i64 0)]), (1, .val false [.lit (.int .i64 v)])], []⟩) (fun v => laws_heldPtS_J1 n v = some r) ?_ ?_
  · refine Tr.block ?_
    refine Tr.loop (ι := Nat × (Int × Int)) (fun v => ⟨94, 0, [(5, .val false [.lit (.int .i64 v.2.1)]), (4, .val false [.lit (.int .i64 0)]), (0, .val false [.sl false 8 (CV.frzEs (x0.map Pt.row))]), (1, .val false [.lit (.int .i64 v.2.2)])], []⟩) (fun v => laws_heldPtS_L2 n v.1 x0 v.2.1 v.2.2 = some o4) (fun v => v.1) (n, (0, x1)) eo4 (St.sub_of [5, 4, 0, 1] [] (by kernel_rfl)) ?_
    rintro ⟨mo4, y1, y2⟩ H
    have H : laws_heldPtS_L2 n mo4 x0 y1 y2 = some o4 := H
    obtain _ | mo4 := mo4
    · cases (show (none : Option _) = some o4 from H)
    · rw [laws_heldPtS_L2] at H
      refine Tr.seq ?_
      refine Tr.rs ?_
      refine LAt.runU tOk 2 (by kernel_rfl) ?_
      refine LAt.lenE tOk (t := 43) (ty := 3) (e := 41) (x := (.tmp 7)) (d := 8) (g := none) ⟨(.slot 7), [], 0, false, 8, (CV.frzEs (x0.map Pt.row))⟩ (x0).length _ (by kernel_rfl) (by kernel_rfl) (by kernel_rfl) (by kernel_rfl) (by kernel_rfl) (frz_len _ _) rfl ?_
      refine LAt.runU tOk 1 (by kernel_rfl) ?_
      refine LAt.doneU [9, 8, 7, 6, 5, 4, 0, 1] [] (by kernel_rfl) ?_
      refine Tr.to ⟨94, 0, [(9, .val false [.lit (.bool (decide (y1 < (x0.length : Int))))]), (8, .val false [.lit (.int .i64 (x0.length : Int))]), (7, .val false [.sl false 8 (CV.frzEs (x0.map Pt.row))]), (6, .val false [.lit (.int .i64 y1)]), (5, .val false [.lit (.int .i64 y1)]), (4, .val false [.lit (.int .i64 0)]), (0, .val false [.sl false 8 (CV.frzEs (x0.map Pt.row))]), (1, .val false [.lit (.int .i64 y2)])], []⟩ (by kernel_rfl) ?_
      cases h1 : (decide (y1 < (x0.length : Int)))
      · have H := bifF h1 H
        refine Tr.cond (b := false) (by kernel_rfl) (fun h => nomatch h) (fun _ => ?_)
        refine Tr.exit ?_
        refine And.intro (fun _ => ?_) (fun h => absurd rfl h)
        have H := Option.some.inj H
        subst H
        have H := Ho4
        dsimp only at H
        exact Exists.intro y2 (And.intro H (St.sub_of [4, 1] [] (by kernel_rfl)))
      · have H := bifT h1 H
        refine Tr.cond (b := true) (by kernel_rfl) (fun _ => ?_) (fun h => nomatch h)
        refine Tr.skip ?_
        show Tr _ _ _ _ _
        refine Tr.seq ?_
        refine Tr.block ?_
        refine Tr.seq ?_
        refine Tr.rs ?_
        refine LAt.runU tOk 2 (by kernel_rfl) ?_
        obtain ⟨v5, ev5, H⟩ := bind_some H
        refine LAt.indexF tOk (t := 43) (ty := 0) (x := (.tmp 12)) (y := (.tmp 13)) (d := 14) (g := none) ⟨(.slot 12), [], 0, false, 8, (CV.frzEs (x0.map Pt.row))⟩ y1 (Pt.row v5) _ (by kernel_rfl) (by kernel_rfl) (by kernel_rfl) (by kernel_rfl) rfl (idx_isF ev5) rfl ?_
        refine LAt.runU tOk 3 (by kernel_rfl) ?_
        obtain ⟨hg6, H⟩ := guard_some H
        refine LAt.binC tOk (op := .rem) (t := 3) (ty := 3) (ty' := 3) (x := (.tmp 17)) (y := (.const (.int .i64 3))) (d := 18) (g := none) (.int .i64 y2) (.int .i64 3) (.int .i64 (Int.tmod y2 3)) _ (by kernel_rfl) (by kernel_rfl) (by kernel_rfl) (by kernel_rfl) (by kernel_rfl) (φ := (IntKind.i64 = IntKind.i64 ∧ (3 : Int) ≠ 0)) (by kernel_rfl) (⟨rfl, of_decide_eq_true hg6⟩) rfl ?_
        refine LAt.runU tOk 2 (by kernel_rfl) ?_
        refine LAt.doneU [20, 19, 18, 17, 16, 15, 14, 13, 12, 9, 8, 7, 6, 5, 4, 0, 1] [] (by kernel_rfl) ?_
        refine Tr.to ⟨94, 0, [(20, .val false [.lit (.bool (!(v5.Up == ((Int.tmod y2 3) == 0))))]), (19, .val false [.lit (.bool ((Int.tmod y2 3) == 0))]), (18, .val false [.lit (.int .i64 (Int.tmod y2 3))]), (17, .val false [.lit (.int .i64 y2)]), (16, .val false [.lit (.bool v5.Up)]), (15, .fad ((Pt.row v5))), (14, .fad ((Pt.row v5))), (13, .val false [.lit (.int .i64 y1)]), (12, .val false [.sl false 8 (CV.frzEs (x0.map Pt.row))]), (9, .val false [.lit (.bool true)]), (8, .val false [.lit (.int .i64 (x0.length : Int))]), (7, .val false [.sl false 8 (CV.frzEs (x0.map Pt.row))]), (6, .val false [.lit (.int .i64 y1)]), (5, .val false [.lit (.int .i64 y1)]), (4, .val false [.lit (.int .i64 0)]), (0, .val false [.sl false 8 (CV.frzEs (x0.map Pt.row))]), (1, .val false [.lit (.int .i64 y2)])], []⟩ (by kernel_rfl) ?_
        cases h2 : (!(v5.Up == ((Int.tmod y2 3) == 0)))
        · have H := bifF h2 H
          refine Tr.cond (b := false) (by kernel_rfl) (fun h => nomatch h) (fun _ => ?_)
          refine Tr.skip ?_
          show Tr _ _ _ _ _
          refine Tr.rs ?_
          refine LAt.runU tOk 3 (by kernel_rfl) ?_
          refine LAt.doneU [1, 22, 21, 20, 19, 18, 17, 16, 15, 14, 13, 12, 9, 8, 7, 6, 5, 4, 0] [] (by kernel_rfl) ?_
          refine Tr.seq ?_
          refine Tr.rs ?_
          refine LAt.runU tOk 2 (by kernel_rfl) ?_
          obtain ⟨v7, ev7, H⟩ := bind_some H
          refine LAt.indexF tOk (t := 43) (ty := 0) (x := (.tmp 23)) (y := (.tmp 24)) (d := 25) (g := none) ⟨(.slot 23), [], 0, false, 8, (CV.frzEs (x0.map Pt.row))⟩ y1 (Pt.row v7) _ (by kernel_rfl) (by kernel_rfl) (by kernel_rfl) (by kernel_rfl) rfl (idx_isF ev7) rfl ?_
          refine LAt.runU tOk 4 (by kernel_rfl) ?_
          refine LAt.doneU [29, 28, 27, 26, 25, 24, 23, 1, 22, 21, 20, 19, 18, 17, 16, 15, 14, 13, 12, 9, 8, 7, 6, 5, 4, 0] [] (by kernel_rfl) ?_
          refine Tr.to ⟨94, 0, [(29, .val false [.lit (.bool (v7.Cost != (IntKind.wrap .i64 (y2 + 1))))]), (28, .val false [.lit (.int .i64 (IntKind.wrap .i64 (y2 + 1)))]), (27, .val false [.lit (.int .i64 v7.Cost)]), (26, .fad (((Pt.row v7).drop 1))), (25, .fad ((Pt.row v7))), (24, .val false [.lit (.int .i64 y1)]), (23, .val false [.sl false 8 (CV.frzEs (x0.map Pt.row))]), (1, .val false [.lit (.int .i64 (IntKind.wrap .i64 (y2 + 1)))]), (22, .val false [.lit (.int .i64 (IntKind.wrap .i64 (y2 + 1)))]), (21, .val false [.lit (.int .i64 y2)]), (20, .val false [.lit (.bool false)]), (19, .val false [.lit (.bool ((Int.tmod y2 3) == 0))]), (18, .val false [.lit (.int .i64 (Int.tmod y2 3))]), (17, .val false [.lit (.int .i64 y2)]), (16, .val false [.lit (.bool v5.Up)]), (15, .fad ((Pt.row v5))), (14, .fad ((Pt.row v5))), (13, .val false [.lit (.int .i64 y1)]), (12, .val false [.sl false 8 (CV.frzEs (x0.map Pt.row))]), (9, .val false [.lit (.bool true)]), (8, .val false [.lit (.int .i64 (x0.length : Int))]), (7, .val false [.sl false 8 (CV.frzEs (x0.map Pt.row))]), (6, .val false [.lit (.int .i64 y1)]), (5, .val false [.lit (.int .i64 y1)]), (4, .val false [.lit (.int .i64 0)]), (0, .val false [.sl false 8 (CV.frzEs (x0.map Pt.row))])], []⟩ (by kernel_rfl) ?_
          cases h3 : (v7.Cost != (IntKind.wrap .i64 (y2 + 1)))
          · have H := bifF h3 H
            refine Tr.cond (b := false) (by kernel_rfl) (fun h => nomatch h) (fun _ => ?_)
            refine Tr.skip ?_
            show Tr _ _ _ _ _
            refine Tr.rs ?_
            refine LAt.runU tOk 3 (by kernel_rfl) ?_
            refine LAt.doneU [1, 31, 30, 29, 28, 27, 26, 25, 24, 23, 22, 21, 20, 19, 18, 17, 16, 15, 14, 13, 12, 9, 8, 7, 6, 5, 4, 0] [] (by kernel_rfl) ?_
            refine Tr.seq ?_
            refine Tr.rs ?_
            refine LAt.runU tOk 2 (by kernel_rfl) ?_
            obtain ⟨v8, ev8, H⟩ := bind_some H
            refine LAt.indexF tOk (t := 43) (ty := 0) (x := (.tmp 32)) (y := (.tmp 33)) (d := 34) (g := none) ⟨(.slot 32), [], 0, false, 8, (CV.frzEs (x0.map Pt.row))⟩ y1 (Pt.row v8) _ (by kernel_rfl) (by kernel_rfl) (by kernel_rfl) (by kernel_rfl) rfl (idx_isF ev8) rfl ?_
            refine LAt.runU tOk 3 (by kernel_rfl) ?_
            obtain ⟨hg9, H⟩ := guard_some H
            refine LAt.binC tOk (op := .rem) (t := 3) (ty := 3) (ty' := 3) (x := (.tmp 37)) (y := (.const (.int .i64 3))) (d := 38) (g := none) (.int .i64 (IntKind.wrap .i64 ((IntKind.wrap .i64 (y2 + 1)) + 1))) (.int .i64 3) (.int .i64 (Int.tmod (IntKind.wrap .i64 ((IntKind.wrap .i64 (y2 + 1)) + 1)) 3)) _ (by kernel_rfl) (by kernel_rfl) (by kernel_rfl) (by kernel_rfl) (by kernel_rfl) (φ := (IntKind.i64 = IntKind.i64 ∧ (3 : Int) ≠ 0)) (by kernel_rfl) (⟨rfl, of_decide_eq_true hg9⟩) rfl ?_
            refine LAt.runU tOk 2 (by kernel_rfl) ?_
            refine LAt.doneU [40, 39, 38, 37, 36, 35, 34, 33, 32, 1, 31, 30, 29, 28, 27, 26, 25, 24, 23, 22, 21, 20, 19, 18, 17, 16, 15, 14, 13, 12, 9, 8, 7, 6, 5, 4, 0] [] (by kernel_rfl) ?_
            refine Tr.to ⟨94, 0, [(40, .val false [.lit (.bool (!(v8.Has == ((Int.tmod (IntKind.wrap .i64 ((IntKind.wrap .i64 (y2 + 1)) + 1)) 3) == 0))))]), (39, .val false [.lit (.bool ((Int.tmod (IntKind.wrap .i64 ((IntKind.wrap .i64 (y2 + 1)) + 1)) 3) == 0))]), (38, .val false [.lit (.int .i64 (Int.tmod (IntKind.wrap .i64 ((IntKind.wrap .i64 (y2 + 1)) + 1)) 3))]), (37, .val false [.lit (.int .i64 (IntKind.wrap .i64 ((IntKind.wrap .i64 (y2 + 1)) + 1)))]), (36, .val false [.lit (.bool v8.Has)]), (35, .fad (((Pt.row v8).drop 2))), (34, .fad ((Pt.row v8))), (33, .val false [.lit (.int .i64 y1)]), (32, .val false [.sl false 8 (CV.frzEs (x0.map Pt.row))]), (1, .val false [.lit (.int .i64 (IntKind.wrap .i64 ((IntKind.wrap .i64 (y2 + 1)) + 1)))]), (31, .val false [.lit (.int .i64 (IntKind.wrap .i64 ((IntKind.wrap .i64 (y2 + 1)) + 1)))]), (30, .val false [.lit (.int .i64 (IntKind.wrap .i64 (y2 + 1)))]), (29, .val false [.lit (.bool false)]), (28, .val false [.lit (.int .i64 (IntKind.wrap .i64 (y2 + 1)))]), (27, .val false [.lit (.int .i64 v7.Cost)]), (26, .fad (((Pt.row v7).drop 1))), (25, .fad ((Pt.row v7))), (24, .val false [.lit (.int .i64 y1)]), (23, .val false [.sl false 8 (CV.frzEs (x0.map Pt.row))]), (22, .val false [.lit (.int .i64 (IntKind.wrap .i64 (y2 + 1)))]), (21, .val false [.lit (.int .i64 y2)]), (20, .val false [.lit (.bool false)]), (19, .val false [.lit (.bool ((Int.tmod y2 3) == 0))]), (18, .val false [.lit (.int .i64 (Int.tmod y2 3))]), (17, .val false [.lit (.int .i64 y2)]), (16, .val false [.lit (.bool v5.Up)]), (15, .fad ((Pt.row v5))), (14, .fad ((Pt.row v5))), (13, .val false [.lit (.int .i64 y1)]), (12, .val false [.sl false 8 (CV.frzEs (x0.map Pt.row))]), (9, .val false [.lit (.bool true)]), (8, .val false [.lit (.int .i64 (x0.length : Int))]), (7, .val false [.sl false 8 (CV.frzEs (x0.map Pt.row))]), (6, .val false [.lit (.int .i64 y1)]), (5, .val false [.lit (.int .i64 y1)]), (4, .val false [.lit (.int .i64 0)]), (0, .val false [.sl false 8 (CV.frzEs (x0.map Pt.row))])], []⟩ (by kernel_rfl) ?_
            cases h4 : (!(v8.Has == ((Int.tmod (IntKind.wrap .i64 ((IntKind.wrap .i64 (y2 + 1)) + 1)) 3) == 0)))
            · have H := bifF h4 H
              refine Tr.cond (b := false) (by kernel_rfl) (fun h => nomatch h) (fun _ => ?_)
              refine Tr.skip ?_
              show Tr _ _ _ _ _
              refine Tr.rs ?_
              refine LAt.runU tOk 3 (by kernel_rfl) ?_
              refine LAt.doneU [1, 42, 41, 40, 39, 38, 37, 36, 35, 34, 33, 32, 31, 30, 29, 28, 27, 26, 25, 24, 23, 22, 21, 20, 19, 18, 17, 16, 15, 14, 13, 12, 9, 8, 7, 6, 5, 4, 0] [] (by kernel_rfl) ?_
              refine Tr.seq ?_
              refine Tr.rs ?_
              refine LAt.runU tOk 2 (by kernel_rfl) ?_
              obtain ⟨v10, ev10, H⟩ := bind_some H
              refine LAt.indexF tOk (t := 43) (ty := 0) (x := (.tmp 43)) (y := (.tmp 44)) (d := 45) (g := none) ⟨(.slot 43), [], 0, false, 8, (CV.frzEs (x0.map Pt.row))⟩ y1 (Pt.row v10) _ (by kernel_rfl) (by kernel_rfl) (by kernel_rfl) (by kernel_rfl) rfl (idx_isF ev10) rfl ?_
              refine LAt.runU tOk 5 (by kernel_rfl) ?_
              refine LAt.doneU [50, 49, 48, 47, 46, 45, 44, 43, 1, 42, 41, 40, 39, 38, 37, 36, 35, 34, 33, 32, 31, 30, 29, 28, 27, 26, 25, 24, 23, 22, 21, 20, 19, 18, 17, 16, 15, 14, 13, 12, 9, 8, 7, 6, 5, 4, 0] [] (by kernel_rfl) ?_
              refine Tr.to ⟨94, 0, [(50, .val false [.lit (.bool (v10.Heard.Root != (IntKind.wrap .i64 ((IntKind.wrap .i64 ((IntKind.wrap .i64 (y2 + 1)) + 1)) + 1))))]), (49, .val false [.lit (.int .i64 (IntKind.wrap .i64 ((IntKind.wrap .i64 ((IntKind.wrap .i64 (y2 + 1)) + 1)) + 1)))]), (48, .val false [.lit (.int .i64 v10.Heard.Root)]), (47, .fad (((Pt.row v10).drop 3))), (46, .fad (((Pt.row v10).drop 3))), (45, .fad ((Pt.row v10))), (44, .val false [.lit (.int .i64 y1)]), (43, .val false [.sl false 8 (CV.frzEs (x0.map Pt.row))]), (1, .val false [.lit (.int .i64 (IntKind.wrap .i64 ((IntKind.wrap .i64 ((IntKind.wrap .i64 (y2 + 1)) + 1)) + 1)))]), (42, .val false [.lit (.int .i64 (IntKind.wrap .i64 ((IntKind.wrap .i64 ((IntKind.wrap .i64 (y2 + 1)) + 1)) + 1)))]), (41, .val false [.lit (.int .i64 (IntKind.wrap .i64 ((IntKind.wrap .i64 (y2 + 1)) + 1)))]), (40, .val false [.lit (.bool false)]), (39, .val false [.lit (.bool ((Int.tmod (IntKind.wrap .i64 ((IntKind.wrap .i64 (y2 + 1)) + 1)) 3) == 0))]), (38, .val false [.lit (.int .i64 (Int.tmod (IntKind.wrap .i64 ((IntKind.wrap .i64 (y2 + 1)) + 1)) 3))]), (37, .val false [.lit (.int .i64 (IntKind.wrap .i64 ((IntKind.wrap .i64 (y2 + 1)) + 1)))]), (36, .val false [.lit (.bool v8.Has)]), (35, .fad (((Pt.row v8).drop 2))), (34, .fad ((Pt.row v8))), (33, .val false [.lit (.int .i64 y1)]), (32, .val false [.sl false 8 (CV.frzEs (x0.map Pt.row))]), (31, .val false [.lit (.int .i64 (IntKind.wrap .i64 ((IntKind.wrap .i64 (y2 + 1)) + 1)))]), (30, .val false [.lit (.int .i64 (IntKind.wrap .i64 (y2 + 1)))]), (29, .val false [.lit (.bool false)]), (28, .val false [.lit (.int .i64 (IntKind.wrap .i64 (y2 + 1)))]), (27, .val false [.lit (.int .i64 v7.Cost)]), (26, .fad (((Pt.row v7).drop 1))), (25, .fad ((Pt.row v7))), (24, .val false [.lit (.int .i64 y1)]), (23, .val false [.sl false 8 (CV.frzEs (x0.map Pt.row))]), (22, .val false [.lit (.int .i64 (IntKind.wrap .i64 (y2 + 1)))]), (21, .val false [.lit (.int .i64 y2)]), (20, .val false [.lit (.bool false)]), (19, .val false [.lit (.bool ((Int.tmod y2 3) == 0))]), (18, .val false [.lit (.int .i64 (Int.tmod y2 3))]), (17, .val false [.lit (.int .i64 y2)]), (16, .val false [.lit (.bool v5.Up)]), (15, .fad ((Pt.row v5))), (14, .fad ((Pt.row v5))), (13, .val false [.lit (.int .i64 y1)]), (12, .val false [.sl false 8 (CV.frzEs (x0.map Pt.row))]), (9, .val false [.lit (.bool true)]), (8, .val false [.lit (.int .i64 (x0.length : Int))]), (7, .val false [.sl false 8 (CV.frzEs (x0.map Pt.row))]), (6, .val false [.lit (.int .i64 y1)]), (5, .val false [.lit (.int .i64 y1)]), (4, .val false [.lit (.int .i64 0)]), (0, .val false [.sl false 8 (CV.frzEs (x0.map Pt.row))])], []⟩ (by kernel_rfl) ?_
              cases h5 : (v10.Heard.Root != (IntKind.wrap .i64 ((IntKind.wrap .i64 ((IntKind.wrap .i64 (y2 + 1)) + 1)) + 1)))
              · have H := bifF h5 H
                refine Tr.cond (b := false) (by kernel_rfl) (fun h => nomatch h) (fun _ => ?_)
                refine Tr.skip ?_
                show Tr _ _ _ _ _
                refine Tr.rs ?_
                refine LAt.runU tOk 3 (by kernel_rfl) ?_
                refine LAt.doneU [1, 52, 51, 50, 49, 48, 47, 46, 45, 44, 43, 42, 41, 40, 39, 38, 37, 36, 35, 34, 33, 32, 31, 30, 29, 28, 27, 26, 25, 24, 23, 22, 21, 20, 19, 18, 17, 16, 15, 14, 13, 12, 9, 8, 7, 6, 5, 4, 0] [] (by kernel_rfl) ?_
                refine Tr.seq ?_
                refine Tr.rs ?_
                refine LAt.runU tOk 2 (by kernel_rfl) ?_
                obtain ⟨v11, ev11, H⟩ := bind_some H
                refine LAt.indexF tOk (t := 43) (ty := 0) (x := (.tmp 53)) (y := (.tmp 54)) (d := 55) (g := none) ⟨(.slot 53), [], 0, false, 8, (CV.frzEs (x0.map Pt.row))⟩ y1 (Pt.row v11) _ (by kernel_rfl) (by kernel_rfl) (by kernel_rfl) (by kernel_rfl) rfl (idx_isF ev11) rfl ?_
                refine LAt.runU tOk 5 (by kernel_rfl) ?_
                refine LAt.doneU [60, 59, 58, 57, 56, 55, 54, 53, 1, 52, 51, 50, 49, 48, 47, 46, 45, 44, 43, 42, 41, 40, 39, 38, 37, 36, 35, 34, 33, 32, 31, 30, 29, 28, 27, 26, 25, 24, 23, 22, 21, 20, 19, 18, 17, 16, 15, 14, 13, 12, 9, 8, 7, 6, 5, 4, 0] [] (by kernel_rfl) ?_
                refine Tr.to ⟨94, 0, [(60, .val false [.lit (.bool (v11.Heard.Cost != (IntKind.wrap .i64 ((IntKind.wrap .i64 ((IntKind.wrap .i64 ((IntKind.wrap .i64 (y2 + 1)) + 1)) + 1)) + 1))))]), (59, .val false [.lit (.int .i64 (IntKind.wrap .i64 ((IntKind.wrap .i64 ((IntKind.wrap .i64 ((IntKind.wrap .i64 (y2 + 1)) + 1)) + 1)) + 1)))]), (58, .val false [.lit (.int .i64 v11.Heard.Cost)]), (57, .fad (((Pt.row v11).drop 4))), (56, .fad (((Pt.row v11).drop 3))), (55, .fad ((Pt.row v11))), (54, .val false [.lit (.int .i64 y1)]), (53, .val false [.sl false 8 (CV.frzEs (x0.map Pt.row))]), (1, .val false [.lit (.int .i64 (IntKind.wrap .i64 ((IntKind.wrap .i64 ((IntKind.wrap .i64 ((IntKind.wrap .i64 (y2 + 1)) + 1)) + 1)) + 1)))]), (52, .val false [.lit (.int .i64 (IntKind.wrap .i64 ((IntKind.wrap .i64 ((IntKind.wrap .i64 ((IntKind.wrap .i64 (y2 + 1)) + 1)) + 1)) + 1)))]), (51, .val false [.lit (.int .i64 (IntKind.wrap .i64 ((IntKind.wrap .i64 ((IntKind.wrap .i64 (y2 + 1)) + 1)) + 1)))]), (50, .val false [.lit (.bool false)]), (49, .val false [.lit (.int .i64 (IntKind.wrap .i64 ((IntKind.wrap .i64 ((IntKind.wrap .i64 (y2 + 1)) + 1)) + 1)))]), (48, .val false [.lit (.int .i64 v10.Heard.Root)]), (47, .fad (((Pt.row v10).drop 3))), (46, .fad (((Pt.row v10).drop 3))), (45, .fad ((Pt.row v10))), (44, .val false [.lit (.int .i64 y1)]), (43, .val false [.sl false 8 (CV.frzEs (x0.map Pt.row))]), (42, .val false [.lit (.int .i64 (IntKind.wrap .i64 ((IntKind.wrap .i64 ((IntKind.wrap .i64 (y2 + 1)) + 1)) + 1)))]), (41, .val false [.lit (.int .i64 (IntKind.wrap .i64 ((IntKind.wrap .i64 (y2 + 1)) + 1)))]), (40, .val false [.lit (.bool false)]), (39, .val false [.lit (.bool ((Int.tmod (IntKind.wrap .i64 ((IntKind.wrap .i64 (y2 + 1)) + 1)) 3) == 0))]), (38, .val false [.lit (.int .i64 (Int.tmod (IntKind.wrap .i64 ((IntKind.wrap .i64 (y2 + 1)) + 1)) 3))]), (37, .val false [.lit (.int .i64 (IntKind.wrap .i64 ((IntKind.wrap .i64 (y2 + 1)) + 1)))]), (36, .val false [.lit (.bool v8.Has)]), (35, .fad (((Pt.row v8).drop 2))), (34, .fad ((Pt.row v8))), (33, .val false [.lit (.int .i64 y1)]), (32, .val false [.sl false 8 (CV.frzEs (x0.map Pt.row))]), (31, .val false [.lit (.int .i64 (IntKind.wrap .i64 ((IntKind.wrap .i64 (y2 + 1)) + 1)))]), (30, .val false [.lit (.int .i64 (IntKind.wrap .i64 (y2 + 1)))]), (29, .val false [.lit (.bool false)]), (28, .val false [.lit (.int .i64 (IntKind.wrap .i64 (y2 + 1)))]), (27, .val false [.lit (.int .i64 v7.Cost)]), (26, .fad (((Pt.row v7).drop 1))), (25, .fad ((Pt.row v7))), (24, .val false [.lit (.int .i64 y1)]), (23, .val false [.sl false 8 (CV.frzEs (x0.map Pt.row))]), (22, .val false [.lit (.int .i64 (IntKind.wrap .i64 (y2 + 1)))]), (21, .val false [.lit (.int .i64 y2)]), (20, .val false [.lit (.bool false)]), (19, .val false [.lit (.bool ((Int.tmod y2 3) == 0))]), (18, .val false [.lit (.int .i64 (Int.tmod y2 3))]), (17, .val false [.lit (.int .i64 y2)]), (16, .val false [.lit (.bool v5.Up)]), (15, .fad ((Pt.row v5))), (14, .fad ((Pt.row v5))), (13, .val false [.lit (.int .i64 y1)]), (12, .val false [.sl false 8 (CV.frzEs (x0.map Pt.row))]), (9, .val false [.lit (.bool true)]), (8, .val false [.lit (.int .i64 (x0.length : Int))]), (7, .val false [.sl false 8 (CV.frzEs (x0.map Pt.row))]), (6, .val false [.lit (.int .i64 y1)]), (5, .val false [.lit (.int .i64 y1)]), (4, .val false [.lit (.int .i64 0)]), (0, .val false [.sl false 8 (CV.frzEs (x0.map Pt.row))])], []⟩ (by kernel_rfl) ?_
                cases h6 : (v11.Heard.Cost != (IntKind.wrap .i64 ((IntKind.wrap .i64 ((IntKind.wrap .i64 ((IntKind.wrap .i64 (y2 + 1)) + 1)) + 1)) + 1)))
                · have H := bifF h6 H
                  refine Tr.cond (b := false) (by kernel_rfl) (fun h => nomatch h) (fun _ => ?_)
                  refine Tr.skip ?_
                  show Tr _ _ _ _ _
                  refine Tr.rs ?_
                  refine LAt.runU tOk 3 (by kernel_rfl) ?_
                  refine LAt.doneU [1, 62, 61, 60, 59, 58, 57, 56, 55, 54, 53, 52, 51, 50, 49, 48, 47, 46, 45, 44, 43, 42, 41, 40, 39, 38, 37, 36, 35, 34, 33, 32, 31, 30, 29, 28, 27, 26, 25, 24, 23, 22, 21, 20, 19, 18, 17, 16, 15, 14, 13, 12, 9, 8, 7, 6, 5, 4, 0] [] (by kernel_rfl) ?_
                  refine Tr.seq ?_
                  refine Tr.rs ?_
                  refine LAt.runU tOk 2 (by kernel_rfl) ?_
                  obtain ⟨v12, ev12, H⟩ := bind_some H
                  refine LAt.indexF tOk (t := 43) (ty := 0) (x := (.tmp 63)) (y := (.tmp 64)) (d := 65) (g := none) ⟨(.slot 63), [], 0, false, 8, (CV.frzEs (x0.map Pt.row))⟩ y1 (Pt.row v12) _ (by kernel_rfl) (by kernel_rfl) (by kernel_rfl) (by kernel_rfl) rfl (idx_isF ev12) rfl ?_
                  refine LAt.runU tOk 5 (by kernel_rfl) ?_
                  refine LAt.doneU [70, 69, 68, 67, 66, 65, 64, 63, 1, 62, 61, 60, 59, 58, 57, 56, 55, 54, 53, 52, 51, 50, 49, 48, 47, 46, 45, 44, 43, 42, 41, 40, 39, 38, 37, 36, 35, 34, 33, 32, 31, 30, 29, 28, 27, 26, 25, 24, 23, 22, 21, 20, 19, 18, 17, 16, 15, 14, 13, 12, 9, 8, 7, 6, 5, 4, 0] [] (by kernel_rfl) ?_
                  refine Tr.to ⟨94, 0, [(70, .val false [.lit (.bool (v12.Heard.Hops != (IntKind.wrap .i64 ((IntKind.wrap .i64 ((IntKind.wrap .i64 ((IntKind.wrap .i64 ((IntKind.wrap .i64 (y2 + 1)) + 1)) + 1)) + 1)) + 1))))]), (69, .val false [.lit (.int .i64 (IntKind.wrap .i64 ((IntKind.wrap .i64 ((IntKind.wrap .i64 ((IntKind.wrap .i64 ((IntKind.wrap .i64 (y2 + 1)) + 1)) + 1)) + 1)) + 1)))]), (68, .val false [.lit (.int .i64 v12.Heard.Hops)]), (67, .fad (((Pt.row v12).drop 5))), (66, .fad (((Pt.row v12).drop 3))), (65, .fad ((Pt.row v12))), (64, .val false [.lit (.int .i64 y1)]), (63, .val false [.sl false 8 (CV.frzEs (x0.map Pt.row))]), (1, .val false [.lit (.int .i64 (IntKind.wrap .i64 ((IntKind.wrap .i64 ((IntKind.wrap .i64 ((IntKind.wrap .i64 ((IntKind.wrap .i64 (y2 + 1)) + 1)) + 1)) + 1)) + 1)))]), (62, .val false [.lit (.int .i64 (IntKind.wrap .i64 ((IntKind.wrap .i64 ((IntKind.wrap .i64 ((IntKind.wrap .i64 ((IntKind.wrap .i64 (y2 + 1)) + 1)) + 1)) + 1)) + 1)))]), (61, .val false [.lit (.int .i64 (IntKind.wrap .i64 ((IntKind.wrap .i64 ((IntKind.wrap .i64 ((IntKind.wrap .i64 (y2 + 1)) + 1)) + 1)) + 1)))]), (60, .val false [.lit (.bool false)]), (59, .val false [.lit (.int .i64 (IntKind.wrap .i64 ((IntKind.wrap .i64 ((IntKind.wrap .i64 ((IntKind.wrap .i64 (y2 + 1)) + 1)) + 1)) + 1)))]), (58, .val false [.lit (.int .i64 v11.Heard.Cost)]), (57, .fad (((Pt.row v11).drop 4))), (56, .fad (((Pt.row v11).drop 3))), (55, .fad ((Pt.row v11))), (54, .val false [.lit (.int .i64 y1)]), (53, .val false [.sl false 8 (CV.frzEs (x0.map Pt.row))]), (52, .val false [.lit (.int .i64 (IntKind.wrap .i64 ((IntKind.wrap .i64 ((IntKind.wrap .i64 ((IntKind.wrap .i64 (y2 + 1)) + 1)) + 1)) + 1)))]), (51, .val false [.lit (.int .i64 (IntKind.wrap .i64 ((IntKind.wrap .i64 ((IntKind.wrap .i64 (y2 + 1)) + 1)) + 1)))]), (50, .val false [.lit (.bool false)]), (49, .val false [.lit (.int .i64 (IntKind.wrap .i64 ((IntKind.wrap .i64 ((IntKind.wrap .i64 (y2 + 1)) + 1)) + 1)))]), (48, .val false [.lit (.int .i64 v10.Heard.Root)]), (47, .fad (((Pt.row v10).drop 3))), (46, .fad (((Pt.row v10).drop 3))), (45, .fad ((Pt.row v10))), (44, .val false [.lit (.int .i64 y1)]), (43, .val false [.sl false 8 (CV.frzEs (x0.map Pt.row))]), (42, .val false [.lit (.int .i64 (IntKind.wrap .i64 ((IntKind.wrap .i64 ((IntKind.wrap .i64 (y2 + 1)) + 1)) + 1)))]), (41, .val false [.lit (.int .i64 (IntKind.wrap .i64 ((IntKind.wrap .i64 (y2 + 1)) + 1)))]), (40, .val false [.lit (.bool false)]), (39, .val false [.lit (.bool ((Int.tmod (IntKind.wrap .i64 ((IntKind.wrap .i64 (y2 + 1)) + 1)) 3) == 0))]), (38, .val false [.lit (.int .i64 (Int.tmod (IntKind.wrap .i64 ((IntKind.wrap .i64 (y2 + 1)) + 1)) 3))]), (37, .val false [.lit (.int .i64 (IntKind.wrap .i64 ((IntKind.wrap .i64 (y2 + 1)) + 1)))]), (36, .val false [.lit (.bool v8.Has)]), (35, .fad (((Pt.row v8).drop 2))), (34, .fad ((Pt.row v8))), (33, .val false [.lit (.int .i64 y1)]), (32, .val false [.sl false 8 (CV.frzEs (x0.map Pt.row))]), (31, .val false [.lit (.int .i64 (IntKind.wrap .i64 ((IntKind.wrap .i64 (y2 + 1)) + 1)))]), (30, .val false [.lit (.int .i64 (IntKind.wrap .i64 (y2 + 1)))]), (29, .val false [.lit (.bool false)]), (28, .val false [.lit (.int .i64 (IntKind.wrap .i64 (y2 + 1)))]), (27, .val false [.lit (.int .i64 v7.Cost)]), (26, .fad (((Pt.row v7).drop 1))), (25, .fad ((Pt.row v7))), (24, .val false [.lit (.int .i64 y1)]), (23, .val false [.sl false 8 (CV.frzEs (x0.map Pt.row))]), (22, .val false [.lit (.int .i64 (IntKind.wrap .i64 (y2 + 1)))]), (21, .val false [.lit (.int .i64 y2)]), (20, .val false [.lit (.bool false)]), (19, .val false [.lit (.bool ((Int.tmod y2 3) == 0))]), (18, .val false [.lit (.int .i64 (Int.tmod y2 3))]), (17, .val false [.lit (.int .i64 y2)]), (16, .val false [.lit (.bool v5.Up)]), (15, .fad ((Pt.row v5))), (14, .fad ((Pt.row v5))), (13, .val false [.lit (.int .i64 y1)]), (12, .val false [.sl false 8 (CV.frzEs (x0.map Pt.row))]), (9, .val false [.lit (.bool true)]), (8, .val false [.lit (.int .i64 (x0.length : Int))]), (7, .val false [.sl false 8 (CV.frzEs (x0.map Pt.row))]), (6, .val false [.lit (.int .i64 y1)]), (5, .val false [.lit (.int .i64 y1)]), (4, .val false [.lit (.int .i64 0)]), (0, .val false [.sl false 8 (CV.frzEs (x0.map Pt.row))])], []⟩ (by kernel_rfl) ?_
                  cases h7 : (v12.Heard.Hops != (IntKind.wrap .i64 ((IntKind.wrap .i64 ((IntKind.wrap .i64 ((IntKind.wrap .i64 ((IntKind.wrap .i64 (y2 + 1)) + 1)) + 1)) + 1)) + 1)))
                  · have H := bifF h7 H
                    refine Tr.cond (b := false) (by kernel_rfl) (fun h => nomatch h) (fun _ => ?_)
                    refine Tr.skip ?_
                    show Tr _ _ _ _ _
                    refine Tr.rs ?_
                    refine LAt.runU tOk 3 (by kernel_rfl) ?_
                    refine LAt.doneU [1, 72, 71, 70, 69, 68, 67, 66, 65, 64, 63, 62, 61, 60, 59, 58, 57, 56, 55, 54, 53, 52, 51, 50, 49, 48, 47, 46, 45, 44, 43, 42, 41, 40, 39, 38, 37, 36, 35, 34, 33, 32, 31, 30, 29, 28, 27, 26, 25, 24, 23, 22, 21, 20, 19, 18, 17, 16, 15, 14, 13, 12, 9, 8, 7, 6, 5, 4, 0] [] (by kernel_rfl) ?_
                    refine Tr.seq ?_
                    refine Tr.rs ?_
                    refine LAt.runU tOk 2 (by kernel_rfl) ?_
                    obtain ⟨v13, ev13, H⟩ := bind_some H
                    refine LAt.indexF tOk (t := 43) (ty := 0) (x := (.tmp 73)) (y := (.tmp 74)) (d := 75) (g := none) ⟨(.slot 73), [], 0, false, 8, (CV.frzEs (x0.map Pt.row))⟩ y1 (Pt.row v13) _ (by kernel_rfl) (by kernel_rfl) (by kernel_rfl) (by kernel_rfl) rfl (idx_isF ev13) rfl ?_
                    refine LAt.runU tOk 5 (by kernel_rfl) ?_
                    refine LAt.doneU [80, 79, 78, 77, 76, 75, 74, 73, 1, 72, 71, 70, 69, 68, 67, 66, 65, 64, 63, 62, 61, 60, 59, 58, 57, 56, 55, 54, 53, 52, 51, 50, 49, 48, 47, 46, 45, 44, 43, 42, 41, 40, 39, 38, 37, 36, 35, 34, 33, 32, 31, 30, 29, 28, 27, 26, 25, 24, 23, 22, 21, 20, 19, 18, 17, 16, 15, 14, 13, 12, 9, 8, 7, 6, 5, 4, 0] [] (by kernel_rfl) ?_
                    refine Tr.to ⟨94, 0, [(80, .val false [.lit (.bool (v13.Heard.Bridge != (IntKind.wrap .i64 ((IntKind.wrap .i64 ((IntKind.wrap .i64 ((IntKind.wrap .i64 ((IntKind.wrap .i64 ((IntKind.wrap .i64 (y2 + 1)) + 1)) + 1)) + 1)) + 1)) + 1))))]), (79, .val false [.lit (.int .i64 (IntKind.wrap .i64 ((IntKind.wrap .i64 ((IntKind.wrap .i64 ((IntKind.wrap .i64 ((IntKind.wrap .i64 ((IntKind.wrap .i64 (y2 + 1)) + 1)) + 1)) + 1)) + 1)) + 1)))]), (78, .val false [.lit (.int .i64 v13.Heard.Bridge)]), (77, .fad (((Pt.row v13).drop 6))), (76, .fad (((Pt.row v13).drop 3))), (75, .fad ((Pt.row v13))), (74, .val false [.lit (.int .i64 y1)]), (73, .val false [.sl false 8 (CV.frzEs (x0.map Pt.row))]), (1, .val false [.lit (.int .i64 (IntKind.wrap .i64 ((IntKind.wrap .i64 ((IntKind.wrap .i64 ((IntKind.wrap .i64 ((IntKind.wrap .i64 ((IntKind.wrap .i64 (y2 + 1)) + 1)) + 1)) + 1)) + 1)) + 1)))]), (72, .val false [.lit (.int .i64 (IntKind.wrap .i64 ((IntKind.wrap .i64 ((IntKind.wrap .i64 ((IntKind.wrap .i64 ((IntKind.wrap .i64 ((IntKind.wrap .i64 (y2 + 1)) + 1)) + 1)) + 1)) + 1)) + 1)))]), (71, .val false [.lit (.int .i64 (IntKind.wrap .i64 ((IntKind.wrap .i64 ((IntKind.wrap .i64 ((IntKind.wrap .i64 ((IntKind.wrap .i64 (y2 + 1)) + 1)) + 1)) + 1)) + 1)))]), (70, .val false [.lit (.bool false)]), (69, .val false [.lit (.int .i64 (IntKind.wrap .i64 ((IntKind.wrap .i64 ((IntKind.wrap .i64 ((IntKind.wrap .i64 ((IntKind.wrap .i64 (y2 + 1)) + 1)) + 1)) + 1)) + 1)))]), (68, .val false [.lit (.int .i64 v12.Heard.Hops)]), (67, .fad (((Pt.row v12).drop 5))), (66, .fad (((Pt.row v12).drop 3))), (65, .fad ((Pt.row v12))), (64, .val false [.lit (.int .i64 y1)]), (63, .val false [.sl false 8 (CV.frzEs (x0.map Pt.row))]), (62, .val false [.lit (.int .i64 (IntKind.wrap .i64 ((IntKind.wrap .i64 ((IntKind.wrap .i64 ((IntKind.wrap .i64 ((IntKind.wrap .i64 (y2 + 1)) + 1)) + 1)) + 1)) + 1)))]), (61, .val false [.lit (.int .i64 (IntKind.wrap .i64 ((IntKind.wrap .i64 ((IntKind.wrap .i64 ((IntKind.wrap .i64 (y2 + 1)) + 1)) + 1)) + 1)))]), (60, .val false [.lit (.bool false)]), (59, .val false [.lit (.int .i64 (IntKind.wrap .i64 ((IntKind.wrap .i64 ((IntKind.wrap .i64 ((IntKind.wrap .i64 (y2 + 1)) + 1)) + 1)) + 1)))]), (58, .val false [.lit (.int .i64 v11.Heard.Cost)]), (57, .fad (((Pt.row v11).drop 4))), (56, .fad (((Pt.row v11).drop 3))), (55, .fad ((Pt.row v11))), (54, .val false [.lit (.int .i64 y1)]), (53, .val false [.sl false 8 (CV.frzEs (x0.map Pt.row))]), (52, .val false [.lit (.int .i64 (IntKind.wrap .i64 ((IntKind.wrap .i64 ((IntKind.wrap .i64 ((IntKind.wrap .i64 (y2 + 1)) + 1)) + 1)) + 1)))]), (51, .val false [.lit (.int .i64 (IntKind.wrap .i64 ((IntKind.wrap .i64 ((IntKind.wrap .i64 (y2 + 1)) + 1)) + 1)))]), (50, .val false [.lit (.bool false)]), (49, .val false [.lit (.int .i64 (IntKind.wrap .i64 ((IntKind.wrap .i64 ((IntKind.wrap .i64 (y2 + 1)) + 1)) + 1)))]), (48, .val false [.lit (.int .i64 v10.Heard.Root)]), (47, .fad (((Pt.row v10).drop 3))), (46, .fad (((Pt.row v10).drop 3))), (45, .fad ((Pt.row v10))), (44, .val false [.lit (.int .i64 y1)]), (43, .val false [.sl false 8 (CV.frzEs (x0.map Pt.row))]), (42, .val false [.lit (.int .i64 (IntKind.wrap .i64 ((IntKind.wrap .i64 ((IntKind.wrap .i64 (y2 + 1)) + 1)) + 1)))]), (41, .val false [.lit (.int .i64 (IntKind.wrap .i64 ((IntKind.wrap .i64 (y2 + 1)) + 1)))]), (40, .val false [.lit (.bool false)]), (39, .val false [.lit (.bool ((Int.tmod (IntKind.wrap .i64 ((IntKind.wrap .i64 (y2 + 1)) + 1)) 3) == 0))]), (38, .val false [.lit (.int .i64 (Int.tmod (IntKind.wrap .i64 ((IntKind.wrap .i64 (y2 + 1)) + 1)) 3))]), (37, .val false [.lit (.int .i64 (IntKind.wrap .i64 ((IntKind.wrap .i64 (y2 + 1)) + 1)))]), (36, .val false [.lit (.bool v8.Has)]), (35, .fad (((Pt.row v8).drop 2))), (34, .fad ((Pt.row v8))), (33, .val false [.lit (.int .i64 y1)]), (32, .val false [.sl false 8 (CV.frzEs (x0.map Pt.row))]), (31, .val false [.lit (.int .i64 (IntKind.wrap .i64 ((IntKind.wrap .i64 (y2 + 1)) + 1)))]), (30, .val false [.lit (.int .i64 (IntKind.wrap .i64 (y2 + 1)))]), (29, .val false [.lit (.bool false)]), (28, .val false [.lit (.int .i64 (IntKind.wrap .i64 (y2 + 1)))]), (27, .val false [.lit (.int .i64 v7.Cost)]), (26, .fad (((Pt.row v7).drop 1))), (25, .fad ((Pt.row v7))), (24, .val false [.lit (.int .i64 y1)]), (23, .val false [.sl false 8 (CV.frzEs (x0.map Pt.row))]), (22, .val false [.lit (.int .i64 (IntKind.wrap .i64 (y2 + 1)))]), (21, .val false [.lit (.int .i64 y2)]), (20, .val false [.lit (.bool false)]), (19, .val false [.lit (.bool ((Int.tmod y2 3) == 0))]), (18, .val false [.lit (.int .i64 (Int.tmod y2 3))]), (17, .val false [.lit (.int .i64 y2)]), (16, .val false [.lit (.bool v5.Up)]), (15, .fad ((Pt.row v5))), (14, .fad ((Pt.row v5))), (13, .val false [.lit (.int .i64 y1)]), (12, .val false [.sl false 8 (CV.frzEs (x0.map Pt.row))]), (9, .val false [.lit (.bool true)]), (8, .val false [.lit (.int .i64 (x0.length : Int))]), (7, .val false [.sl false 8 (CV.frzEs (x0.map Pt.row))]), (6, .val false [.lit (.int .i64 y1)]), (5, .val false [.lit (.int .i64 y1)]), (4, .val false [.lit (.int .i64 0)]), (0, .val false [.sl false 8 (CV.frzEs (x0.map Pt.row))])], []⟩ (by kernel_rfl) ?_
                    cases h8 : (v13.Heard.Bridge != (IntKind.wrap .i64 ((IntKind.wrap .i64 ((IntKind.wrap .i64 ((IntKind.wrap .i64 ((IntKind.wrap .i64 ((IntKind.wrap .i64 (y2 + 1)) + 1)) + 1)) + 1)) + 1)) + 1)))
                    · have H := bifF h8 H
                      refine Tr.cond (b := false) (by kernel_rfl) (fun h => nomatch h) (fun _ => ?_)
                      refine Tr.skip ?_
                      show Tr _ _ _ _ _
                      refine Tr.rs ?_
                      refine LAt.runU tOk 3 (by kernel_rfl) ?_
                      refine LAt.doneU [1, 82, 81, 80, 79, 78, 77, 76, 75, 74, 73, 72, 71, 70, 69, 68, 67, 66, 65, 64, 63, 62, 61, 60, 59, 58, 57, 56, 55, 54, 53, 52, 51, 50, 49, 48, 47, 46, 45, 44, 43, 42, 41, 40, 39, 38, 37, 36, 35, 34, 33, 32, 31, 30, 29, 28, 27, 26, 25, 24, 23, 22, 21, 20, 19, 18, 17, 16, 15, 14, 13, 12, 9, 8, 7, 6, 5, 4, 0] [] (by kernel_rfl) ?_
                      refine Tr.seq ?_
                      refine Tr.rs ?_
                      refine LAt.runU tOk 2 (by kernel_rfl) ?_
                      obtain ⟨v14, ev14, H⟩ := bind_some H
                      refine LAt.indexF tOk (t := 43) (ty := 0) (x := (.tmp 83)) (y := (.tmp 84)) (d := 85) (g := none) ⟨(.slot 83), [], 0, false, 8, (CV.frzEs (x0.map Pt.row))⟩ y1 (Pt.row v14) _ (by kernel_rfl) (by kernel_rfl) (by kernel_rfl) (by kernel_rfl) rfl (idx_isF ev14) rfl ?_
                      refine LAt.runU tOk 5 (by kernel_rfl) ?_
                      refine LAt.doneU [90, 89, 88, 87, 86, 85, 84, 83, 1, 82, 81, 80, 79, 78, 77, 76, 75, 74, 73, 72, 71, 70, 69, 68, 67, 66, 65, 64, 63, 62, 61, 60, 59, 58, 57, 56, 55, 54, 53, 52, 51, 50, 49, 48, 47, 46, 45, 44, 43, 42, 41, 40, 39, 38, 37, 36, 35, 34, 33, 32, 31, 30, 29, 28, 27, 26, 25, 24, 23, 22, 21, 20, 19, 18, 17, 16, 15, 14, 13, 12, 9, 8, 7, 6, 5, 4, 0] [] (by kernel_rfl) ?_
                      refine Tr.to ⟨94, 0, [(90, .val false [.lit (.bool (v14.Heard.Port != (IntKind.wrap .i64 ((IntKind.wrap .i64 ((IntKind.wrap .i64 ((IntKind.wrap .i64 ((IntKind.wrap .i64 ((IntKind.wrap .i64 ((IntKind.wrap .i64 (y2 + 1)) + 1)) + 1)) + 1)) + 1)) + 1)) + 1))))]), (89, .val false [.lit (.int .i64 (IntKind.wrap .i64 ((IntKind.wrap .i64 ((IntKind.wrap .i64 ((IntKind.wrap .i64 ((IntKind.wrap .i64 ((IntKind.wrap .i64 ((IntKind.wrap .i64 (y2 + 1)) + 1)) + 1)) + 1)) + 1)) + 1)) + 1)))]), (88, .val false [.lit (.int .i64 v14.Heard.Port)]), (87, .fad ([.lit (.int .i64 v14.Heard.Port)])), (86, .fad (((Pt.row v14).drop 3))), (85, .fad ((Pt.row v14))), (84, .val false [.lit (.int .i64 y1)]), (83, .val false [.sl false 8 (CV.frzEs (x0.map Pt.row))]), (1, .val false [.lit (.int .i64 (IntKind.wrap .i64 ((IntKind.wrap .i64 ((IntKind.wrap .i64 ((IntKind.wrap .i64 ((IntKind.wrap .i64 ((IntKind.wrap .i64 ((IntKind.wrap .i64 (y2 + 1)) + 1)) + 1)) + 1)) + 1)) + 1)) + 1)))]), (82, .val false [.lit (.int .i64 (IntKind.wrap .i64 ((IntKind.wrap .i64 ((IntKind.wrap .i64 ((IntKind.wrap .i64 ((IntKind.wrap .i64 ((IntKind.wrap .i64 ((IntKind.wrap .i64 (y2 + 1)) + 1)) + 1)) + 1)) + 1)) + 1)) + 1)))]), (81, .val false [.lit (.int .i64 (IntKind.wrap .i64 ((IntKind.wrap .i64 ((IntKind.wrap .i64 ((IntKind.wrap .i64 ((IntKind.wrap .i64 ((IntKind.wrap .i64 (y2 + 1)) + 1)) + 1)) + 1)) + 1)) + 1)))]), (80, .val false [.lit (.bool false)]), (79, .val false [.lit (.int .i64 (IntKind.wrap .i64 ((IntKind.wrap .i64 ((IntKind.wrap .i64 ((IntKind.wrap .i64 ((IntKind.wrap .i64 ((IntKind.wrap .i64 (y2 + 1)) + 1)) + 1)) + 1)) + 1)) + 1)))]), (78, .val false [.lit (.int .i64 v13.Heard.Bridge)]), (77, .fad (((Pt.row v13).drop 6))), (76, .fad (((Pt.row v13).drop 3))), (75, .fad ((Pt.row v13))), (74, .val false [.lit (.int .i64 y1)]), (73, .val false [.sl false 8 (CV.frzEs (x0.map Pt.row))]), (72, .val false [.lit (.int .i64 (IntKind.wrap .i64 ((IntKind.wrap .i64 ((IntKind.wrap .i64 ((IntKind.wrap .i64 ((IntKind.wrap .i64 ((IntKind.wrap .i64 (y2 + 1)) + 1)) + 1)) + 1)) + 1)) + 1)))]), (71, .val false [.lit (.int .i64 (IntKind.wrap .i64 ((IntKind.wrap .i64 ((IntKind.wrap .i64 ((IntKind.wrap .i64 ((IntKind.wrap .i64 (y2 + 1)) + 1)) + 1)) + 1)) + 1)))]), (70, .val false [.lit (.bool false)]), (69, .val false [.lit (.int .i64 (IntKind.wrap .i64 ((IntKind.wrap .i64 ((IntKind.wrap .i64 ((IntKind.wrap .i64 ((IntKind.wrap .i64 (y2 + 1)) + 1)) + 1)) + 1)) + 1)))]), (68, .val false [.lit (.int .i64 v12.Heard.Hops)]), (67, .fad (((Pt.row v12).drop 5))), (66, .fad (((Pt.row v12).drop 3))), (65, .fad ((Pt.row v12))), (64, .val false [.lit (.int .i64 y1)]), (63, .val false [.sl false 8 (CV.frzEs (x0.map Pt.row))]), (62, .val false [.lit (.int .i64 (IntKind.wrap .i64 ((IntKind.wrap .i64 ((IntKind.wrap .i64 ((IntKind.wrap .i64 ((IntKind.wrap .i64 (y2 + 1)) + 1)) + 1)) + 1)) + 1)))]), (61, .val false [.lit (.int .i64 (IntKind.wrap .i64 ((IntKind.wrap .i64 ((IntKind.wrap .i64 ((IntKind.wrap .i64 (y2 + 1)) + 1)) + 1)) + 1)))]), (60, .val false [.lit (.bool false)]), (59, .val false [.lit (.int .i64 (IntKind.wrap .i64 ((IntKind.wrap .i64 ((IntKind.wrap .i64 ((IntKind.wrap .i64 (y2 + 1)) + 1)) + 1)) + 1)))]), (58, .val false [.lit (.int .i64 v11.Heard.Cost)]), (57, .fad (((Pt.row v11).drop 4))), (56, .fad (((Pt.row v11).drop 3))), (55, .fad ((Pt.row v11))), (54, .val false [.lit (.int .i64 y1)]), (53, .val false [.sl false 8 (CV.frzEs (x0.map Pt.row))]), (52, .val false [.lit (.int .i64 (IntKind.wrap .i64 ((IntKind.wrap .i64 ((IntKind.wrap .i64 ((IntKind.wrap .i64 (y2 + 1)) + 1)) + 1)) + 1)))]), (51, .val false [.lit (.int .i64 (IntKind.wrap .i64 ((IntKind.wrap .i64 ((IntKind.wrap .i64 (y2 + 1)) + 1)) + 1)))]), (50, .val false [.lit (.bool false)]), (49, .val false [.lit (.int .i64 (IntKind.wrap .i64 ((IntKind.wrap .i64 ((IntKind.wrap .i64 (y2 + 1)) + 1)) + 1)))]), (48, .val false [.lit (.int .i64 v10.Heard.Root)]), (47, .fad (((Pt.row v10).drop 3))), (46, .fad (((Pt.row v10).drop 3))), (45, .fad ((Pt.row v10))), (44, .val false [.lit (.int .i64 y1)]), (43, .val false [.sl false 8 (CV.frzEs (x0.map Pt.row))]), (42, .val false [.lit (.int .i64 (IntKind.wrap .i64 ((IntKind.wrap .i64 ((IntKind.wrap .i64 (y2 + 1)) + 1)) + 1)))]), (41, .val false [.lit (.int .i64 (IntKind.wrap .i64 ((IntKind.wrap .i64 (y2 + 1)) + 1)))]), (40, .val false [.lit (.bool false)]), (39, .val false [.lit (.bool ((Int.tmod (IntKind.wrap .i64 ((IntKind.wrap .i64 (y2 + 1)) + 1)) 3) == 0))]), (38, .val false [.lit (.int .i64 (Int.tmod (IntKind.wrap .i64 ((IntKind.wrap .i64 (y2 + 1)) + 1)) 3))]), (37, .val false [.lit (.int .i64 (IntKind.wrap .i64 ((IntKind.wrap .i64 (y2 + 1)) + 1)))]), (36, .val false [.lit (.bool v8.Has)]), (35, .fad (((Pt.row v8).drop 2))), (34, .fad ((Pt.row v8))), (33, .val false [.lit (.int .i64 y1)]), (32, .val false [.sl false 8 (CV.frzEs (x0.map Pt.row))]), (31, .val false [.lit (.int .i64 (IntKind.wrap .i64 ((IntKind.wrap .i64 (y2 + 1)) + 1)))]), (30, .val false [.lit (.int .i64 (IntKind.wrap .i64 (y2 + 1)))]), (29, .val false [.lit (.bool false)]), (28, .val false [.lit (.int .i64 (IntKind.wrap .i64 (y2 + 1)))]), (27, .val false [.lit (.int .i64 v7.Cost)]), (26, .fad (((Pt.row v7).drop 1))), (25, .fad ((Pt.row v7))), (24, .val false [.lit (.int .i64 y1)]), (23, .val false [.sl false 8 (CV.frzEs (x0.map Pt.row))]), (22, .val false [.lit (.int .i64 (IntKind.wrap .i64 (y2 + 1)))]), (21, .val false [.lit (.int .i64 y2)]), (20, .val false [.lit (.bool false)]), (19, .val false [.lit (.bool ((Int.tmod y2 3) == 0))]), (18, .val false [.lit (.int .i64 (Int.tmod y2 3))]), (17, .val false [.lit (.int .i64 y2)]), (16, .val false [.lit (.bool v5.Up)]), (15, .fad ((Pt.row v5))), (14, .fad ((Pt.row v5))), (13, .val false [.lit (.int .i64 y1)]), (12, .val false [.sl false 8 (CV.frzEs (x0.map Pt.row))]), (9, .val false [.lit (.bool true)]), (8, .val false [.lit (.int .i64 (x0.length : Int))]), (7, .val false [.sl false 8 (CV.frzEs (x0.map Pt.row))]), (6, .val false [.lit (.int .i64 y1)]), (5, .val false [.lit (.int .i64 y1)]), (4, .val false [.lit (.int .i64 0)]), (0, .val false [.sl false 8 (CV.frzEs (x0.map Pt.row))])], []⟩ (by kernel_rfl) ?_
                      cases h9 : (v14.Heard.Port != (IntKind.wrap .i64 ((IntKind.wrap .i64 ((IntKind.wrap .i64 ((IntKind.wrap .i64 ((IntKind.wrap .i64 ((IntKind.wrap .i64 ((IntKind.wrap .i64 (y2 + 1)) + 1)) + 1)) + 1)) + 1)) + 1)) + 1)))
                      · have H := bifF h9 H
                        refine Tr.cond (b := false) (by kernel_rfl) (fun h => nomatch h) (fun _ => ?_)
                        refine Tr.skip ?_
                        show Tr _ _ _ _ _
                        refine Tr.at ?_
                        refine LAt.runU tOk 3 (by kernel_rfl) ?_
                        refine LAt.doneU [1, 92, 91, 90, 89, 88, 87, 86, 85, 84, 83, 82, 81, 80, 79, 78, 77, 76, 75, 74, 73, 72, 71, 70, 69, 68, 67, 66, 65, 64, 63, 62, 61, 60, 59, 58, 57, 56, 55, 54, 53, 52, 51, 50, 49, 48, 47, 46, 45, 44, 43, 42, 41, 40, 39, 38, 37, 36, 35, 34, 33, 32, 31, 30, 29, 28, 27, 26, 25, 24, 23, 22, 21, 20, 19, 18, 17, 16, 15, 14, 13, 12, 9, 8, 7, 6, 5, 4, 0] [] (by kernel_rfl) ?_
                        show Tr _ _ _ _ _
                        refine Tr.at ?_
                        refine LAt.runU tOk 3 (by kernel_rfl) ?_
                        refine LAt.doneU [5, 11, 10, 1, 92, 91, 90, 89, 88, 87, 86, 85, 84, 83, 82, 81, 80, 79, 78, 77, 76, 75, 74, 73, 72, 71, 70, 69, 68, 67, 66, 65, 64, 63, 62, 61, 60, 59, 58, 57, 56, 55, 54, 53, 52, 51, 50, 49, 48, 47, 46, 45, 44, 43, 42, 41, 40, 39, 38, 37, 36, 35, 34, 33, 32, 31, 30, 29, 28, 27, 26, 25, 24, 23, 22, 21, 20, 19, 18, 17, 16, 15, 14, 13, 12, 9, 8, 7, 6, 4, 0] [] (by kernel_rfl) ?_
                        exact Exists.intro (mo4, ((IntKind.wrap .i64 (y1 + 1)), (IntKind.wrap .i64 ((IntKind.wrap .i64 ((IntKind.wrap .i64 ((IntKind.wrap .i64 ((IntKind.wrap .i64 ((IntKind.wrap .i64 ((IntKind.wrap .i64 ((IntKind.wrap .i64 (y2 + 1)) + 1)) + 1)) + 1)) + 1)) + 1)) + 1)) + 1)))) (And.intro H (And.intro (Nat.lt_succ_self mo4) (St.sub_of [5, 4, 0, 1] [] (by kernel_rfl))))
                      · have H := bifT h9 H
                        refine Tr.cond (b := true) (by kernel_rfl) (fun _ => ?_) (fun h => nomatch h)
                        refine Tr.rs ?_
                        refine LAt.runU tOk 1 (by kernel_rfl) ?_
                        refine LAt.doneU [4, 90, 89, 88, 87, 86, 85, 84, 83, 1, 82, 81, 80, 79, 78, 77, 76, 75, 74, 73, 72, 71, 70, 69, 68, 67, 66, 65, 64, 63, 62, 61, 60, 59, 58, 57, 56, 55, 54, 53, 52, 51, 50, 49, 48, 47, 46, 45, 44, 43, 42, 41, 40, 39, 38, 37, 36, 35, 34, 33, 32, 31, 30, 29, 28, 27, 26, 25, 24, 23, 22, 21, 20, 19, 18, 17, 16, 15, 14, 13, 12, 9, 8, 7, 6, 5, 0] [] (by kernel_rfl) ?_
                        refine Tr.ret ?_
                        have H := Option.some.inj H
                        subst H
                        have H := Ho4
                        dsimp only at H
                        have H := Option.some.inj H
                        subst H
                        exact Fin.of _ [(false, [.lit (.int .i64 (-1))])] (by kernel_rfl) rfl rfl
                    · have H := bifT h8 H
                      refine Tr.cond (b := true) (by kernel_rfl) (fun _ => ?_) (fun h => nomatch h)
                      refine Tr.rs ?_
                      refine LAt.runU tOk 1 (by kernel_rfl) ?_
                      refine LAt.doneU [4, 80, 79, 78, 77, 76, 75, 74, 73, 1, 72, 71, 70, 69, 68, 67, 66, 65, 64, 63, 62, 61, 60, 59, 58, 57, 56, 55, 54, 53, 52, 51, 50, 49, 48, 47, 46, 45, 44, 43, 42, 41, 40, 39, 38, 37, 36, 35, 34, 33, 32, 31, 30, 29, 28, 27, 26, 25, 24, 23, 22, 21, 20, 19, 18, 17, 16, 15, 14, 13, 12, 9, 8, 7, 6, 5, 0] [] (by kernel_rfl) ?_
                      refine Tr.ret ?_
                      have H := Option.some.inj H
                      subst H
                      have H := Ho4
                      dsimp only at H
                      have H := Option.some.inj H
                      subst H
                      exact Fin.of _ [(false, [.lit (.int .i64 (-1))])] (by kernel_rfl) rfl rfl
                  · have H := bifT h7 H
                    refine Tr.cond (b := true) (by kernel_rfl) (fun _ => ?_) (fun h => nomatch h)
                    refine Tr.rs ?_
                    refine LAt.runU tOk 1 (by kernel_rfl) ?_
                    refine LAt.doneU [4, 70, 69, 68, 67, 66, 65, 64, 63, 1, 62, 61, 60, 59, 58, 57, 56, 55, 54, 53, 52, 51, 50, 49, 48, 47, 46, 45, 44, 43, 42, 41, 40, 39, 38, 37, 36, 35, 34, 33, 32, 31, 30, 29, 28, 27, 26, 25, 24, 23, 22, 21, 20, 19, 18, 17, 16, 15, 14, 13, 12, 9, 8, 7, 6, 5, 0] [] (by kernel_rfl) ?_
                    refine Tr.ret ?_
                    have H := Option.some.inj H
                    subst H
                    have H := Ho4
                    dsimp only at H
                    have H := Option.some.inj H
                    subst H
                    exact Fin.of _ [(false, [.lit (.int .i64 (-1))])] (by kernel_rfl) rfl rfl
                · have H := bifT h6 H
                  refine Tr.cond (b := true) (by kernel_rfl) (fun _ => ?_) (fun h => nomatch h)
                  refine Tr.rs ?_
                  refine LAt.runU tOk 1 (by kernel_rfl) ?_
                  refine LAt.doneU [4, 60, 59, 58, 57, 56, 55, 54, 53, 1, 52, 51, 50, 49, 48, 47, 46, 45, 44, 43, 42, 41, 40, 39, 38, 37, 36, 35, 34, 33, 32, 31, 30, 29, 28, 27, 26, 25, 24, 23, 22, 21, 20, 19, 18, 17, 16, 15, 14, 13, 12, 9, 8, 7, 6, 5, 0] [] (by kernel_rfl) ?_
                  refine Tr.ret ?_
                  have H := Option.some.inj H
                  subst H
                  have H := Ho4
                  dsimp only at H
                  have H := Option.some.inj H
                  subst H
                  exact Fin.of _ [(false, [.lit (.int .i64 (-1))])] (by kernel_rfl) rfl rfl
              · have H := bifT h5 H
                refine Tr.cond (b := true) (by kernel_rfl) (fun _ => ?_) (fun h => nomatch h)
                refine Tr.rs ?_
                refine LAt.runU tOk 1 (by kernel_rfl) ?_
                refine LAt.doneU [4, 50, 49, 48, 47, 46, 45, 44, 43, 1, 42, 41, 40, 39, 38, 37, 36, 35, 34, 33, 32, 31, 30, 29, 28, 27, 26, 25, 24, 23, 22, 21, 20, 19, 18, 17, 16, 15, 14, 13, 12, 9, 8, 7, 6, 5, 0] [] (by kernel_rfl) ?_
                refine Tr.ret ?_
                have H := Option.some.inj H
                subst H
                have H := Ho4
                dsimp only at H
                have H := Option.some.inj H
                subst H
                exact Fin.of _ [(false, [.lit (.int .i64 (-1))])] (by kernel_rfl) rfl rfl
            · have H := bifT h4 H
              refine Tr.cond (b := true) (by kernel_rfl) (fun _ => ?_) (fun h => nomatch h)
              refine Tr.rs ?_
              refine LAt.runU tOk 1 (by kernel_rfl) ?_
              refine LAt.doneU [4, 40, 39, 38, 37, 36, 35, 34, 33, 32, 1, 31, 30, 29, 28, 27, 26, 25, 24, 23, 22, 21, 20, 19, 18, 17, 16, 15, 14, 13, 12, 9, 8, 7, 6, 5, 0] [] (by kernel_rfl) ?_
              refine Tr.ret ?_
              have H := Option.some.inj H
              subst H
              have H := Ho4
              dsimp only at H
              have H := Option.some.inj H
              subst H
              exact Fin.of _ [(false, [.lit (.int .i64 (-1))])] (by kernel_rfl) rfl rfl
          · have H := bifT h3 H
            refine Tr.cond (b := true) (by kernel_rfl) (fun _ => ?_) (fun h => nomatch h)
            refine Tr.rs ?_
            refine LAt.runU tOk 1 (by kernel_rfl) ?_
            refine LAt.doneU [4, 29, 28, 27, 26, 25, 24, 23, 1, 22, 21, 20, 19, 18, 17, 16, 15, 14, 13, 12, 9, 8, 7, 6, 5, 0] [] (by kernel_rfl) ?_
            refine Tr.ret ?_
            have H := Option.some.inj H
            subst H
            have H := Ho4
            dsimp only at H
            have H := Option.some.inj H
            subst H
            exact Fin.of _ [(false, [.lit (.int .i64 (-1))])] (by kernel_rfl) rfl rfl
        · have H := bifT h2 H
          refine Tr.cond (b := true) (by kernel_rfl) (fun _ => ?_) (fun h => nomatch h)
          refine Tr.rs ?_
          refine LAt.runU tOk 1 (by kernel_rfl) ?_
          refine LAt.doneU [4, 20, 19, 18, 17, 16, 15, 14, 13, 12, 9, 8, 7, 6, 5, 0, 1] [] (by kernel_rfl) ?_
          refine Tr.ret ?_
          have H := Option.some.inj H
          subst H
          have H := Ho4
          dsimp only at H
          have H := Option.some.inj H
          subst H
          exact Fin.of _ [(false, [.lit (.int .i64 (-1))])] (by kernel_rfl) rfl rfl
  · rintro y3 H
    have H : (laws_heldPtS_J1 n y3) = some r := H
    unfold laws_heldPtS_J1 at H
    show Tr _ _ _ _ _
    refine Tr.rs ?_
    refine LAt.runU tOk 2 (by kernel_rfl) ?_
    refine LAt.doneU [4] [] (by kernel_rfl) ?_
    refine Tr.ret ?_
    have H := Option.some.inj H
    subst H
    exact Fin.of _ [(false, [.lit (.int .i64 y3)])] (by kernel_rfl) rfl rfl

def laws_heldFentS_J1 (n : Nat) (y3 : Int) : Option (Int) :=
  (some y3)
def laws_heldFentS_L2 (n : Nat) : Nat → (List Fent) → Int → Int → Option ((Int) ⊕ (Int))
  | 0, _, _, _ => none
  | mo4 + 1, x0, y1, y2 => (bif (decide (y1 < (x0.length : Int))) then ((idx x0 y1).bind fun v5 => (bif (v5.Tag != y2) then (some (Sum.inr (-1))) else ((idx x0 y1).bind fun v6 => (bif (v6.Mac != (IntKind.wrap .i64 (y2 + 1))) then (some (Sum.inr (-1))) else ((idx x0 y1).bind fun v7 => (bif (v7.Port != (IntKind.wrap .i64 ((IntKind.wrap .i64 (y2 + 1)) + 1))) then (some (Sum.inr (-1))) else ((idx x0 y1).bind fun v8 => (bif (v8.Age != (IntKind.wrap .i64 ((IntKind.wrap .i64 ((IntKind.wrap .i64 (y2 + 1)) + 1)) + 1))) then (some (Sum.inr (-1))) else ((idx x0 y1).bind fun v9 => (bif (decide ((3 : Int) ≠ 0)) then (bif (!(v9.Static == ((Int.tmod (IntKind.wrap .i64 ((IntKind.wrap .i64 ((IntKind.wrap .i64 ((IntKind.wrap .i64 (y2 + 1)) + 1)) + 1)) + 1)) 3) == 0))) then (some (Sum.inr (-1))) else (laws_heldFentS_L2 n mo4 x0 (IntKind.wrap .i64 (y1 + 1)) (IntKind.wrap .i64 ((IntKind.wrap .i64 ((IntKind.wrap .i64 ((IntKind.wrap .i64 ((IntKind.wrap .i64 (y2 + 1)) + 1)) + 1)) + 1)) + 1)))) else none)))))))))) else (some (Sum.inl y2)))
def laws_heldFentSF (n : Nat) (x0 : (List Fent)) (x1 : Int) : Option (Int) :=
  ((laws_heldFentS_L2 n n x0 0 x1).bind fun o => match o with | .inl y3 => (laws_heldFentS_J1 n y3) | .inr r => some r)
/-- loop.example/g00326/laws.heldFentS -/
theorem laws_heldFentS (n : Nat) (x0 : (List Fent)) (x1 : Int) (r : Int) (H : laws_heldFentSF n x0 x1 = some r) : LCall Try.prog 125 [.val false [.sl false 5 (CV.frzEs (x0.map Fent.row))], .val false [.lit (.int .i64 x1)]] [.val false [.lit (.int .i64 r)]] [] := by
  refine LCall.of_body tOk Try.func125 rfl (c := (.seq (.region 0 (rg Try.f125 0) false) (.seq (.seq (.region 1 (rg Try.f125 1) false) (.block 0 (.loop (.seq (.seq (.region 2 (rg Try.f125 2) false) (.cond (.tmp 9) .skip (.exit 0))) (.seq (.block 1 (.seq (.seq (.region 4 (rg Try.f125 4) false) (.cond (.tmp 18) (.seq (.region 5 (rg Try.f125 5) false) .ret) .skip)) (.seq (.region 6 (rg Try.f125 6) false) (.seq (.seq (.region 7 (rg Try.f125 7) false) (.cond (.tmp 27) (.seq (.region 8 (rg Try.f125 8) false) .ret) .skip)) (.seq (.region 9 (rg Try.f125 9) false) (.seq (.seq (.region 10 (rg Try.f125 10) false) (.cond (.tmp 36) (.seq (.region 11 (rg Try.f125 11) false) .ret) .skip)) (.seq (.region 12 (rg Try.f125 12) false) (.seq (.seq (.region 13 (rg Try.f125 13) false) (.cond (.tmp 45) (.seq (.region 14 (rg Try.f125 14) false) .ret) .skip)) (.seq (.region 15 (rg Try.f125 15) false) (.seq (.seq (.region 16 (rg Try.f125 16) false) (.cond (.tmp 56) (.seq (.region 17 (rg Try.f125 17) false) .ret) .skip)) (.region 18 (rg Try.f125 18) false))))))))))) (.region 3 (rg Try.f125 3) false)))))) (.seq (.region 19 (rg Try.f125 19) false) .ret)))) (by kernel_rfl) (Nat.le_of_ble_eq_true (by kernel_rfl)) 0 (rs := [.tmp 4]) rfl [] .nil [(false, [.lit (.int .i64 r)])] [] [] fun cx => ?_
  show Tr _ _ _ ⟨60, 0, [(0, .val false [.sl false 5 (CV.frzEs (x0.map Fent.row))]), (1, .val false [.lit (.int .i64 x1)])], []⟩ _
  unfold laws_heldFentSF at H
  refine Tr.rs ?_
  refine LAt.runU tOk 1 (by kernel_rfl) ?_
  refine LAt.doneU [4, 0, 1] [] (by kernel_rfl) ?_
  refine Tr.seq ?_
  refine Tr.rs ?_
  refine LAt.runU tOk 1 (by kernel_rfl) ?_
  refine LAt.doneU [5, 4, 0, 1] [] (by kernel_rfl) ?_
  obtain ⟨o4, eo4, Ho4⟩ := bind_some H
  clear H
  refine Tr.mid (ι := Int) (fun v => ⟨60, 0, [(4, .val false [.lit (.int .i64 0)]), (1, .val false [.lit (.int .i64 v)])], []⟩) (fun v => laws_heldFentS_J1 n v = some r) ?_ ?_
  · refine Tr.block ?_
    refine Tr.loop (ι := Nat × (Int × Int)) (fun v => ⟨60, 0, [(5, .val false [.lit (.int .i64 v.2.1)]), (4, .val false [.lit (.int .i64 0)]), (0, .val false [.sl false 5 (CV.frzEs (x0.map Fent.row))]), (1, .val false [.lit (.int .i64 v.2.2)])], []⟩) (fun v => laws_heldFentS_L2 n v.1 x0 v.2.1 v.2.2 = some o4) (fun v => v.1) (n, (0, x1)) eo4 (St.sub_of [5, 4, 0, 1] [] (by kernel_rfl)) ?_
    rintro ⟨mo4, y1, y2⟩ H
    have H : laws_heldFentS_L2 n mo4 x0 y1 y2 = some o4 := H
    obtain _ | mo4 := mo4
    · cases (show (none : Option _) = some o4 from H)
    · rw [laws_heldFentS_L2] at H
      refine Tr.seq ?_
      refine Tr.rs ?_
      refine LAt.runU tOk 2 (by kernel_rfl) ?_
      refine LAt.lenE tOk (t := 77) (ty := 3) (e := 147) (x := (.tmp 7)) (d := 8) (g := none) ⟨(.slot 7), [], 0, false, 5, (CV.frzEs (x0.map Fent.row))⟩ (x0).length _ (by kernel_rfl) (by kernel_rfl) (by kernel_rfl) (by kernel_rfl) (by kernel_rfl) (frz_len _ _) rfl ?_
      refine LAt.runU tOk 1 (by kernel_rfl) ?_
      refine LAt.doneU [9, 8, 7, 6, 5, 4, 0, 1] [] (by kernel_rfl) ?_
      refine Tr.to ⟨60, 0, [(9, .val false [.lit (.bool (decide (y1 < (x0.length : Int))))]), (8, .val false [.lit (.int .i64 (x0.length : Int))]), (7, .val false [.sl false 5 (CV.frzEs (x0.map Fent.row))]), (6, .val false [.lit (.int .i64 y1)]), (5, .val false [.lit (.int .i64 y1)]), (4, .val false [.lit (.int .i64 0)]), (0, .val false [.sl false 5 (CV.frzEs (x0.map Fent.row))]), (1, .val false [.lit (.int .i64 y2)])], []⟩ (by kernel_rfl) ?_
      cases h1 : (decide (y1 < (x0.length : Int)))
      · have H := bifF h1 H
        refine Tr.cond (b := false) (by kernel_rfl) (fun h => nomatch h) (fun _ => ?_)
        refine Tr.exit ?_
        refine And.intro (fun _ => ?_) (fun h => absurd rfl h)
        have H := Option.some.inj H
        subst H
        have H := Ho4
        dsimp only at H
        exact Exists.intro y2 (And.intro H (St.sub_of [4, 1] [] (by kernel_rfl)))
      · have H := bifT h1 H
        refine Tr.cond (b := true) (by kernel_rfl) (fun _ => ?_) (fun h => nomatch h)
        refine Tr.skip ?_
        show Tr _ _ _ _ _
        refine Tr.seq ?_
        refine Tr.block ?_
        refine Tr.seq ?_
        refine Tr.rs ?_
        refine LAt.runU tOk 2 (by kernel_rfl) ?_
        obtain ⟨v5, ev5, H⟩ := bind_some H
        refine LAt.indexF tOk (t := 77) (ty := 0) (x := (.tmp 12)) (y := (.tmp 13)) (d := 14) (g := none) ⟨(.slot 12), [], 0, false, 5, (CV.frzEs (x0.map Fent.row))⟩ y1 (Fent.row v5) _ (by kernel_rfl) (by kernel_rfl) (by kernel_rfl) (by kernel_rfl) rfl (idx_isF ev5) rfl ?_
        refine LAt.runU tOk 4 (by kernel_rfl) ?_
        refine LAt.doneU [18, 17, 16, 15, 14, 13, 12, 9, 8, 7, 6, 5, 4, 0, 1] [] (by kernel_rfl) ?_
        refine Tr.to ⟨60, 0, [(18, .val false [.lit (.bool (v5.Tag != y2))]), (17, .val false [.lit (.int .i64 y2)]), (16, .val false [.lit (.int .i64 v5.Tag)]), (15, .fad ((Fent.row v5))), (14, .fad ((Fent.row v5))), (13, .val false [.lit (.int .i64 y1)]), (12, .val false [.sl false 5 (CV.frzEs (x0.map Fent.row))]), (9, .val false [.lit (.bool true)]), (8, .val false [.lit (.int .i64 (x0.length : Int))]), (7, .val false [.sl false 5 (CV.frzEs (x0.map Fent.row))]), (6, .val false [.lit (.int .i64 y1)]), (5, .val false [.lit (.int .i64 y1)]), (4, .val false [.lit (.int .i64 0)]), (0, .val false [.sl false 5 (CV.frzEs (x0.map Fent.row))]), (1, .val false [.lit (.int .i64 y2)])], []⟩ (by kernel_rfl) ?_
        cases h2 : (v5.Tag != y2)
        · have H := bifF h2 H
          refine Tr.cond (b := false) (by kernel_rfl) (fun h => nomatch h) (fun _ => ?_)
          refine Tr.skip ?_
          show Tr _ _ _ _ _
          refine Tr.rs ?_
          refine LAt.runU tOk 3 (by kernel_rfl) ?_
          refine LAt.doneU [1, 20, 19, 18, 17, 16, 15, 14, 13, 12, 9, 8, 7, 6, 5, 4, 0] [] (by kernel_rfl) ?_
          refine Tr.seq ?_
          refine Tr.rs ?_
          refine LAt.runU tOk 2 (by kernel_rfl) ?_
          obtain ⟨v6, ev6, H⟩ := bind_some H
          refine LAt.indexF tOk (t := 77) (ty := 0) (x := (.tmp 21)) (y := (.tmp 22)) (d := 23) (g := none) ⟨(.slot 21), [], 0, false, 5, (CV.frzEs (x0.map Fent.row))⟩ y1 (Fent.row v6) _ (by kernel_rfl) (by kernel_rfl) (by kernel_rfl) (by kernel_rfl) rfl (idx_isF ev6) rfl ?_
          refine LAt.runU tOk 4 (by kernel_rfl) ?_
          refine LAt.doneU [27, 26, 25, 24, 23, 22, 21, 1, 20, 19, 18, 17, 16, 15, 14, 13, 12, 9, 8, 7, 6, 5, 4, 0] [] (by kernel_rfl) ?_
          refine Tr.to ⟨60, 0, [(27, .val false [.lit (.bool (v6.Mac != (IntKind.wrap .i64 (y2 + 1))))]), (26, .val false [.lit (.int .i64 (IntKind.wrap .i64 (y2 + 1)))]), (25, .val false [.lit (.int .i64 v6.Mac)]), (24, .fad (((Fent.row v6).drop 1))), (23, .fad ((Fent.row v6))), (22, .val false [.lit (.int .i64 y1)]), (21, .val false [.sl false 5 (CV.frzEs (x0.map Fent.row))]), (1, .val false [.lit (.int .i64 (IntKind.wrap .i64 (y2 + 1)))]), (20, .val false [.lit (.int .i64 (IntKind.wrap .i64 (y2 + 1)))]), (19, .val false [.lit (.int .i64 y2)]), (18, .val false [.lit (.bool false)]), (17, .val false [.lit (.int .i64 y2)]), (16, .val false [.lit (.int .i64 v5.Tag)]), (15, .fad ((Fent.row v5))), (14, .fad ((Fent.row v5))), (13, .val false [.lit (.int .i64 y1)]), (12, .val false [.sl false 5 (CV.frzEs (x0.map Fent.row))]), (9, .val false [.lit (.bool true)]), (8, .val false [.lit (.int .i64 (x0.length : Int))]), (7, .val false [.sl false 5 (CV.frzEs (x0.map Fent.row))]), (6, .val false [.lit (.int .i64 y1)]), (5, .val false [.lit (.int .i64 y1)]), (4, .val false [.lit (.int .i64 0)]), (0, .val false [.sl false 5 (CV.frzEs (x0.map Fent.row))])], []⟩ (by kernel_rfl) ?_
          cases h3 : (v6.Mac != (IntKind.wrap .i64 (y2 + 1)))
          · have H := bifF h3 H
            refine Tr.cond (b := false) (by kernel_rfl) (fun h => nomatch h) (fun _ => ?_)
            refine Tr.skip ?_
            show Tr _ _ _ _ _
            refine Tr.rs ?_
            refine LAt.runU tOk 3 (by kernel_rfl) ?_
            refine LAt.doneU [1, 29, 28, 27, 26, 25, 24, 23, 22, 21, 20, 19, 18, 17, 16, 15, 14, 13, 12, 9, 8, 7, 6, 5, 4, 0] [] (by kernel_rfl) ?_
            refine Tr.seq ?_
            refine Tr.rs ?_
            refine LAt.runU tOk 2 (by kernel_rfl) ?_
            obtain ⟨v7, ev7, H⟩ := bind_some H
            refine LAt.indexF tOk (t := 77) (ty := 0) (x := (.tmp 30)) (y := (.tmp 31)) (d := 32) (g := none) ⟨(.slot 30), [], 0, false, 5, (CV.frzEs (x0.map Fent.row))⟩ y1 (Fent.row v7) _ (by kernel_rfl) (by kernel_rfl) (by kernel_rfl) (by kernel_rfl) rfl (idx_isF ev7) rfl ?_
            refine LAt.runU tOk 4 (by kernel_rfl) ?_
            refine LAt.doneU [36, 35, 34, 33, 32, 31, 30, 1, 29, 28, 27, 26, 25, 24, 23, 22, 21, 20, 19, 18, 17, 16, 15, 14, 13, 12, 9, 8, 7, 6, 5, 4, 0] [] (by kernel_rfl) ?_
            refine Tr.to ⟨60, 0, [(36, .val false [.lit (.bool (v7.Port != (IntKind.wrap .i64 ((IntKind.wrap .i64 (y2 + 1)) + 1))))]), (35, .val false [.lit (.int .i64 (IntKind.wrap .i64 ((IntKind.wrap .i64 (y2 + 1)) + 1)))]), (34, .val false [.lit (.int .i64 v7.Port)]), (33, .fad (((Fent.row v7).drop 2))), (32, .fad ((Fent.row v7))), (31, .val false [.lit (.int .i64 y1)]), (30, .val false [.sl false 5 (CV.frzEs (x0.map Fent.row))]), (1, .val false [.lit (.int .i64 (IntKind.wrap .i64 ((IntKind.wrap .i64 (y2 + 1)) + 1)))]), (29, .val false [.lit (.int .i64 (IntKind.wrap .i64 ((IntKind.wrap .i64 (y2 + 1)) + 1)))]), (28, .val false [.lit (.int .i64 (IntKind.wrap .i64 (y2 + 1)))]), (27, .val false [.lit (.bool false)]), (26, .val false [.lit (.int .i64 (IntKind.wrap .i64 (y2 + 1)))]), (25, .val false [.lit (.int .i64 v6.Mac)]), (24, .fad (((Fent.row v6).drop 1))), (23, .fad ((Fent.row v6))), (22, .val false [.lit (.int .i64 y1)]), (21, .val false [.sl false 5 (CV.frzEs (x0.map Fent.row))]), (20, .val false [.lit (.int .i64 (IntKind.wrap .i64 (y2 + 1)))]), (19, .val false [.lit (.int .i64 y2)]), (18, .val false [.lit (.bool false)]), (17, .val false [.lit (.int .i64 y2)]), (16, .val false [.lit (.int .i64 v5.Tag)]), (15, .fad ((Fent.row v5))), (14, .fad ((Fent.row v5))), (13, .val false [.lit (.int .i64 y1)]), (12, .val false [.sl false 5 (CV.frzEs (x0.map Fent.row))]), (9, .val false [.lit (.bool true)]), (8, .val false [.lit (.int .i64 (x0.length : Int))]), (7, .val false [.sl false 5 (CV.frzEs (x0.map Fent.row))]), (6, .val false [.lit (.int .i64 y1)]), (5, .val false [.lit (.int .i64 y1)]), (4, .val false [.lit (.int .i64 0)]), (0, .val false [.sl false 5 (CV.frzEs (x0.map Fent.row))])], []⟩ (by kernel_rfl) ?_
            cases h4 : (v7.Port != (IntKind.wrap .i64 ((IntKind.wrap .i64 (y2 + 1)) + 1)))
            · have H := bifF h4 H
              refine Tr.cond (b := false) (by kernel_rfl) (fun h => nomatch h) (fun _ => ?_)
              refine Tr.skip ?_
              show Tr _ _ _ _ _
              refine Tr.rs ?_
              refine LAt.runU tOk 3 (by kernel_rfl) ?_
              refine LAt.doneU [1, 38, 37, 36, 35, 34, 33, 32, 31, 30, 29, 28, 27, 26, 25, 24, 23, 22, 21, 20, 19, 18, 17, 16, 15, 14, 13, 12, 9, 8, 7, 6, 5, 4, 0] [] (by kernel_rfl) ?_
              refine Tr.seq ?_
              refine Tr.rs ?_
              refine LAt.runU tOk 2 (by kernel_rfl) ?_
              obtain ⟨v8, ev8, H⟩ := bind_some H
              refine LAt.indexF tOk (t := 77) (ty := 0) (x := (.tmp 39)) (y := (.tmp 40)) (d := 41) (g := none) ⟨(.slot 39), [], 0, false, 5, (CV.frzEs (x0.map Fent.row))⟩ y1 (Fent.row v8) _ (by kernel_rfl) (by kernel_rfl) (by kernel_rfl) (by kernel_rfl) rfl (idx_isF ev8) rfl ?_
              refine LAt.runU tOk 4 (by kernel_rfl) ?_
              refine LAt.doneU [45, 44, 43, 42, 41, 40, 39, 1, 38, 37, 36, 35, 34, 33, 32, 31, 30, 29, 28, 27, 26, 25, 24, 23, 22, 21, 20, 19, 18, 17, 16, 15, 14, 13, 12, 9, 8, 7, 6, 5, 4, 0] [] (by kernel_rfl) ?_
              refine Tr.to ⟨60, 0, [(45, .val false [.lit (.bool (v8.Age != (IntKind.wrap .i64 ((IntKind.wrap .i64 ((IntKind.wrap .i64 (y2 + 1)) + 1)) + 1))))]), (44, .val false [.lit (.int .i64 (IntKind.wrap .i64 ((IntKind.wrap .i64 ((IntKind.wrap .i64 (y2 + 1)) + 1)) + 1)))]), (43, .val false [.lit (.int .i64 v8.Age)]), (42, .fad (((Fent.row v8).drop 3))), (41, .fad ((Fent.row v8))), (40, .val false [.lit (.int .i64 y1)]), (39, .val false [.sl false 5 (CV.frzEs (x0.map Fent.row))]), (1, .val false [.lit (.int .i64 (IntKind.wrap .i64 ((IntKind.wrap .i64 ((IntKind.wrap .i64 (y2 + 1)) + 1)) + 1)))]), (38, .val false [.lit (.int .i64 (IntKind.wrap .i64 ((IntKind.wrap .i64 ((IntKind.wrap .i64 (y2 + 1)) + 1)) + 1)))]), (37, .val false [.lit (.int .i64 (IntKind.wrap .i64 ((IntKind.wrap .i64 (y2 + 1)) + 1)))]), (36, .val false [.lit (.bool false)]), (35, .val false [.lit (.int .i64 (IntKind.wrap .i64 ((IntKind.wrap .i64 (y2 + 1)) + 1)))]), (34, .val false [.lit (.int .i64 v7.Port)]), (33, .fad (((Fent.row v7).drop 2))), (32, .fad ((Fent.row v7))), (31, .val false [.lit (.int .i64 y1)]), (30, .val false [.sl false 5 (CV.frzEs (x0.map Fent.row))]), (29, .val false [.lit (.int .i64 (IntKind.wrap .i64 ((IntKind.wrap .i64 (y2 + 1)) + 1)))]), (28, .val false [.lit (.int .i64 (IntKind.wrap .i64 (y2 + 1)))]), (27, .val false [.lit (.bool false)]), (26, .val false [.lit (.int .i64 (IntKind.wrap .i64 (y2 + 1)))]), (25, .val false [.lit (.int .i64 v6.Mac)]), (24, .fad (((Fent.row v6).drop 1))), (23, .fad ((Fent.row v6))), (22, .val false [.lit (.int .i64 y1)]), (21, .val false [.sl false 5 (CV.frzEs (x0.map Fent.row))]), (20, .val false [.lit (.int .i64 (IntKind.wrap .i64 (y2 + 1)))]), (19, .val false [.lit (.int .i64 y2)]), (18, .val false [.lit (.bool false)]), (17, .val false [.lit (.int .i64 y2)]), (16, .val false [.lit (.int .i64 v5.Tag)]), (15, .fad ((Fent.row v5))), (14, .fad ((Fent.row v5))), (13, .val false [.lit (.int .i64 y1)]), (12, .val false [.sl false 5 (CV.frzEs (x0.map Fent.row))]), (9, .val false [.lit (.bool true)]), (8, .val false [.lit (.int .i64 (x0.length : Int))]), (7, .val false [.sl false 5 (CV.frzEs (x0.map Fent.row))]), (6, .val false [.lit (.int .i64 y1)]), (5, .val false [.lit (.int .i64 y1)]), (4, .val false [.lit (.int .i64 0)]), (0, .val false [.sl false 5 (CV.frzEs (x0.map Fent.row))])], []⟩ (by kernel_rfl) ?_
              cases h5 : (v8.Age != (IntKind.wrap .i64 ((IntKind.wrap .i64 ((IntKind.wrap .i64 (y2 + 1)) + 1)) + 1)))
              · have H := bifF h5 H
                refine Tr.cond (b := false) (by kernel_rfl) (fun h => nomatch h) (fun _ => ?_)
                refine Tr.skip ?_
                show Tr _ _ _ _ _
                refine Tr.rs ?_
                refine LAt.runU tOk 3 (by kernel_rfl) ?_
                refine LAt.doneU [1, 47, 46, 45, 44, 43, 42, 41, 40, 39, 38, 37, 36, 35, 34, 33, 32, 31, 30, 29, 28, 27, 26, 25, 24, 23, 22, 21, 20, 19, 18, 17, 16, 15, 14, 13, 12, 9, 8, 7, 6, 5, 4, 0] [] (by kernel_rfl) ?_
                refine Tr.seq ?_
                refine Tr.rs ?_
                refine LAt.runU tOk 2 (by kernel_rfl) ?_
                obtain ⟨v9, ev9, H⟩ := bind_some H
                refine LAt.indexF tOk (t := 77) (ty := 0) (x := (.tmp 48)) (y := (.tmp 49)) (d := 50) (g := none) ⟨(.slot 48), [], 0, false, 5, (CV.frzEs (x0.map Fent.row))⟩ y1 (Fent.row v9) _ (by kernel_rfl) (by kernel_rfl) (by kernel_rfl) (by kernel_rfl) rfl (idx_isF ev9) rfl ?_
                refine LAt.runU tOk 3 (by kernel_rfl) ?_
                obtain ⟨hg10, H⟩ := guard_some H
                refine LAt.binC tOk (op := .rem) (t := 3) (ty := 3) (ty' := 3) (x := (.tmp 53)) (y := (.const (.int .i64 3))) (d := 54) (g := none) (.int .i64 (IntKind.wrap .i64 ((IntKind.wrap .i64 ((IntKind.wrap .i64 ((IntKind.wrap .i64 (y2 + 1)) + 1)) + 1)) + 1))) (.int .i64 3) (.int .i64 (Int.tmod (IntKind.wrap .i64 ((IntKind.wrap .i64 ((IntKind.wrap .i64 ((IntKind.wrap .i64 (y2 + 1)) + 1)) + 1)) + 1)) 3)) _ (by kernel_rfl) (by kernel_rfl) (by kernel_rfl) (by kernel_rfl) (by kernel_rfl) (φ := (IntKind.i64 = IntKind.i64 ∧ (3 : Int) ≠ 0)) (by kernel_rfl) (⟨rfl, of_decide_eq_true hg10⟩) rfl ?_
                refine LAt.runU tOk 2 (by kernel_rfl) ?_
                refine LAt.doneU [56, 55, 54, 53, 52, 51, 50, 49, 48, 1, 47, 46, 45, 44, 43, 42, 41, 40, 39, 38, 37, 36, 35, 34, 33, 32, 31, 30, 29, 28, 27, 26, 25, 24, 23, 22, 21, 20, 19, 18, 17, 16, 15, 14, 13, 12, 9, 8, 7, 6, 5, 4, 0] [] (by kernel_rfl) ?_
                refine Tr.to ⟨60, 0, [(56, .val false [.lit (.bool (!(v9.Static == ((Int.tmod (IntKind.wrap .i64 ((IntKind.wrap .i64 ((IntKind.wrap .i64 ((IntKind.wrap .i64 (y2 + 1)) + 1)) + 1)) + 1)) 3) == 0))))]), (55, .val false [.lit (.bool ((Int.tmod (IntKind.wrap .i64 ((IntKind.wrap .i64 ((IntKind.wrap .i64 ((IntKind.wrap .i64 (y2 + 1)) + 1)) + 1)) + 1)) 3) == 0))]), (54, .val false [.lit (.int .i64 (Int.tmod (IntKind.wrap .i64 ((IntKind.wrap .i64 ((IntKind.wrap .i64 ((IntKind.wrap .i64 (y2 + 1)) + 1)) + 1)) + 1)) 3))]), (53, .val false [.lit (.int .i64 (IntKind.wrap .i64 ((IntKind.wrap .i64 ((IntKind.wrap .i64 ((IntKind.wrap .i64 (y2 + 1)) + 1)) + 1)) + 1)))]), (52, .val false [.lit (.bool v9.Static)]), (51, .fad ([.lit (.bool v9.Static)])), (50, .fad ((Fent.row v9))), (49, .val false [.lit (.int .i64 y1)]), (48, .val false [.sl false 5 (CV.frzEs (x0.map Fent.row))]), (1, .val false [.lit (.int .i64 (IntKind.wrap .i64 ((IntKind.wrap .i64 ((IntKind.wrap .i64 ((IntKind.wrap .i64 (y2 + 1)) + 1)) + 1)) + 1)))]), (47, .val false [.lit (.int .i64 (IntKind.wrap .i64 ((IntKind.wrap .i64 ((IntKind.wrap .i64 ((IntKind.wrap .i64 (y2 + 1)) + 1)) + 1)) + 1)))]), (46, .val false [.lit (.int .i64 (IntKind.wrap .i64 ((IntKind.wrap .i64 ((IntKind.wrap .i64 (y2 + 1)) + 1)) + 1)))]), (45, .val false [.lit (.bool false)]), (44, .val false [.lit (.int .i64 (IntKind.wrap .i64 ((IntKind.wrap .i64 ((IntKind.wrap .i64 (y2 + 1)) + 1)) + 1)))]), (43, .val false [.lit (.int .i64 v8.Age)]), (42, .fad (((Fent.row v8).drop 3))), (41, .fad ((Fent.row v8))), (40, .val false [.lit (.int .i64 y1)]), (39, .val false [.sl false 5 (CV.frzEs (x0.map Fent.row))]), (38, .val false [.lit (.int .i64 (IntKind.wrap .i64 ((IntKind.wrap .i64 ((IntKind.wrap .i64 (y2 + 1)) + 1)) + 1)))]), (37, .val false [.lit (.int .i64 (IntKind.wrap .i64 ((IntKind.wrap .i64 (y2 + 1)) + 1)))]), (36, .val false [.lit (.bool false)]), (35, .val false [.lit (.int .i64 (IntKind.wrap .i64 ((IntKind.wrap .i64 (y2 + 1)) + 1)))]), (34, .val false [.lit (.int .i64 v7.Port)]), (33, .fad (((Fent.row v7).drop 2))), (32, .fad ((Fent.row v7))), (31, .val false [.lit (.int .i64 y1)]), (30, .val false [.sl false 5 (CV.frzEs (x0.map Fent.row))]), (29, .val false [.lit (.int .i64 (IntKind.wrap .i64 ((IntKind.wrap .i64 (y2 + 1)) + 1)))]), (28, .val false [.lit (.int .i64 (IntKind.wrap .i64 (y2 + 1)))]), (27, .val false [.lit (.bool false)]), (26, .val false [.lit (.int .i64 (IntKind.wrap .i64 (y2 + 1)))]), (25, .val false [.lit (.int .i64 v6.Mac)]), (24, .fad (((Fent.row v6).drop 1))), (23, .fad ((Fent.row v6))), (22, .val false [.lit (.int .i64 y1)]), (21, .val false [.sl false 5 (CV.frzEs (x0.map Fent.row))]), (20, .val false [.lit (.int .i64 (IntKind.wrap .i64 (y2 + 1)))]), (19, .val false [.lit (.int .i64 y2)]), (18, .val false [.lit (.bool false)]), (17, .val false [.lit (.int .i64 y2)]), (16, .val false [.lit (.int .i64 v5.Tag)]), (15, .fad ((Fent.row v5))), (14, .fad ((Fent.row v5))), (13, .val false [.lit (.int .i64 y1)]), (12, .val false [.sl false 5 (CV.frzEs (x0.map Fent.row))]), (9, .val false [.lit (.bool true)]), (8, .val false [.lit (.int .i64 (x0.length : Int))]), (7, .val false [.sl false 5 (CV.frzEs (x0.map Fent.row))]), (6, .val false [.lit (.int .i64 y1)]), (5, .val false [.lit (.int .i64 y1)]), (4, .val false [.lit (.int .i64 0)]), (0, .val false [.sl false 5 (CV.frzEs (x0.map Fent.row))])], []⟩ (by kernel_rfl) ?_
                cases h6 : (!(v9.Static == ((Int.tmod (IntKind.wrap .i64 ((IntKind.wrap .i64 ((IntKind.wrap .i64 ((IntKind.wrap .i64 (y2 + 1)) + 1)) + 1)) + 1)) 3) == 0)))
                · have H := bifF h6 H
                  refine Tr.cond (b := false) (by kernel_rfl) (fun h => nomatch h) (fun _ => ?_)
                  refine Tr.skip ?_
                  show Tr _ _ _ _ _
                  refine Tr.at ?_
                  refine LAt.runU tOk 3 (by kernel_rfl) ?_
                  refine LAt.doneU [1, 58, 57, 56, 55, 54, 53, 52, 51, 50, 49, 48, 47, 46, 45, 44, 43, 42, 41, 40, 39, 38, 37, 36, 35, 34, 33, 32, 31, 30, 29, 28, 27, 26, 25, 24, 23, 22, 21, 20, 19, 18, 17, 16, 15, 14, 13, 12, 9, 8, 7, 6, 5, 4, 0] [] (by kernel_rfl) ?_
                  show Tr _ _ _ _ _
                  refine Tr.at ?_
                  refine LAt.runU tOk 3 (by kernel_rfl) ?_
                  refine LAt.doneU [5, 11, 10, 1, 58, 57, 56, 55, 54, 53, 52, 51, 50, 49, 48, 47, 46, 45, 44, 43, 42, 41, 40, 39, 38, 37, 36, 35, 34, 33, 32, 31, 30, 29, 28, 27, 26, 25, 24, 23, 22, 21, 20, 19, 18, 17, 16, 15, 14, 13, 12, 9, 8, 7, 6, 4, 0] [] (by kernel_rfl) ?_
                  exact Exists.intro (mo4, ((IntKind.wrap .i64 (y1 + 1)), (IntKind.wrap .i64 ((IntKind.wrap .i64 ((IntKind.wrap .i64 ((IntKind.wrap .i64 ((IntKind.wrap .i64 (y2 + 1)) + 1)) + 1)) + 1)) + 1)))) (And.intro H (And.intro (Nat.lt_succ_self mo4) (St.sub_of [5, 4, 0, 1] [] (by kernel_rfl))))
                · have H := bifT h6 H
                  refine Tr.cond (b := true) (by kernel_rfl) (fun _ => ?_) (fun h => nomatch h)
                  refine Tr.rs ?_
                  refine LAt.runU tOk 1 (by kernel_rfl) ?_
                  refine LAt.doneU [4, 56, 55, 54, 53, 52, 51, 50, 49, 48, 1, 47, 46, 45, 44, 43, 42, 41, 40, 39, 38, 37, 36, 35, 34, 33, 32, 31, 30, 29, 28, 27, 26, 25, 24, 23, 22, 21, 20, 19, 18, 17, 16, 15, 14, 13, 12, 9, 8, 7, 6, 5, 0] [] (by kernel_rfl) ?_
                  refine Tr.ret ?_
                  have H := Option.some.inj H
                  subst H
                  have H := Ho4
                  dsimp only at H
                  have H := Option.some.inj H
                  subst H
                  exact Fin.of _ [(false, [.lit (.int .i64 (-1))])] (by kernel_rfl) rfl rfl
              · have H := bifT h5 H
                refine Tr.cond (b := true) (by kernel_rfl) (fun _ => ?_) (fun h => nomatch h)
                refine Tr.rs ?_
                refine LAt.runU tOk 1 (by kernel_rfl) ?_
                refine LAt.doneU [4, 45, 44, 43, 42, 41, 40, 39, 1, 38, 37, 36, 35, 34, 33, 32, 31, 30, 29, 28, 27, 26, 25, 24, 23, 22, 21, 20, 19, 18, 17, 16, 15, 14, 13, 12, 9, 8, 7, 6, 5, 0] [] (by kernel_rfl) ?_
                refine Tr.ret ?_
                have H := Option.some.inj H
                subst H
                have H := Ho4
                dsimp only at H
                have H := Option.some.inj H
                subst H
                exact Fin.of _ [(false, [.lit (.int .i64 (-1))])] (by kernel_rfl) rfl rfl
            · have H := bifT h4 H
              refine Tr.cond (b := true) (by kernel_rfl) (fun _ => ?_) (fun h => nomatch h)
              refine Tr.rs ?_
              refine LAt.runU tOk 1 (by kernel_rfl) ?_
              refine LAt.doneU [4, 36, 35, 34, 33, 32, 31, 30, 1, 29, 28, 27, 26, 25, 24, 23, 22, 21, 20, 19, 18, 17, 16, 15, 14, 13, 12, 9, 8, 7, 6, 5, 0] [] (by kernel_rfl) ?_
              refine Tr.ret ?_
              have H := Option.some.inj H
              subst H
              have H := Ho4
              dsimp only at H
              have H := Option.some.inj H
              subst H
              exact Fin.of _ [(false, [.lit (.int .i64 (-1))])] (by kernel_rfl) rfl rfl
          · have H := bifT h3 H
            refine Tr.cond (b := true) (by kernel_rfl) (fun _ => ?_) (fun h => nomatch h)
            refine Tr.rs ?_
            refine LAt.runU tOk 1 (by kernel_rfl) ?_
            refine LAt.doneU [4, 27, 26, 25, 24, 23, 22, 21, 1, 20, 19, 18, 17, 16, 15, 14, 13, 12, 9, 8, 7, 6, 5, 0] [] (by kernel_rfl) ?_
            refine Tr.ret ?_
            have H := Option.some.inj H
            subst H
            have H := Ho4
            dsimp only at H
            have H := Option.some.inj H
            subst H
            exact Fin.of _ [(false, [.lit (.int .i64 (-1))])] (by kernel_rfl) rfl rfl
        · have H := bifT h2 H
          refine Tr.cond (b := true) (by kernel_rfl) (fun _ => ?_) (fun h => nomatch h)
          refine Tr.rs ?_
          refine LAt.runU tOk 1 (by kernel_rfl) ?_
          refine LAt.doneU [4, 18, 17, 16, 15, 14, 13, 12, 9, 8, 7, 6, 5, 0, 1] [] (by kernel_rfl) ?_
          refine Tr.ret ?_
          have H := Option.some.inj H
          subst H
          have H := Ho4
          dsimp only at H
          have H := Option.some.inj H
          subst H
          exact Fin.of _ [(false, [.lit (.int .i64 (-1))])] (by kernel_rfl) rfl rfl
  · rintro y3 H
    have H : (laws_heldFentS_J1 n y3) = some r := H
    unfold laws_heldFentS_J1 at H
    show Tr _ _ _ _ _
    refine Tr.rs ?_
    refine LAt.runU tOk 2 (by kernel_rfl) ?_
    refine LAt.doneU [4] [] (by kernel_rfl) ?_
    refine Tr.ret ?_
    have H := Option.some.inj H
    subst H
    exact Fin.of _ [(false, [.lit (.int .i64 y3)])] (by kernel_rfl) rfl rfl

def laws_heldVrowS_J1 (n : Nat) (y3 : Int) : Option (Int) :=
  (some y3)
def laws_heldVrowS_L2 (n : Nat) : Nat → (List Vrow) → Int → Int → Option ((Int) ⊕ (Int))
  | 0, _, _, _ => none
  | mo4 + 1, x0, y1, y2 => (bif (decide (y1 < (x0.length : Int))) then ((idx x0 y1).bind fun v5 => (bif (v5.Id != y2) then (some (Sum.inr (-1))) else ((idx x0 y1).bind fun v6 => (bif (v6.Members != (IntKind.wrap .i64 (y2 + 1))) then (some (Sum.inr (-1))) else ((idx x0 y1).bind fun v7 => (bif (v7.Bare != (IntKind.wrap .i64 ((IntKind.wrap .i64 (y2 + 1)) + 1))) then (some (Sum.inr (-1))) else (laws_heldVrowS_L2 n mo4 x0 (IntKind.wrap .i64 (y1 + 1)) (IntKind.wrap .i64 ((IntKind.wrap .i64 ((IntKind.wrap .i64 (y2 + 1)) + 1)) + 1))))))))) else (some (Sum.inl y2)))
def laws_heldVrowSF (n : Nat) (x0 : (List Vrow)) (x1 : Int) : Option (Int) :=
  ((laws_heldVrowS_L2 n n x0 0 x1).bind fun o => match o with | .inl y3 => (laws_heldVrowS_J1 n y3) | .inr r => some r)
/-- loop.example/g00326/laws.heldVrowS -/
theorem laws_heldVrowS (n : Nat) (x0 : (List Vrow)) (x1 : Int) (r : Int) (H : laws_heldVrowSF n x0 x1 = some r) : LCall Try.prog 88 [.val false [.sl false 3 (CV.frzEs (x0.map Vrow.row))], .val false [.lit (.int .i64 x1)]] [.val false [.lit (.int .i64 r)]] [] := by
  refine LCall.of_body tOk Try.func88 rfl (c := (.seq (.region 0 (rg Try.f88 0) false) (.seq (.seq (.region 1 (rg Try.f88 1) false) (.block 0 (.loop (.seq (.seq (.region 2 (rg Try.f88 2) false) (.cond (.tmp 9) .skip (.exit 0))) (.seq (.block 1 (.seq (.seq (.region 4 (rg Try.f88 4) false) (.cond (.tmp 18) (.seq (.region 5 (rg Try.f88 5) false) .ret) .skip)) (.seq (.region 6 (rg Try.f88 6) false) (.seq (.seq (.region 7 (rg Try.f88 7) false) (.cond (.tmp 27) (.seq (.region 8 (rg Try.f88 8) false) .ret) .skip)) (.seq (.region 9 (rg Try.f88 9) false) (.seq (.seq (.region 10 (rg Try.f88 10) false) (.cond (.tmp 36) (.seq (.region 11 (rg Try.f88 11) false) .ret) .skip)) (.region 12 (rg Try.f88 12) false))))))) (.region 3 (rg Try.f88 3) false)))))) (.seq (.region 13 (rg Try.f88 13) false) .ret)))) (by kernel_rfl) (Nat.le_of_ble_eq_true (by kernel_rfl)) 0 (rs := [.tmp 4]) rfl [] .nil [(false, [.lit (.int .i64 r)])] [] [] fun cx => ?_
  show Tr _ _ _ ⟨40, 0, [(0, .val false [.sl false 3 (CV.frzEs (x0.map Vrow.row))]), (1, .val false [.lit (.int .i64 x1)])], []⟩ _
  unfold laws_heldVrowSF at H
  refine Tr.rs ?_
  refine LAt.runU tOk 1 (by kernel_rfl) ?_
  refine LAt.doneU [4, 0, 1] [] (by kernel_rfl) ?_
  refine Tr.seq ?_
  refine Tr.rs ?_
  refine LAt.runU tOk 1 (by kernel_rfl) ?_
  refine LAt.doneU [5, 4, 0, 1] [] (by kernel_rfl) ?_
  obtain ⟨o4, eo4, Ho4⟩ := bind_some H
  clear H
  refine Tr.mid (ι := Int) (fun v => ⟨40, 0, [(4, .val false [.lit (.int .i64 0)]), (1, .val false [.lit (.int .i64 v)])], []⟩) (fun v => laws_heldVrowS_J1 n v = some r) ?_ ?_
  · refine Tr.block ?_
    refine Tr.loop (ι := Nat × (Int × Int)) (fun v => ⟨40, 0, [(5, .val false [.lit (.int .i64 v.2.1)]), (4, .val false [.lit (.int .i64 0)]), (0, .val false [.sl false 3 (CV.frzEs (x0.map Vrow.row))]), (1, .val false [.lit (.int .i64 v.2.2)])], []⟩) (fun v => laws_heldVrowS_L2 n v.1 x0 v.2.1 v.2.2 = some o4) (fun v => v.1) (n, (0, x1)) eo4 (St.sub_of [5, 4, 0, 1] [] (by kernel_rfl)) ?_
    rintro ⟨mo4, y1, y2⟩ H
    have H : laws_heldVrowS_L2 n mo4 x0 y1 y2 = some o4 := H
    obtain _ | mo4 := mo4
    · cases (show (none : Option _) = some o4 from H)
    · rw [laws_heldVrowS_L2] at H
      refine Tr.seq ?_
      refine Tr.rs ?_
      refine LAt.runU tOk 2 (by kernel_rfl) ?_
      refine LAt.lenE tOk (t := 27) (ty := 3) (e := 56) (x := (.tmp 7)) (d := 8) (g := none) ⟨(.slot 7), [], 0, false, 3, (CV.frzEs (x0.map Vrow.row))⟩ (x0).length _ (by kernel_rfl) (by kernel_rfl) (by kernel_rfl) (by kernel_rfl) (by kernel_rfl) (frz_len _ _) rfl ?_
      refine LAt.runU tOk 1 (by kernel_rfl) ?_
      refine LAt.doneU [9, 8, 7, 6, 5, 4, 0, 1] [] (by kernel_rfl) ?_
      refine Tr.to ⟨40, 0, [(9, .val false [.lit (.bool (decide (y1 < (x0.length : Int))))]), (8, .val false [.lit (.int .i64 (x0.length : Int))]), (7, .val false [.sl false 3 (CV.frzEs (x0.map Vrow.row))]), (6, .val false [.lit (.int .i64 y1)]), (5, .val false [.lit (.int .i64 y1)]), (4, .val false [.lit (.int .i64 0)]), (0, .val false [.sl false 3 (CV.frzEs (x0.map Vrow.row))]), (1, .val false [.lit (.int .i64 y2)])], []⟩ (by kernel_rfl) ?_
      cases h1 : (decide (y1 < (x0.length : Int)))
      · have H := bifF h1 H
        refine Tr.cond (b := false) (by kernel_rfl) (fun h => nomatch h) (fun _ => ?_)
        refine Tr.exit ?_
        refine And.intro (fun _ => ?_) (fun h => absurd rfl h)
        have H := Option.some.inj H
        subst H
        have H := Ho4
        dsimp only at H
        exact Exists.intro y2 (And.intro H (St.sub_of [4, 1] [] (by kernel_rfl)))
      · have H := bifT h1 H
        refine Tr.cond (b := true) (by kernel_rfl) (fun _ => ?_) (fun h => nomatch h)
        refine Tr.skip ?_
        show Tr _ _ _ _ _
        refine Tr.seq ?_
        refine Tr.block ?_
        refine Tr.seq ?_
        refine Tr.rs ?_
        refine LAt.runU tOk 2 (by kernel_rfl) ?_
        obtain ⟨v5, ev5, H⟩ := bind_some H
        refine LAt.indexF tOk (t := 27) (ty := 0) (x := (.tmp 12)) (y := (.tmp 13)) (d := 14) (g := none) ⟨(.slot 12), [], 0, false, 3, (CV.frzEs (x0.map Vrow.row))⟩ y1 (Vrow.row v5) _ (by kernel_rfl) (by kernel_rfl) (by kernel_rfl) (by kernel_rfl) rfl (idx_isF ev5) rfl ?_
        refine LAt.runU tOk 4 (by kernel_rfl) ?_
        refine LAt.doneU [18, 17, 16, 15, 14, 13, 12, 9, 8, 7, 6, 5, 4, 0, 1] [] (by kernel_rfl) ?_
        refine Tr.to ⟨40, 0, [(18, .val false [.lit (.bool (v5.Id != y2))]), (17, .val false [.lit (.int .i64 y2)]), (16, .val false [.lit (.int .i64 v5.Id)]), (15, .fad ((Vrow.row v5))), (14, .fad ((Vrow.row v5))), (13, .val false [.lit (.int .i64 y1)]), (12, .val false [.sl false 3 (CV.frzEs (x0.map Vrow.row))]), (9, .val false [.lit (.bool true)]), (8, .val false [.lit (.int .i64 (x0.length : Int))]), (7, .val false [.sl false 3 (CV.frzEs (x0.map Vrow.row))]), (6, .val false [.lit (.int .i64 y1)]), (5, .val false [.lit (.int .i64 y1)]), (4, .val false [.lit (.int .i64 0)]), (0, .val false [.sl false 3 (CV.frzEs (x0.map Vrow.row))]), (1, .val false [.lit (.int .i64 y2)])], []⟩ (by kernel_rfl) ?_
        cases h2 : (v5.Id != y2)
        · have H := bifF h2 H
          refine Tr.cond (b := false) (by kernel_rfl) (fun h => nomatch h) (fun _ => ?_)
          refine Tr.skip ?_
          show Tr _ _ _ _ _
          refine Tr.rs ?_
          refine LAt.runU tOk 3 (by kernel_rfl) ?_
          refine LAt.doneU [1, 20, 19, 18, 17, 16, 15, 14, 13, 12, 9, 8, 7, 6, 5, 4, 0] [] (by kernel_rfl) ?_
          refine Tr.seq ?_
          refine Tr.rs ?_
          refine LAt.runU tOk 2 (by kernel_rfl) ?_
          obtain ⟨v6, ev6, H⟩ := bind_some H
          refine LAt.indexF tOk (t := 27) (ty := 0) (x := (.tmp 21)) (y := (.tmp 22)) (d := 23) (g := none) ⟨(.slot 21), [], 0, false, 3, (CV.frzEs (x0.map Vrow.row))⟩ y1 (Vrow.row v6) _ (by kernel_rfl) (by kernel_rfl) (by kernel_rfl) (by kernel_rfl) rfl (idx_isF ev6) rfl ?_
          refine LAt.runU tOk 4 (by kernel_rfl) ?_
          refine LAt.doneU [27, 26, 25, 24, 23, 22, 21, 1, 20, 19, 18, 17, 16, 15, 14, 13, 12, 9, 8, 7, 6, 5, 4, 0] [] (by kernel_rfl) ?_
          refine Tr.to ⟨40, 0, [(27, .val false [.lit (.bool (v6.Members != (IntKind.wrap .i64 (y2 + 1))))]), (26, .val false [.lit (.int .i64 (IntKind.wrap .i64 (y2 + 1)))]), (25, .val false [.lit (.int .i64 v6.Members)]), (24, .fad (((Vrow.row v6).drop 1))), (23, .fad ((Vrow.row v6))), (22, .val false [.lit (.int .i64 y1)]), (21, .val false [.sl false 3 (CV.frzEs (x0.map Vrow.row))]), (1, .val false [.lit (.int .i64 (IntKind.wrap .i64 (y2 + 1)))]), (20, .val false [.lit (.int .i64 (IntKind.wrap .i64 (y2 + 1)))]), (19, .val false [.lit (.int .i64 y2)]), (18, .val false [.lit (.bool false)]), (17, .val false [.lit (.int .i64 y2)]), (16, .val false [.lit (.int .i64 v5.Id)]), (15, .fad ((Vrow.row v5))), (14, .fad ((Vrow.row v5))), (13, .val false [.lit (.int .i64 y1)]), (12, .val false [.sl false 3 (CV.frzEs (x0.map Vrow.row))]), (9, .val false [.lit (.bool true)]), (8, .val false [.lit (.int .i64 (x0.length : Int))]), (7, .val false [.sl false 3 (CV.frzEs (x0.map Vrow.row))]), (6, .val false [.lit (.int .i64 y1)]), (5, .val false [.lit (.int .i64 y1)]), (4, .val false [.lit (.int .i64 0)]), (0, .val false [.sl false 3 (CV.frzEs (x0.map Vrow.row))])], []⟩ (by kernel_rfl) ?_
          cases h3 : (v6.Members != (IntKind.wrap .i64 (y2 + 1)))
          · have H := bifF h3 H
            refine Tr.cond (b := false) (by kernel_rfl) (fun h => nomatch h) (fun _ => ?_)
            refine Tr.skip ?_
            show Tr _ _ _ _ _
            refine Tr.rs ?_
            refine LAt.runU tOk 3 (by kernel_rfl) ?_
            refine LAt.doneU [1, 29, 28, 27, 26, 25, 24, 23, 22, 21, 20, 19, 18, 17, 16, 15, 14, 13, 12, 9, 8, 7, 6, 5, 4, 0] [] (by kernel_rfl) ?_
            refine Tr.seq ?_
            refine Tr.rs ?_
            refine LAt.runU tOk 2 (by kernel_rfl) ?_
            obtain ⟨v7, ev7, H⟩ := bind_some H
            refine LAt.indexF tOk (t := 27) (ty := 0) (x := (.tmp 30)) (y := (.tmp 31)) (d := 32) (g := none) ⟨(.slot 30), [], 0, false, 3, (CV.frzEs (x0.map Vrow.row))⟩ y1 (Vrow.row v7) _ (by kernel_rfl) (by kernel_rfl) (by kernel_rfl) (by kernel_rfl) rfl (idx_isF ev7) rfl ?_
            refine LAt.runU tOk 4 (by kernel_rfl) ?_
            refine LAt.doneU [36, 35, 34, 33, 32, 31, 30, 1, 29, 28, 27, 26, 25, 24, 23, 22, 21, 20, 19, 18, 17, 16, 15, 14, 13, 12, 9, 8, 7, 6, 5, 4, 0] [] (by kernel_rfl) ?_
            refine Tr.to ⟨40, 0, [(36, .val false [.lit (.bool (v7.Bare != (IntKind.wrap .i64 ((IntKind.wrap .i64 (y2 + 1)) + 1))))]), (35, .val false [.lit (.int .i64 (IntKind.wrap .i64 ((IntKind.wrap .i64 (y2 + 1)) + 1)))]), (34, .val false [.lit (.int .i64 v7.Bare)]), (33, .fad ([.lit (.int .i64 v7.Bare)])), (32, .fad ((Vrow.row v7))), (31, .val false [.lit (.int .i64 y1)]), (30, .val false [.sl false 3 (CV.frzEs (x0.map Vrow.row))]), (1, .val false [.lit (.int .i64 (IntKind.wrap .i64 ((IntKind.wrap .i64 (y2 + 1)) + 1)))]), (29, .val false [.lit (.int .i64 (IntKind.wrap .i64 ((IntKind.wrap .i64 (y2 + 1)) + 1)))]), (28, .val false [.lit (.int .i64 (IntKind.wrap .i64 (y2 + 1)))]), (27, .val false [.lit (.bool false)]), (26, .val false [.lit (.int .i64 (IntKind.wrap .i64 (y2 + 1)))]), (25, .val false [.lit (.int .i64 v6.Members)]), (24, .fad (((Vrow.row v6).drop 1))), (23, .fad ((Vrow.row v6))), (22, .val false [.lit (.int .i64 y1)]), (21, .val false [.sl false 3 (CV.frzEs (x0.map Vrow.row))]), (20, .val false [.lit (.int .i64 (IntKind.wrap .i64 (y2 + 1)))]), (19, .val false [.lit (.int .i64 y2)]), (18, .val false [.lit (.bool false)]), (17, .val false [.lit (.int .i64 y2)]), (16, .val false [.lit (.int .i64 v5.Id)]), (15, .fad ((Vrow.row v5))), (14, .fad ((Vrow.row v5))), (13, .val false [.lit (.int .i64 y1)]), (12, .val false [.sl false 3 (CV.frzEs (x0.map Vrow.row))]), (9, .val false [.lit (.bool true)]), (8, .val false [.lit (.int .i64 (x0.length : Int))]), (7, .val false [.sl false 3 (CV.frzEs (x0.map Vrow.row))]), (6, .val false [.lit (.int .i64 y1)]), (5, .val false [.lit (.int .i64 y1)]), (4, .val false [.lit (.int .i64 0)]), (0, .val false [.sl false 3 (CV.frzEs (x0.map Vrow.row))])], []⟩ (by kernel_rfl) ?_
            cases h4 : (v7.Bare != (IntKind.wrap .i64 ((IntKind.wrap .i64 (y2 + 1)) + 1)))
            · have H := bifF h4 H
              refine Tr.cond (b := false) (by kernel_rfl) (fun h => nomatch h) (fun _ => ?_)
              refine Tr.skip ?_
              show Tr _ _ _ _ _
              refine Tr.at ?_
              refine LAt.runU tOk 3 (by kernel_rfl) ?_
              refine LAt.doneU [1, 38, 37, 36, 35, 34, 33, 32, 31, 30, 29, 28, 27, 26, 25, 24, 23, 22, 21, 20, 19, 18, 17, 16, 15, 14, 13, 12, 9, 8, 7, 6, 5, 4, 0] [] (by kernel_rfl) ?_
              show Tr _ _ _ _ _
              refine Tr.at ?_
              refine LAt.runU tOk 3 (by kernel_rfl) ?_
              refine LAt.doneU [5, 11, 10, 1, 38, 37, 36, 35, 34, 33, 32, 31, 30, 29, 28, 27, 26, 25, 24, 23, 22, 21, 20, 19, 18, 17, 16, 15, 14, 13, 12, 9, 8, 7, 6, 4, 0] [] (by kernel_rfl) ?_
              exact Exists.intro (mo4, ((IntKind.wrap .i64 (y1 + 1)), (IntKind.wrap .i64 ((IntKind.wrap .i64 ((IntKind.wrap .i64 (y2 + 1)) + 1)) + 1)))) (And.intro H (And.intro (Nat.lt_succ_self mo4) (St.sub_of [5, 4, 0, 1] [] (by kernel_rfl))))
            · have H := bifT h4 H
              refine Tr.cond (b := true) (by kernel_rfl) (fun _ => ?_) (fun h => nomatch h)
              refine Tr.rs ?_
              refine LAt.runU tOk 1 (by kernel_rfl) ?_
              refine LAt.doneU [4, 36, 35, 34, 33, 32, 31, 30, 1, 29, 28, 27, 26, 25, 24, 23, 22, 21, 20, 19, 18, 17, 16, 15, 14, 13, 12, 9, 8, 7, 6, 5, 0] [] (by kernel_rfl) ?_
              refine Tr.ret ?_
              have H := Option.some.inj H
              subst H
              have H := Ho4
              dsimp only at H
              have H := Option.some.inj H
              subst H
              exact Fin.of _ [(false, [.lit (.int .i64 (-1))])] (by kernel_rfl) rfl rfl
          · have H := bifT h3 H
            refine Tr.cond (b := true) (by kernel_rfl) (fun _ => ?_) (fun h => nomatch h)
            refine Tr.rs ?_
            refine LAt.runU tOk 1 (by kernel_rfl) ?_
            refine LAt.doneU [4, 27, 26, 25, 24, 23, 22, 21, 1, 20, 19, 18, 17, 16, 15, 14, 13, 12, 9, 8, 7, 6, 5, 0] [] (by kernel_rfl) ?_
            refine Tr.ret ?_
            have H := Option.some.inj H
            subst H
            have H := Ho4
            dsimp only at H
            have H := Option.some.inj H
            subst H
            exact Fin.of _ [(false, [.lit (.int .i64 (-1))])] (by kernel_rfl) rfl rfl
        · have H := bifT h2 H
          refine Tr.cond (b := true) (by kernel_rfl) (fun _ => ?_) (fun h => nomatch h)
          refine Tr.rs ?_
          refine LAt.runU tOk 1 (by kernel_rfl) ?_
          refine LAt.doneU [4, 18, 17, 16, 15, 14, 13, 12, 9, 8, 7, 6, 5, 0, 1] [] (by kernel_rfl) ?_
          refine Tr.ret ?_
          have H := Option.some.inj H
          subst H
          have H := Ho4
          dsimp only at H
          have H := Option.some.inj H
          subst H
          exact Fin.of _ [(false, [.lit (.int .i64 (-1))])] (by kernel_rfl) rfl rfl
  · rintro y3 H
    have H : (laws_heldVrowS_J1 n y3) = some r := H
    unfold laws_heldVrowS_J1 at H
    show Tr _ _ _ _ _
    refine Tr.rs ?_
    refine LAt.runU tOk 2 (by kernel_rfl) ?_
    refine LAt.doneU [4] [] (by kernel_rfl) ?_
    refine Tr.ret ?_
    have H := Option.some.inj H
    subst H
    exact Fin.of _ [(false, [.lit (.int .i64 y3)])] (by kernel_rfl) rfl rfl

def laws_heldIntS_J1 (n : Nat) (y3 : Int) : Option (Int) :=
  (some y3)
def laws_heldIntS_L2 (n : Nat) : Nat → (List Int) → Int → Int → Option ((Int) ⊕ (Int))
  | 0, _, _, _ => none
  | mo4 + 1, x0, y1, y2 => (bif (decide (y1 < (x0.length : Int))) then ((idx x0 y1).bind fun v5 => (bif (v5 != y2) then (some (Sum.inr (-1))) else (laws_heldIntS_L2 n mo4 x0 (IntKind.wrap .i64 (y1 + 1)) (IntKind.wrap .i64 (y2 + 1))))) else (some (Sum.inl y2)))
def laws_heldIntSF (n : Nat) (x0 : (List Int)) (x1 : Int) : Option (Int) :=
  ((laws_heldIntS_L2 n n x0 0 x1).bind fun o => match o with | .inl y3 => (laws_heldIntS_J1 n y3) | .inr r => some r)
/-- loop.example/g00326/laws.heldIntS -/
theorem laws_heldIntS (n : Nat) (x0 : (List Int)) (x1 : Int) (r : Int) (H : laws_heldIntSF n x0 x1 = some r) : LCall Try.prog 89 [.val false [.sl false 1 (CV.frzEs (x0.map intRow))], .val false [.lit (.int .i64 x1)]] [.val false [.lit (.int .i64 r)]] [] := by
  refine LCall.of_body tOk Try.func89 rfl (c := (.seq (.region 0 (rg Try.f89 0) false) (.seq (.seq (.region 1 (rg Try.f89 1) false) (.block 0 (.loop (.seq (.seq (.region 2 (rg Try.f89 2) false) (.cond (.tmp 9) .skip (.exit 0))) (.seq (.block 1 (.seq (.seq (.region 4 (rg Try.f89 4) false) (.cond (.tmp 17) (.seq (.region 5 (rg Try.f89 5) false) .ret) .skip)) (.region 6 (rg Try.f89 6) false))) (.region 3 (rg Try.f89 3) false)))))) (.seq (.region 7 (rg Try.f89 7) false) .ret)))) (by kernel_rfl) (Nat.le_of_ble_eq_true (by kernel_rfl)) 0 (rs := [.tmp 4]) rfl [] .nil [(false, [.lit (.int .i64 r)])] [] [] fun cx => ?_
  show Tr _ _ _ ⟨21, 0, [(0, .val false [.sl false 1 (CV.frzEs (x0.map intRow))]), (1, .val false [.lit (.int .i64 x1)])], []⟩ _
  unfold laws_heldIntSF at H
  refine Tr.rs ?_
  refine LAt.runU tOk 1 (by kernel_rfl) ?_
  refine LAt.doneU [4, 0, 1] [] (by kernel_rfl) ?_
  refine Tr.seq ?_
  refine Tr.rs ?_
  refine LAt.runU tOk 1 (by kernel_rfl) ?_
  refine LAt.doneU [5, 4, 0, 1] [] (by kernel_rfl) ?_
  obtain ⟨o4, eo4, Ho4⟩ := bind_some H
  clear H
  refine Tr.mid (ι := Int) (fun v => ⟨21, 0, [(4, .val false [.lit (.int .i64 0)]), (1, .val false [.lit (.int .i64 v)])], []⟩) (fun v => laws_heldIntS_J1 n v = some r) ?_ ?_
  · refine Tr.block ?_
    refine Tr.loop (ι := Nat × (Int × Int)) (fun v => ⟨21, 0, [(5, .val false [.lit (.int .i64 v.2.1)]), (4, .val false [.lit (.int .i64 0)]), (0, .val false [.sl false 1 (CV.frzEs (x0.map intRow))]), (1, .val false [.lit (.int .i64 v.2.2)])], []⟩) (fun v => laws_heldIntS_L2 n v.1 x0 v.2.1 v.2.2 = some o4) (fun v => v.1) (n, (0, x1)) eo4 (St.sub_of [5, 4, 0, 1] [] (by kernel_rfl)) ?_
    rintro ⟨mo4, y1, y2⟩ H
    have H : laws_heldIntS_L2 n mo4 x0 y1 y2 = some o4 := H
    obtain _ | mo4 := mo4
    · cases (show (none : Option _) = some o4 from H)
    · rw [laws_heldIntS_L2] at H
      refine Tr.seq ?_
      refine Tr.rs ?_
      refine LAt.runU tOk 2 (by kernel_rfl) ?_
      refine LAt.lenE tOk (t := 23) (ty := 3) (e := 3) (x := (.tmp 7)) (d := 8) (g := none) ⟨(.slot 7), [], 0, false, 1, (CV.frzEs (x0.map intRow))⟩ (x0).length _ (by kernel_rfl) (by kernel_rfl) (by kernel_rfl) (by kernel_rfl) (by kernel_rfl) (frz_len _ _) rfl ?_
      refine LAt.runU tOk 1 (by kernel_rfl) ?_
      refine LAt.doneU [9, 8, 7, 6, 5, 4, 0, 1] [] (by kernel_rfl) ?_
      refine Tr.to ⟨21, 0, [(9, .val false [.lit (.bool (decide (y1 < (x0.length : Int))))]), (8, .val false [.lit (.int .i64 (x0.length : Int))]), (7, .val false [.sl false 1 (CV.frzEs (x0.map intRow))]), (6, .val false [.lit (.int .i64 y1)]), (5, .val false [.lit (.int .i64 y1)]), (4, .val false [.lit (.int .i64 0)]), (0, .val false [.sl false 1 (CV.frzEs (x0.map intRow))]), (1, .val false [.lit (.int .i64 y2)])], []⟩ (by kernel_rfl) ?_
      cases h1 : (decide (y1 < (x0.length : Int)))
      · have H := bifF h1 H
        refine Tr.cond (b := false) (by kernel_rfl) (fun h => nomatch h) (fun _ => ?_)
        refine Tr.exit ?_
        refine And.intro (fun _ => ?_) (fun h => absurd rfl h)
        have H := Option.some.inj H
        subst H
        have H := Ho4
        dsimp only at H
        exact Exists.intro y2 (And.intro H (St.sub_of [4, 1] [] (by kernel_rfl)))
      · have H := bifT h1 H
        refine Tr.cond (b := true) (by kernel_rfl) (fun _ => ?_) (fun h => nomatch h)
        refine Tr.skip ?_
        show Tr _ _ _ _ _
        refine Tr.seq ?_
        refine Tr.block ?_
        refine Tr.seq ?_
        refine Tr.rs ?_
        refine LAt.runU tOk 2 (by kernel_rfl) ?_
        obtain ⟨v5, ev5, H⟩ := bind_some H
        refine LAt.indexF tOk (t := 23) (ty := 0) (x := (.tmp 12)) (y := (.tmp 13)) (d := 14) (g := none) ⟨(.slot 12), [], 0, false, 1, (CV.frzEs (x0.map intRow))⟩ y1 [.lit (.int .i64 v5)] _ (by kernel_rfl) (by kernel_rfl) (by kernel_rfl) (by kernel_rfl) rfl (idx_isF ev5) rfl ?_
        refine LAt.runU tOk 3 (by kernel_rfl) ?_
        refine LAt.doneU [17, 16, 15, 14, 13, 12, 9, 8, 7, 6, 5, 4, 0, 1] [] (by kernel_rfl) ?_
        refine Tr.to ⟨21, 0, [(17, .val false [.lit (.bool (v5 != y2))]), (16, .val false [.lit (.int .i64 y2)]), (15, .val false [.lit (.int .i64 v5)]), (14, .fad ([.lit (.int .i64 v5)])), (13, .val false [.lit (.int .i64 y1)]), (12, .val false [.sl false 1 (CV.frzEs (x0.map intRow))]), (9, .val false [.lit (.bool true)]), (8, .val false [.lit (.int .i64 (x0.length : Int))]), (7, .val false [.sl false 1 (CV.frzEs (x0.map intRow))]), (6, .val false [.lit (.int .i64 y1)]), (5, .val false [.lit (.int .i64 y1)]), (4, .val false [.lit (.int .i64 0)]), (0, .val false [.sl false 1 (CV.frzEs (x0.map intRow))]), (1, .val false [.lit (.int .i64 y2)])], []⟩ (by kernel_rfl) ?_
        cases h2 : (v5 != y2)
        · have H := bifF h2 H
          refine Tr.cond (b := false) (by kernel_rfl) (fun h => nomatch h) (fun _ => ?_)
          refine Tr.skip ?_
          show Tr _ _ _ _ _
          refine Tr.at ?_
          refine LAt.runU tOk 3 (by kernel_rfl) ?_
          refine LAt.doneU [1, 19, 18, 17, 16, 15, 14, 13, 12, 9, 8, 7, 6, 5, 4, 0] [] (by kernel_rfl) ?_
          show Tr _ _ _ _ _
          refine Tr.at ?_
          refine LAt.runU tOk 3 (by kernel_rfl) ?_
          refine LAt.doneU [5, 11, 10, 1, 19, 18, 17, 16, 15, 14, 13, 12, 9, 8, 7, 6, 4, 0] [] (by kernel_rfl) ?_
          exact Exists.intro (mo4, ((IntKind.wrap .i64 (y1 + 1)), (IntKind.wrap .i64 (y2 + 1)))) (And.intro H (And.intro (Nat.lt_succ_self mo4) (St.sub_of [5, 4, 0, 1] [] (by kernel_rfl))))
        · have H := bifT h2 H
          refine Tr.cond (b := true) (by kernel_rfl) (fun _ => ?_) (fun h => nomatch h)
          refine Tr.rs ?_
          refine LAt.runU tOk 1 (by kernel_rfl) ?_
          refine LAt.doneU [4, 17, 16, 15, 14, 13, 12, 9, 8, 7, 6, 5, 0, 1] [] (by kernel_rfl) ?_
          refine Tr.ret ?_
          have H := Option.some.inj H
          subst H
          have H := Ho4
          dsimp only at H
          have H := Option.some.inj H
          subst H
          exact Fin.of _ [(false, [.lit (.int .i64 (-1))])] (by kernel_rfl) rfl rfl
  · rintro y3 H
    have H : (laws_heldIntS_J1 n y3) = some r := H
    unfold laws_heldIntS_J1 at H
    show Tr _ _ _ _ _
    refine Tr.rs ?_
    refine LAt.runU tOk 2 (by kernel_rfl) ?_
    refine LAt.doneU [4] [] (by kernel_rfl) ?_
    refine Tr.ret ?_
    have H := Option.some.inj H
    subst H
    exact Fin.of _ [(false, [.lit (.int .i64 y3)])] (by kernel_rfl) rfl rfl

def laws_heldVtabF (n : Nat) (x0 : Vtab) (x1 : Int) : Option (Int) :=
  ((laws_heldVrowSF n x0.Rows x1).bind fun r1 => (bif (decide (r1 < 0)) then (some (-1)) else ((laws_heldIntSF n x0.Pvid r1).bind fun r2 => (bif (decide (r2 < 0)) then (some (-1)) else (some r2)))))
/-- loop.example/g00326/laws.heldVtab -/
theorem laws_heldVtab (n : Nat) (x0 : Vtab) (x1 : Int) (r : Int) (H : laws_heldVtabF n x0 x1 = some r) : LCall Try.prog 21 [.val true (CV.frzRow (Vtab.row x0)), .val false [.lit (.int .i64 x1)]] [.val false [.lit (.int .i64 r)]] [] := by
  refine LCall.of_body tOk Try.func21 rfl (c := (.seq (.region 0 (rg Try.f21 0) false) (.seq (.region 1 (rg Try.f21 1) false) (.seq (.seq (.region 2 (rg Try.f21 2) false) (.cond (.tmp 10) (.seq (.region 3 (rg Try.f21 3) false) .ret) .skip)) (.seq (.region 4 (rg Try.f21 4) false) (.seq (.seq (.region 5 (rg Try.f21 5) false) (.cond (.tmp 16) (.seq (.region 6 (rg Try.f21 6) false) .ret) .skip)) (.seq (.region 7 (rg Try.f21 7) false) .ret))))))) (by kernel_rfl) (Nat.le_of_ble_eq_true (by kernel_rfl)) 0 (rs := [.tmp 4]) rfl [] .nil [(false, [.lit (.int .i64 r)])] [] [] fun cx => ?_
  show Tr _ _ _ ⟨18, 0, [(0, .val true (CV.frzRow (Vtab.row x0))), (1, .val false [.lit (.int .i64 x1)])], []⟩ _
  unfold laws_heldVtabF at H
  refine Tr.rs ?_
  refine LAt.runU tOk 2 (by kernel_rfl) ?_
  refine LAt.doneU [4, 2, 1] [2] (by kernel_rfl) ?_
  refine Tr.rs ?_
  refine LAt.runU tOk 3 (by kernel_rfl) ?_
  obtain ⟨r1, er1, H⟩ := bind_some H
  refine LAt.callU tOk [.rd, .rd] (f := 88) (av := #[.tmp 6, .tmp 7]) (ats := #[27, 3]) (d := (some 8)) (ty := 3) (g := none) (by kernel_rfl) (by kernel_rfl) (by kernel_rfl) [] (laws_heldVrowS n x0.Rows x1 r1 er1) (by kernel_rfl) (.inl rfl) ?_
  refine LAt.runU tOk 1 (by kernel_rfl) ?_
  refine LAt.doneU [1, 4, 2] [2] (by kernel_rfl) ?_
  refine Tr.seq ?_
  refine Tr.rs ?_
  refine LAt.runU tOk 2 (by kernel_rfl) ?_
  refine LAt.doneU [10, 1, 4, 2] [2] (by kernel_rfl) ?_
  refine Tr.to ⟨18, 0, [(10, .val false [.lit (.bool (decide (r1 < 0)))]), (1, .val false [.lit (.int .i64 r1)]), (4, .val false [.lit (.int .i64 0)]), (2, .adr (.box 2) [(0, 0)] 2 0)], [(2, (CV.frzRow (Vtab.row x0)))]⟩ (by kernel_rfl) ?_
  cases h1 : (decide (r1 < 0))
  · have H := bifF h1 H
    refine Tr.cond (b := false) (by kernel_rfl) (fun h => nomatch h) (fun _ => ?_)
    refine Tr.skip ?_
    show Tr _ _ _ _ _
    refine Tr.rs ?_
    refine LAt.runU tOk 3 (by kernel_rfl) ?_
    obtain ⟨r2, er2, H⟩ := bind_some H
    refine LAt.callU tOk [.rd, .rd] (f := 89) (av := #[.tmp 12, .tmp 13]) (ats := #[23, 3]) (d := (some 14)) (ty := 3) (g := none) (by kernel_rfl) (by kernel_rfl) (by kernel_rfl) [] (laws_heldIntS n x0.Pvid r1 r2 er2) (by kernel_rfl) (.inl rfl) ?_
    refine LAt.runU tOk 1 (by kernel_rfl) ?_
    refine LAt.doneU [1, 4] [] (by kernel_rfl) ?_
    refine Tr.seq ?_
    refine Tr.rs ?_
    refine LAt.runU tOk 2 (by kernel_rfl) ?_
    refine LAt.doneU [16, 1, 4] [] (by kernel_rfl) ?_
    refine Tr.to ⟨18, 0, [(16, .val false [.lit (.bool (decide (r2 < 0)))]), (1, .val false [.lit (.int .i64 r2)]), (4, .val false [.lit (.int .i64 0)])], []⟩ (by kernel_rfl) ?_
    cases h2 : (decide (r2 < 0))
    · have H := bifF h2 H
      refine Tr.cond (b := false) (by kernel_rfl) (fun h => nomatch h) (fun _ => ?_)
      refine Tr.skip ?_
      show Tr _ _ _ _ _
      refine Tr.rs ?_
      refine LAt.runU tOk 2 (by kernel_rfl) ?_
      refine LAt.doneU [4] [] (by kernel_rfl) ?_
      refine Tr.ret ?_
      have H := Option.some.inj H
      subst H
      exact Fin.of _ [(false, [.lit (.int .i64 r2)])] (by kernel_rfl) rfl rfl
    · have H := bifT h2 H
      refine Tr.cond (b := true) (by kernel_rfl) (fun _ => ?_) (fun h => nomatch h)
      refine Tr.rs ?_
      refine LAt.runU tOk 1 (by kernel_rfl) ?_
      refine LAt.doneU [4, 1] [] (by kernel_rfl) ?_
      refine Tr.ret ?_
      have H := Option.some.inj H
      subst H
      exact Fin.of _ [(false, [.lit (.int .i64 (-1))])] (by kernel_rfl) rfl rfl
  · have H := bifT h1 H
    refine Tr.cond (b := true) (by kernel_rfl) (fun _ => ?_) (fun h => nomatch h)
    refine Tr.rs ?_
    refine LAt.runU tOk 1 (by kernel_rfl) ?_
    refine LAt.doneU [4, 1, 2] [2] (by kernel_rfl) ?_
    refine Tr.ret ?_
    have H := Option.some.inj H
    subst H
    exact Fin.of _ [(false, [.lit (.int .i64 (-1))])] (by kernel_rfl) rfl rfl

def laws_heldBridgeF (n : Nat) (x0 : Bridge) (x1 : Int) : Option (Int) :=
  ((laws_heldPtSF n x0.Ports x1).bind fun r1 => (bif (decide (r1 < 0)) then (some (-1)) else ((laws_heldFentSF n x0.F r1).bind fun r2 => (bif (decide (r2 < 0)) then (some (-1)) else ((laws_heldVtabF n x0.V r2).bind fun r3 => (bif (decide (r3 < 0)) then (some (-1)) else (some r3)))))))
/-- loop.example/g00326/laws.heldBridge -/
theorem laws_heldBridge (n : Nat) (x0 : Bridge) (x1 : Int) (r : Int) (H : laws_heldBridgeF n x0 x1 = some r) : LCall Try.prog 59 [.val true (CV.frzRow (Bridge.row x0)), .val false [.lit (.int .i64 x1)]] [.val false [.lit (.int .i64 r)]] [] := by
  refine LCall.of_body tOk Try.func59 rfl (c := (.seq (.region 0 (rg Try.f59 0) false) (.seq (.region 1 (rg Try.f59 1) false) (.seq (.seq (.region 2 (rg Try.f59 2) false) (.cond (.tmp 10) (.seq (.region 3 (rg Try.f59 3) false) .ret) .skip)) (.seq (.region 4 (rg Try.f59 4) false) (.seq (.seq (.region 5 (rg Try.f59 5) false) (.cond (.tmp 16) (.seq (.region 6 (rg Try.f59 6) false) .ret) .skip)) (.seq (.region 7 (rg Try.f59 7) false) (.seq (.seq (.region 8 (rg Try.f59 8) false) (.cond (.tmp 22) (.seq (.region 9 (rg Try.f59 9) false) .ret) .skip)) (.seq (.region 10 (rg Try.f59 10) false) .ret))))))))) (by kernel_rfl) (Nat.le_of_ble_eq_true (by kernel_rfl)) 0 (rs := [.tmp 4]) rfl [] .nil [(false, [.lit (.int .i64 r)])] [] [] fun cx => ?_
  show Tr _ _ _ ⟨24, 0, [(0, .val true (CV.frzRow (Bridge.row x0))), (1, .val false [.lit (.int .i64 x1)])], []⟩ _
  unfold laws_heldBridgeF at H
  refine Tr.rs ?_
  refine LAt.runU tOk 2 (by kernel_rfl) ?_
  refine LAt.doneU [4, 2, 1] [2] (by kernel_rfl) ?_
  refine Tr.rs ?_
  refine LAt.runU tOk 3 (by kernel_rfl) ?_
  obtain ⟨r1, er1, H⟩ := bind_some H
  refine LAt.callU tOk [.rd, .rd] (f := 124) (av := #[.tmp 6, .tmp 7]) (ats := #[43, 3]) (d := (some 8)) (ty := 3) (g := none) (by kernel_rfl) (by kernel_rfl) (by kernel_rfl) [] (laws_heldPtS n x0.Ports x1 r1 er1) (by kernel_rfl) (.inl rfl) ?_
  refine LAt.runU tOk 1 (by kernel_rfl) ?_
  refine LAt.doneU [1, 4, 2] [2] (by kernel_rfl) ?_
  refine Tr.seq ?_
  refine Tr.rs ?_
  refine LAt.runU tOk 2 (by kernel_rfl) ?_
  refine LAt.doneU [10, 1, 4, 2] [2] (by kernel_rfl) ?_
  refine Tr.to ⟨24, 0, [(10, .val false [.lit (.bool (decide (r1 < 0)))]), (1, .val false [.lit (.int .i64 r1)]), (4, .val false [.lit (.int .i64 0)]), (2, .adr (.box 2) [(0, 0)] 11 0)], [(2, (CV.frzRow (Bridge.row x0)))]⟩ (by kernel_rfl) ?_
  cases h1 : (decide (r1 < 0))
  · have H := bifF h1 H
    refine Tr.cond (b := false) (by kernel_rfl) (fun h => nomatch h) (fun _ => ?_)
    refine Tr.skip ?_
    show Tr _ _ _ _ _
    refine Tr.rs ?_
    refine LAt.runU tOk 3 (by kernel_rfl) ?_
    obtain ⟨r2, er2, H⟩ := bind_some H
    refine LAt.callU tOk [.rd, .rd] (f := 125) (av := #[.tmp 12, .tmp 13]) (ats := #[77, 3]) (d := (some 14)) (ty := 3) (g := none) (by kernel_rfl) (by kernel_rfl) (by kernel_rfl) [] (laws_heldFentS n x0.F r1 r2 er2) (by kernel_rfl) (.inl rfl) ?_
    refine LAt.runU tOk 1 (by kernel_rfl) ?_
    refine LAt.doneU [1, 4, 2] [2] (by kernel_rfl) ?_
    refine Tr.seq ?_
    refine Tr.rs ?_
    refine LAt.runU tOk 2 (by kernel_rfl) ?_
    refine LAt.doneU [16, 1, 4, 2] [2] (by kernel_rfl) ?_
    refine Tr.to ⟨24, 0, [(16, .val false [.lit (.bool (decide (r2 < 0)))]), (1, .val false [.lit (.int .i64 r2)]), (4, .val false [.lit (.int .i64 0)]), (2, .adr (.box 2) [(0, 0)] 11 0)], [(2, (CV.frzRow (Bridge.row x0)))]⟩ (by kernel_rfl) ?_
    cases h2 : (decide (r2 < 0))
    · have H := bifF h2 H
      refine Tr.cond (b := false) (by kernel_rfl) (fun h => nomatch h) (fun _ => ?_)
      refine Tr.skip ?_
      show Tr _ _ _ _ _
      refine Tr.rs ?_
      refine LAt.runU tOk 3 (by kernel_rfl) ?_
      obtain ⟨r3, er3, H⟩ := bind_some H
      refine LAt.callU tOk [.rd, .rd] (f := 21) (av := #[.tmp 18, .tmp 19]) (ats := #[29, 3]) (d := (some 20)) (ty := 3) (g := none) (by kernel_rfl) (by kernel_rfl) (by kernel_rfl) [] (laws_heldVtab n x0.V r2 r3 er3) (by kernel_rfl) (.inl rfl) ?_
      refine LAt.runU tOk 1 (by kernel_rfl) ?_
      refine LAt.doneU [1, 4] [] (by kernel_rfl) ?_
      refine Tr.seq ?_
      refine Tr.rs ?_
      refine LAt.runU tOk 2 (by kernel_rfl) ?_
      refine LAt.doneU [22, 1, 4] [] (by kernel_rfl) ?_
      refine Tr.to ⟨24, 0, [(22, .val false [.lit (.bool (decide (r3 < 0)))]), (1, .val false [.lit (.int .i64 r3)]), (4, .val false [.lit (.int .i64 0)])], []⟩ (by kernel_rfl) ?_
      cases h3 : (decide (r3 < 0))
      · have H := bifF h3 H
        refine Tr.cond (b := false) (by kernel_rfl) (fun h => nomatch h) (fun _ => ?_)
        refine Tr.skip ?_
        show Tr _ _ _ _ _
        refine Tr.rs ?_
        refine LAt.runU tOk 2 (by kernel_rfl) ?_
        refine LAt.doneU [4] [] (by kernel_rfl) ?_
        refine Tr.ret ?_
        have H := Option.some.inj H
        subst H
        exact Fin.of _ [(false, [.lit (.int .i64 r3)])] (by kernel_rfl) rfl rfl
      · have H := bifT h3 H
        refine Tr.cond (b := true) (by kernel_rfl) (fun _ => ?_) (fun h => nomatch h)
        refine Tr.rs ?_
        refine LAt.runU tOk 1 (by kernel_rfl) ?_
        refine LAt.doneU [4, 1] [] (by kernel_rfl) ?_
        refine Tr.ret ?_
        have H := Option.some.inj H
        subst H
        exact Fin.of _ [(false, [.lit (.int .i64 (-1))])] (by kernel_rfl) rfl rfl
    · have H := bifT h2 H
      refine Tr.cond (b := true) (by kernel_rfl) (fun _ => ?_) (fun h => nomatch h)
      refine Tr.rs ?_
      refine LAt.runU tOk 1 (by kernel_rfl) ?_
      refine LAt.doneU [4, 1, 2] [2] (by kernel_rfl) ?_
      refine Tr.ret ?_
      have H := Option.some.inj H
      subst H
      exact Fin.of _ [(false, [.lit (.int .i64 (-1))])] (by kernel_rfl) rfl rfl
  · have H := bifT h1 H
    refine Tr.cond (b := true) (by kernel_rfl) (fun _ => ?_) (fun h => nomatch h)
    refine Tr.rs ?_
    refine LAt.runU tOk 1 (by kernel_rfl) ?_
    refine LAt.doneU [4, 1, 2] [2] (by kernel_rfl) ?_
    refine Tr.ret ?_
    have H := Option.some.inj H
    subst H
    exact Fin.of _ [(false, [.lit (.int .i64 (-1))])] (by kernel_rfl) rfl rfl

def laws_FnExactBridgeNewF (n : Nat) (x0 : Int) (x1 : Int) : Option (Bool) :=
  ((spec_BridgeNewF n x0 x1).bind fun r1 => ((impl_BridgeNewF n x0 x1).bind fun r2 => ((laws_eqBridgeF n r2 r1).bind fun r3 => (bif (!r3) then (some false) else ((laws_markBridgeF n r2 1).bind fun r4 => ((laws_heldBridgeF n r4.2 1).bind fun r5 => (bif (decide (r5 < 0)) then (some false) else (bif (r5 != r4.1) then (some false) else ((impl_BridgeNewF n x0 x1).bind fun r6 => ((laws_eqBridgeF n r6 r1).bind fun r7 => (bif (!r7) then (some false) else ((laws_heldBridgeF n r4.2 1).bind fun r8 => (bif (decide (r8 < 0)) then (some false) else (bif (r8 != r4.1) then (some false) else (some true)))))))))))))))
/-- loop.example/g00326/laws.FnExactBridgeNew -/
theorem laws_FnExactBridgeNew (n : Nat) (x0 : Int) (x1 : Int) (r : Bool) (H : laws_FnExactBridgeNewF n x0 x1 = some r) : LCall Try.prog 10 [.val false [.lit (.int .i64 x0)], .val false [.lit (.int .i64 x1)]] [.val false [.lit (.bool r)]] [] := by
  refine LCall.of_body tOk Try.func10 rfl (c := (.seq (.region 0 (rg Try.f10 0) false) (.seq (.region 1 (rg Try.f10 1) false) (.seq (.region 2 (rg Try.f10 2) false) (.seq (.seq (.region 3 (rg Try.f10 3) false) (.cond (.tmp 19) (.seq (.region 4 (rg Try.f10 4) false) .ret) .skip)) (.seq (.region 5 (rg Try.f10 5) false) (.seq (.region 6 (rg Try.f10 6) false) (.seq (.region 7 (rg Try.f10 7) false) (.seq (.region 8 (rg Try.f10 8) false) (.seq (.seq (.region 9 (rg Try.f10 9) false) (.cond (.tmp 27) (.seq (.region 10 (rg Try.f10 10) false) .ret) .skip)) (.seq (.seq (.region 11 (rg Try.f10 11) false) (.cond (.tmp 30) (.seq (.region 12 (rg Try.f10 12) false) .ret) .skip)) (.seq (.region 13 (rg Try.f10 13) false) (.seq (.seq (.region 14 (rg Try.f10 14) false) (.cond (.tmp 37) (.seq (.region 15 (rg Try.f10 15) false) .ret) .skip)) (.seq (.region 16 (rg Try.f10 16) false) (.seq (.region 17 (rg Try.f10 17) false) (.seq (.seq (.region 18 (rg Try.f10 18) false) (.cond (.tmp 42) (.seq (.region 19 (rg Try.f10 19) false) .ret) .skip)) (.seq (.seq (.region 20 (rg Try.f10 20) false) (.cond (.tmp 45) (.seq (.region 21 (rg Try.f10 21) false) .ret) .skip)) (.seq (.region 22 (rg Try.f10 22) false) .ret)))))))))))))))))) (by kernel_rfl) (Nat.le_of_ble_eq_true (by kernel_rfl)) 0 (rs := [.tmp 4]) rfl [] .nil [(false, [.lit (.bool r)])] [] [] fun cx => ?_
  show Tr _ _ _ ⟨46, 0, [(0, .val false [.lit (.int .i64 x0)]), (1, .val false [.lit (.int .i64 x1)])], []⟩ _
  unfold laws_FnExactBridgeNewF at H
  refine Tr.rs ?_
  refine LAt.runU tOk 1 (by kernel_rfl) ?_
  refine LAt.doneU [4, 0, 1] [] (by kernel_rfl) ?_
  refine Tr.rs ?_
  refine LAt.runU tOk 2 (by kernel_rfl) ?_
  obtain ⟨r1, er1, H⟩ := bind_some H
  refine LAt.callU tOk [.rd, .rd] (f := 56) (av := #[.tmp 10, .tmp 11]) (ats := #[3, 3]) (d := (some 12)) (ty := 79) (g := none) (by kernel_rfl) (by kernel_rfl) (by kernel_rfl) [] (spec_BridgeNew n x0 x1 r1 er1) (by kernel_rfl) (.inl rfl) ?_
  refine LAt.runU tOk 2 (by kernel_rfl) ?_
  refine LAt.doneU [5, 4, 0, 1] [5] (by kernel_rfl) ?_
  refine Tr.rs ?_
  refine LAt.runU tOk 2 (by kernel_rfl) ?_
  obtain ⟨r2, er2, H⟩ := bind_some H
  refine LAt.callU tOk [.rd, .rd] (f := 57) (av := #[.tmp 13, .tmp 14]) (ats := #[3, 3]) (d := (some 15)) (ty := 79) (g := none) (by kernel_rfl) (by kernel_rfl) (by kernel_rfl) [] (impl_BridgeNew n x0 x1 r2 er2) (by kernel_rfl) (.inl rfl) ?_
  refine LAt.runU tOk 2 (by kernel_rfl) ?_
  refine LAt.doneU [6, 5, 4, 0, 1] [6, 5] (by kernel_rfl) ?_
  refine Tr.seq ?_
  refine Tr.rs ?_
  refine LAt.runU tOk 2 (by kernel_rfl) ?_
  obtain ⟨r3, er3, H⟩ := bind_some H
  refine LAt.callU tOk [.rd, .rd] (f := 55) (av := #[.tmp 16, .tmp 17]) (ats := #[79, 79]) (d := (some 18)) (ty := 4) (g := none) (by kernel_rfl) (by kernel_rfl) (by kernel_rfl) [.box 6, .box 5] (laws_eqBridge n r2 r1 r3 er3) (by kernel_rfl) (.inr (rets_cons (mine_cons mine_lit mine_nil) rets_nil)) ?_
  refine LAt.runU tOk 1 (by kernel_rfl) ?_
  refine LAt.doneU [19, 6, 5, 4, 0, 1] [6, 5] (by kernel_rfl) ?_
  refine Tr.to ⟨46, 0, [(19, .val false [.lit (.bool (!r3))]), (6, .adr (.box 6) [(0, 0)] 11 0), (5, .adr (.box 5) [(0, 0)] 11 0), (4, .val false [.lit (.bool false)]), (0, .val false [.lit (.int .i64 x0)]), (1, .val false [.lit (.int .i64 x1)])], [(6, (Bridge.row r2)), (5, (Bridge.row r1))]⟩ (by kernel_rfl) ?_
  cases h1 : (!r3)
  · have H := bifF h1 H
    refine Tr.cond (b := false) (by kernel_rfl) (fun h => nomatch h) (fun _ => ?_)
    refine Tr.skip ?_
    show Tr _ _ _ _ _
    refine Tr.rs ?_
    refine LAt.runU tOk 1 (by kernel_rfl) ?_
    refine LAt.doneU [7, 6, 5, 4, 0, 1] [6, 5] (by kernel_rfl) ?_
    refine Tr.rs ?_
    refine LAt.runU tOk 2 (by kernel_rfl) ?_
    obtain ⟨r4, er4, H⟩ := bind_some H
    refine LAt.callL tOk [.lend, .rd] (f := 58) (av := #[.tmp 20, .tmp 21]) (ats := #[79, 3]) (d := (some 22)) (ty := 3) (g := none) (by kernel_rfl) (by kernel_rfl) (by kernel_rfl) [] (laws_markBridge n r2 1 r4 er4) (by kernel_rfl) (.inl rfl) ?_
    refine LAt.runU tOk 1 (by kernel_rfl) ?_
    refine LAt.doneU [7, 6, 5, 4, 0, 1] [6, 5] (by kernel_rfl) ?_
    refine Tr.rs ?_
    refine LAt.runU tOk 1 (by kernel_rfl) ?_
    refine LAt.doneU [8, 7, 6, 5, 4, 0, 1] [6, 5] (by kernel_rfl) ?_
    refine Tr.rs ?_
    refine LAt.runU tOk 2 (by kernel_rfl) ?_
    obtain ⟨r5, er5, H⟩ := bind_some H
    refine LAt.callU tOk [.rd, .rd] (f := 59) (av := #[.tmp 23, .tmp 24]) (ats := #[79, 3]) (d := (some 25)) (ty := 3) (g := none) (by kernel_rfl) (by kernel_rfl) (by kernel_rfl) [.box 6] (laws_heldBridge n r4.2 1 r5 er5) (by kernel_rfl) (.inr (rets_cons (mine_cons mine_lit mine_nil) rets_nil)) ?_
    refine LAt.runU tOk 1 (by kernel_rfl) ?_
    refine LAt.doneU [8, 7, 6, 5, 4, 0, 1] [6, 5] (by kernel_rfl) ?_
    refine Tr.seq ?_
    refine Tr.rs ?_
    refine LAt.runU tOk 2 (by kernel_rfl) ?_
    refine LAt.doneU [27, 8, 7, 6, 5, 4, 0, 1] [6, 5] (by kernel_rfl) ?_
    refine Tr.to ⟨46, 0, [(27, .val false [.lit (.bool (decide (r5 < 0)))]), (8, .val false [.lit (.int .i64 r5)]), (7, .val false [.lit (.int .i64 r4.1)]), (6, .adr (.box 6) [(0, 0)] 11 0), (5, .adr (.box 5) [(0, 0)] 11 0), (4, .val false [.lit (.bool false)]), (0, .val false [.lit (.int .i64 x0)]), (1, .val false [.lit (.int .i64 x1)])], [(6, (Bridge.row r4.2)), (5, (Bridge.row r1))]⟩ (by kernel_rfl) ?_
    cases h2 : (decide (r5 < 0))
    · have H := bifF h2 H
      refine Tr.cond (b := false) (by kernel_rfl) (fun h => nomatch h) (fun _ => ?_)
      refine Tr.skip ?_
      show Tr _ _ _ _ _
      refine Tr.seq ?_
      refine Tr.rs ?_
      refine LAt.runU tOk 3 (by kernel_rfl) ?_
      refine LAt.doneU [30, 8, 7, 6, 5, 4, 0, 1] [6, 5] (by kernel_rfl) ?_
      refine Tr.to ⟨46, 0, [(30, .val false [.lit (.bool (r5 != r4.1))]), (8, .val false [.lit (.int .i64 r5)]), (7, .val false [.lit (.int .i64 r4.1)]), (6, .adr (.box 6) [(0, 0)] 11 0), (5, .adr (.box 5) [(0, 0)] 11 0), (4, .val false [.lit (.bool false)]), (0, .val false [.lit (.int .i64 x0)]), (1, .val false [.lit (.int .i64 x1)])], [(6, (Bridge.row r4.2)), (5, (Bridge.row r1))]⟩ (by kernel_rfl) ?_
      cases h3 : (r5 != r4.1)
      · have H := bifF h3 H
        refine Tr.cond (b := false) (by kernel_rfl) (fun h => nomatch h) (fun _ => ?_)
        refine Tr.skip ?_
        show Tr _ _ _ _ _
        refine Tr.rs ?_
        refine LAt.runU tOk 2 (by kernel_rfl) ?_
        obtain ⟨r6, er6, H⟩ := bind_some H
        refine LAt.callU tOk [.rd, .rd] (f := 57) (av := #[.tmp 31, .tmp 32]) (ats := #[3, 3]) (d := (some 33)) (ty := 79) (g := none) (by kernel_rfl) (by kernel_rfl) (by kernel_rfl) [] (impl_BridgeNew n x0 x1 r6 er6) (by kernel_rfl) (.inl rfl) ?_
        refine LAt.runU tOk 2 (by kernel_rfl) ?_
        refine LAt.doneU [9, 8, 7, 6, 5, 4] [9, 6, 5] (by kernel_rfl) ?_
        refine Tr.seq ?_
        refine Tr.rs ?_
        refine LAt.runU tOk 2 (by kernel_rfl) ?_
        obtain ⟨r7, er7, H⟩ := bind_some H
        refine LAt.callU tOk [.rd, .rd] (f := 55) (av := #[.tmp 34, .tmp 35]) (ats := #[79, 79]) (d := (some 36)) (ty := 4) (g := none) (by kernel_rfl) (by kernel_rfl) (by kernel_rfl) [.box 9, .box 5] (laws_eqBridge n r6 r1 r7 er7) (by kernel_rfl) (.inr (rets_cons (mine_cons mine_lit mine_nil) rets_nil)) ?_
        refine LAt.runU tOk 1 (by kernel_rfl) ?_
        refine LAt.doneU [37, 8, 7, 6, 4] [6] (by kernel_rfl) ?_
        refine Tr.to ⟨46, 0, [(37, .val false [.lit (.bool (!r7))]), (8, .val false [.lit (.int .i64 r5)]), (7, .val false [.lit (.int .i64 r4.1)]), (6, .adr (.box 6) [(0, 0)] 11 0), (4, .val false [.lit (.bool false)])], [(6, (Bridge.row r4.2))]⟩ (by kernel_rfl) ?_
        cases h4 : (!r7)
        · have H := bifF h4 H
          refine Tr.cond (b := false) (by kernel_rfl) (fun h => nomatch h) (fun _ => ?_)
          refine Tr.skip ?_
          show Tr _ _ _ _ _
          refine Tr.rs ?_
          refine LAt.runU tOk 1 (by kernel_rfl) ?_
          refine LAt.doneU [8, 7, 6, 4] [6] (by kernel_rfl) ?_
          refine Tr.rs ?_
          refine LAt.runU tOk 2 (by kernel_rfl) ?_
          obtain ⟨r8, er8, H⟩ := bind_some H
          refine LAt.callU tOk [.rd, .rd] (f := 59) (av := #[.tmp 38, .tmp 39]) (ats := #[79, 3]) (d := (some 40)) (ty := 3) (g := none) (by kernel_rfl) (by kernel_rfl) (by kernel_rfl) [.box 6] (laws_heldBridge n r4.2 1 r8 er8) (by kernel_rfl) (.inr (rets_cons (mine_cons mine_lit mine_nil) rets_nil)) ?_
          refine LAt.runU tOk 1 (by kernel_rfl) ?_
          refine LAt.doneU [8, 7, 4] [] (by kernel_rfl) ?_
          refine Tr.seq ?_
          refine Tr.rs ?_
          refine LAt.runU tOk 2 (by kernel_rfl) ?_
          refine LAt.doneU [42, 8, 7, 4] [] (by kernel_rfl) ?_
          refine Tr.to ⟨46, 0, [(42, .val false [.lit (.bool (decide (r8 < 0)))]), (8, .val false [.lit (.int .i64 r8)]), (7, .val false [.lit (.int .i64 r4.1)]), (4, .val false [.lit (.bool false)])], []⟩ (by kernel_rfl) ?_
          cases h5 : (decide (r8 < 0))
          · have H := bifF h5 H
            refine Tr.cond (b := false) (by kernel_rfl) (fun h => nomatch h) (fun _ => ?_)
            refine Tr.skip ?_
            show Tr _ _ _ _ _
            refine Tr.seq ?_
            refine Tr.rs ?_
            refine LAt.runU tOk 3 (by kernel_rfl) ?_
            refine LAt.doneU [45, 4] [] (by kernel_rfl) ?_
            refine Tr.to ⟨46, 0, [(45, .val false [.lit (.bool (r8 != r4.1))]), (4, .val false [.lit (.bool false)])], []⟩ (by kernel_rfl) ?_
            cases h6 : (r8 != r4.1)
            · have H := bifF h6 H
              refine Tr.cond (b := false) (by kernel_rfl) (fun h => nomatch h) (fun _ => ?_)
              refine Tr.skip ?_
              show Tr _ _ _ _ _
              refine Tr.rs ?_
              refine LAt.runU tOk 1 (by kernel_rfl) ?_
              refine LAt.doneU [4] [] (by kernel_rfl) ?_
              refine Tr.ret ?_
              have H := Option.some.inj H
              subst H
              exact Fin.of _ [(false, [.lit (.bool true)])] (by kernel_rfl) rfl rfl
            · have H := bifT h6 H
              refine Tr.cond (b := true) (by kernel_rfl) (fun _ => ?_) (fun h => nomatch h)
              refine Tr.rs ?_
              refine LAt.runU tOk 1 (by kernel_rfl) ?_
              refine LAt.doneU [4] [] (by kernel_rfl) ?_
              refine Tr.ret ?_
              have H := Option.some.inj H
              subst H
              exact Fin.of _ [(false, [.lit (.bool false)])] (by kernel_rfl) rfl rfl
          · have H := bifT h5 H
            refine Tr.cond (b := true) (by kernel_rfl) (fun _ => ?_) (fun h => nomatch h)
            refine Tr.rs ?_
            refine LAt.runU tOk 1 (by kernel_rfl) ?_
            refine LAt.doneU [4, 8, 7] [] (by kernel_rfl) ?_
            refine Tr.ret ?_
            have H := Option.some.inj H
            subst H
            exact Fin.of _ [(false, [.lit (.bool false)])] (by kernel_rfl) rfl rfl
        · have H := bifT h4 H
          refine Tr.cond (b := true) (by kernel_rfl) (fun _ => ?_) (fun h => nomatch h)
          refine Tr.rs ?_
          refine LAt.runU tOk 1 (by kernel_rfl) ?_
          refine LAt.doneU [4, 8, 7, 6] [6] (by kernel_rfl) ?_
          refine Tr.ret ?_
          have H := Option.some.inj H
          subst H
          exact Fin.of _ [(false, [.lit (.bool false)])] (by kernel_rfl) rfl rfl
      · have H := bifT h3 H
        refine Tr.cond (b := true) (by kernel_rfl) (fun _ => ?_) (fun h => nomatch h)
        refine Tr.rs ?_
        refine LAt.runU tOk 1 (by kernel_rfl) ?_
        refine LAt.doneU [4, 8, 7, 6, 5, 0, 1] [6, 5] (by kernel_rfl) ?_
        refine Tr.ret ?_
        have H := Option.some.inj H
        subst H
        exact Fin.of _ [(false, [.lit (.bool false)])] (by kernel_rfl) rfl rfl
    · have H := bifT h2 H
      refine Tr.cond (b := true) (by kernel_rfl) (fun _ => ?_) (fun h => nomatch h)
      refine Tr.rs ?_
      refine LAt.runU tOk 1 (by kernel_rfl) ?_
      refine LAt.doneU [4, 8, 7, 6, 5, 0, 1] [6, 5] (by kernel_rfl) ?_
      refine Tr.ret ?_
      have H := Option.some.inj H
      subst H
      exact Fin.of _ [(false, [.lit (.bool false)])] (by kernel_rfl) rfl rfl
  · have H := bifT h1 H
    refine Tr.cond (b := true) (by kernel_rfl) (fun _ => ?_) (fun h => nomatch h)
    refine Tr.rs ?_
    refine LAt.runU tOk 1 (by kernel_rfl) ?_
    refine LAt.doneU [4, 6, 5, 0, 1] [6, 5] (by kernel_rfl) ?_
    refine Tr.ret ?_
    have H := Option.some.inj H
    subst H
    exact Fin.of _ [(false, [.lit (.bool false)])] (by kernel_rfl) rfl rfl
end Go.Proofs.Ytgpcfaiacggoiaa.Tw
