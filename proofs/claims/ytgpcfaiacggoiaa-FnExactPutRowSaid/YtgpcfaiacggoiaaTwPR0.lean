/- Functions of the program, over trees. -/
import Derived.Test.YtgpcfaiacggoiaaProg
import Derived.Test.YtgpcfaiacggoiaaTlRule
import Derived.Test.YtgpcfaiacggoiaaTlU3
import Derived.WalkKit
set_option linter.unusedVariables false
set_option linter.unusedSimpArgs false
set_option maxRecDepth 100000
set_option maxHeartbeats 1000000
namespace Go.Proofs.Ytgpcfaiacggoiaa.Tw
open Go Go.TL Go.Proofs
def tab : List (Nat × TI) := [(2, ⟨.int .i64, 1, 8, [.lit (.int .i64 0)]⟩),
  (3, ⟨.int .i64, 1, 8, [.lit (.int .i64 0)]⟩),
  (4, ⟨.bool, 1, 1, [.lit (.bool false)]⟩),
  (22, ⟨.sl 62, 1, 24, [.sl true 3 []]⟩),
  (23, ⟨.sl 3, 1, 24, [.sl true 1 []]⟩),
  (25, ⟨.st [(0, 1, 22), (1, 1, 23)], 2, 48, [.sl true 3 [], .sl true 1 []]⟩),
  (27, ⟨.sl 56, 1, 24, [.sl true 3 []]⟩),
  (29, ⟨.st [(0, 1, 27), (1, 1, 23)], 2, 48, [.sl true 3 [], .sl true 1 []]⟩),
  (56, ⟨.st [(0, 1, 3), (1, 1, 3), (2, 1, 3)], 3, 24, [.lit (.int .i64 0), .lit (.int .i64 0), .lit (.int .i64 0)]⟩),
  (62, ⟨.st [(0, 1, 3), (1, 1, 3), (2, 1, 3)], 3, 24, [.lit (.int .i64 0), .lit (.int .i64 0), .lit (.int .i64 0)]⟩),
  (136, ⟨.int .u64, 1, 8, [.lit (.int .u64 0)]⟩)]
theorem mixed : Try.prog.follows .mixedOrders = true := by kernel_rfl
theorem tOk : TOk Try.prog (lk tab) := tok_of (by kernel_rfl)

structure Vrow where
  Id : Int
  Members : Int
  Bare : Int
def Vrow.row (v : Vrow) : List CV := [.lit (.int .i64 v.Id), .lit (.int .i64 v.Members), .lit (.int .i64 v.Bare)]
def Vrow.wf (v : Vrow) : Prop := intWf v.Id ∧ intWf v.Members ∧ intWf v.Bare ∧ True
theorem Vrow.enc : Enc Vrow [.int .i64, .int .i64, .int .i64] Vrow.row Vrow.wf := fun cs h => by
  obtain ⟨c0, r0, rfl, k0, h⟩ := fitR_cons h
  obtain ⟨c1, r1, rfl, k1, h⟩ := fitR_cons h
  obtain ⟨c2, r2, rfl, k2, h⟩ := fitR_cons h
  obtain rfl := fitR_nil h
  obtain ⟨x0, rfl, w0⟩ := fitC_int k0
  obtain ⟨x1, rfl, w1⟩ := fitC_int k1
  obtain ⟨x2, rfl, w2⟩ := fitC_int k2
  exact ⟨⟨x0, x1, x2⟩, rfl, ⟨w0, w1, w2, trivial⟩⟩
theorem Vrow.row_mine (v : Vrow) : CV.mineRow (Vrow.row v) := mine_cons mine_lit (mine_cons mine_lit (mine_cons mine_lit (mine_nil)))

structure Vtab where
  Rows : (List Vrow)
  Pvid : (List Int)
def Vtab.row (v : Vtab) : List CV := [.sl true 3 (v.Rows.map Vrow.row), .sl true 1 (v.Pvid.map intRow)]
def Vtab.wf (v : Vtab) : Prop := listWf Vrow.wf v.Rows ∧ listWf intWf v.Pvid ∧ True
theorem Vtab.enc : Enc Vtab [.sl 3 [.int .i64, .int .i64, .int .i64], .sl 1 [.int .i64]] Vtab.row Vtab.wf := fun cs h => by
  obtain ⟨c0, r0, rfl, k0, h⟩ := fitR_cons h
  obtain ⟨c1, r1, rfl, k1, h⟩ := fitR_cons h
  obtain rfl := fitR_nil h
  obtain ⟨x0, rfl, w0⟩ := Enc.sl Vrow.enc k0
  obtain ⟨x1, rfl, w1⟩ := Enc.sl encInt k1
  exact ⟨⟨x0, x1⟩, rfl, ⟨w0, w1, trivial⟩⟩
theorem Vtab.row_mine (v : Vtab) : CV.mineRow (Vtab.row v) := mine_cons (mine_sl (mine_map Vrow.row_mine _)) (mine_cons (mine_sl (mine_map intRow_mine _)) (mine_nil))

def laws_szVrowSF (n : Nat) (x0 : (List Vrow)) (x1 : Int) : Option (Int) :=
  (bif (decide ((IntKind.wrap .i64 (x1 - (x0.length : Int))) < 0)) then (some (-1)) else (some (IntKind.wrap .i64 (x1 - (x0.length : Int)))))
/-- loop.example/g00326/laws.szVrowS -/
theorem laws_szVrowS (n : Nat) (x0 : (List Vrow)) (x1 : Int) (r : Int) (H : laws_szVrowSF n x0 x1 = some r) : LCall Try.prog 74 [.val false [.sl false 3 (CV.frzEs (x0.map Vrow.row))], .val false [.lit (.int .i64 x1)]] [.val false [.lit (.int .i64 r)]] [] := by
  refine LCall.of_body tOk Try.func74 rfl (c := (.seq (.region 0 (rg Try.f74 0) false) (.seq (.region 1 (rg Try.f74 1) false) (.seq (.seq (.region 2 (rg Try.f74 2) false) (.cond (.tmp 10) (.seq (.region 3 (rg Try.f74 3) false) .ret) .skip)) (.seq (.region 4 (rg Try.f74 4) false) .ret))))) (by kernel_rfl) (Nat.le_of_ble_eq_true (by kernel_rfl)) 0 (rs := [.tmp 4]) rfl [] .nil [(false, [.lit (.int .i64 r)])] [] [] fun cx => ?_
  show Tr _ _ _ ⟨12, 0, [(0, .val false [.sl false 3 (CV.frzEs (x0.map Vrow.row))]), (1, .val false [.lit (.int .i64 x1)])], []⟩ _
  unfold laws_szVrowSF at H
  refine Tr.rs ?_
  refine LAt.runU tOk 1 (by kernel_rfl) ?_
  refine LAt.doneU [4, 0, 1] [] (by kernel_rfl) ?_
  refine Tr.rs ?_
  refine LAt.runU tOk 2 (by kernel_rfl) ?_
  refine LAt.lenE tOk (t := 22) (ty := 3) (e := 62) (x := (.tmp 6)) (d := 7) (g := none) ⟨(.slot 6), [], 0, false, 3, (CV.frzEs (x0.map Vrow.row))⟩ (x0).length _ (by kernel_rfl) (by kernel_rfl) (by kernel_rfl) (by kernel_rfl) (by kernel_rfl) (frz_len _ _) rfl ?_
  refine LAt.runU tOk 2 (by kernel_rfl) ?_
  refine LAt.doneU [1, 4] [] (by kernel_rfl) ?_
  refine Tr.seq ?_
  refine Tr.rs ?_
  refine LAt.runU tOk 2 (by kernel_rfl) ?_
  refine LAt.doneU [10, 1, 4] [] (by kernel_rfl) ?_
  refine Tr.to ⟨12, 0, [(10, .val false [.lit (.bool (decide ((IntKind.wrap .i64 (x1 - (x0.length : Int))) < 0)))]), (1, .val false [.lit (.int .i64 (IntKind.wrap .i64 (x1 - (x0.length : Int))))]), (4, .val false [.lit (.int .i64 0)])], []⟩ (by kernel_rfl) ?_
  cases h1 : (decide ((IntKind.wrap .i64 (x1 - (x0.length : Int))) < 0))
  · have H := bifF h1 H
    refine Tr.cond (b := false) (by kernel_rfl) (fun h => nomatch h) (fun _ => ?_)
    refine Tr.skip ?_
    show Tr _ _ _ _ _
    refine Tr.rs ?_
    refine LAt.runU tOk 2 (by kernel_rfl) ?_
    refine LAt.doneU [4] [] (by kernel_rfl) ?_
    refine Tr.ret ?_
    have H := Option.some.inj H
    subst H
    exact Fin.of _ [(false, [.lit (.int .i64 (IntKind.wrap .i64 (x1 - (x0.length : Int))))])] (by kernel_rfl) rfl rfl
  · have H := bifT h1 H
    refine Tr.cond (b := true) (by kernel_rfl) (fun _ => ?_) (fun h => nomatch h)
    refine Tr.rs ?_
    refine LAt.runU tOk 1 (by kernel_rfl) ?_
    refine LAt.doneU [4, 1] [] (by kernel_rfl) ?_
    refine Tr.ret ?_
    have H := Option.some.inj H
    subst H
    exact Fin.of _ [(false, [.lit (.int .i64 (-1))])] (by kernel_rfl) rfl rfl

def laws_szIntSF (n : Nat) (x0 : (List Int)) (x1 : Int) : Option (Int) :=
  (bif (decide ((IntKind.wrap .i64 (x1 - (x0.length : Int))) < 0)) then (some (-1)) else (some (IntKind.wrap .i64 (x1 - (x0.length : Int)))))
/-- loop.example/g00326/laws.szIntS -/
theorem laws_szIntS (n : Nat) (x0 : (List Int)) (x1 : Int) (r : Int) (H : laws_szIntSF n x0 x1 = some r) : LCall Try.prog 75 [.val false [.sl false 1 (CV.frzEs (x0.map intRow))], .val false [.lit (.int .i64 x1)]] [.val false [.lit (.int .i64 r)]] [] := by
  refine LCall.of_body tOk Try.func75 rfl (c := (.seq (.region 0 (rg Try.f75 0) false) (.seq (.region 1 (rg Try.f75 1) false) (.seq (.seq (.region 2 (rg Try.f75 2) false) (.cond (.tmp 10) (.seq (.region 3 (rg Try.f75 3) false) .ret) .skip)) (.seq (.region 4 (rg Try.f75 4) false) .ret))))) (by kernel_rfl) (Nat.le_of_ble_eq_true (by kernel_rfl)) 0 (rs := [.tmp 4]) rfl [] .nil [(false, [.lit (.int .i64 r)])] [] [] fun cx => ?_
  show Tr _ _ _ ⟨12, 0, [(0, .val false [.sl false 1 (CV.frzEs (x0.map intRow))]), (1, .val false [.lit (.int .i64 x1)])], []⟩ _
  unfold laws_szIntSF at H
  refine Tr.rs ?_
  refine LAt.runU tOk 1 (by kernel_rfl) ?_
  refine LAt.doneU [4, 0, 1] [] (by kernel_rfl) ?_
  refine Tr.rs ?_
  refine LAt.runU tOk 2 (by kernel_rfl) ?_
  refine LAt.lenE tOk (t := 23) (ty := 3) (e := 3) (x := (.tmp 6)) (d := 7) (g := none) ⟨(.slot 6), [], 0, false, 1, (CV.frzEs (x0.map intRow))⟩ (x0).length _ (by kernel_rfl) (by kernel_rfl) (by kernel_rfl) (by kernel_rfl) (by kernel_rfl) (frz_len _ _) rfl ?_
  refine LAt.runU tOk 2 (by kernel_rfl) ?_
  refine LAt.doneU [1, 4] [] (by kernel_rfl) ?_
  refine Tr.seq ?_
  refine Tr.rs ?_
  refine LAt.runU tOk 2 (by kernel_rfl) ?_
  refine LAt.doneU [10, 1, 4] [] (by kernel_rfl) ?_
  refine Tr.to ⟨12, 0, [(10, .val false [.lit (.bool (decide ((IntKind.wrap .i64 (x1 - (x0.length : Int))) < 0)))]), (1, .val false [.lit (.int .i64 (IntKind.wrap .i64 (x1 - (x0.length : Int))))]), (4, .val false [.lit (.int .i64 0)])], []⟩ (by kernel_rfl) ?_
  cases h1 : (decide ((IntKind.wrap .i64 (x1 - (x0.length : Int))) < 0))
  · have H := bifF h1 H
    refine Tr.cond (b := false) (by kernel_rfl) (fun h => nomatch h) (fun _ => ?_)
    refine Tr.skip ?_
    show Tr _ _ _ _ _
    refine Tr.rs ?_
    refine LAt.runU tOk 2 (by kernel_rfl) ?_
    refine LAt.doneU [4] [] (by kernel_rfl) ?_
    refine Tr.ret ?_
    have H := Option.some.inj H
    subst H
    exact Fin.of _ [(false, [.lit (.int .i64 (IntKind.wrap .i64 (x1 - (x0.length : Int))))])] (by kernel_rfl) rfl rfl
  · have H := bifT h1 H
    refine Tr.cond (b := true) (by kernel_rfl) (fun _ => ?_) (fun h => nomatch h)
    refine Tr.rs ?_
    refine LAt.runU tOk 1 (by kernel_rfl) ?_
    refine LAt.doneU [4, 1] [] (by kernel_rfl) ?_
    refine Tr.ret ?_
    have H := Option.some.inj H
    subst H
    exact Fin.of _ [(false, [.lit (.int .i64 (-1))])] (by kernel_rfl) rfl rfl

def laws_szVtabF (n : Nat) (x0 : Vtab) (x1 : Int) : Option (Int) :=
  ((laws_szVrowSF n x0.Rows x1).bind fun r1 => (bif (decide (r1 < 0)) then (some (-1)) else ((laws_szIntSF n x0.Pvid r1).bind fun r2 => (bif (decide (r2 < 0)) then (some (-1)) else (some r2)))))
/-- loop.example/g00326/laws.szVtab -/
theorem laws_szVtab (n : Nat) (x0 : Vtab) (x1 : Int) (r : Int) (H : laws_szVtabF n x0 x1 = some r) : LCall Try.prog 15 [.val true (CV.frzRow (Vtab.row x0)), .val false [.lit (.int .i64 x1)]] [.val false [.lit (.int .i64 r)]] [] := by
  refine LCall.of_body tOk Try.func15 rfl (c := (.seq (.region 0 (rg Try.f15 0) false) (.seq (.region 1 (rg Try.f15 1) false) (.seq (.seq (.region 2 (rg Try.f15 2) false) (.cond (.tmp 10) (.seq (.region 3 (rg Try.f15 3) false) .ret) .skip)) (.seq (.region 4 (rg Try.f15 4) false) (.seq (.seq (.region 5 (rg Try.f15 5) false) (.cond (.tmp 16) (.seq (.region 6 (rg Try.f15 6) false) .ret) .skip)) (.seq (.region 7 (rg Try.f15 7) false) .ret))))))) (by kernel_rfl) (Nat.le_of_ble_eq_true (by kernel_rfl)) 0 (rs := [.tmp 4]) rfl [] .nil [(false, [.lit (.int .i64 r)])] [] [] fun cx => ?_
  show Tr _ _ _ ⟨18, 0, [(0, .val true (CV.frzRow (Vtab.row x0))), (1, .val false [.lit (.int .i64 x1)])], []⟩ _
  unfold laws_szVtabF at H
  refine Tr.rs ?_
  refine LAt.runU tOk 2 (by kernel_rfl) ?_
  refine LAt.doneU [4, 2, 1] [2] (by kernel_rfl) ?_
  refine Tr.rs ?_
  refine LAt.runU tOk 3 (by kernel_rfl) ?_
  obtain ⟨r1, er1, H⟩ := bind_some H
  refine LAt.callU tOk [.rd, .rd] (f := 74) (av := #[.tmp 6, .tmp 7]) (ats := #[22, 3]) (d := (some 8)) (ty := 3) (g := none) (by kernel_rfl) (by kernel_rfl) (by kernel_rfl) [] (laws_szVrowS n x0.Rows x1 r1 er1) (by kernel_rfl) (.inl rfl) ?_
  refine LAt.runU tOk 1 (by kernel_rfl) ?_
  refine LAt.doneU [1, 4, 2] [2] (by kernel_rfl) ?_
  refine Tr.seq ?_
  refine Tr.rs ?_
  refine LAt.runU tOk 2 (by kernel_rfl) ?_
  refine LAt.doneU [10, 1, 4, 2] [2] (by kernel_rfl) ?_
  refine Tr.to ⟨18, 0, [(10, .val false [.lit (.bool (decide (r1 < 0)))]), (1, .val false [.lit (.int .i64 r1)]), (4, .val false [.lit (.int .i64 0)]), (2, .adr (.box 2) [(0, 0)] 2 0)], [(2, (CV.frzRow (Vtab.row x0)))]⟩ (by kernel_rfl) ?_
  cases h1 : (decide (r1 < 0))
  · have H := bifF h1 H
    refine Tr.cond (b := false) (by kernel_rfl) (fun h => nomatch h) (fun _ => ?_)
    refine Tr.skip ?_
    show Tr _ _ _ _ _
    refine Tr.rs ?_
    refine LAt.runU tOk 3 (by kernel_rfl) ?_
    obtain ⟨r2, er2, H⟩ := bind_some H
    refine LAt.callU tOk [.rd, .rd] (f := 75) (av := #[.tmp 12, .tmp 13]) (ats := #[23, 3]) (d := (some 14)) (ty := 3) (g := none) (by kernel_rfl) (by kernel_rfl) (by kernel_rfl) [] (laws_szIntS n x0.Pvid r1 r2 er2) (by kernel_rfl) (.inl rfl) ?_
    refine LAt.runU tOk 1 (by kernel_rfl) ?_
    refine LAt.doneU [1, 4] [] (by kernel_rfl) ?_
    refine Tr.seq ?_
    refine Tr.rs ?_
    refine LAt.runU tOk 2 (by kernel_rfl) ?_
    refine LAt.doneU [16, 1, 4] [] (by kernel_rfl) ?_
    refine Tr.to ⟨18, 0, [(16, .val false [.lit (.bool (decide (r2 < 0)))]), (1, .val false [.lit (.int .i64 r2)]), (4, .val false [.lit (.int .i64 0)])], []⟩ (by kernel_rfl) ?_
    cases h2 : (decide (r2 < 0))
    · have H := bifF h2 H
      refine Tr.cond (b := false) (by kernel_rfl) (fun h => nomatch h) (fun _ => ?_)
      refine Tr.skip ?_
      show Tr _ _ _ _ _
      refine Tr.rs ?_
      refine LAt.runU tOk 2 (by kernel_rfl) ?_
      refine LAt.doneU [4] [] (by kernel_rfl) ?_
      refine Tr.ret ?_
      have H := Option.some.inj H
      subst H
      exact Fin.of _ [(false, [.lit (.int .i64 r2)])] (by kernel_rfl) rfl rfl
    · have H := bifT h2 H
      refine Tr.cond (b := true) (by kernel_rfl) (fun _ => ?_) (fun h => nomatch h)
      refine Tr.rs ?_
      refine LAt.runU tOk 1 (by kernel_rfl) ?_
      refine LAt.doneU [4, 1] [] (by kernel_rfl) ?_
      refine Tr.ret ?_
      have H := Option.some.inj H
      subst H
      exact Fin.of _ [(false, [.lit (.int .i64 (-1))])] (by kernel_rfl) rfl rfl
  · have H := bifT h1 H
    refine Tr.cond (b := true) (by kernel_rfl) (fun _ => ?_) (fun h => nomatch h)
    refine Tr.rs ?_
    refine LAt.runU tOk 1 (by kernel_rfl) ?_
    refine LAt.doneU [4, 1, 2] [2] (by kernel_rfl) ?_
    refine Tr.ret ?_
    have H := Option.some.inj H
    subst H
    exact Fin.of _ [(false, [.lit (.int .i64 (-1))])] (by kernel_rfl) rfl rfl

def laws_toVrowF (n : Nat) (x0 : Vrow) : Option (Vrow) :=
  (some x0)
/-- loop.example/g00326/laws.toVrow -/
theorem laws_toVrow (n : Nat) (x0 : Vrow) (r : Vrow) (H : laws_toVrowF n x0 = some r) : LCall Try.prog 43 [.val true (CV.frzRow (Vrow.row x0))] [.val true (Vrow.row r)] [] := by
  refine LCall.of_body tOk Try.func43 rfl (c := (.seq (.region 0 (rg Try.f43 0) false) (.seq (.region 1 (rg Try.f43 1) false) (.seq (.region 2 (rg Try.f43 2) false) (.seq (.region 3 (rg Try.f43 3) false) (.seq (.region 4 (rg Try.f43 4) false) (.seq (.region 5 (rg Try.f43 5) false) .ret))))))) (by kernel_rfl) (Nat.le_of_ble_eq_true (by kernel_rfl)) 0 (rs := [.cell 2 56]) rfl [] .nil [(true, (Vrow.row r))] [] [] fun cx => ?_
  show Tr _ _ _ ⟨14, 0, [(0, .val true (Vrow.row x0))], []⟩ _
  unfold laws_toVrowF at H
  refine Tr.rs ?_
  refine LAt.runU tOk 2 (by kernel_rfl) ?_
  refine LAt.doneU [2, 1] [2, 1] (by kernel_rfl) ?_
  refine Tr.rs ?_
  refine LAt.runU tOk 1 (by kernel_rfl) ?_
  refine LAt.doneU [3, 2, 1] [3, 2, 1] (by kernel_rfl) ?_
  refine Tr.rs ?_
  refine LAt.runU tOk 4 (by kernel_rfl) ?_
  refine LAt.doneU [3, 2, 1] [3, 2, 1] (by kernel_rfl) ?_
  refine Tr.rs ?_
  refine LAt.runU tOk 4 (by kernel_rfl) ?_
  refine LAt.doneU [3, 2, 1] [3, 2, 1] (by kernel_rfl) ?_
  refine Tr.rs ?_
  refine LAt.runU tOk 4 (by kernel_rfl) ?_
  refine LAt.doneU [3, 2] [3, 2] (by kernel_rfl) ?_
  refine Tr.rs ?_
  refine LAt.runU tOk 2 (by kernel_rfl) ?_
  refine LAt.doneU [2] [2] (by kernel_rfl) ?_
  refine Tr.ret ?_
  have H := Option.some.inj H
  subst H
  exact Fin.of _ [(true, (Vrow.row x0))] (by kernel_rfl) rfl rfl

def laws_toVrowS_J1 (n : Nat) (y4 : (List Vrow)) : Option ((List Vrow)) :=
  (some y4)
def laws_toVrowS_L2 (n : Nat) : Nat → (List Vrow) → Int → (List Vrow) → Option (((List Vrow)) ⊕ ((List Vrow)))
  | 0, _, _, _ => none
  | mo5 + 1, x0, y2, y3 => (bif (decide (y2 < (x0.length : Int))) then ((idx x0 y2).bind fun v6 => ((laws_toVrowF n v6).bind fun r7 => ((idx y3 y2).bind fun v8 => (laws_toVrowS_L2 n mo5 x0 (IntKind.wrap .i64 (y2 + 1)) (y3.set (y2.toNat) r7))))) else (some (Sum.inl y3)))
def laws_toVrowSF (n : Nat) (x0 : (List Vrow)) : Option ((List Vrow)) :=
  (bif (decide (0 ≤ (x0.length : Int)) && decide ((x0.length : Int) ≤ 268435456)) then ((laws_toVrowS_L2 n n x0 0 (List.replicate ((x0.length : Int)).toNat (⟨0, 0, 0⟩ : Vrow))).bind fun o => match o with | .inl y4 => (laws_toVrowS_J1 n y4) | .inr r => some r) else none)
/-- loop.example/g00326/laws.toVrowS -/
theorem laws_toVrowS (n : Nat) (x0 : (List Vrow)) (r : (List Vrow)) (H : laws_toVrowSF n x0 = some r) : LCall Try.prog 79 [.val false [.sl false 3 (CV.frzEs (x0.map Vrow.row))]] [.val false [.sl true 3 (r.map Vrow.row)]] [] := by
  refine LCall.of_body tOk Try.func79 rfl (c := (.seq (.region 0 (rg Try.f79 0) false) (.seq (.region 1 (rg Try.f79 1) false) (.seq (.seq (.region 2 (rg Try.f79 2) false) (.block 0 (.loop (.seq (.seq (.region 3 (rg Try.f79 3) false) (.cond (.tmp 11) .skip (.exit 0))) (.seq (.block 1 (.region 5 (rg Try.f79 5) false)) (.region 4 (rg Try.f79 4) false)))))) (.seq (.region 6 (rg Try.f79 6) false) .ret))))) (by kernel_rfl) (Nat.le_of_ble_eq_true (by kernel_rfl)) 0 (rs := [.tmp 2]) rfl [] .nil [(false, [.sl true 3 (r.map Vrow.row)])] [] [] fun cx => ?_
  show Tr _ _ _ ⟨23, 0, [(0, .val false [.sl false 3 (CV.frzEs (x0.map Vrow.row))])], []⟩ _
  unfold laws_toVrowSF at H
  refine Tr.rs ?_
  refine LAt.runU tOk 1 (by kernel_rfl) ?_
  refine LAt.doneU [2, 0] [] (by kernel_rfl) ?_
  refine Tr.rs ?_
  refine LAt.runU tOk 1 (by kernel_rfl) ?_
  refine LAt.lenE tOk (t := 22) (ty := 3) (e := 62) (x := (.tmp 5)) (d := 6) (g := none) ⟨(.slot 5), [], 0, false, 3, (CV.frzEs (x0.map Vrow.row))⟩ (x0).length _ (by kernel_rfl) (by kernel_rfl) (by kernel_rfl) (by kernel_rfl) (by kernel_rfl) (frz_len _ _) rfl ?_
  obtain ⟨hg1, H⟩ := guard_some H
  refine LAt.makeG tOk (t := 27) (ty := 27) (e := 56) (x := (.tmp 6)) (d := 7) (g := none) ⟨.st [(0, 1, 3), (1, 1, 3), (2, 1, 3)], 3, 24, [.lit (.int .i64 0), .lit (.int .i64 0), .lit (.int .i64 0)]⟩ (x0.length : Int) ((List.replicate ((x0.length : Int)).toNat (⟨0, 0, 0⟩ : Vrow)).map Vrow.row) _ (by kernel_rfl) (by kernel_rfl) (by kernel_rfl) (by kernel_rfl) (by kernel_rfl) (by kernel_rfl) hg1 (by kernel_rfl) (rep_map _ rfl) rfl ?_
  refine LAt.moveU (T := lk tab) (ty := 27) (x := (.tmp 7)) (d := 3) (g := none) false [.sl true 3 ((List.replicate ((x0.length : Int)).toNat (⟨0, 0, 0⟩ : Vrow)).map Vrow.row)] (by kernel_rfl) (by kernel_rfl) (by kernel_rfl) (by kernel_rfl) (by kernel_rfl) ?_
  refine LAt.doneU [3, 2, 0] [] (by kernel_rfl) ?_
  refine Tr.seq ?_
  refine Tr.rs ?_
  refine LAt.runU tOk 1 (by kernel_rfl) ?_
  refine LAt.doneU [4, 3, 2, 0] [] (by kernel_rfl) ?_
  obtain ⟨o5, eo5, Ho5⟩ := bind_some H
  clear H
  refine Tr.mid (ι := (List Vrow)) (fun v => ⟨23, 0, [(3, .val false [.sl true 3 (v.map Vrow.row)]), (2, .val false [.sl true 3 (([] : List Vrow).map Vrow.row)])], []⟩) (fun v => laws_toVrowS_J1 n v = some r) ?_ ?_
  · refine Tr.block ?_
    refine Tr.loop (ι := Nat × (Int × (List Vrow))) (fun v => ⟨23, 0, [(4, .val false [.lit (.int .i64 v.2.1)]), (3, .val false [.sl true 3 (v.2.2.map Vrow.row)]), (2, .val false [.sl true 3 (([] : List Vrow).map Vrow.row)]), (0, .val false [.sl false 3 (CV.frzEs (x0.map Vrow.row))])], []⟩) (fun v => laws_toVrowS_L2 n v.1 x0 v.2.1 v.2.2 = some o5) (fun v => v.1) (n, (0, (List.replicate ((x0.length : Int)).toNat (⟨0, 0, 0⟩ : Vrow)))) eo5 (St.sub_of [4, 3, 2, 0] [] (by kernel_rfl)) ?_
    rintro ⟨mo5, y2, y3⟩ H
    have H : laws_toVrowS_L2 n mo5 x0 y2 y3 = some o5 := H
    obtain _ | mo5 := mo5
    · cases (show (none : Option _) = some o5 from H)
    · rw [laws_toVrowS_L2] at H
      refine Tr.seq ?_
      refine Tr.rs ?_
      refine LAt.runU tOk 2 (by kernel_rfl) ?_
      refine LAt.lenE tOk (t := 22) (ty := 3) (e := 62) (x := (.tmp 9)) (d := 10) (g := none) ⟨(.slot 9), [], 0, false, 3, (CV.frzEs (x0.map Vrow.row))⟩ (x0).length _ (by kernel_rfl) (by kernel_rfl) (by kernel_rfl) (by kernel_rfl) (by kernel_rfl) (frz_len _ _) rfl ?_
      refine LAt.runU tOk 1 (by kernel_rfl) ?_
      refine LAt.doneU [11, 10, 9, 8, 4, 3, 2, 0] [] (by kernel_rfl) ?_
      refine Tr.to ⟨23, 0, [(11, .val false [.lit (.bool (decide (y2 < (x0.length : Int))))]), (10, .val false [.lit (.int .i64 (x0.length : Int))]), (9, .val false [.sl false 3 (CV.frzEs (x0.map Vrow.row))]), (8, .val false [.lit (.int .i64 y2)]), (4, .val false [.lit (.int .i64 y2)]), (3, .val false [.sl true 3 (y3.map Vrow.row)]), (2, .val false [.sl true 3 (([] : List Vrow).map Vrow.row)]), (0, .val false [.sl false 3 (CV.frzEs (x0.map Vrow.row))])], []⟩ (by kernel_rfl) ?_
      cases h1 : (decide (y2 < (x0.length : Int)))
      · have H := bifF h1 H
        refine Tr.cond (b := false) (by kernel_rfl) (fun h => nomatch h) (fun _ => ?_)
        refine Tr.exit ?_
        refine And.intro (fun _ => ?_) (fun h => absurd rfl h)
        have H := Option.some.inj H
        subst H
        have H := Ho5
        dsimp only at H
        exact Exists.intro y3 (And.intro H (St.sub_of [3, 2] [] (by kernel_rfl)))
      · have H := bifT h1 H
        refine Tr.cond (b := true) (by kernel_rfl) (fun _ => ?_) (fun h => nomatch h)
        refine Tr.skip ?_
        show Tr _ _ _ _ _
        refine Tr.seq ?_
        refine Tr.block ?_
        refine Tr.at ?_
        refine LAt.runU tOk 4 (by kernel_rfl) ?_
        obtain ⟨v6, ev6, H⟩ := bind_some H
        refine LAt.indexF tOk (t := 22) (ty := 0) (x := (.tmp 16)) (y := (.tmp 17)) (d := 18) (g := none) ⟨(.slot 16), [], 0, false, 3, (CV.frzEs (x0.map Vrow.row))⟩ y2 (Vrow.row v6) _ (by kernel_rfl) (by kernel_rfl) (by kernel_rfl) (by kernel_rfl) rfl (idx_isF ev6) rfl ?_
        refine LAt.runU tOk 1 (by kernel_rfl) ?_
        obtain ⟨r7, er7, H⟩ := bind_some H
        refine LAt.callU tOk [.rd] (f := 43) (av := #[.tmp 19]) (ats := #[62]) (d := (some 20)) (ty := 56) (g := none) (by kernel_rfl) (by kernel_rfl) (by kernel_rfl) [] (laws_toVrow n v6 r7 er7) (by kernel_rfl) (.inl rfl) ?_
        obtain ⟨v8, ev8, H⟩ := bind_some H
        refine LAt.indexO tOk (t := 27) (ty := 0) (x := (.tmp 14)) (y := (.tmp 15)) (d := 21) (g := none) ⟨(.slot 3), [], 0, true, 3, (y3.map Vrow.row)⟩ y2 (y2.toNat) (Vrow.row v8) _ (by kernel_rfl) (by kernel_rfl) (by kernel_rfl) (by kernel_rfl) rfl (by kernel_rfl) (idx_isE ev8) rfl rfl ?_
        refine LAt.storeU tOk (t := 56) (ty := 0) (ad := (.tmp 21)) (x := (.tmp 20)) (g := none) ⟨.st [(0, 1, 3), (1, 1, 3), (2, 1, 3)], 3, 24, [.lit (.int .i64 0), .lit (.int .i64 0), .lit (.int .i64 0)]⟩ true (Vrow.row r7) (.slot 3) [(0, (y2.toNat))] [(0, (y2.toNat))] 3 0 [.sl true 3 (y3.map Vrow.row)] (Vrow.row v8) [.sl true 3 (y3.map Vrow.row)] [.sl true 3 ((y3.set (y2.toNat) r7).map Vrow.row)] (by kernel_rfl) (by kernel_rfl) (by kernel_rfl) (by kernel_rfl) (by kernel_rfl) (by kernel_rfl) (getQ_elem rfl (idx_get ev8).2) rfl (by intro h; cases h) (by kernel_rfl) (by kernel_rfl) (by kernel_rfl) (modQ_elem (new := r7) rfl (idx_get ev8).2 rfl) (by kernel_rfl) ?_
        refine LAt.doneU [3, 21, 20, 19, 18, 17, 16, 15, 11, 10, 9, 8, 4, 2, 0] [] (by kernel_rfl) ?_
        show Tr _ _ _ _ _
        refine Tr.at ?_
        refine LAt.runU tOk 3 (by kernel_rfl) ?_
        refine LAt.doneU [4, 13, 12, 3, 21, 20, 19, 18, 17, 16, 15, 11, 10, 9, 8, 2, 0] [] (by kernel_rfl) ?_
        exact Exists.intro (mo5, ((IntKind.wrap .i64 (y2 + 1)), (y3.set (y2.toNat) r7))) (And.intro H (And.intro (Nat.lt_succ_self mo5) (St.sub_of [4, 3, 2, 0] [] (by kernel_rfl))))
  · rintro y4 H
    have H : (laws_toVrowS_J1 n y4) = some r := H
    unfold laws_toVrowS_J1 at H
    show Tr _ _ _ _ _
    refine Tr.rs ?_
    refine LAt.runU tOk 2 (by kernel_rfl) ?_
    refine LAt.doneU [2, 3] [] (by kernel_rfl) ?_
    refine Tr.ret ?_
    have H := Option.some.inj H
    subst H
    exact Fin.of _ [(false, [.sl true 3 (y4.map Vrow.row)])] (by kernel_rfl) rfl rfl

def laws_toIntS_J1 (n : Nat) (y4 : (List Int)) : Option ((List Int)) :=
  (some y4)
def laws_toIntS_L2 (n : Nat) : Nat → (List Int) → Int → (List Int) → Option (((List Int)) ⊕ ((List Int)))
  | 0, _, _, _ => none
  | mo5 + 1, x0, y2, y3 => (bif (decide (y2 < (x0.length : Int))) then ((idx x0 y2).bind fun v6 => ((idx y3 y2).bind fun v7 => (laws_toIntS_L2 n mo5 x0 (IntKind.wrap .i64 (y2 + 1)) (y3.set (y2.toNat) v6)))) else (some (Sum.inl y3)))
def laws_toIntSF (n : Nat) (x0 : (List Int)) : Option ((List Int)) :=
  (bif (decide (0 ≤ (x0.length : Int)) && decide ((x0.length : Int) ≤ 268435456)) then ((laws_toIntS_L2 n n x0 0 (List.replicate ((x0.length : Int)).toNat 0)).bind fun o => match o with | .inl y4 => (laws_toIntS_J1 n y4) | .inr r => some r) else none)
/-- loop.example/g00326/laws.toIntS -/
theorem laws_toIntS (n : Nat) (x0 : (List Int)) (r : (List Int)) (H : laws_toIntSF n x0 = some r) : LCall Try.prog 80 [.val false [.sl false 1 (CV.frzEs (x0.map intRow))]] [.val false [.sl true 1 (r.map intRow)]] [] := by
  refine LCall.of_body tOk Try.func80 rfl (c := (.seq (.region 0 (rg Try.f80 0) false) (.seq (.region 1 (rg Try.f80 1) false) (.seq (.seq (.region 2 (rg Try.f80 2) false) (.block 0 (.loop (.seq (.seq (.region 3 (rg Try.f80 3) false) (.cond (.tmp 11) .skip (.exit 0))) (.seq (.block 1 (.region 5 (rg Try.f80 5) false)) (.region 4 (rg Try.f80 4) false)))))) (.seq (.region 6 (rg Try.f80 6) false) .ret))))) (by kernel_rfl) (Nat.le_of_ble_eq_true (by kernel_rfl)) 0 (rs := [.tmp 2]) rfl [] .nil [(false, [.sl true 1 (r.map intRow)])] [] [] fun cx => ?_
  show Tr _ _ _ ⟨22, 0, [(0, .val false [.sl false 1 (CV.frzEs (x0.map intRow))])], []⟩ _
  unfold laws_toIntSF at H
  refine Tr.rs ?_
  refine LAt.runU tOk 1 (by kernel_rfl) ?_
  refine LAt.doneU [2, 0] [] (by kernel_rfl) ?_
  refine Tr.rs ?_
  refine LAt.runU tOk 1 (by kernel_rfl) ?_
  refine LAt.lenE tOk (t := 23) (ty := 3) (e := 3) (x := (.tmp 5)) (d := 6) (g := none) ⟨(.slot 5), [], 0, false, 1, (CV.frzEs (x0.map intRow))⟩ (x0).length _ (by kernel_rfl) (by kernel_rfl) (by kernel_rfl) (by kernel_rfl) (by kernel_rfl) (frz_len _ _) rfl ?_
  obtain ⟨hg1, H⟩ := guard_some H
  refine LAt.makeG tOk (t := 23) (ty := 23) (e := 3) (x := (.tmp 6)) (d := 7) (g := none) ⟨.int .i64, 1, 8, [.lit (.int .i64 0)]⟩ (x0.length : Int) ((List.replicate ((x0.length : Int)).toNat 0).map intRow) _ (by kernel_rfl) (by kernel_rfl) (by kernel_rfl) (by kernel_rfl) (by kernel_rfl) (by kernel_rfl) hg1 (by kernel_rfl) (rep_map _ rfl) rfl ?_
  refine LAt.moveU (T := lk tab) (ty := 23) (x := (.tmp 7)) (d := 3) (g := none) false [.sl true 1 ((List.replicate ((x0.length : Int)).toNat 0).map intRow)] (by kernel_rfl) (by kernel_rfl) (by kernel_rfl) (by kernel_rfl) (by kernel_rfl) ?_
  refine LAt.doneU [3, 2, 0] [] (by kernel_rfl) ?_
  refine Tr.seq ?_
  refine Tr.rs ?_
  refine LAt.runU tOk 1 (by kernel_rfl) ?_
  refine LAt.doneU [4, 3, 2, 0] [] (by kernel_rfl) ?_
  obtain ⟨o5, eo5, Ho5⟩ := bind_some H
  clear H
  refine Tr.mid (ι := (List Int)) (fun v => ⟨22, 0, [(3, .val false [.sl true 1 (v.map intRow)]), (2, .val false [.sl true 1 (([] : List Int).map intRow)])], []⟩) (fun v => laws_toIntS_J1 n v = some r) ?_ ?_
  · refine Tr.block ?_
    refine Tr.loop (ι := Nat × (Int × (List Int))) (fun v => ⟨22, 0, [(4, .val false [.lit (.int .i64 v.2.1)]), (3, .val false [.sl true 1 (v.2.2.map intRow)]), (2, .val false [.sl true 1 (([] : List Int).map intRow)]), (0, .val false [.sl false 1 (CV.frzEs (x0.map intRow))])], []⟩) (fun v => laws_toIntS_L2 n v.1 x0 v.2.1 v.2.2 = some o5) (fun v => v.1) (n, (0, (List.replicate ((x0.length : Int)).toNat 0))) eo5 (St.sub_of [4, 3, 2, 0] [] (by kernel_rfl)) ?_
    rintro ⟨mo5, y2, y3⟩ H
    have H : laws_toIntS_L2 n mo5 x0 y2 y3 = some o5 := H
    obtain _ | mo5 := mo5
    · cases (show (none : Option _) = some o5 from H)
    · rw [laws_toIntS_L2] at H
      refine Tr.seq ?_
      refine Tr.rs ?_
      refine LAt.runU tOk 2 (by kernel_rfl) ?_
      refine LAt.lenE tOk (t := 23) (ty := 3) (e := 3) (x := (.tmp 9)) (d := 10) (g := none) ⟨(.slot 9), [], 0, false, 1, (CV.frzEs (x0.map intRow))⟩ (x0).length _ (by kernel_rfl) (by kernel_rfl) (by kernel_rfl) (by kernel_rfl) (by kernel_rfl) (frz_len _ _) rfl ?_
      refine LAt.runU tOk 1 (by kernel_rfl) ?_
      refine LAt.doneU [11, 10, 9, 8, 4, 3, 2, 0] [] (by kernel_rfl) ?_
      refine Tr.to ⟨22, 0, [(11, .val false [.lit (.bool (decide (y2 < (x0.length : Int))))]), (10, .val false [.lit (.int .i64 (x0.length : Int))]), (9, .val false [.sl false 1 (CV.frzEs (x0.map intRow))]), (8, .val false [.lit (.int .i64 y2)]), (4, .val false [.lit (.int .i64 y2)]), (3, .val false [.sl true 1 (y3.map intRow)]), (2, .val false [.sl true 1 (([] : List Int).map intRow)]), (0, .val false [.sl false 1 (CV.frzEs (x0.map intRow))])], []⟩ (by kernel_rfl) ?_
      cases h1 : (decide (y2 < (x0.length : Int)))
      · have H := bifF h1 H
        refine Tr.cond (b := false) (by kernel_rfl) (fun h => nomatch h) (fun _ => ?_)
        refine Tr.exit ?_
        refine And.intro (fun _ => ?_) (fun h => absurd rfl h)
        have H := Option.some.inj H
        subst H
        have H := Ho5
        dsimp only at H
        exact Exists.intro y3 (And.intro H (St.sub_of [3, 2] [] (by kernel_rfl)))
      · have H := bifT h1 H
        refine Tr.cond (b := true) (by kernel_rfl) (fun _ => ?_) (fun h => nomatch h)
        refine Tr.skip ?_
        show Tr _ _ _ _ _
        refine Tr.seq ?_
        refine Tr.block ?_
        refine Tr.at ?_
        refine LAt.runU tOk 4 (by kernel_rfl) ?_
        obtain ⟨v6, ev6, H⟩ := bind_some H
        refine LAt.indexF tOk (t := 23) (ty := 0) (x := (.tmp 16)) (y := (.tmp 17)) (d := 18) (g := none) ⟨(.slot 16), [], 0, false, 1, (CV.frzEs (x0.map intRow))⟩ y2 [.lit (.int .i64 v6)] _ (by kernel_rfl) (by kernel_rfl) (by kernel_rfl) (by kernel_rfl) rfl (idx_isF ev6) rfl ?_
        refine LAt.runU tOk 1 (by kernel_rfl) ?_
        obtain ⟨v7, ev7, H⟩ := bind_some H
        refine LAt.indexO tOk (t := 23) (ty := 0) (x := (.tmp 14)) (y := (.tmp 15)) (d := 20) (g := none) ⟨(.slot 3), [], 0, true, 1, (y3.map intRow)⟩ y2 (y2.toNat) (intRow v7) _ (by kernel_rfl) (by kernel_rfl) (by kernel_rfl) (by kernel_rfl) rfl (by kernel_rfl) (idx_isE ev7) rfl rfl ?_
        refine LAt.storeU tOk (t := 3) (ty := 0) (ad := (.tmp 20)) (x := (.tmp 19)) (g := none) ⟨.int .i64, 1, 8, [.lit (.int .i64 0)]⟩ false [.lit (.int .i64 v6)] (.slot 3) [(0, (y2.toNat))] [(0, (y2.toNat))] 1 0 [.sl true 1 (y3.map intRow)] (intRow v7) [.sl true 1 (y3.map intRow)] [.sl true 1 ((y3.set (y2.toNat) v6).map intRow)] (by kernel_rfl) (by kernel_rfl) (by kernel_rfl) (by kernel_rfl) (by kernel_rfl) (by kernel_rfl) (getQ_elem rfl (idx_get ev7).2) rfl (by intro h; cases h) (by kernel_rfl) (by kernel_rfl) (by kernel_rfl) (modQ_elem (new := v6) rfl (idx_get ev7).2 rfl) (by kernel_rfl) ?_
        refine LAt.doneU [3, 20, 19, 18, 17, 16, 15, 11, 10, 9, 8, 4, 2, 0] [] (by kernel_rfl) ?_
        show Tr _ _ _ _ _
        refine Tr.at ?_
        refine LAt.runU tOk 3 (by kernel_rfl) ?_
        refine LAt.doneU [4, 13, 12, 3, 20, 19, 18, 17, 16, 15, 11, 10, 9, 8, 2, 0] [] (by kernel_rfl) ?_
        exact Exists.intro (mo5, ((IntKind.wrap .i64 (y2 + 1)), (y3.set (y2.toNat) v6))) (And.intro H (And.intro (Nat.lt_succ_self mo5) (St.sub_of [4, 3, 2, 0] [] (by kernel_rfl))))
  · rintro y4 H
    have H : (laws_toIntS_J1 n y4) = some r := H
    unfold laws_toIntS_J1 at H
    show Tr _ _ _ _ _
    refine Tr.rs ?_
    refine LAt.runU tOk 2 (by kernel_rfl) ?_
    refine LAt.doneU [2, 3] [] (by kernel_rfl) ?_
    refine Tr.ret ?_
    have H := Option.some.inj H
    subst H
    exact Fin.of _ [(false, [.sl true 1 (y4.map intRow)])] (by kernel_rfl) rfl rfl

def laws_toVtabF (n : Nat) (x0 : Vtab) : Option (Vtab) :=
  ((laws_toVrowSF n x0.Rows).bind fun r1 => ((laws_toIntSF n x0.Pvid).bind fun r2 => (some (⟨r1, r2⟩ : Vtab))))
/-- loop.example/g00326/laws.toVtab -/
theorem laws_toVtab (n : Nat) (x0 : Vtab) (r : Vtab) (H : laws_toVtabF n x0 = some r) : LCall Try.prog 17 [.val true (CV.frzRow (Vtab.row x0))] [.val true (Vtab.row r)] [] := by
  refine LCall.of_body tOk Try.func17 rfl (c := (.seq (.region 0 (rg Try.f17 0) false) (.seq (.region 1 (rg Try.f17 1) false) (.seq (.region 2 (rg Try.f17 2) false) (.seq (.region 3 (rg Try.f17 3) false) (.seq (.region 4 (rg Try.f17 4) false) .ret)))))) (by kernel_rfl) (Nat.le_of_ble_eq_true (by kernel_rfl)) 0 (rs := [.cell 2 29]) rfl [] .nil [(true, (Vtab.row r))] [] [] fun cx => ?_
  show Tr _ _ _ ⟨13, 0, [(0, .val true (CV.frzRow (Vtab.row x0)))], []⟩ _
  unfold laws_toVtabF at H
  refine Tr.rs ?_
  refine LAt.runU tOk 2 (by kernel_rfl) ?_
  refine LAt.doneU [2, 1] [2, 1] (by kernel_rfl) ?_
  refine Tr.rs ?_
  refine LAt.runU tOk 1 (by kernel_rfl) ?_
  refine LAt.doneU [3, 2, 1] [3, 2, 1] (by kernel_rfl) ?_
  refine Tr.rs ?_
  refine LAt.runU tOk 2 (by kernel_rfl) ?_
  obtain ⟨r1, er1, H⟩ := bind_some H
  refine LAt.callU tOk [.rd] (f := 79) (av := #[.tmp 5]) (ats := #[22]) (d := (some 6)) (ty := 27) (g := none) (by kernel_rfl) (by kernel_rfl) (by kernel_rfl) [] (laws_toVrowS n x0.Rows r1 er1) (by kernel_rfl) (.inl rfl) ?_
  refine LAt.runU tOk 2 (by kernel_rfl) ?_
  refine LAt.doneU [3, 2, 1] [3, 2, 1] (by kernel_rfl) ?_
  refine Tr.rs ?_
  refine LAt.runU tOk 2 (by kernel_rfl) ?_
  obtain ⟨r2, er2, H⟩ := bind_some H
  refine LAt.callU tOk [.rd] (f := 80) (av := #[.tmp 9]) (ats := #[23]) (d := (some 10)) (ty := 23) (g := none) (by kernel_rfl) (by kernel_rfl) (by kernel_rfl) [] (laws_toIntS n x0.Pvid r2 er2) (by kernel_rfl) (.inl rfl) ?_
  refine LAt.runU tOk 2 (by kernel_rfl) ?_
  refine LAt.doneU [3, 2] [3, 2] (by kernel_rfl) ?_
  refine Tr.rs ?_
  refine LAt.runU tOk 2 (by kernel_rfl) ?_
  refine LAt.doneU [2] [2] (by kernel_rfl) ?_
  refine Tr.ret ?_
  have H := Option.some.inj H
  subst H
  exact Fin.of _ [(true, [.sl true 3 (r1.map Vrow.row), .sl true 1 (r2.map intRow)])] (by kernel_rfl) rfl rfl

def spec_l1InF (n : Nat) (x0 : Int) (x1 : Int) (x2 : Int) : Option (Bool) :=
  (bif (decide (x0 ≥ x1)) then (some (decide (x0 ≤ x2))) else (some false))
/-- loop.example/g00326/spec.l1In -/
theorem spec_l1In (n : Nat) (x0 : Int) (x1 : Int) (x2 : Int) (r : Bool) (H : spec_l1InF n x0 x1 x2 = some r) : LCall Try.prog 76 [.val false [.lit (.int .i64 x0)], .val false [.lit (.int .i64 x1)], .val false [.lit (.int .i64 x2)]] [.val false [.lit (.bool r)]] [] := by
  refine LCall.of_body tOk Try.func76 rfl (c := (.seq (.region 0 (rg Try.f76 0) false) (.seq (.region 1 (rg Try.f76 1) false) .ret))) (by kernel_rfl) (Nat.le_of_ble_eq_true (by kernel_rfl)) 0 (rs := [.tmp 6]) rfl [] .nil [(false, [.lit (.bool r)])] [] [] fun cx => ?_
  show Tr _ _ _ ⟨15, 0, [(0, .val false [.lit (.int .i64 x0)]), (1, .val false [.lit (.int .i64 x1)]), (2, .val false [.lit (.int .i64 x2)])], []⟩ _
  unfold spec_l1InF at H
  refine Tr.rs ?_
  refine LAt.runU tOk 1 (by kernel_rfl) ?_
  refine LAt.doneU [6, 0, 1, 2] [] (by kernel_rfl) ?_
  refine Tr.rs ?_
  refine LAt.runU tOk 4 (by kernel_rfl) ?_
  refine LAt.to ⟨15, 0, [(10, .val false [.lit (.bool (decide (x0 ≥ x1)))]), (9, .val false [.lit (.bool (decide (x0 ≥ x1)))]), (8, .val false [.lit (.int .i64 x1)]), (7, .val false [.lit (.int .i64 x0)]), (6, .val false [.lit (.bool false)]), (0, .val false [.lit (.int .i64 x0)]), (1, .val false [.lit (.int .i64 x1)]), (2, .val false [.lit (.int .i64 x2)])], []⟩ (by kernel_rfl) ?_
  cases h1 : (decide (x0 ≥ x1))
  · have H := bifF h1 H
    refine LAt.runU tOk 5 (by kernel_rfl) ?_
    refine LAt.doneU [6] [] (by kernel_rfl) ?_
    refine Tr.ret ?_
    have H := Option.some.inj H
    subst H
    exact Fin.of _ [(false, [.lit (.bool false)])] (by kernel_rfl) rfl rfl
  · have H := bifT h1 H
    refine LAt.runU tOk 5 (by kernel_rfl) ?_
    refine LAt.doneU [6] [] (by kernel_rfl) ?_
    refine Tr.ret ?_
    have H := Option.some.inj H
    subst H
    exact Fin.of _ [(false, [.lit (.bool (decide (x0 ≤ x2)))])] (by kernel_rfl) rfl rfl

def spec_RowAt_J1 (n : Nat) : Option (Int) :=
  (some (-1))
def spec_RowAt_L2 (n : Nat) : Nat → Vtab → Int → Int → Option ((Unit) ⊕ (Int))
  | 0, _, _, _ => none
  | mo2 + 1, x0, x1, y1 => (bif (decide (y1 < (x0.Rows.length : Int))) then ((idx x0.Rows y1).bind fun v3 => (bif (v3.Id == x1) then (some (Sum.inr y1)) else (spec_RowAt_L2 n mo2 x0 x1 (IntKind.wrap .i64 (y1 + 1))))) else (some (Sum.inl ())))
def spec_RowAtF (n : Nat) (x0 : Vtab) (x1 : Int) : Option (Int) :=
  ((spec_RowAt_L2 n n x0 x1 0).bind fun o => match o with | .inl _ => (spec_RowAt_J1 n) | .inr r => some r)
/-- loop.example/g00326/spec.RowAt -/
theorem spec_RowAt (n : Nat) (x0 : Vtab) (x1 : Int) (r : Int) (H : spec_RowAtF n x0 x1 = some r) : LCall Try.prog 102 [.val true (CV.frzRow (Vtab.row x0)), .val false [.lit (.int .i64 x1)]] [.val false [.lit (.int .i64 r)]] [] := by
  refine LCall.of_body tOk Try.func102 rfl (c := (.seq (.region 0 (rg Try.f102 0) false) (.seq (.seq (.region 1 (rg Try.f102 1) false) (.block 0 (.loop (.seq (.seq (.region 2 (rg Try.f102 2) false) (.cond (.tmp 10) .skip (.exit 0))) (.seq (.block 1 (.seq (.region 4 (rg Try.f102 4) false) (.cond (.tmp 20) (.seq (.region 5 (rg Try.f102 5) false) .ret) .skip))) (.region 3 (rg Try.f102 3) false)))))) (.seq (.region 6 (rg Try.f102 6) false) .ret)))) (by kernel_rfl) (Nat.le_of_ble_eq_true (by kernel_rfl)) 0 (rs := [.tmp 4]) rfl [] .nil [(false, [.lit (.int .i64 r)])] [] [] fun cx => ?_
  show Tr _ _ _ ⟨22, 0, [(0, .val true (CV.frzRow (Vtab.row x0))), (1, .val false [.lit (.int .i64 x1)])], []⟩ _
  unfold spec_RowAtF at H
  refine Tr.rs ?_
  refine LAt.runU tOk 2 (by kernel_rfl) ?_
  refine LAt.doneU [4, 2, 1] [2] (by kernel_rfl) ?_
  refine Tr.seq ?_
  refine Tr.rs ?_
  refine LAt.runU tOk 1 (by kernel_rfl) ?_
  refine LAt.doneU [5, 4, 2, 1] [2] (by kernel_rfl) ?_
  obtain ⟨o2, eo2, Ho2⟩ := bind_some H
  clear H
  refine Tr.mid (ι := Unit) (fun v => ⟨22, 0, [(4, .val false [.lit (.int .i64 0)])], []⟩) (fun v => spec_RowAt_J1 n = some r) ?_ ?_
  · refine Tr.block ?_
    refine Tr.loop (ι := Nat × (Int)) (fun v => ⟨22, 0, [(5, .val false [.lit (.int .i64 v.2)]), (4, .val false [.lit (.int .i64 0)]), (2, .adr (.box 2) [(0, 0)] 2 0), (1, .val false [.lit (.int .i64 x1)])], [(2, (CV.frzRow (Vtab.row x0)))]⟩) (fun v => spec_RowAt_L2 n v.1 x0 x1 v.2 = some o2) (fun v => v.1) (n, 0) eo2 (St.sub_of [5, 4, 2, 1] [2] (by kernel_rfl)) ?_
    rintro ⟨mo2, y1⟩ H
    have H : spec_RowAt_L2 n mo2 x0 x1 y1 = some o2 := H
    obtain _ | mo2 := mo2
    · cases (show (none : Option _) = some o2 from H)
    · rw [spec_RowAt_L2] at H
      refine Tr.seq ?_
      refine Tr.rs ?_
      refine LAt.runU tOk 3 (by kernel_rfl) ?_
      refine LAt.lenE tOk (t := 27) (ty := 3) (e := 56) (x := (.tmp 8)) (d := 9) (g := none) ⟨(.slot 8), [], 0, false, 3, (CV.frzEs (x0.Rows.map Vrow.row))⟩ (x0.Rows).length _ (by kernel_rfl) (by kernel_rfl) (by kernel_rfl) (by kernel_rfl) (by kernel_rfl) (frz_len _ _) rfl ?_
      refine LAt.runU tOk 1 (by kernel_rfl) ?_
      refine LAt.doneU [10, 9, 8, 7, 6, 5, 4, 2, 1] [2] (by kernel_rfl) ?_
      refine Tr.to ⟨22, 0, [(10, .val false [.lit (.bool (decide (y1 < (x0.Rows.length : Int))))]), (9, .val false [.lit (.int .i64 (x0.Rows.length : Int))]), (8, .val false [.sl false 3 (CV.frzEs (x0.Rows.map Vrow.row))]), (7, .adr (.box 2) [(0, 0)] 2 0), (6, .val false [.lit (.int .i64 y1)]), (5, .val false [.lit (.int .i64 y1)]), (4, .val false [.lit (.int .i64 0)]), (2, .adr (.box 2) [(0, 0)] 2 0), (1, .val false [.lit (.int .i64 x1)])], [(2, (CV.frzRow (Vtab.row x0)))]⟩ (by kernel_rfl) ?_
      cases h1 : (decide (y1 < (x0.Rows.length : Int)))
      · have H := bifF h1 H
        refine Tr.cond (b := false) (by kernel_rfl) (fun h => nomatch h) (fun _ => ?_)
        refine Tr.exit ?_
        refine And.intro (fun _ => ?_) (fun h => absurd rfl h)
        have H := Option.some.inj H
        subst H
        have H := Ho2
        dsimp only at H
        exact Exists.intro () (And.intro H (St.sub_of [4] [] (by kernel_rfl)))
      · have H := bifT h1 H
        refine Tr.cond (b := true) (by kernel_rfl) (fun _ => ?_) (fun h => nomatch h)
        refine Tr.skip ?_
        show Tr _ _ _ _ _
        refine Tr.seq ?_
        refine Tr.block ?_
        refine Tr.rs ?_
        refine LAt.runU tOk 3 (by kernel_rfl) ?_
        obtain ⟨v3, ev3, H⟩ := bind_some H
        refine LAt.indexF tOk (t := 27) (ty := 0) (x := (.tmp 14)) (y := (.tmp 15)) (d := 16) (g := none) ⟨(.slot 14), [], 0, false, 3, (CV.frzEs (x0.Rows.map Vrow.row))⟩ y1 (Vrow.row v3) _ (by kernel_rfl) (by kernel_rfl) (by kernel_rfl) (by kernel_rfl) rfl (idx_isF ev3) rfl ?_
        refine LAt.runU tOk 4 (by kernel_rfl) ?_
        refine LAt.doneU [20, 19, 18, 17, 16, 15, 14, 13, 10, 9, 8, 7, 6, 5, 4, 2, 1] [2] (by kernel_rfl) ?_
        refine Tr.to ⟨22, 0, [(20, .val false [.lit (.bool (v3.Id == x1))]), (19, .val false [.lit (.int .i64 x1)]), (18, .val false [.lit (.int .i64 v3.Id)]), (17, .fad ((Vrow.row v3))), (16, .fad ((Vrow.row v3))), (15, .val false [.lit (.int .i64 y1)]), (14, .val false [.sl false 3 (CV.frzEs (x0.Rows.map Vrow.row))]), (13, .adr (.box 2) [(0, 0)] 2 0), (10, .val false [.lit (.bool true)]), (9, .val false [.lit (.int .i64 (x0.Rows.length : Int))]), (8, .val false [.sl false 3 (CV.frzEs (x0.Rows.map Vrow.row))]), (7, .adr (.box 2) [(0, 0)] 2 0), (6, .val false [.lit (.int .i64 y1)]), (5, .val false [.lit (.int .i64 y1)]), (4, .val false [.lit (.int .i64 0)]), (2, .adr (.box 2) [(0, 0)] 2 0), (1, .val false [.lit (.int .i64 x1)])], [(2, (CV.frzRow (Vtab.row x0)))]⟩ (by kernel_rfl) ?_
        cases h2 : (v3.Id == x1)
        · have H := bifF h2 H
          refine Tr.cond (b := false) (by kernel_rfl) (fun h => nomatch h) (fun _ => ?_)
          refine Tr.skip ?_
          show Tr _ _ _ _ _
          refine Tr.at ?_
          refine LAt.runU tOk 3 (by kernel_rfl) ?_
          refine LAt.doneU [5, 12, 11, 20, 19, 18, 17, 16, 15, 14, 13, 10, 9, 8, 7, 6, 4, 2, 1] [2] (by kernel_rfl) ?_
          exact Exists.intro (mo2, (IntKind.wrap .i64 (y1 + 1))) (And.intro H (And.intro (Nat.lt_succ_self mo2) (St.sub_of [5, 4, 2, 1] [2] (by kernel_rfl))))
        · have H := bifT h2 H
          refine Tr.cond (b := true) (by kernel_rfl) (fun _ => ?_) (fun h => nomatch h)
          refine Tr.rs ?_
          refine LAt.runU tOk 2 (by kernel_rfl) ?_
          refine LAt.doneU [4, 21, 20, 19, 18, 17, 16, 15, 14, 13, 10, 9, 8, 7, 6, 5, 2, 1] [2] (by kernel_rfl) ?_
          refine Tr.ret ?_
          have H := Option.some.inj H
          subst H
          have H := Ho2
          dsimp only at H
          have H := Option.some.inj H
          subst H
          exact Fin.of _ [(false, [.lit (.int .i64 y1)])] (by kernel_rfl) rfl rfl
  · rintro _ H
    have H : (spec_RowAt_J1 n) = some r := H
    unfold spec_RowAt_J1 at H
    show Tr _ _ _ _ _
    refine Tr.rs ?_
    refine LAt.runU tOk 1 (by kernel_rfl) ?_
    refine LAt.doneU [4] [] (by kernel_rfl) ?_
    refine Tr.ret ?_
    have H := Option.some.inj H
    subst H
    exact Fin.of _ [(false, [.lit (.int .i64 (-1))])] (by kernel_rfl) rfl rfl

def spec_VtabOk_J2 (n : Nat) : Option (Bool) :=
  (some true)
def spec_VtabOk_L3 (n : Nat) : Nat → Vtab → Int → Option ((Unit) ⊕ (Bool))
  | 0, _, _ => none
  | mo5 + 1, x0, y4 => (bif (decide (y4 < (x0.Pvid.length : Int))) then ((idx x0.Pvid y4).bind fun v6 => ((spec_RowAtF n x0 v6).bind fun r7 => (bif (decide (r7 < 0)) then (some (Sum.inr false)) else (spec_VtabOk_L3 n mo5 x0 (IntKind.wrap .i64 (y4 + 1)))))) else (some (Sum.inl ())))
def spec_VtabOk_J1 (n : Nat) (x0 : Vtab) : Option (Bool) :=
  ((spec_VtabOk_L3 n n x0 0).bind fun o => match o with | .inl _ => (spec_VtabOk_J2 n) | .inr r => some r)
def spec_VtabOk_L4 (n : Nat) : Nat → Vtab → Int → Int → Option ((Unit) ⊕ (Bool))
  | 0, _, _, _ => none
  | mo8 + 1, x0, x1, y3 => (bif (decide (y3 < (x0.Rows.length : Int))) then ((idx x0.Rows y3).bind fun v9 => ((spec_l1InF n v9.Id 1 99).bind fun r10 => (bif (!r10) then (some (Sum.inr false)) else ((spec_l1InF n v9.Members 0 (IntKind.wrap .i64 ((IntKind.wrap .i64 (1 * 2 ^ min (((IntKind.wrap .u64 x1) : Int)).toNat (IntKind.bits .i64))) - 1))).bind fun r11 => (bif (!r11) then (some (Sum.inr false)) else ((spec_l1InF n v9.Bare 0 (IntKind.wrap .i64 ((IntKind.wrap .i64 (1 * 2 ^ min (((IntKind.wrap .u64 x1) : Int)).toNat (IntKind.bits .i64))) - 1))).bind fun r12 => (bif (!r12) then (some (Sum.inr false)) else (bif ((IntKind.wrap .i64 (BitVec.ofInt (IntKind.bits .i64) v9.Bare &&& BitVec.ofInt (IntKind.bits .i64) v9.Members).toNat) != v9.Bare) then (some (Sum.inr false)) else (bif (decide (y3 > 0)) then ((idx x0.Rows (IntKind.wrap .i64 (y3 - 1))).bind fun v13 => (bif (decide (v13.Id ≥ v9.Id)) then (some (Sum.inr false)) else (spec_VtabOk_L4 n mo8 x0 x1 (IntKind.wrap .i64 (y3 + 1))))) else (spec_VtabOk_L4 n mo8 x0 x1 (IntKind.wrap .i64 (y3 + 1)))))))))))) else (some (Sum.inl ())))
def spec_VtabOkF (n : Nat) (x0 : Vtab) (x1 : Int) : Option (Bool) :=
  ((spec_l1InF n x1 1 6).bind fun r1 => (bif (!r1) then (some false) else (bif ((x0.Pvid.length : Int) != x1) then (some false) else (bif (decide ((x0.Rows.length : Int) > 6)) then (some false) else (bif (decide ((0 : Int) ≤ (IntKind.wrap .u64 x1))) then ((spec_VtabOk_L4 n n x0 x1 0).bind fun o => match o with | .inl _ => (spec_VtabOk_J1 n x0) | .inr r => some r) else none)))))
/-- loop.example/g00326/spec.VtabOk -/
theorem spec_VtabOk (n : Nat) (x0 : Vtab) (x1 : Int) (r : Bool) (H : spec_VtabOkF n x0 x1 = some r) : LCall Try.prog 49 [.val true (CV.frzRow (Vtab.row x0)), .val false [.lit (.int .i64 x1)]] [.val false [.lit (.bool r)]] [] := by
  refine LCall.of_body tOk Try.func49 rfl (c := (.seq (.region 0 (rg Try.f49 0) false) (.seq (.seq (.region 1 (rg Try.f49 1) false) (.cond (.tmp 24) (.seq (.region 2 (rg Try.f49 2) false) .ret) .skip)) (.seq (.region 3 (rg Try.f49 3) false) (.seq (.seq (.region 4 (rg Try.f49 4) false) (.block 0 (.loop (.seq (.seq (.region 5 (rg Try.f49 5) false) (.cond (.tmp 33) .skip (.exit 0))) (.seq (.block 1 (.seq (.region 7 (rg Try.f49 7) false) (.seq (.region 8 (rg Try.f49 8) true) (.cond (.tmp 84) (.seq (.region 9 (rg Try.f49 9) false) .ret) .skip)))) (.region 6 (rg Try.f49 6) false)))))) (.seq (.seq (.region 10 (rg Try.f49 10) false) (.block 2 (.loop (.seq (.seq (.region 11 (rg Try.f49 11) false) (.cond (.tmp 89) .skip (.exit 2))) (.seq (.block 3 (.seq (.region 13 (rg Try.f49 13) true) (.cond (.tmp 99) (.seq (.region 14 (rg Try.f49 14) false) .ret) .skip))) (.region 12 (rg Try.f49 12) false)))))) (.seq (.region 15 (rg Try.f49 15) false) .ret))))))) (by kernel_rfl) (Nat.le_of_ble_eq_true (by kernel_rfl)) 0 (rs := [.tmp 4]) rfl [] .nil [(false, [.lit (.bool r)])] [] [] fun cx => ?_
  show Tr _ _ _ ⟨100, 0, [(0, .val true (CV.frzRow (Vtab.row x0))), (1, .val false [.lit (.int .i64 x1)])], []⟩ _
  unfold spec_VtabOkF at H
  refine Tr.rs ?_
  refine LAt.runU tOk 2 (by kernel_rfl) ?_
  refine LAt.doneU [4, 2, 1] [2] (by kernel_rfl) ?_
  refine Tr.seq ?_
  refine Tr.rs ?_
  refine LAt.runU tOk 1 (by kernel_rfl) ?_
  obtain ⟨r1, er1, H⟩ := bind_some H
  refine LAt.callU tOk [.rd, .rd, .rd] (f := 76) (av := #[.tmp 9, .const (.int .i64 1), .const (.int .i64 6)]) (ats := #[3, 3, 3]) (d := (some 10)) (ty := 4) (g := none) (by kernel_rfl) (by kernel_rfl) (by kernel_rfl) [] (spec_l1In n x1 1 6 r1 er1) (by kernel_rfl) (.inl rfl) ?_
  refine LAt.runU tOk 2 (by kernel_rfl) ?_
  refine LAt.to ⟨100, 0, [(12, .val false [.lit (.bool (!r1))]), (11, .val false [.lit (.bool (!r1))]), (10, .val false [.lit (.bool r1)]), (9, .val false [.lit (.int .i64 x1)]), (4, .val false [.lit (.bool false)]), (2, .adr (.box 2) [(0, 0)] 2 0), (1, .val false [.lit (.int .i64 x1)])], [(2, (CV.frzRow (Vtab.row x0)))]⟩ (by kernel_rfl) ?_
  cases h1 : (!r1)
  · have H := bifF h1 H
    refine LAt.runU tOk 2 (by kernel_rfl) ?_
    refine LAt.lenE tOk (t := 23) (ty := 3) (e := 3) (x := (.tmp 14)) (d := 15) (g := (some (3, false))) ⟨(.slot 14), [], 0, false, 1, (CV.frzEs (x0.Pvid.map intRow))⟩ (x0.Pvid).length _ (by kernel_rfl) (by kernel_rfl) (by kernel_rfl) (by kernel_rfl) (by kernel_rfl) (frz_len _ _) rfl ?_
    refine LAt.runU tOk 4 (by kernel_rfl) ?_
    refine LAt.to ⟨100, 0, [(19, .val false [.lit (.bool ((x0.Pvid.length : Int) != x1))]), (18, .val false [.lit (.bool ((x0.Pvid.length : Int) != x1))]), (17, .val false [.lit (.bool ((x0.Pvid.length : Int) != x1))]), (16, .val false [.lit (.int .i64 x1)]), (15, .val false [.lit (.int .i64 (x0.Pvid.length : Int))]), (14, .val false [.sl false 1 (CV.frzEs (x0.Pvid.map intRow))]), (13, .adr (.box 2) [(0, 0)] 2 1), (12, .val false [.lit (.bool false)]), (11, .val false [.lit (.bool false)]), (10, .val false [.lit (.bool r1)]), (9, .val false [.lit (.int .i64 x1)]), (4, .val false [.lit (.bool false)]), (2, .adr (.box 2) [(0, 0)] 2 0), (1, .val false [.lit (.int .i64 x1)])], [(2, (CV.frzRow (Vtab.row x0)))]⟩ (by kernel_rfl) ?_
    cases h2 : ((x0.Pvid.length : Int) != x1)
    · have H := bifF h2 H
      refine LAt.runU tOk 2 (by kernel_rfl) ?_
      refine LAt.lenE tOk (t := 27) (ty := 3) (e := 56) (x := (.tmp 21)) (d := 22) (g := (some (10, false))) ⟨(.slot 21), [], 0, false, 3, (CV.frzEs (x0.Rows.map Vrow.row))⟩ (x0.Rows).length _ (by kernel_rfl) (by kernel_rfl) (by kernel_rfl) (by kernel_rfl) (by kernel_rfl) (frz_len _ _) rfl ?_
      refine LAt.runU tOk 2 (by kernel_rfl) ?_
      refine LAt.doneU [24, 4, 2, 1] [2] (by kernel_rfl) ?_
      refine Tr.to ⟨100, 0, [(24, .val false [.lit (.bool (decide ((x0.Rows.length : Int) > 6)))]), (4, .val false [.lit (.bool false)]), (2, .adr (.box 2) [(0, 0)] 2 0), (1, .val false [.lit (.int .i64 x1)])], [(2, (CV.frzRow (Vtab.row x0)))]⟩ (by kernel_rfl) ?_
      cases h3 : (decide ((x0.Rows.length : Int) > 6))
      · have H := bifF h3 H
        refine Tr.cond (b := false) (by kernel_rfl) (fun h => nomatch h) (fun _ => ?_)
        refine Tr.skip ?_
        show Tr _ _ _ _ _
        refine Tr.rs ?_
        refine LAt.runU tOk 2 (by kernel_rfl) ?_
        obtain ⟨hg2, H⟩ := guard_some H
        refine LAt.binC tOk (op := .shl) (t := 3) (ty := 136) (ty' := 3) (x := (.const (.int .i64 1))) (y := (.tmp 26)) (d := 27) (g := none) (.int .i64 1) (.int .u64 (IntKind.wrap .u64 x1)) (.int .i64 (IntKind.wrap .i64 (1 * 2 ^ min (((IntKind.wrap .u64 x1) : Int)).toNat (IntKind.bits .i64)))) _ (by kernel_rfl) (by kernel_rfl) (by kernel_rfl) (by kernel_rfl) (by kernel_rfl) (φ := (0 : Int) ≤ (IntKind.wrap .u64 x1)) (by kernel_rfl) (of_decide_eq_true hg2) rfl ?_
        refine LAt.runU tOk 2 (by kernel_rfl) ?_
        refine LAt.doneU [5, 4, 2] [2] (by kernel_rfl) ?_
        refine Tr.seq ?_
        refine Tr.rs ?_
        refine LAt.runU tOk 1 (by kernel_rfl) ?_
        refine LAt.doneU [6, 5, 4, 2] [2] (by kernel_rfl) ?_
        obtain ⟨o8, eo8, Ho8⟩ := bind_some H
        clear H
        refine Tr.mid (ι := Unit) (fun v => ⟨100, 0, [(4, .val false [.lit (.bool false)]), (2, .adr (.box 2) [(0, 0)] 2 0)], [(2, (CV.frzRow (Vtab.row x0)))]⟩) (fun v => spec_VtabOk_J1 n x0 = some r) ?_ ?_
        · refine Tr.block ?_
          refine Tr.loop (ι := Nat × (Int)) (fun v => ⟨100, 0, [(6, .val false [.lit (.int .i64 v.2)]), (5, .val false [.lit (.int .i64 (IntKind.wrap .i64 ((IntKind.wrap .i64 (1 * 2 ^ min (((IntKind.wrap .u64 x1) : Int)).toNat (IntKind.bits .i64))) - 1)))]), (4, .val false [.lit (.bool false)]), (2, .adr (.box 2) [(0, 0)] 2 0)], [(2, (CV.frzRow (Vtab.row x0)))]⟩) (fun v => spec_VtabOk_L4 n v.1 x0 x1 v.2 = some o8) (fun v => v.1) (n, 0) eo8 (St.sub_of [6, 5, 4, 2] [2] (by kernel_rfl)) ?_
          rintro ⟨mo8, y3⟩ H
          have H : spec_VtabOk_L4 n mo8 x0 x1 y3 = some o8 := H
          obtain _ | mo8 := mo8
          · cases (show (none : Option _) = some o8 from H)
          · rw [spec_VtabOk_L4] at H
            refine Tr.seq ?_
            refine Tr.rs ?_
            refine LAt.runU tOk 3 (by kernel_rfl) ?_
            refine LAt.lenE tOk (t := 27) (ty := 3) (e := 56) (x := (.tmp 31)) (d := 32) (g := none) ⟨(.slot 31), [], 0, false, 3, (CV.frzEs (x0.Rows.map Vrow.row))⟩ (x0.Rows).length _ (by kernel_rfl) (by kernel_rfl) (by kernel_rfl) (by kernel_rfl) (by kernel_rfl) (frz_len _ _) rfl ?_
            refine LAt.runU tOk 1 (by kernel_rfl) ?_
            refine LAt.doneU [33, 32, 31, 30, 29, 6, 5, 4, 2] [2] (by kernel_rfl) ?_
            refine Tr.to ⟨100, 0, [(33, .val false [.lit (.bool (decide (y3 < (x0.Rows.length : Int))))]), (32, .val false [.lit (.int .i64 (x0.Rows.length : Int))]), (31, .val false [.sl false 3 (CV.frzEs (x0.Rows.map Vrow.row))]), (30, .adr (.box 2) [(0, 0)] 2 0), (29, .val false [.lit (.int .i64 y3)]), (6, .val false [.lit (.int .i64 y3)]), (5, .val false [.lit (.int .i64 (IntKind.wrap .i64 ((IntKind.wrap .i64 (1 * 2 ^ min (((IntKind.wrap .u64 x1) : Int)).toNat (IntKind.bits .i64))) - 1)))]), (4, .val false [.lit (.bool false)]), (2, .adr (.box 2) [(0, 0)] 2 0)], [(2, (CV.frzRow (Vtab.row x0)))]⟩ (by kernel_rfl) ?_
            cases h6 : (decide (y3 < (x0.Rows.length : Int)))
            · have H := bifF h6 H
              refine Tr.cond (b := false) (by kernel_rfl) (fun h => nomatch h) (fun _ => ?_)
              refine Tr.exit ?_
              refine And.intro (fun _ => ?_) (fun h => absurd rfl h)
              have H := Option.some.inj H
              subst H
              have H := Ho8
              dsimp only at H
              exact Exists.intro () (And.intro H (St.sub_of [4, 2] [2] (by kernel_rfl)))
            · have H := bifT h6 H
              refine Tr.cond (b := true) (by kernel_rfl) (fun _ => ?_) (fun h => nomatch h)
              refine Tr.skip ?_
              show Tr _ _ _ _ _
              refine Tr.seq ?_
              refine Tr.block ?_
              refine Tr.rs ?_
              refine LAt.runU tOk 3 (by kernel_rfl) ?_
              obtain ⟨v9, ev9, H⟩ := bind_some H
              refine LAt.indexF tOk (t := 27) (ty := 0) (x := (.tmp 37)) (y := (.tmp 38)) (d := 39) (g := none) ⟨(.slot 37), [], 0, false, 3, (CV.frzEs (x0.Rows.map Vrow.row))⟩ y3 (Vrow.row v9) _ (by kernel_rfl) (by kernel_rfl) (by kernel_rfl) (by kernel_rfl) rfl (idx_isF ev9) rfl ?_
              refine LAt.runU tOk 3 (by kernel_rfl) ?_
              refine LAt.doneU [7, 40, 39, 38, 37, 36, 33, 32, 31, 30, 29, 6, 5, 4, 2] [7, 2] (by kernel_rfl) ?_
              obtain ⟨r10, er10, H⟩ := bind_some H
              refine Tr.to ⟨100, 0, [(7, .adr (.box 7) [(0, 0)] 3 0), (40, .val true (Vrow.row v9)), (39, .fad ((Vrow.row v9))), (38, .val false [.lit (.int .i64 y3)]), (37, .val false [.sl false 3 (CV.frzEs (x0.Rows.map Vrow.row))]), (36, .adr (.box 2) [(0, 0)] 2 0), (33, .val false [.lit (.bool true)]), (32, .val false [.lit (.int .i64 (x0.Rows.length : Int))]), (31, .val false [.sl false 3 (CV.frzEs (x0.Rows.map Vrow.row))]), (30, .adr (.box 2) [(0, 0)] 2 0), (29, .val false [.lit (.int .i64 y3)]), (6, .val false [.lit (.int .i64 y3)]), (5, .val false [.lit (.int .i64 (IntKind.wrap .i64 ((IntKind.wrap .i64 (1 * 2 ^ min (((IntKind.wrap .u64 x1) : Int)).toNat (IntKind.bits .i64))) - 1)))]), (4, .val false [.lit (.bool false)]), (2, .adr (.box 2) [(0, 0)] 2 0)], [(7, (Vrow.row v9)), (2, (CV.frzRow (Vtab.row x0)))]⟩ (by kernel_rfl) ?_
              cases h7 : (!r10)
              · have H := bifF h7 H
                obtain ⟨r11, er11, H⟩ := bind_some H
                refine Tr.to ⟨100, 0, [(7, .adr (.box 7) [(0, 0)] 3 0), (40, .val true (Vrow.row v9)), (39, .fad ((Vrow.row v9))), (38, .val false [.lit (.int .i64 y3)]), (37, .val false [.sl false 3 (CV.frzEs (x0.Rows.map Vrow.row))]), (36, .adr (.box 2) [(0, 0)] 2 0), (33, .val false [.lit (.bool true)]), (32, .val false [.lit (.int .i64 (x0.Rows.length : Int))]), (31, .val false [.sl false 3 (CV.frzEs (x0.Rows.map Vrow.row))]), (30, .adr (.box 2) [(0, 0)] 2 0), (29, .val false [.lit (.int .i64 y3)]), (6, .val false [.lit (.int .i64 y3)]), (5, .val false [.lit (.int .i64 (IntKind.wrap .i64 ((IntKind.wrap .i64 (1 * 2 ^ min (((IntKind.wrap .u64 x1) : Int)).toNat (IntKind.bits .i64))) - 1)))]), (4, .val false [.lit (.bool false)]), (2, .adr (.box 2) [(0, 0)] 2 0)], [(7, (Vrow.row v9)), (2, (CV.frzRow (Vtab.row x0)))]⟩ (by kernel_rfl) ?_
                cases h8 : (!r11)
                · have H := bifF h8 H
                  obtain ⟨r12, er12, H⟩ := bind_some H
                  refine Tr.to ⟨100, 0, [(7, .adr (.box 7) [(0, 0)] 3 0), (40, .val true (Vrow.row v9)), (39, .fad ((Vrow.row v9))), (38, .val false [.lit (.int .i64 y3)]), (37, .val false [.sl false 3 (CV.frzEs (x0.Rows.map Vrow.row))]), (36, .adr (.box 2) [(0, 0)] 2 0), (33, .val false [.lit (.bool true)]), (32, .val false [.lit (.int .i64 (x0.Rows.length : Int))]), (31, .val false [.sl false 3 (CV.frzEs (x0.Rows.map Vrow.row))]), (30, .adr (.box 2) [(0, 0)] 2 0), (29, .val false [.lit (.int .i64 y3)]), (6, .val false [.lit (.int .i64 y3)]), (5, .val false [.lit (.int .i64 (IntKind.wrap .i64 ((IntKind.wrap .i64 (1 * 2 ^ min (((IntKind.wrap .u64 x1) : Int)).toNat (IntKind.bits .i64))) - 1)))]), (4, .val false [.lit (.bool false)]), (2, .adr (.box 2) [(0, 0)] 2 0)], [(7, (Vrow.row v9)), (2, (CV.frzRow (Vtab.row x0)))]⟩ (by kernel_rfl) ?_
                  cases h9 : (!r12)
                  · have H := bifF h9 H
                    refine Tr.to ⟨100, 0, [(7, .adr (.box 7) [(0, 0)] 3 0), (40, .val true (Vrow.row v9)), (39, .fad ((Vrow.row v9))), (38, .val false [.lit (.int .i64 y3)]), (37, .val false [.sl false 3 (CV.frzEs (x0.Rows.map Vrow.row))]), (36, .adr (.box 2) [(0, 0)] 2 0), (33, .val false [.lit (.bool true)]), (32, .val false [.lit (.int .i64 (x0.Rows.length : Int))]), (31, .val false [.sl false 3 (CV.frzEs (x0.Rows.map Vrow.row))]), (30, .adr (.box 2) [(0, 0)] 2 0), (29, .val false [.lit (.int .i64 y3)]), (6, .val false [.lit (.int .i64 y3)]), (5, .val false [.lit (.int .i64 (IntKind.wrap .i64 ((IntKind.wrap .i64 (1 * 2 ^ min (((IntKind.wrap .u64 x1) : Int)).toNat (IntKind.bits .i64))) - 1)))]), (4, .val false [.lit (.bool false)]), (2, .adr (.box 2) [(0, 0)] 2 0)], [(7, (Vrow.row v9)), (2, (CV.frzRow (Vtab.row x0)))]⟩ (by kernel_rfl) ?_
                    cases h10 : ((IntKind.wrap .i64 (BitVec.ofInt (IntKind.bits .i64) v9.Bare &&& BitVec.ofInt (IntKind.bits .i64) v9.Members).toNat) != v9.Bare)
                    · have H := bifF h10 H
                      refine Tr.to ⟨100, 0, [(7, .adr (.box 7) [(0, 0)] 3 0), (40, .val true (Vrow.row v9)), (39, .fad ((Vrow.row v9))), (38, .val false [.lit (.int .i64 y3)]), (37, .val false [.sl false 3 (CV.frzEs (x0.Rows.map Vrow.row))]), (36, .adr (.box 2) [(0, 0)] 2 0), (33, .val false [.lit (.bool true)]), (32, .val false [.lit (.int .i64 (x0.Rows.length : Int))]), (31, .val false [.sl false 3 (CV.frzEs (x0.Rows.map Vrow.row))]), (30, .adr (.box 2) [(0, 0)] 2 0), (29, .val false [.lit (.int .i64 y3)]), (6, .val false [.lit (.int .i64 y3)]), (5, .val false [.lit (.int .i64 (IntKind.wrap .i64 ((IntKind.wrap .i64 (1 * 2 ^ min (((IntKind.wrap .u64 x1) : Int)).toNat (IntKind.bits .i64))) - 1)))]), (4, .val false [.lit (.bool false)]), (2, .adr (.box 2) [(0, 0)] 2 0)], [(7, (Vrow.row v9)), (2, (CV.frzRow (Vtab.row x0)))]⟩ (by kernel_rfl) ?_
                      cases h11 : (decide (y3 > 0))
                      · have H := bifF h11 H
                        refine Tr.draws mixed 44 (by kernel_rfl) ⟨100, 0, [(84, .val false [.lit (.bool false)]), (83, .val false [.lit (.bool false)]), (82, .tup []), (81, .tup []), (80, .tup []), (79, .tup []), (78, .tup []), (77, .tup []), (76, .tup []), (75, .tup []), (74, .tup []), (73, .tup []), (72, .val false [.lit (.bool false)]), (71, .val false [.lit (.bool false)]), (70, .val false [.lit (.int .i64 y3)]), (69, .val false [.lit (.bool false)]), (68, .val false [.lit (.bool false)]), (67, .val false [.lit (.bool false)]), (66, .val false [.lit (.int .i64 v9.Bare)]), (65, .adr (.box 7) [(0, 0)] 3 2), (64, .val false [.lit (.int .i64 (IntKind.wrap .i64 (BitVec.ofInt (IntKind.bits .i64) v9.Bare &&& BitVec.ofInt (IntKind.bits .i64) v9.Members).toNat))]), (63, .val false [.lit (.int .i64 v9.Members)]), (62, .adr (.box 7) [(0, 0)] 3 1), (61, .val false [.lit (.int .i64 v9.Bare)]), (60, .adr (.box 7) [(0, 0)] 3 2), (59, .val false [.lit (.bool false)]), (58, .val false [.lit (.bool false)]), (57, .val false [.lit (.bool false)]), (56, .val false [.lit (.bool r12)]), (55, .val false [.lit (.int .i64 (IntKind.wrap .i64 ((IntKind.wrap .i64 (1 * 2 ^ min (((IntKind.wrap .u64 x1) : Int)).toNat (IntKind.bits .i64))) - 1)))]), (54, .val false [.lit (.int .i64 v9.Bare)]), (53, .adr (.box 7) [(0, 0)] 3 2), (52, .val false [.lit (.bool false)]), (51, .val false [.lit (.bool false)]), (50, .val false [.lit (.bool false)]), (49, .val false [.lit (.bool r11)]), (48, .val false [.lit (.int .i64 (IntKind.wrap .i64 ((IntKind.wrap .i64 (1 * 2 ^ min (((IntKind.wrap .u64 x1) : Int)).toNat (IntKind.bits .i64))) - 1)))]), (47, .val false [.lit (.int .i64 v9.Members)]), (46, .adr (.box 7) [(0, 0)] 3 1), (45, .val false [.lit (.bool false)]), (44, .val false [.lit (.bool false)]), (43, .val false [.lit (.bool r10)]), (42, .val false [.lit (.int .i64 v9.Id)]), (41, .adr (.box 7) [(0, 0)] 3 0), (7, .adr (.box 7) [(0, 0)] 3 0), (40, .val true (Vrow.row v9)), (39, .fad ((Vrow.row v9))), (38, .val false [.lit (.int .i64 y3)]), (37, .val false [.sl false 3 (CV.frzEs (x0.Rows.map Vrow.row))]), (36, .adr (.box 2) [(0, 0)] 2 0), (33, .val false [.lit (.bool true)]), (32, .val false [.lit (.int .i64 (x0.Rows.length : Int))]), (31, .val false [.sl false 3 (CV.frzEs (x0.Rows.map Vrow.row))]), (30, .adr (.box 2) [(0, 0)] 2 0), (29, .val false [.lit (.int .i64 y3)]), (6, .val false [.lit (.int .i64 y3)]), (5, .val false [.lit (.int .i64 (IntKind.wrap .i64 ((IntKind.wrap .i64 (1 * 2 ^ min (((IntKind.wrap .u64 x1) : Int)).toNat (IntKind.bits .i64))) - 1)))]), (4, .val false [.lit (.bool false)]), (2, .adr (.box 2) [(0, 0)] 2 0)], [(7, (Vrow.row v9)), (2, (CV.frzRow (Vtab.row x0)))]⟩ (fun cx => ?_) ?_
                        · refine AT.runU tOk [(0, []), (1, [2, 8, 15])] 42 [⟨[2, 8, 15], 3, 41, 42⟩] [1, 0] rfl (by kernel_rfl) (fun cx => ?_)
                          refine AT.big1 tOk 2 (by kernel_rfl) (by kernel_rfl) ?_
                          refine LAt.callU tOk [.rd, .rd, .rd] (f := 76) (av := #[.tmp 42, .const (.int .i64 1), .const (.int .i64 99)]) (ats := #[3, 3, 3]) (d := (some 43)) (ty := 4) (g := none) (by kernel_rfl) (by kernel_rfl) (by kernel_rfl) [] (spec_l1In n v9.Id 1 99 r10 er10) (by kernel_rfl) (.inl rfl) ?_
                          refine LAt.fin (by kernel_rfl) (And.intro (And.intro (by kernel_rfl) (by kernel_rfl)) ?_)
                          refine AT.runU tOk [(3, []), (4, [])] 39 [⟨[2, 8, 15], 3, 41, 42⟩] [4, 3, 2, 1, 0] rfl (by kernel_rfl) (fun cx => ?_)
                          refine AT.to ⟨100, 0, [(45, .val false [.lit (.bool (!r10))]), (44, .val false [.lit (.bool (!r10))]), (43, .val false [.lit (.bool r10)]), (42, .val false [.lit (.int .i64 v9.Id)]), (41, .adr (.box 7) [(0, 0)] 3 0), (7, .adr (.box 7) [(0, 0)] 3 0), (40, .val true (Vrow.row v9)), (39, .fad ((Vrow.row v9))), (38, .val false [.lit (.int .i64 y3)]), (37, .val false [.sl false 3 (CV.frzEs (x0.Rows.map Vrow.row))]), (36, .adr (.box 2) [(0, 0)] 2 0), (33, .val false [.lit (.bool true)]), (32, .val false [.lit (.int .i64 (x0.Rows.length : Int))]), (31, .val false [.sl false 3 (CV.frzEs (x0.Rows.map Vrow.row))]), (30, .adr (.box 2) [(0, 0)] 2 0), (29, .val false [.lit (.int .i64 y3)]), (6, .val false [.lit (.int .i64 y3)]), (5, .val false [.lit (.int .i64 (IntKind.wrap .i64 ((IntKind.wrap .i64 (1 * 2 ^ min (((IntKind.wrap .u64 x1) : Int)).toNat (IntKind.bits .i64))) - 1)))]), (4, .val false [.lit (.bool false)]), (2, .adr (.box 2) [(0, 0)] 2 0)], [(7, (Vrow.row v9)), (2, (CV.frzRow (Vtab.row x0)))]⟩ (by kernel_rfl) ?_
                          rw [h7]
                          refine AT.runU tOk [(5, []), (6, [8, 15]), (7, [])] 36 [⟨[8, 15], 3, 46, 47⟩, ⟨[2, 8, 15], 3, 41, 42⟩] [7, 6, 5, 4, 3, 2, 1, 0] rfl (by kernel_rfl) (fun cx => ?_)
                          refine AT.big1 tOk 8 (by kernel_rfl) (by kernel_rfl) ?_
                          refine LAt.callU tOk [.rd, .rd, .rd] (f := 76) (av := #[.tmp 47, .const (.int .i64 0), .tmp 48]) (ats := #[3, 3, 3]) (d := (some 49)) (ty := 4) (g := (some (4, false))) (by kernel_rfl) (by kernel_rfl) (by kernel_rfl) [] (spec_l1In n v9.Members 0 (IntKind.wrap .i64 ((IntKind.wrap .i64 (1 * 2 ^ min (((IntKind.wrap .u64 x1) : Int)).toNat (IntKind.bits .i64))) - 1)) r11 er11) (by kernel_rfl) (.inl rfl) ?_
                          refine LAt.fin (by kernel_rfl) (And.intro (And.intro (by kernel_rfl) (by kernel_rfl)) ?_)
                          refine AT.runU tOk [(9, []), (10, []), (11, [])] 32 [⟨[8, 15], 3, 46, 47⟩, ⟨[2, 8, 15], 3, 41, 42⟩] [11, 10, 9, 8, 7, 6, 5, 4, 3, 2, 1, 0] rfl (by kernel_rfl) (fun cx => ?_)
                          refine AT.to ⟨100, 0, [(52, .val false [.lit (.bool (!r11))]), (51, .val false [.lit (.bool (!r11))]), (50, .val false [.lit (.bool (!r11))]), (49, .val false [.lit (.bool r11)]), (48, .val false [.lit (.int .i64 (IntKind.wrap .i64 ((IntKind.wrap .i64 (1 * 2 ^ min (((IntKind.wrap .u64 x1) : Int)).toNat (IntKind.bits .i64))) - 1)))]), (47, .val false [.lit (.int .i64 v9.Members)]), (46, .adr (.box 7) [(0, 0)] 3 1), (45, .val false [.lit (.bool false)]), (44, .val false [.lit (.bool false)]), (43, .val false [.lit (.bool r10)]), (42, .val false [.lit (.int .i64 v9.Id)]), (41, .adr (.box 7) [(0, 0)] 3 0), (7, .adr (.box 7) [(0, 0)] 3 0), (40, .val true (Vrow.row v9)), (39, .fad ((Vrow.row v9))), (38, .val false [.lit (.int .i64 y3)]), (37, .val false [.sl false 3 (CV.frzEs (x0.Rows.map Vrow.row))]), (36, .adr (.box 2) [(0, 0)] 2 0), (33, .val false [.lit (.bool true)]), (32, .val false [.lit (.int .i64 (x0.Rows.length : Int))]), (31, .val false [.sl false 3 (CV.frzEs (x0.Rows.map Vrow.row))]), (30, .adr (.box 2) [(0, 0)] 2 0), (29, .val false [.lit (.int .i64 y3)]), (6, .val false [.lit (.int .i64 y3)]), (5, .val false [.lit (.int .i64 (IntKind.wrap .i64 ((IntKind.wrap .i64 (1 * 2 ^ min (((IntKind.wrap .u64 x1) : Int)).toNat (IntKind.bits .i64))) - 1)))]), (4, .val false [.lit (.bool false)]), (2, .adr (.box 2) [(0, 0)] 2 0)], [(7, (Vrow.row v9)), (2, (CV.frzRow (Vtab.row x0)))]⟩ (by kernel_rfl) ?_
                          rw [h8]
                          refine AT.runU tOk [(12, []), (13, [15]), (14, [])] 29 [⟨[15], 3, 53, 54⟩, ⟨[8, 15], 3, 46, 47⟩, ⟨[2, 8, 15], 3, 41, 42⟩] [14, 13, 12, 11, 10, 9, 8, 7, 6, 5, 4, 3, 2, 1, 0] rfl (by kernel_rfl) (fun cx => ?_)
                          refine AT.big1 tOk 15 (by kernel_rfl) (by kernel_rfl) ?_
                          refine LAt.callU tOk [.rd, .rd, .rd] (f := 76) (av := #[.tmp 54, .const (.int .i64 0), .tmp 55]) (ats := #[3, 3, 3]) (d := (some 56)) (ty := 4) (g := (some (11, false))) (by kernel_rfl) (by kernel_rfl) (by kernel_rfl) [] (spec_l1In n v9.Bare 0 (IntKind.wrap .i64 ((IntKind.wrap .i64 (1 * 2 ^ min (((IntKind.wrap .u64 x1) : Int)).toNat (IntKind.bits .i64))) - 1)) r12 er12) (by kernel_rfl) (.inl rfl) ?_
                          refine LAt.fin (by kernel_rfl) (And.intro (And.intro (by kernel_rfl) (by kernel_rfl)) ?_)
                          refine AT.runU tOk [(16, []), (17, []), (18, [])] 25 [⟨[15], 3, 53, 54⟩, ⟨[8, 15], 3, 46, 47⟩, ⟨[2, 8, 15], 3, 41, 42⟩] [18, 17, 16, 15, 14, 13, 12, 11, 10, 9, 8, 7, 6, 5, 4, 3, 2, 1, 0] rfl (by kernel_rfl) (fun cx => ?_)
                          refine AT.to ⟨100, 0, [(59, .val false [.lit (.bool (!r12))]), (58, .val false [.lit (.bool (!r12))]), (57, .val false [.lit (.bool (!r12))]), (56, .val false [.lit (.bool r12)]), (55, .val false [.lit (.int .i64 (IntKind.wrap .i64 ((IntKind.wrap .i64 (1 * 2 ^ min (((IntKind.wrap .u64 x1) : Int)).toNat (IntKind.bits .i64))) - 1)))]), (54, .val false [.lit (.int .i64 v9.Bare)]), (53, .adr (.box 7) [(0, 0)] 3 2), (52, .val false [.lit (.bool false)]), (51, .val false [.lit (.bool false)]), (50, .val false [.lit (.bool false)]), (49, .val false [.lit (.bool r11)]), (48, .val false [.lit (.int .i64 (IntKind.wrap .i64 ((IntKind.wrap .i64 (1 * 2 ^ min (((IntKind.wrap .u64 x1) : Int)).toNat (IntKind.bits .i64))) - 1)))]), (47, .val false [.lit (.int .i64 v9.Members)]), (46, .adr (.box 7) [(0, 0)] 3 1), (45, .val false [.lit (.bool false)]), (44, .val false [.lit (.bool false)]), (43, .val false [.lit (.bool r10)]), (42, .val false [.lit (.int .i64 v9.Id)]), (41, .adr (.box 7) [(0, 0)] 3 0), (7, .adr (.box 7) [(0, 0)] 3 0), (40, .val true (Vrow.row v9)), (39, .fad ((Vrow.row v9))), (38, .val false [.lit (.int .i64 y3)]), (37, .val false [.sl false 3 (CV.frzEs (x0.Rows.map Vrow.row))]), (36, .adr (.box 2) [(0, 0)] 2 0), (33, .val false [.lit (.bool true)]), (32, .val false [.lit (.int .i64 (x0.Rows.length : Int))]), (31, .val false [.sl false 3 (CV.frzEs (x0.Rows.map Vrow.row))]), (30, .adr (.box 2) [(0, 0)] 2 0), (29, .val false [.lit (.int .i64 y3)]), (6, .val false [.lit (.int .i64 y3)]), (5, .val false [.lit (.int .i64 (IntKind.wrap .i64 ((IntKind.wrap .i64 (1 * 2 ^ min (((IntKind.wrap .u64 x1) : Int)).toNat (IntKind.bits .i64))) - 1)))]), (4, .val false [.lit (.bool false)]), (2, .adr (.box 2) [(0, 0)] 2 0)], [(7, (Vrow.row v9)), (2, (CV.frzRow (Vtab.row x0)))]⟩ (by kernel_rfl) ?_
                          rw [h9]
                          refine AT.runU tOk [(19, []), (20, []), (21, []), (22, []), (23, []), (24, []), (25, []), (26, []), (27, []), (28, [])] 15 [⟨[], 3, 65, 66⟩, ⟨[], 3, 62, 63⟩, ⟨[], 3, 60, 61⟩, ⟨[15], 3, 53, 54⟩, ⟨[8, 15], 3, 46, 47⟩, ⟨[2, 8, 15], 3, 41, 42⟩] [28, 27, 26, 25, 24, 23, 22, 21, 20, 19, 18, 17, 16, 15, 14, 13, 12, 11, 10, 9, 8, 7, 6, 5, 4, 3, 2, 1, 0] rfl (by kernel_rfl) (fun cx => ?_)
                          refine AT.to ⟨100, 0, [(69, .val false [.lit (.bool ((IntKind.wrap .i64 (BitVec.ofInt (IntKind.bits .i64) v9.Bare &&& BitVec.ofInt (IntKind.bits .i64) v9.Members).toNat) != v9.Bare))]), (68, .val false [.lit (.bool ((IntKind.wrap .i64 (BitVec.ofInt (IntKind.bits .i64) v9.Bare &&& BitVec.ofInt (IntKind.bits .i64) v9.Members).toNat) != v9.Bare))]), (67, .val false [.lit (.bool ((IntKind.wrap .i64 (BitVec.ofInt (IntKind.bits .i64) v9.Bare &&& BitVec.ofInt (IntKind.bits .i64) v9.Members).toNat) != v9.Bare))]), (66, .val false [.lit (.int .i64 v9.Bare)]), (65, .adr (.box 7) [(0, 0)] 3 2), (64, .val false [.lit (.int .i64 (IntKind.wrap .i64 (BitVec.ofInt (IntKind.bits .i64) v9.Bare &&& BitVec.ofInt (IntKind.bits .i64) v9.Members).toNat))]), (63, .val false [.lit (.int .i64 v9.Members)]), (62, .adr (.box 7) [(0, 0)] 3 1), (61, .val false [.lit (.int .i64 v9.Bare)]), (60, .adr (.box 7) [(0, 0)] 3 2), (59, .val false [.lit (.bool false)]), (58, .val false [.lit (.bool false)]), (57, .val false [.lit (.bool false)]), (56, .val false [.lit (.bool r12)]), (55, .val false [.lit (.int .i64 (IntKind.wrap .i64 ((IntKind.wrap .i64 (1 * 2 ^ min (((IntKind.wrap .u64 x1) : Int)).toNat (IntKind.bits .i64))) - 1)))]), (54, .val false [.lit (.int .i64 v9.Bare)]), (53, .adr (.box 7) [(0, 0)] 3 2), (52, .val false [.lit (.bool false)]), (51, .val false [.lit (.bool false)]), (50, .val false [.lit (.bool false)]), (49, .val false [.lit (.bool r11)]), (48, .val false [.lit (.int .i64 (IntKind.wrap .i64 ((IntKind.wrap .i64 (1 * 2 ^ min (((IntKind.wrap .u64 x1) : Int)).toNat (IntKind.bits .i64))) - 1)))]), (47, .val false [.lit (.int .i64 v9.Members)]), (46, .adr (.box 7) [(0, 0)] 3 1), (45, .val false [.lit (.bool false)]), (44, .val false [.lit (.bool false)]), (43, .val false [.lit (.bool r10)]), (42, .val false [.lit (.int .i64 v9.Id)]), (41, .adr (.box 7) [(0, 0)] 3 0), (7, .adr (.box 7) [(0, 0)] 3 0), (40, .val true (Vrow.row v9)), (39, .fad ((Vrow.row v9))), (38, .val false [.lit (.int .i64 y3)]), (37, .val false [.sl false 3 (CV.frzEs (x0.Rows.map Vrow.row))]), (36, .adr (.box 2) [(0, 0)] 2 0), (33, .val false [.lit (.bool true)]), (32, .val false [.lit (.int .i64 (x0.Rows.length : Int))]), (31, .val false [.sl false 3 (CV.frzEs (x0.Rows.map Vrow.row))]), (30, .adr (.box 2) [(0, 0)] 2 0), (29, .val false [.lit (.int .i64 y3)]), (6, .val false [.lit (.int .i64 y3)]), (5, .val false [.lit (.int .i64 (IntKind.wrap .i64 ((IntKind.wrap .i64 (1 * 2 ^ min (((IntKind.wrap .u64 x1) : Int)).toNat (IntKind.bits .i64))) - 1)))]), (4, .val false [.lit (.bool false)]), (2, .adr (.box 2) [(0, 0)] 2 0)], [(7, (Vrow.row v9)), (2, (CV.frzRow (Vtab.row x0)))]⟩ (by kernel_rfl) ?_
                          rw [h10]
                          refine AT.runU tOk [(29, []), (30, []), (31, [])] 12 [⟨[], 3, 65, 66⟩, ⟨[], 3, 62, 63⟩, ⟨[], 3, 60, 61⟩, ⟨[15], 3, 53, 54⟩, ⟨[8, 15], 3, 46, 47⟩, ⟨[2, 8, 15], 3, 41, 42⟩] [31, 30, 29, 28, 27, 26, 25, 24, 23, 22, 21, 20, 19, 18, 17, 16, 15, 14, 13, 12, 11, 10, 9, 8, 7, 6, 5, 4, 3, 2, 1, 0] rfl (by kernel_rfl) (fun cx => ?_)
                          refine AT.to ⟨100, 0, [(72, .val false [.lit (.bool (decide (y3 > 0)))]), (71, .val false [.lit (.bool (decide (y3 > 0)))]), (70, .val false [.lit (.int .i64 y3)]), (69, .val false [.lit (.bool false)]), (68, .val false [.lit (.bool false)]), (67, .val false [.lit (.bool false)]), (66, .val false [.lit (.int .i64 v9.Bare)]), (65, .adr (.box 7) [(0, 0)] 3 2), (64, .val false [.lit (.int .i64 (IntKind.wrap .i64 (BitVec.ofInt (IntKind.bits .i64) v9.Bare &&& BitVec.ofInt (IntKind.bits .i64) v9.Members).toNat))]), (63, .val false [.lit (.int .i64 v9.Members)]), (62, .adr (.box 7) [(0, 0)] 3 1), (61, .val false [.lit (.int .i64 v9.Bare)]), (60, .adr (.box 7) [(0, 0)] 3 2), (59, .val false [.lit (.bool false)]), (58, .val false [.lit (.bool false)]), (57, .val false [.lit (.bool false)]), (56, .val false [.lit (.bool r12)]), (55, .val false [.lit (.int .i64 (IntKind.wrap .i64 ((IntKind.wrap .i64 (1 * 2 ^ min (((IntKind.wrap .u64 x1) : Int)).toNat (IntKind.bits .i64))) - 1)))]), (54, .val false [.lit (.int .i64 v9.Bare)]), (53, .adr (.box 7) [(0, 0)] 3 2), (52, .val false [.lit (.bool false)]), (51, .val false [.lit (.bool false)]), (50, .val false [.lit (.bool false)]), (49, .val false [.lit (.bool r11)]), (48, .val false [.lit (.int .i64 (IntKind.wrap .i64 ((IntKind.wrap .i64 (1 * 2 ^ min (((IntKind.wrap .u64 x1) : Int)).toNat (IntKind.bits .i64))) - 1)))]), (47, .val false [.lit (.int .i64 v9.Members)]), (46, .adr (.box 7) [(0, 0)] 3 1), (45, .val false [.lit (.bool false)]), (44, .val false [.lit (.bool false)]), (43, .val false [.lit (.bool r10)]), (42, .val false [.lit (.int .i64 v9.Id)]), (41, .adr (.box 7) [(0, 0)] 3 0), (7, .adr (.box 7) [(0, 0)] 3 0), (40, .val true (Vrow.row v9)), (39, .fad ((Vrow.row v9))), (38, .val false [.lit (.int .i64 y3)]), (37, .val false [.sl false 3 (CV.frzEs (x0.Rows.map Vrow.row))]), (36, .adr (.box 2) [(0, 0)] 2 0), (33, .val false [.lit (.bool true)]), (32, .val false [.lit (.int .i64 (x0.Rows.length : Int))]), (31, .val false [.sl false 3 (CV.frzEs (x0.Rows.map Vrow.row))]), (30, .adr (.box 2) [(0, 0)] 2 0), (29, .val false [.lit (.int .i64 y3)]), (6, .val false [.lit (.int .i64 y3)]), (5, .val false [.lit (.int .i64 (IntKind.wrap .i64 ((IntKind.wrap .i64 (1 * 2 ^ min (((IntKind.wrap .u64 x1) : Int)).toNat (IntKind.bits .i64))) - 1)))]), (4, .val false [.lit (.bool false)]), (2, .adr (.box 2) [(0, 0)] 2 0)], [(7, (Vrow.row v9)), (2, (CV.frzRow (Vtab.row x0)))]⟩ (by kernel_rfl) ?_
                          rw [h11]
                          refine AT.runU tOk [(32, []), (33, []), (34, []), (35, []), (36, []), (37, []), (38, []), (39, []), (40, []), (41, []), (42, []), (43, [])] 0 [⟨[], 3, 65, 66⟩, ⟨[], 3, 62, 63⟩, ⟨[], 3, 60, 61⟩, ⟨[15], 3, 53, 54⟩, ⟨[8, 15], 3, 46, 47⟩, ⟨[2, 8, 15], 3, 41, 42⟩] [43, 42, 41, 40, 39, 38, 37, 36, 35, 34, 33, 32, 31, 30, 29, 28, 27, 26, 25, 24, 23, 22, 21, 20, 19, 18, 17, 16, 15, 14, 13, 12, 11, 10, 9, 8, 7, 6, 5, 4, 3, 2, 1, 0] rfl (by kernel_rfl) (fun cx => ?_)
                          exact AT.done [84, 83, 82, 81, 80, 79, 78, 77, 76, 75, 74, 73, 72, 71, 70, 69, 68, 67, 66, 65, 64, 63, 62, 61, 60, 59, 58, 57, 56, 55, 54, 53, 52, 51, 50, 49, 48, 47, 46, 45, 44, 43, 42, 41, 7, 40, 39, 38, 37, 36, 33, 32, 31, 30, 29, 6, 5, 4, 2] [7, 2] _ (by kernel_rfl) (by kernel_rfl) rfl
                        · refine Tr.cond (b := false) (by kernel_rfl) (fun h => nomatch h) (fun _ => ?_)
                          refine Tr.skip ?_
                          show Tr _ _ _ _ _
                          refine Tr.at ?_
                          refine LAt.runU tOk 3 (by kernel_rfl) ?_
                          refine LAt.doneU [6, 35, 34, 84, 83, 82, 81, 80, 79, 78, 77, 76, 75, 74, 73, 72, 71, 70, 69, 68, 67, 66, 65, 64, 63, 62, 61, 60, 59, 58, 57, 56, 55, 54, 53, 52, 51, 50, 49, 48, 47, 46, 45, 44, 43, 42, 41, 7, 40, 39, 38, 37, 36, 33, 32, 31, 30, 29, 5, 4, 2] [7, 2] (by kernel_rfl) ?_
                          exact Exists.intro (mo8, (IntKind.wrap .i64 (y3 + 1))) (And.intro H (And.intro (Nat.lt_succ_self mo8) (St.sub_of [6, 5, 4, 2] [2] (by kernel_rfl))))
                      · have H := bifT h11 H
                        obtain ⟨v13, ev13, H⟩ := bind_some H
                        refine Tr.draws mixed 44 (by kernel_rfl) ⟨100, 0, [(84, .val false [.lit (.bool (decide (v13.Id ≥ v9.Id)))]), (83, .val false [.lit (.bool (decide (v13.Id ≥ v9.Id)))]), (82, .val false [.lit (.bool (decide (v13.Id ≥ v9.Id)))]), (81, .val false [.lit (.int .i64 v9.Id)]), (80, .adr (.box 7) [(0, 0)] 3 0), (79, .val false [.lit (.int .i64 v13.Id)]), (78, .fad ((Vrow.row v13))), (77, .fad ((Vrow.row v13))), (76, .val false [.lit (.int .i64 (IntKind.wrap .i64 (y3 - 1)))]), (75, .val false [.lit (.int .i64 y3)]), (74, .ref (.box 2) [(0, 0)] 2 0 1 false), (73, .adr (.box 2) [(0, 0)] 2 0), (72, .val false [.lit (.bool true)]), (71, .val false [.lit (.bool true)]), (70, .val false [.lit (.int .i64 y3)]), (69, .val false [.lit (.bool false)]), (68, .val false [.lit (.bool false)]), (67, .val false [.lit (.bool false)]), (66, .val false [.lit (.int .i64 v9.Bare)]), (65, .adr (.box 7) [(0, 0)] 3 2), (64, .val false [.lit (.int .i64 (IntKind.wrap .i64 (BitVec.ofInt (IntKind.bits .i64) v9.Bare &&& BitVec.ofInt (IntKind.bits .i64) v9.Members).toNat))]), (63, .val false [.lit (.int .i64 v9.Members)]), (62, .adr (.box 7) [(0, 0)] 3 1), (61, .val false [.lit (.int .i64 v9.Bare)]), (60, .adr (.box 7) [(0, 0)] 3 2), (59, .val false [.lit (.bool false)]), (58, .val false [.lit (.bool false)]), (57, .val false [.lit (.bool false)]), (56, .val false [.lit (.bool r12)]), (55, .val false [.lit (.int .i64 (IntKind.wrap .i64 ((IntKind.wrap .i64 (1 * 2 ^ min (((IntKind.wrap .u64 x1) : Int)).toNat (IntKind.bits .i64))) - 1)))]), (54, .val false [.lit (.int .i64 v9.Bare)]), (53, .adr (.box 7) [(0, 0)] 3 2), (52, .val false [.lit (.bool false)]), (51, .val false [.lit (.bool false)]), (50, .val false [.lit (.bool false)]), (49, .val false [.lit (.bool r11)]), (48, .val false [.lit (.int .i64 (IntKind.wrap .i64 ((IntKind.wrap .i64 (1 * 2 ^ min (((IntKind.wrap .u64 x1) : Int)).toNat (IntKind.bits .i64))) - 1)))]), (47, .val false [.lit (.int .i64 v9.Members)]), (46, .adr (.box 7) [(0, 0)] 3 1), (45, .val false [.lit (.bool false)]), (44, .val false [.lit (.bool false)]), (43, .val false [.lit (.bool r10)]), (42, .val false [.lit (.int .i64 v9.Id)]), (41, .adr (.box 7) [(0, 0)] 3 0), (7, .adr (.box 7) [(0, 0)] 3 0), (40, .val true (Vrow.row v9)), (39, .fad ((Vrow.row v9))), (38, .val false [.lit (.int .i64 y3)]), (37, .val false [.sl false 3 (CV.frzEs (x0.Rows.map Vrow.row))]), (36, .adr (.box 2) [(0, 0)] 2 0), (33, .val false [.lit (.bool true)]), (32, .val false [.lit (.int .i64 (x0.Rows.length : Int))]), (31, .val false [.sl false 3 (CV.frzEs (x0.Rows.map Vrow.row))]), (30, .adr (.box 2) [(0, 0)] 2 0), (29, .val false [.lit (.int .i64 y3)]), (6, .val false [.lit (.int .i64 y3)]), (5, .val false [.lit (.int .i64 (IntKind.wrap .i64 ((IntKind.wrap .i64 (1 * 2 ^ min (((IntKind.wrap .u64 x1) : Int)).toNat (IntKind.bits .i64))) - 1)))]), (4, .val false [.lit (.bool false)]), (2, .adr (.box 2) [(0, 0)] 2 0)], [(7, (Vrow.row v9)), (2, (CV.frzRow (Vtab.row x0)))]⟩ (fun cx => ?_) ?_
                        · refine AT.runU tOk [(0, []), (1, [2, 8, 15])] 42 [⟨[2, 8, 15], 3, 41, 42⟩] [1, 0] rfl (by kernel_rfl) (fun cx => ?_)
                          refine AT.big1 tOk 2 (by kernel_rfl) (by kernel_rfl) ?_
                          refine LAt.callU tOk [.rd, .rd, .rd] (f := 76) (av := #[.tmp 42, .const (.int .i64 1), .const (.int .i64 99)]) (ats := #[3, 3, 3]) (d := (some 43)) (ty := 4) (g := none) (by kernel_rfl) (by kernel_rfl) (by kernel_rfl) [] (spec_l1In n v9.Id 1 99 r10 er10) (by kernel_rfl) (.inl rfl) ?_
                          refine LAt.fin (by kernel_rfl) (And.intro (And.intro (by kernel_rfl) (by kernel_rfl)) ?_)
                          refine AT.runU tOk [(3, []), (4, [])] 39 [⟨[2, 8, 15], 3, 41, 42⟩] [4, 3, 2, 1, 0] rfl (by kernel_rfl) (fun cx => ?_)
                          refine AT.to ⟨100, 0, [(45, .val false [.lit (.bool (!r10))]), (44, .val false [.lit (.bool (!r10))]), (43, .val false [.lit (.bool r10)]), (42, .val false [.lit (.int .i64 v9.Id)]), (41, .adr (.box 7) [(0, 0)] 3 0), (7, .adr (.box 7) [(0, 0)] 3 0), (40, .val true (Vrow.row v9)), (39, .fad ((Vrow.row v9))), (38, .val false [.lit (.int .i64 y3)]), (37, .val false [.sl false 3 (CV.frzEs (x0.Rows.map Vrow.row))]), (36, .adr (.box 2) [(0, 0)] 2 0), (33, .val false [.lit (.bool true)]), (32, .val false [.lit (.int .i64 (x0.Rows.length : Int))]), (31, .val false [.sl false 3 (CV.frzEs (x0.Rows.map Vrow.row))]), (30, .adr (.box 2) [(0, 0)] 2 0), (29, .val false [.lit (.int .i64 y3)]), (6, .val false [.lit (.int .i64 y3)]), (5, .val false [.lit (.int .i64 (IntKind.wrap .i64 ((IntKind.wrap .i64 (1 * 2 ^ min (((IntKind.wrap .u64 x1) : Int)).toNat (IntKind.bits .i64))) - 1)))]), (4, .val false [.lit (.bool false)]), (2, .adr (.box 2) [(0, 0)] 2 0)], [(7, (Vrow.row v9)), (2, (CV.frzRow (Vtab.row x0)))]⟩ (by kernel_rfl) ?_
                          rw [h7]
                          refine AT.runU tOk [(5, []), (6, [8, 15]), (7, [])] 36 [⟨[8, 15], 3, 46, 47⟩, ⟨[2, 8, 15], 3, 41, 42⟩] [7, 6, 5, 4, 3, 2, 1, 0] rfl (by kernel_rfl) (fun cx => ?_)
                          refine AT.big1 tOk 8 (by kernel_rfl) (by kernel_rfl) ?_
                          refine LAt.callU tOk [.rd, .rd, .rd] (f := 76) (av := #[.tmp 47, .const (.int .i64 0), .tmp 48]) (ats := #[3, 3, 3]) (d := (some 49)) (ty := 4) (g := (some (4, false))) (by kernel_rfl) (by kernel_rfl) (by kernel_rfl) [] (spec_l1In n v9.Members 0 (IntKind.wrap .i64 ((IntKind.wrap .i64 (1 * 2 ^ min (((IntKind.wrap .u64 x1) : Int)).toNat (IntKind.bits .i64))) - 1)) r11 er11) (by kernel_rfl) (.inl rfl) ?_
                          refine LAt.fin (by kernel_rfl) (And.intro (And.intro (by kernel_rfl) (by kernel_rfl)) ?_)
                          refine AT.runU tOk [(9, []), (10, []), (11, [])] 32 [⟨[8, 15], 3, 46, 47⟩, ⟨[2, 8, 15], 3, 41, 42⟩] [11, 10, 9, 8, 7, 6, 5, 4, 3, 2, 1, 0] rfl (by kernel_rfl) (fun cx => ?_)
                          refine AT.to ⟨100, 0, [(52, .val false [.lit (.bool (!r11))]), (51, .val false [.lit (.bool (!r11))]), (50, .val false [.lit (.bool (!r11))]), (49, .val false [.lit (.bool r11)]), (48, .val false [.lit (.int .i64 (IntKind.wrap .i64 ((IntKind.wrap .i64 (1 * 2 ^ min (((IntKind.wrap .u64 x1) : Int)).toNat (IntKind.bits .i64))) - 1)))]), (47, .val false [.lit (.int .i64 v9.Members)]), (46, .adr (.box 7) [(0, 0)] 3 1), (45, .val false [.lit (.bool false)]), (44, .val false [.lit (.bool false)]), (43, .val false [.lit (.bool r10)]), (42, .val false [.lit (.int .i64 v9.Id)]), (41, .adr (.box 7) [(0, 0)] 3 0), (7, .adr (.box 7) [(0, 0)] 3 0), (40, .val true (Vrow.row v9)), (39, .fad ((Vrow.row v9))), (38, .val false [.lit (.int .i64 y3)]), (37, .val false [.sl false 3 (CV.frzEs (x0.Rows.map Vrow.row))]), (36, .adr (.box 2) [(0, 0)] 2 0), (33, .val false [.lit (.bool true)]), (32, .val false [.lit (.int .i64 (x0.Rows.length : Int))]), (31, .val false [.sl false 3 (CV.frzEs (x0.Rows.map Vrow.row))]), (30, .adr (.box 2) [(0, 0)] 2 0), (29, .val false [.lit (.int .i64 y3)]), (6, .val false [.lit (.int .i64 y3)]), (5, .val false [.lit (.int .i64 (IntKind.wrap .i64 ((IntKind.wrap .i64 (1 * 2 ^ min (((IntKind.wrap .u64 x1) : Int)).toNat (IntKind.bits .i64))) - 1)))]), (4, .val false [.lit (.bool false)]), (2, .adr (.box 2) [(0, 0)] 2 0)], [(7, (Vrow.row v9)), (2, (CV.frzRow (Vtab.row x0)))]⟩ (by kernel_rfl) ?_
                          rw [h8]
                          refine AT.runU tOk [(12, []), (13, [15]), (14, [])] 29 [⟨[15], 3, 53, 54⟩, ⟨[8, 15], 3, 46, 47⟩, ⟨[2, 8, 15], 3, 41, 42⟩] [14, 13, 12, 11, 10, 9, 8, 7, 6, 5, 4, 3, 2, 1, 0] rfl (by kernel_rfl) (fun cx => ?_)
                          refine AT.big1 tOk 15 (by kernel_rfl) (by kernel_rfl) ?_
                          refine LAt.callU tOk [.rd, .rd, .rd] (f := 76) (av := #[.tmp 54, .const (.int .i64 0), .tmp 55]) (ats := #[3, 3, 3]) (d := (some 56)) (ty := 4) (g := (some (11, false))) (by kernel_rfl) (by kernel_rfl) (by kernel_rfl) [] (spec_l1In n v9.Bare 0 (IntKind.wrap .i64 ((IntKind.wrap .i64 (1 * 2 ^ min (((IntKind.wrap .u64 x1) : Int)).toNat (IntKind.bits .i64))) - 1)) r12 er12) (by kernel_rfl) (.inl rfl) ?_
                          refine LAt.fin (by kernel_rfl) (And.intro (And.intro (by kernel_rfl) (by kernel_rfl)) ?_)
                          refine AT.runU tOk [(16, []), (17, []), (18, [])] 25 [⟨[15], 3, 53, 54⟩, ⟨[8, 15], 3, 46, 47⟩, ⟨[2, 8, 15], 3, 41, 42⟩] [18, 17, 16, 15, 14, 13, 12, 11, 10, 9, 8, 7, 6, 5, 4, 3, 2, 1, 0] rfl (by kernel_rfl) (fun cx => ?_)
                          refine AT.to ⟨100, 0, [(59, .val false [.lit (.bool (!r12))]), (58, .val false [.lit (.bool (!r12))]), (57, .val false [.lit (.bool (!r12))]), (56, .val false [.lit (.bool r12)]), (55, .val false [.lit (.int .i64 (IntKind.wrap .i64 ((IntKind.wrap .i64 (1 * 2 ^ min (((IntKind.wrap .u64 x1) : Int)).toNat (IntKind.bits .i64))) - 1)))]), (54, .val false [.lit (.int .i64 v9.Bare)]), (53, .adr (.box 7) [(0, 0)] 3 2), (52, .val false [.lit (.bool false)]), (51, .val false [.lit (.bool false)]), (50, .val false [.lit (.bool false)]), (49, .val false [.lit (.bool r11)]), (48, .val false [.lit (.int .i64 (IntKind.wrap .i64 ((IntKind.wrap .i64 (1 * 2 ^ min (((IntKind.wrap .u64 x1) : Int)).toNat (IntKind.bits .i64))) - 1)))]), (47, .val false [.lit (.int .i64 v9.Members)]), (46, .adr (.box 7) [(0, 0)] 3 1), (45, .val false [.lit (.bool false)]), (44, .val false [.lit (.bool false)]), (43, .val false [.lit (.bool r10)]), (42, .val false [.lit (.int .i64 v9.Id)]), (41, .adr (.box 7) [(0, 0)] 3 0), (7, .adr (.box 7) [(0, 0)] 3 0), (40, .val true (Vrow.row v9)), (39, .fad ((Vrow.row v9))), (38, .val false [.lit (.int .i64 y3)]), (37, .val false [.sl false 3 (CV.frzEs (x0.Rows.map Vrow.row))]), (36, .adr (.box 2) [(0, 0)] 2 0), (33, .val false [.lit (.bool true)]), (32, .val false [.lit (.int .i64 (x0.Rows.length : Int))]), (31, .val false [.sl false 3 (CV.frzEs (x0.Rows.map Vrow.row))]), (30, .adr (.box 2) [(0, 0)] 2 0), (29, .val false [.lit (.int .i64 y3)]), (6, .val false [.lit (.int .i64 y3)]), (5, .val false [.lit (.int .i64 (IntKind.wrap .i64 ((IntKind.wrap .i64 (1 * 2 ^ min (((IntKind.wrap .u64 x1) : Int)).toNat (IntKind.bits .i64))) - 1)))]), (4, .val false [.lit (.bool false)]), (2, .adr (.box 2) [(0, 0)] 2 0)], [(7, (Vrow.row v9)), (2, (CV.frzRow (Vtab.row x0)))]⟩ (by kernel_rfl) ?_
                          rw [h9]
                          refine AT.runU tOk [(19, []), (20, []), (21, []), (22, []), (23, []), (24, []), (25, []), (26, []), (27, []), (28, [])] 15 [⟨[], 3, 65, 66⟩, ⟨[], 3, 62, 63⟩, ⟨[], 3, 60, 61⟩, ⟨[15], 3, 53, 54⟩, ⟨[8, 15], 3, 46, 47⟩, ⟨[2, 8, 15], 3, 41, 42⟩] [28, 27, 26, 25, 24, 23, 22, 21, 20, 19, 18, 17, 16, 15, 14, 13, 12, 11, 10, 9, 8, 7, 6, 5, 4, 3, 2, 1, 0] rfl (by kernel_rfl) (fun cx => ?_)
                          refine AT.to ⟨100, 0, [(69, .val false [.lit (.bool ((IntKind.wrap .i64 (BitVec.ofInt (IntKind.bits .i64) v9.Bare &&& BitVec.ofInt (IntKind.bits .i64) v9.Members).toNat) != v9.Bare))]), (68, .val false [.lit (.bool ((IntKind.wrap .i64 (BitVec.ofInt (IntKind.bits .i64) v9.Bare &&& BitVec.ofInt (IntKind.bits .i64) v9.Members).toNat) != v9.Bare))]), (67, .val false [.lit (.bool ((IntKind.wrap .i64 (BitVec.ofInt (IntKind.bits .i64) v9.Bare &&& BitVec.ofInt (IntKind.bits .i64) v9.Members).toNat) != v9.Bare))]), (66, .val false [.lit (.int .i64 v9.Bare)]), (65, .adr (.box 7) [(0, 0)] 3 2), (64, .val false [.lit (.int .i64 (IntKind.wrap .i64 (BitVec.ofInt (IntKind.bits .i64) v9.Bare &&& BitVec.ofInt (IntKind.bits .i64) v9.Members).toNat))]), (63, .val false [.lit (.int .i64 v9.Members)]), (62, .adr (.box 7) [(0, 0)] 3 1), (61, .val false [.lit (.int .i64 v9.Bare)]), (60, .adr (.box 7) [(0, 0)] 3 2), (59, .val false [.lit (.bool false)]), (58, .val false [.lit (.bool false)]), (57, .val false [.lit (.bool false)]), (56, .val false [.lit (.bool r12)]), (55, .val false [.lit (.int .i64 (IntKind.wrap .i64 ((IntKind.wrap .i64 (1 * 2 ^ min (((IntKind.wrap .u64 x1) : Int)).toNat (IntKind.bits .i64))) - 1)))]), (54, .val false [.lit (.int .i64 v9.Bare)]), (53, .adr (.box 7) [(0, 0)] 3 2), (52, .val false [.lit (.bool false)]), (51, .val false [.lit (.bool false)]), (50, .val false [.lit (.bool false)]), (49, .val false [.lit (.bool r11)]), (48, .val false [.lit (.int .i64 (IntKind.wrap .i64 ((IntKind.wrap .i64 (1 * 2 ^ min (((IntKind.wrap .u64 x1) : Int)).toNat (IntKind.bits .i64))) - 1)))]), (47, .val false [.lit (.int .i64 v9.Members)]), (46, .adr (.box 7) [(0, 0)] 3 1), (45, .val false [.lit (.bool false)]), (44, .val false [.lit (.bool false)]), (43, .val false [.lit (.bool r10)]), (42, .val false [.lit (.int .i64 v9.Id)]), (41, .adr (.box 7) [(0, 0)] 3 0), (7, .adr (.box 7) [(0, 0)] 3 0), (40, .val true (Vrow.row v9)), (39, .fad ((Vrow.row v9))), (38, .val false [.lit (.int .i64 y3)]), (37, .val false [.sl false 3 (CV.frzEs (x0.Rows.map Vrow.row))]), (36, .adr (.box 2) [(0, 0)] 2 0), (33, .val false [.lit (.bool true)]), (32, .val false [.lit (.int .i64 (x0.Rows.length : Int))]), (31, .val false [.sl false 3 (CV.frzEs (x0.Rows.map Vrow.row))]), (30, .adr (.box 2) [(0, 0)] 2 0), (29, .val false [.lit (.int .i64 y3)]), (6, .val false [.lit (.int .i64 y3)]), (5, .val false [.lit (.int .i64 (IntKind.wrap .i64 ((IntKind.wrap .i64 (1 * 2 ^ min (((IntKind.wrap .u64 x1) : Int)).toNat (IntKind.bits .i64))) - 1)))]), (4, .val false [.lit (.bool false)]), (2, .adr (.box 2) [(0, 0)] 2 0)], [(7, (Vrow.row v9)), (2, (CV.frzRow (Vtab.row x0)))]⟩ (by kernel_rfl) ?_
                          rw [h10]
                          refine AT.runU tOk [(29, []), (30, []), (31, [])] 12 [⟨[], 3, 65, 66⟩, ⟨[], 3, 62, 63⟩, ⟨[], 3, 60, 61⟩, ⟨[15], 3, 53, 54⟩, ⟨[8, 15], 3, 46, 47⟩, ⟨[2, 8, 15], 3, 41, 42⟩] [31, 30, 29, 28, 27, 26, 25, 24, 23, 22, 21, 20, 19, 18, 17, 16, 15, 14, 13, 12, 11, 10, 9, 8, 7, 6, 5, 4, 3, 2, 1, 0] rfl (by kernel_rfl) (fun cx => ?_)
                          refine AT.to ⟨100, 0, [(72, .val false [.lit (.bool (decide (y3 > 0)))]), (71, .val false [.lit (.bool (decide (y3 > 0)))]), (70, .val false [.lit (.int .i64 y3)]), (69, .val false [.lit (.bool false)]), (68, .val false [.lit (.bool false)]), (67, .val false [.lit (.bool false)]), (66, .val false [.lit (.int .i64 v9.Bare)]), (65, .adr (.box 7) [(0, 0)] 3 2), (64, .val false [.lit (.int .i64 (IntKind.wrap .i64 (BitVec.ofInt (IntKind.bits .i64) v9.Bare &&& BitVec.ofInt (IntKind.bits .i64) v9.Members).toNat))]), (63, .val false [.lit (.int .i64 v9.Members)]), (62, .adr (.box 7) [(0, 0)] 3 1), (61, .val false [.lit (.int .i64 v9.Bare)]), (60, .adr (.box 7) [(0, 0)] 3 2), (59, .val false [.lit (.bool false)]), (58, .val false [.lit (.bool false)]), (57, .val false [.lit (.bool false)]), (56, .val false [.lit (.bool r12)]), (55, .val false [.lit (.int .i64 (IntKind.wrap .i64 ((IntKind.wrap .i64 (1 * 2 ^ min (((IntKind.wrap .u64 x1) : Int)).toNat (IntKind.bits .i64))) - 1)))]), (54, .val false [.lit (.int .i64 v9.Bare)]), (53, .adr (.box 7) [(0, 0)] 3 2), (52, .val false [.lit (.bool false)]), (51, .val false [.lit (.bool false)]), (50, .val false [.lit (.bool false)]), (49, .val false [.lit (.bool r11)]), (48, .val false [.lit (.int .i64 (IntKind.wrap .i64 ((IntKind.wrap .i64 (1 * 2 ^ min (((IntKind.wrap .u64 x1) : Int)).toNat (IntKind.bits .i64))) - 1)))]), (47, .val false [.lit (.int .i64 v9.Members)]), (46, .adr (.box 7) [(0, 0)] 3 1), (45, .val false [.lit (.bool false)]), (44, .val false [.lit (.bool false)]), (43, .val false [.lit (.bool r10)]), (42, .val false [.lit (.int .i64 v9.Id)]), (41, .adr (.box 7) [(0, 0)] 3 0), (7, .adr (.box 7) [(0, 0)] 3 0), (40, .val true (Vrow.row v9)), (39, .fad ((Vrow.row v9))), (38, .val false [.lit (.int .i64 y3)]), (37, .val false [.sl false 3 (CV.frzEs (x0.Rows.map Vrow.row))]), (36, .adr (.box 2) [(0, 0)] 2 0), (33, .val false [.lit (.bool true)]), (32, .val false [.lit (.int .i64 (x0.Rows.length : Int))]), (31, .val false [.sl false 3 (CV.frzEs (x0.Rows.map Vrow.row))]), (30, .adr (.box 2) [(0, 0)] 2 0), (29, .val false [.lit (.int .i64 y3)]), (6, .val false [.lit (.int .i64 y3)]), (5, .val false [.lit (.int .i64 (IntKind.wrap .i64 ((IntKind.wrap .i64 (1 * 2 ^ min (((IntKind.wrap .u64 x1) : Int)).toNat (IntKind.bits .i64))) - 1)))]), (4, .val false [.lit (.bool false)]), (2, .adr (.box 2) [(0, 0)] 2 0)], [(7, (Vrow.row v9)), (2, (CV.frzRow (Vtab.row x0)))]⟩ (by kernel_rfl) ?_
                          rw [h11]
                          refine AT.runU tOk [(32, []), (33, []), (34, []), (35, [])] 8 [⟨[], 27, 73, 74⟩, ⟨[], 3, 65, 66⟩, ⟨[], 3, 62, 63⟩, ⟨[], 3, 60, 61⟩, ⟨[15], 3, 53, 54⟩, ⟨[8, 15], 3, 46, 47⟩, ⟨[2, 8, 15], 3, 41, 42⟩] [35, 34, 33, 32, 31, 30, 29, 28, 27, 26, 25, 24, 23, 22, 21, 20, 19, 18, 17, 16, 15, 14, 13, 12, 11, 10, 9, 8, 7, 6, 5, 4, 3, 2, 1, 0] rfl (by kernel_rfl) (fun cx => ?_)
                          refine AT.indexF tOk 36 (t := 27) (ty := 0) (x := (.tmp 74)) (y := (.tmp 76)) (d := 77) (g := (some (31, true))) ⟨(.box 2), [(0, 0)], 0, false, 3, (CV.frzEs (x0.Rows.map Vrow.row))⟩ (IntKind.wrap .i64 (y3 - 1)) (Vrow.row v13) _ (by kernel_rfl) (by kernel_rfl) (by kernel_rfl) (by kernel_rfl) (by kernel_rfl) (by kernel_rfl) rfl (idx_isF ev13) rfl (fun cx => ?_)
                          refine AT.runU tOk [(37, []), (38, []), (39, []), (40, []), (41, []), (42, []), (43, [])] 0 [⟨[], 3, 80, 81⟩, ⟨[], 27, 73, 74⟩, ⟨[], 3, 65, 66⟩, ⟨[], 3, 62, 63⟩, ⟨[], 3, 60, 61⟩, ⟨[15], 3, 53, 54⟩, ⟨[8, 15], 3, 46, 47⟩, ⟨[2, 8, 15], 3, 41, 42⟩] [43, 42, 41, 40, 39, 38, 37, 36, 35, 34, 33, 32, 31, 30, 29, 28, 27, 26, 25, 24, 23, 22, 21, 20, 19, 18, 17, 16, 15, 14, 13, 12, 11, 10, 9, 8, 7, 6, 5, 4, 3, 2, 1, 0] rfl (by kernel_rfl) (fun cx => ?_)
                          exact AT.done [84, 83, 82, 81, 80, 79, 78, 77, 76, 75, 74, 73, 72, 71, 70, 69, 68, 67, 66, 65, 64, 63, 62, 61, 60, 59, 58, 57, 56, 55, 54, 53, 52, 51, 50, 49, 48, 47, 46, 45, 44, 43, 42, 41, 7, 40, 39, 38, 37, 36, 33, 32, 31, 30, 29, 6, 5, 4, 2] [7, 2] _ (by kernel_rfl) (by kernel_rfl) rfl
                        · refine Tr.to ⟨100, 0, [(84, .val false [.lit (.bool (decide (v13.Id ≥ v9.Id)))]), (83, .val false [.lit (.bool (decide (v13.Id ≥ v9.Id)))]), (82, .val false [.lit (.bool (decide (v13.Id ≥ v9.Id)))]), (81, .val false [.lit (.int .i64 v9.Id)]), (80, .adr (.box 7) [(0, 0)] 3 0), (79, .val false [.lit (.int .i64 v13.Id)]), (78, .fad ((Vrow.row v13))), (77, .fad ((Vrow.row v13))), (76, .val false [.lit (.int .i64 (IntKind.wrap .i64 (y3 - 1)))]), (75, .val false [.lit (.int .i64 y3)]), (74, .ref (.box 2) [(0, 0)] 2 0 1 false), (73, .adr (.box 2) [(0, 0)] 2 0), (72, .val false [.lit (.bool true)]), (71, .val false [.lit (.bool true)]), (70, .val false [.lit (.int .i64 y3)]), (69, .val false [.lit (.bool false)]), (68, .val false [.lit (.bool false)]), (67, .val false [.lit (.bool false)]), (66, .val false [.lit (.int .i64 v9.Bare)]), (65, .adr (.box 7) [(0, 0)] 3 2), (64, .val false [.lit (.int .i64 (IntKind.wrap .i64 (BitVec.ofInt (IntKind.bits .i64) v9.Bare &&& BitVec.ofInt (IntKind.bits .i64) v9.Members).toNat))]), (63, .val false [.lit (.int .i64 v9.Members)]), (62, .adr (.box 7) [(0, 0)] 3 1), (61, .val false [.lit (.int .i64 v9.Bare)]), (60, .adr (.box 7) [(0, 0)] 3 2), (59, .val false [.lit (.bool false)]), (58, .val false [.lit (.bool false)]), (57, .val false [.lit (.bool false)]), (56, .val false [.lit (.bool r12)]), (55, .val false [.lit (.int .i64 (IntKind.wrap .i64 ((IntKind.wrap .i64 (1 * 2 ^ min (((IntKind.wrap .u64 x1) : Int)).toNat (IntKind.bits .i64))) - 1)))]), (54, .val false [.lit (.int .i64 v9.Bare)]), (53, .adr (.box 7) [(0, 0)] 3 2), (52, .val false [.lit (.bool false)]), (51, .val false [.lit (.bool false)]), (50, .val false [.lit (.bool false)]), (49, .val false [.lit (.bool r11)]), (48, .val false [.lit (.int .i64 (IntKind.wrap .i64 ((IntKind.wrap .i64 (1 * 2 ^ min (((IntKind.wrap .u64 x1) : Int)).toNat (IntKind.bits .i64))) - 1)))]), (47, .val false [.lit (.int .i64 v9.Members)]), (46, .adr (.box 7) [(0, 0)] 3 1), (45, .val false [.lit (.bool false)]), (44, .val false [.lit (.bool false)]), (43, .val false [.lit (.bool r10)]), (42, .val false [.lit (.int .i64 v9.Id)]), (41, .adr (.box 7) [(0, 0)] 3 0), (7, .adr (.box 7) [(0, 0)] 3 0), (40, .val true (Vrow.row v9)), (39, .fad ((Vrow.row v9))), (38, .val false [.lit (.int .i64 y3)]), (37, .val false [.sl false 3 (CV.frzEs (x0.Rows.map Vrow.row))]), (36, .adr (.box 2) [(0, 0)] 2 0), (33, .val false [.lit (.bool true)]), (32, .val false [.lit (.int .i64 (x0.Rows.length : Int))]), (31, .val false [.sl false 3 (CV.frzEs (x0.Rows.map Vrow.row))]), (30, .adr (.box 2) [(0, 0)] 2 0), (29, .val false [.lit (.int .i64 y3)]), (6, .val false [.lit (.int .i64 y3)]), (5, .val false [.lit (.int .i64 (IntKind.wrap .i64 ((IntKind.wrap .i64 (1 * 2 ^ min (((IntKind.wrap .u64 x1) : Int)).toNat (IntKind.bits .i64))) - 1)))]), (4, .val false [.lit (.bool false)]), (2, .adr (.box 2) [(0, 0)] 2 0)], [(7, (Vrow.row v9)), (2, (CV.frzRow (Vtab.row x0)))]⟩ (by kernel_rfl) ?_
                          cases h12 : (decide (v13.Id ≥ v9.Id))
                          · have H := bifF h12 H
                            refine Tr.cond (b := false) (by kernel_rfl) (fun h => nomatch h) (fun _ => ?_)
                            refine Tr.skip ?_
                            show Tr _ _ _ _ _
                            refine Tr.at ?_
                            refine LAt.runU tOk 3 (by kernel_rfl) ?_
                            refine LAt.doneU [6, 35, 34, 84, 83, 82, 81, 80, 79, 78, 77, 76, 75, 74, 73, 72, 71, 70, 69, 68, 67, 66, 65, 64, 63, 62, 61, 60, 59, 58, 57, 56, 55, 54, 53, 52, 51, 50, 49, 48, 47, 46, 45, 44, 43, 42, 41, 7, 40, 39, 38, 37, 36, 33, 32, 31, 30, 29, 5, 4, 2] [7, 2] (by kernel_rfl) ?_
                            exact Exists.intro (mo8, (IntKind.wrap .i64 (y3 + 1))) (And.intro H (And.intro (Nat.lt_succ_self mo8) (St.sub_of [6, 5, 4, 2] [2] (by kernel_rfl))))
                          · have H := bifT h12 H
                            refine Tr.cond (b := true) (by kernel_rfl) (fun _ => ?_) (fun h => nomatch h)
                            refine Tr.rs ?_
                            refine LAt.runU tOk 1 (by kernel_rfl) ?_
                            refine LAt.doneU [4, 84, 83, 82, 81, 80, 79, 78, 77, 76, 75, 74, 73, 72, 71, 70, 69, 68, 67, 66, 65, 64, 63, 62, 61, 60, 59, 58, 57, 56, 55, 54, 53, 52, 51, 50, 49, 48, 47, 46, 45, 44, 43, 42, 41, 7, 40, 39, 38, 37, 36, 33, 32, 31, 30, 29, 6, 5, 2] [7, 2] (by kernel_rfl) ?_
                            refine Tr.ret ?_
                            have H := Option.some.inj H
                            subst H
                            have H := Ho8
                            dsimp only at H
                            have H := Option.some.inj H
                            subst H
                            exact Fin.of _ [(false, [.lit (.bool false)])] (by kernel_rfl) rfl rfl
                    · have H := bifT h10 H
                      refine Tr.draws mixed 44 (by kernel_rfl) ⟨100, 0, [(84, .val false [.lit (.bool true)]), (83, .tup []), (82, .tup []), (81, .tup []), (80, .tup []), (79, .tup []), (78, .tup []), (77, .tup []), (76, .tup []), (75, .tup []), (74, .tup []), (73, .tup []), (72, .tup []), (71, .tup []), (70, .tup []), (69, .val false [.lit (.bool true)]), (68, .val false [.lit (.bool true)]), (67, .val false [.lit (.bool true)]), (66, .val false [.lit (.int .i64 v9.Bare)]), (65, .adr (.box 7) [(0, 0)] 3 2), (64, .val false [.lit (.int .i64 (IntKind.wrap .i64 (BitVec.ofInt (IntKind.bits .i64) v9.Bare &&& BitVec.ofInt (IntKind.bits .i64) v9.Members).toNat))]), (63, .val false [.lit (.int .i64 v9.Members)]), (62, .adr (.box 7) [(0, 0)] 3 1), (61, .val false [.lit (.int .i64 v9.Bare)]), (60, .adr (.box 7) [(0, 0)] 3 2), (59, .val false [.lit (.bool false)]), (58, .val false [.lit (.bool false)]), (57, .val false [.lit (.bool false)]), (56, .val false [.lit (.bool r12)]), (55, .val false [.lit (.int .i64 (IntKind.wrap .i64 ((IntKind.wrap .i64 (1 * 2 ^ min (((IntKind.wrap .u64 x1) : Int)).toNat (IntKind.bits .i64))) - 1)))]), (54, .val false [.lit (.int .i64 v9.Bare)]), (53, .adr (.box 7) [(0, 0)] 3 2), (52, .val false [.lit (.bool false)]), (51, .val false [.lit (.bool false)]), (50, .val false [.lit (.bool false)]), (49, .val false [.lit (.bool r11)]), (48, .val false [.lit (.int .i64 (IntKind.wrap .i64 ((IntKind.wrap .i64 (1 * 2 ^ min (((IntKind.wrap .u64 x1) : Int)).toNat (IntKind.bits .i64))) - 1)))]), (47, .val false [.lit (.int .i64 v9.Members)]), (46, .adr (.box 7) [(0, 0)] 3 1), (45, .val false [.lit (.bool false)]), (44, .val false [.lit (.bool false)]), (43, .val false [.lit (.bool r10)]), (42, .val false [.lit (.int .i64 v9.Id)]), (41, .adr (.box 7) [(0, 0)] 3 0), (7, .adr (.box 7) [(0, 0)] 3 0), (40, .val true (Vrow.row v9)), (39, .fad ((Vrow.row v9))), (38, .val false [.lit (.int .i64 y3)]), (37, .val false [.sl false 3 (CV.frzEs (x0.Rows.map Vrow.row))]), (36, .adr (.box 2) [(0, 0)] 2 0), (33, .val false [.lit (.bool true)]), (32, .val false [.lit (.int .i64 (x0.Rows.length : Int))]), (31, .val false [.sl false 3 (CV.frzEs (x0.Rows.map Vrow.row))]), (30, .adr (.box 2) [(0, 0)] 2 0), (29, .val false [.lit (.int .i64 y3)]), (6, .val false [.lit (.int .i64 y3)]), (5, .val false [.lit (.int .i64 (IntKind.wrap .i64 ((IntKind.wrap .i64 (1 * 2 ^ min (((IntKind.wrap .u64 x1) : Int)).toNat (IntKind.bits .i64))) - 1)))]), (4, .val false [.lit (.bool false)]), (2, .adr (.box 2) [(0, 0)] 2 0)], [(7, (Vrow.row v9)), (2, (CV.frzRow (Vtab.row x0)))]⟩ (fun cx => ?_) ?_
                      · refine AT.runU tOk [(0, []), (1, [2, 8, 15])] 42 [⟨[2, 8, 15], 3, 41, 42⟩] [1, 0] rfl (by kernel_rfl) (fun cx => ?_)
                        refine AT.big1 tOk 2 (by kernel_rfl) (by kernel_rfl) ?_
                        refine LAt.callU tOk [.rd, .rd, .rd] (f := 76) (av := #[.tmp 42, .const (.int .i64 1), .const (.int .i64 99)]) (ats := #[3, 3, 3]) (d := (some 43)) (ty := 4) (g := none) (by kernel_rfl) (by kernel_rfl) (by kernel_rfl) [] (spec_l1In n v9.Id 1 99 r10 er10) (by kernel_rfl) (.inl rfl) ?_
                        refine LAt.fin (by kernel_rfl) (And.intro (And.intro (by kernel_rfl) (by kernel_rfl)) ?_)
                        refine AT.runU tOk [(3, []), (4, [])] 39 [⟨[2, 8, 15], 3, 41, 42⟩] [4, 3, 2, 1, 0] rfl (by kernel_rfl) (fun cx => ?_)
                        refine AT.to ⟨100, 0, [(45, .val false [.lit (.bool (!r10))]), (44, .val false [.lit (.bool (!r10))]), (43, .val false [.lit (.bool r10)]), (42, .val false [.lit (.int .i64 v9.Id)]), (41, .adr (.box 7) [(0, 0)] 3 0), (7, .adr (.box 7) [(0, 0)] 3 0), (40, .val true (Vrow.row v9)), (39, .fad ((Vrow.row v9))), (38, .val false [.lit (.int .i64 y3)]), (37, .val false [.sl false 3 (CV.frzEs (x0.Rows.map Vrow.row))]), (36, .adr (.box 2) [(0, 0)] 2 0), (33, .val false [.lit (.bool true)]), (32, .val false [.lit (.int .i64 (x0.Rows.length : Int))]), (31, .val false [.sl false 3 (CV.frzEs (x0.Rows.map Vrow.row))]), (30, .adr (.box 2) [(0, 0)] 2 0), (29, .val false [.lit (.int .i64 y3)]), (6, .val false [.lit (.int .i64 y3)]), (5, .val false [.lit (.int .i64 (IntKind.wrap .i64 ((IntKind.wrap .i64 (1 * 2 ^ min (((IntKind.wrap .u64 x1) : Int)).toNat (IntKind.bits .i64))) - 1)))]), (4, .val false [.lit (.bool false)]), (2, .adr (.box 2) [(0, 0)] 2 0)], [(7, (Vrow.row v9)), (2, (CV.frzRow (Vtab.row x0)))]⟩ (by kernel_rfl) ?_
                        rw [h7]
                        refine AT.runU tOk [(5, []), (6, [8, 15]), (7, [])] 36 [⟨[8, 15], 3, 46, 47⟩, ⟨[2, 8, 15], 3, 41, 42⟩] [7, 6, 5, 4, 3, 2, 1, 0] rfl (by kernel_rfl) (fun cx => ?_)
                        refine AT.big1 tOk 8 (by kernel_rfl) (by kernel_rfl) ?_
                        refine LAt.callU tOk [.rd, .rd, .rd] (f := 76) (av := #[.tmp 47, .const (.int .i64 0), .tmp 48]) (ats := #[3, 3, 3]) (d := (some 49)) (ty := 4) (g := (some (4, false))) (by kernel_rfl) (by kernel_rfl) (by kernel_rfl) [] (spec_l1In n v9.Members 0 (IntKind.wrap .i64 ((IntKind.wrap .i64 (1 * 2 ^ min (((IntKind.wrap .u64 x1) : Int)).toNat (IntKind.bits .i64))) - 1)) r11 er11) (by kernel_rfl) (.inl rfl) ?_
                        refine LAt.fin (by kernel_rfl) (And.intro (And.intro (by kernel_rfl) (by kernel_rfl)) ?_)
                        refine AT.runU tOk [(9, []), (10, []), (11, [])] 32 [⟨[8, 15], 3, 46, 47⟩, ⟨[2, 8, 15], 3, 41, 42⟩] [11, 10, 9, 8, 7, 6, 5, 4, 3, 2, 1, 0] rfl (by kernel_rfl) (fun cx => ?_)
                        refine AT.to ⟨100, 0, [(52, .val false [.lit (.bool (!r11))]), (51, .val false [.lit (.bool (!r11))]), (50, .val false [.lit (.bool (!r11))]), (49, .val false [.lit (.bool r11)]), (48, .val false [.lit (.int .i64 (IntKind.wrap .i64 ((IntKind.wrap .i64 (1 * 2 ^ min (((IntKind.wrap .u64 x1) : Int)).toNat (IntKind.bits .i64))) - 1)))]), (47, .val false [.lit (.int .i64 v9.Members)]), (46, .adr (.box 7) [(0, 0)] 3 1), (45, .val false [.lit (.bool false)]), (44, .val false [.lit (.bool false)]), (43, .val false [.lit (.bool r10)]), (42, .val false [.lit (.int .i64 v9.Id)]), (41, .adr (.box 7) [(0, 0)] 3 0), (7, .adr (.box 7) [(0, 0)] 3 0), (40, .val true (Vrow.row v9)), (39, .fad ((Vrow.row v9))), (38, .val false [.lit (.int .i64 y3)]), (37, .val false [.sl false 3 (CV.frzEs (x0.Rows.map Vrow.row))]), (36, .adr (.box 2) [(0, 0)] 2 0), (33, .val false [.lit (.bool true)]), (32, .val false [.lit (.int .i64 (x0.Rows.length : Int))]), (31, .val false [.sl false 3 (CV.frzEs (x0.Rows.map Vrow.row))]), (30, .adr (.box 2) [(0, 0)] 2 0), (29, .val false [.lit (.int .i64 y3)]), (6, .val false [.lit (.int .i64 y3)]), (5, .val false [.lit (.int .i64 (IntKind.wrap .i64 ((IntKind.wrap .i64 (1 * 2 ^ min (((IntKind.wrap .u64 x1) : Int)).toNat (IntKind.bits .i64))) - 1)))]), (4, .val false [.lit (.bool false)]), (2, .adr (.box 2) [(0, 0)] 2 0)], [(7, (Vrow.row v9)), (2, (CV.frzRow (Vtab.row x0)))]⟩ (by kernel_rfl) ?_
                        rw [h8]
                        refine AT.runU tOk [(12, []), (13, [15]), (14, [])] 29 [⟨[15], 3, 53, 54⟩, ⟨[8, 15], 3, 46, 47⟩, ⟨[2, 8, 15], 3, 41, 42⟩] [14, 13, 12, 11, 10, 9, 8, 7, 6, 5, 4, 3, 2, 1, 0] rfl (by kernel_rfl) (fun cx => ?_)
                        refine AT.big1 tOk 15 (by kernel_rfl) (by kernel_rfl) ?_
                        refine LAt.callU tOk [.rd, .rd, .rd] (f := 76) (av := #[.tmp 54, .const (.int .i64 0), .tmp 55]) (ats := #[3, 3, 3]) (d := (some 56)) (ty := 4) (g := (some (11, false))) (by kernel_rfl) (by kernel_rfl) (by kernel_rfl) [] (spec_l1In n v9.Bare 0 (IntKind.wrap .i64 ((IntKind.wrap .i64 (1 * 2 ^ min (((IntKind.wrap .u64 x1) : Int)).toNat (IntKind.bits .i64))) - 1)) r12 er12) (by kernel_rfl) (.inl rfl) ?_
                        refine LAt.fin (by kernel_rfl) (And.intro (And.intro (by kernel_rfl) (by kernel_rfl)) ?_)
                        refine AT.runU tOk [(16, []), (17, []), (18, [])] 25 [⟨[15], 3, 53, 54⟩, ⟨[8, 15], 3, 46, 47⟩, ⟨[2, 8, 15], 3, 41, 42⟩] [18, 17, 16, 15, 14, 13, 12, 11, 10, 9, 8, 7, 6, 5, 4, 3, 2, 1, 0] rfl (by kernel_rfl) (fun cx => ?_)
                        refine AT.to ⟨100, 0, [(59, .val false [.lit (.bool (!r12))]), (58, .val false [.lit (.bool (!r12))]), (57, .val false [.lit (.bool (!r12))]), (56, .val false [.lit (.bool r12)]), (55, .val false [.lit (.int .i64 (IntKind.wrap .i64 ((IntKind.wrap .i64 (1 * 2 ^ min (((IntKind.wrap .u64 x1) : Int)).toNat (IntKind.bits .i64))) - 1)))]), (54, .val false [.lit (.int .i64 v9.Bare)]), (53, .adr (.box 7) [(0, 0)] 3 2), (52, .val false [.lit (.bool false)]), (51, .val false [.lit (.bool false)]), (50, .val false [.lit (.bool false)]), (49, .val false [.lit (.bool r11)]), (48, .val false [.lit (.int .i64 (IntKind.wrap .i64 ((IntKind.wrap .i64 (1 * 2 ^ min (((IntKind.wrap .u64 x1) : Int)).toNat (IntKind.bits .i64))) - 1)))]), (47, .val false [.lit (.int .i64 v9.Members)]), (46, .adr (.box 7) [(0, 0)] 3 1), (45, .val false [.lit (.bool false)]), (44, .val false [.lit (.bool false)]), (43, .val false [.lit (.bool r10)]), (42, .val false [.lit (.int .i64 v9.Id)]), (41, .adr (.box 7) [(0, 0)] 3 0), (7, .adr (.box 7) [(0, 0)] 3 0), (40, .val true (Vrow.row v9)), (39, .fad ((Vrow.row v9))), (38, .val false [.lit (.int .i64 y3)]), (37, .val false [.sl false 3 (CV.frzEs (x0.Rows.map Vrow.row))]), (36, .adr (.box 2) [(0, 0)] 2 0), (33, .val false [.lit (.bool true)]), (32, .val false [.lit (.int .i64 (x0.Rows.length : Int))]), (31, .val false [.sl false 3 (CV.frzEs (x0.Rows.map Vrow.row))]), (30, .adr (.box 2) [(0, 0)] 2 0), (29, .val false [.lit (.int .i64 y3)]), (6, .val false [.lit (.int .i64 y3)]), (5, .val false [.lit (.int .i64 (IntKind.wrap .i64 ((IntKind.wrap .i64 (1 * 2 ^ min (((IntKind.wrap .u64 x1) : Int)).toNat (IntKind.bits .i64))) - 1)))]), (4, .val false [.lit (.bool false)]), (2, .adr (.box 2) [(0, 0)] 2 0)], [(7, (Vrow.row v9)), (2, (CV.frzRow (Vtab.row x0)))]⟩ (by kernel_rfl) ?_
                        rw [h9]
                        refine AT.runU tOk [(19, []), (20, []), (21, []), (22, []), (23, []), (24, []), (25, []), (26, []), (27, []), (28, [])] 15 [⟨[], 3, 65, 66⟩, ⟨[], 3, 62, 63⟩, ⟨[], 3, 60, 61⟩, ⟨[15], 3, 53, 54⟩, ⟨[8, 15], 3, 46, 47⟩, ⟨[2, 8, 15], 3, 41, 42⟩] [28, 27, 26, 25, 24, 23, 22, 21, 20, 19, 18, 17, 16, 15, 14, 13, 12, 11, 10, 9, 8, 7, 6, 5, 4, 3, 2, 1, 0] rfl (by kernel_rfl) (fun cx => ?_)
                        refine AT.to ⟨100, 0, [(69, .val false [.lit (.bool ((IntKind.wrap .i64 (BitVec.ofInt (IntKind.bits .i64) v9.Bare &&& BitVec.ofInt (IntKind.bits .i64) v9.Members).toNat) != v9.Bare))]), (68, .val false [.lit (.bool ((IntKind.wrap .i64 (BitVec.ofInt (IntKind.bits .i64) v9.Bare &&& BitVec.ofInt (IntKind.bits .i64) v9.Members).toNat) != v9.Bare))]), (67, .val false [.lit (.bool ((IntKind.wrap .i64 (BitVec.ofInt (IntKind.bits .i64) v9.Bare &&& BitVec.ofInt (IntKind.bits .i64) v9.Members).toNat) != v9.Bare))]), (66, .val false [.lit (.int .i64 v9.Bare)]), (65, .adr (.box 7) [(0, 0)] 3 2), (64, .val false [.lit (.int .i64 (IntKind.wrap .i64 (BitVec.ofInt (IntKind.bits .i64) v9.Bare &&& BitVec.ofInt (IntKind.bits .i64) v9.Members).toNat))]), (63, .val false [.lit (.int .i64 v9.Members)]), (62, .adr (.box 7) [(0, 0)] 3 1), (61, .val false [.lit (.int .i64 v9.Bare)]), (60, .adr (.box 7) [(0, 0)] 3 2), (59, .val false [.lit (.bool false)]), (58, .val false [.lit (.bool false)]), (57, .val false [.lit (.bool false)]), (56, .val false [.lit (.bool r12)]), (55, .val false [.lit (.int .i64 (IntKind.wrap .i64 ((IntKind.wrap .i64 (1 * 2 ^ min (((IntKind.wrap .u64 x1) : Int)).toNat (IntKind.bits .i64))) - 1)))]), (54, .val false [.lit (.int .i64 v9.Bare)]), (53, .adr (.box 7) [(0, 0)] 3 2), (52, .val false [.lit (.bool false)]), (51, .val false [.lit (.bool false)]), (50, .val false [.lit (.bool false)]), (49, .val false [.lit (.bool r11)]), (48, .val false [.lit (.int .i64 (IntKind.wrap .i64 ((IntKind.wrap .i64 (1 * 2 ^ min (((IntKind.wrap .u64 x1) : Int)).toNat (IntKind.bits .i64))) - 1)))]), (47, .val false [.lit (.int .i64 v9.Members)]), (46, .adr (.box 7) [(0, 0)] 3 1), (45, .val false [.lit (.bool false)]), (44, .val false [.lit (.bool false)]), (43, .val false [.lit (.bool r10)]), (42, .val false [.lit (.int .i64 v9.Id)]), (41, .adr (.box 7) [(0, 0)] 3 0), (7, .adr (.box 7) [(0, 0)] 3 0), (40, .val true (Vrow.row v9)), (39, .fad ((Vrow.row v9))), (38, .val false [.lit (.int .i64 y3)]), (37, .val false [.sl false 3 (CV.frzEs (x0.Rows.map Vrow.row))]), (36, .adr (.box 2) [(0, 0)] 2 0), (33, .val false [.lit (.bool true)]), (32, .val false [.lit (.int .i64 (x0.Rows.length : Int))]), (31, .val false [.sl false 3 (CV.frzEs (x0.Rows.map Vrow.row))]), (30, .adr (.box 2) [(0, 0)] 2 0), (29, .val false [.lit (.int .i64 y3)]), (6, .val false [.lit (.int .i64 y3)]), (5, .val false [.lit (.int .i64 (IntKind.wrap .i64 ((IntKind.wrap .i64 (1 * 2 ^ min (((IntKind.wrap .u64 x1) : Int)).toNat (IntKind.bits .i64))) - 1)))]), (4, .val false [.lit (.bool false)]), (2, .adr (.box 2) [(0, 0)] 2 0)], [(7, (Vrow.row v9)), (2, (CV.frzRow (Vtab.row x0)))]⟩ (by kernel_rfl) ?_
                        rw [h10]
                        refine AT.runU tOk [(29, []), (30, []), (31, []), (32, []), (33, []), (34, []), (35, []), (36, []), (37, []), (38, []), (39, []), (40, []), (41, []), (42, []), (43, [])] 0 [⟨[], 3, 65, 66⟩, ⟨[], 3, 62, 63⟩, ⟨[], 3, 60, 61⟩, ⟨[15], 3, 53, 54⟩, ⟨[8, 15], 3, 46, 47⟩, ⟨[2, 8, 15], 3, 41, 42⟩] [43, 42, 41, 40, 39, 38, 37, 36, 35, 34, 33, 32, 31, 30, 29, 28, 27, 26, 25, 24, 23, 22, 21, 20, 19, 18, 17, 16, 15, 14, 13, 12, 11, 10, 9, 8, 7, 6, 5, 4, 3, 2, 1, 0] rfl (by kernel_rfl) (fun cx => ?_)
                        exact AT.done [84, 83, 82, 81, 80, 79, 78, 77, 76, 75, 74, 73, 72, 71, 70, 69, 68, 67, 66, 65, 64, 63, 62, 61, 60, 59, 58, 57, 56, 55, 54, 53, 52, 51, 50, 49, 48, 47, 46, 45, 44, 43, 42, 41, 7, 40, 39, 38, 37, 36, 33, 32, 31, 30, 29, 6, 5, 4, 2] [7, 2] _ (by kernel_rfl) (by kernel_rfl) rfl
                      · refine Tr.cond (b := true) (by kernel_rfl) (fun _ => ?_) (fun h => nomatch h)
                        refine Tr.rs ?_
                        refine LAt.runU tOk 1 (by kernel_rfl) ?_
                        refine LAt.doneU [4, 84, 83, 82, 81, 80, 79, 78, 77, 76, 75, 74, 73, 72, 71, 70, 69, 68, 67, 66, 65, 64, 63, 62, 61, 60, 59, 58, 57, 56, 55, 54, 53, 52, 51, 50, 49, 48, 47, 46, 45, 44, 43, 42, 41, 7, 40, 39, 38, 37, 36, 33, 32, 31, 30, 29, 6, 5, 2] [7, 2] (by kernel_rfl) ?_
                        refine Tr.ret ?_
                        have H := Option.some.inj H
                        subst H
                        have H := Ho8
                        dsimp only at H
                        have H := Option.some.inj H
                        subst H
                        exact Fin.of _ [(false, [.lit (.bool false)])] (by kernel_rfl) rfl rfl
                  · have H := bifT h9 H
                    refine Tr.draws mixed 44 (by kernel_rfl) ⟨100, 0, [(84, .val false [.lit (.bool true)]), (83, .tup []), (82, .tup []), (81, .tup []), (80, .tup []), (79, .tup []), (78, .tup []), (77, .tup []), (76, .tup []), (75, .tup []), (74, .tup []), (73, .tup []), (72, .tup []), (71, .tup []), (70, .tup []), (69, .val false [.lit (.bool true)]), (68, .val false [.lit (.bool true)]), (67, .tup []), (66, .tup []), (65, .tup []), (64, .tup []), (63, .tup []), (62, .tup []), (61, .tup []), (60, .tup []), (59, .val false [.lit (.bool true)]), (58, .val false [.lit (.bool true)]), (57, .val false [.lit (.bool true)]), (56, .val false [.lit (.bool r12)]), (55, .val false [.lit (.int .i64 (IntKind.wrap .i64 ((IntKind.wrap .i64 (1 * 2 ^ min (((IntKind.wrap .u64 x1) : Int)).toNat (IntKind.bits .i64))) - 1)))]), (54, .val false [.lit (.int .i64 v9.Bare)]), (53, .adr (.box 7) [(0, 0)] 3 2), (52, .val false [.lit (.bool false)]), (51, .val false [.lit (.bool false)]), (50, .val false [.lit (.bool false)]), (49, .val false [.lit (.bool r11)]), (48, .val false [.lit (.int .i64 (IntKind.wrap .i64 ((IntKind.wrap .i64 (1 * 2 ^ min (((IntKind.wrap .u64 x1) : Int)).toNat (IntKind.bits .i64))) - 1)))]), (47, .val false [.lit (.int .i64 v9.Members)]), (46, .adr (.box 7) [(0, 0)] 3 1), (45, .val false [.lit (.bool false)]), (44, .val false [.lit (.bool false)]), (43, .val false [.lit (.bool r10)]), (42, .val false [.lit (.int .i64 v9.Id)]), (41, .adr (.box 7) [(0, 0)] 3 0), (7, .adr (.box 7) [(0, 0)] 3 0), (40, .val true (Vrow.row v9)), (39, .fad ((Vrow.row v9))), (38, .val false [.lit (.int .i64 y3)]), (37, .val false [.sl false 3 (CV.frzEs (x0.Rows.map Vrow.row))]), (36, .adr (.box 2) [(0, 0)] 2 0), (33, .val false [.lit (.bool true)]), (32, .val false [.lit (.int .i64 (x0.Rows.length : Int))]), (31, .val false [.sl false 3 (CV.frzEs (x0.Rows.map Vrow.row))]), (30, .adr (.box 2) [(0, 0)] 2 0), (29, .val false [.lit (.int .i64 y3)]), (6, .val false [.lit (.int .i64 y3)]), (5, .val false [.lit (.int .i64 (IntKind.wrap .i64 ((IntKind.wrap .i64 (1 * 2 ^ min (((IntKind.wrap .u64 x1) : Int)).toNat (IntKind.bits .i64))) - 1)))]), (4, .val false [.lit (.bool false)]), (2, .adr (.box 2) [(0, 0)] 2 0)], [(7, (Vrow.row v9)), (2, (CV.frzRow (Vtab.row x0)))]⟩ (fun cx => ?_) ?_
                    · refine AT.runU tOk [(0, []), (1, [2, 8, 15])] 42 [⟨[2, 8, 15], 3, 41, 42⟩] [1, 0] rfl (by kernel_rfl) (fun cx => ?_)
                      refine AT.big1 tOk 2 (by kernel_rfl) (by kernel_rfl) ?_
                      refine LAt.callU tOk [.rd, .rd, .rd] (f := 76) (av := #[.tmp 42, .const (.int .i64 1), .const (.int .i64 99)]) (ats := #[3, 3, 3]) (d := (some 43)) (ty := 4) (g := none) (by kernel_rfl) (by kernel_rfl) (by kernel_rfl) [] (spec_l1In n v9.Id 1 99 r10 er10) (by kernel_rfl) (.inl rfl) ?_
                      refine LAt.fin (by kernel_rfl) (And.intro (And.intro (by kernel_rfl) (by kernel_rfl)) ?_)
                      refine AT.runU tOk [(3, []), (4, [])] 39 [⟨[2, 8, 15], 3, 41, 42⟩] [4, 3, 2, 1, 0] rfl (by kernel_rfl) (fun cx => ?_)
                      refine AT.to ⟨100, 0, [(45, .val false [.lit (.bool (!r10))]), (44, .val false [.lit (.bool (!r10))]), (43, .val false [.lit (.bool r10)]), (42, .val false [.lit (.int .i64 v9.Id)]), (41, .adr (.box 7) [(0, 0)] 3 0), (7, .adr (.box 7) [(0, 0)] 3 0), (40, .val true (Vrow.row v9)), (39, .fad ((Vrow.row v9))), (38, .val false [.lit (.int .i64 y3)]), (37, .val false [.sl false 3 (CV.frzEs (x0.Rows.map Vrow.row))]), (36, .adr (.box 2) [(0, 0)] 2 0), (33, .val false [.lit (.bool true)]), (32, .val false [.lit (.int .i64 (x0.Rows.length : Int))]), (31, .val false [.sl false 3 (CV.frzEs (x0.Rows.map Vrow.row))]), (30, .adr (.box 2) [(0, 0)] 2 0), (29, .val false [.lit (.int .i64 y3)]), (6, .val false [.lit (.int .i64 y3)]), (5, .val false [.lit (.int .i64 (IntKind.wrap .i64 ((IntKind.wrap .i64 (1 * 2 ^ min (((IntKind.wrap .u64 x1) : Int)).toNat (IntKind.bits .i64))) - 1)))]), (4, .val false [.lit (.bool false)]), (2, .adr (.box 2) [(0, 0)] 2 0)], [(7, (Vrow.row v9)), (2, (CV.frzRow (Vtab.row x0)))]⟩ (by kernel_rfl) ?_
                      rw [h7]
                      refine AT.runU tOk [(5, []), (6, [8, 15]), (7, [])] 36 [⟨[8, 15], 3, 46, 47⟩, ⟨[2, 8, 15], 3, 41, 42⟩] [7, 6, 5, 4, 3, 2, 1, 0] rfl (by kernel_rfl) (fun cx => ?_)
                      refine AT.big1 tOk 8 (by kernel_rfl) (by kernel_rfl) ?_
                      refine LAt.callU tOk [.rd, .rd, .rd] (f := 76) (av := #[.tmp 47, .const (.int .i64 0), .tmp 48]) (ats := #[3, 3, 3]) (d := (some 49)) (ty := 4) (g := (some (4, false))) (by kernel_rfl) (by kernel_rfl) (by kernel_rfl) [] (spec_l1In n v9.Members 0 (IntKind.wrap .i64 ((IntKind.wrap .i64 (1 * 2 ^ min (((IntKind.wrap .u64 x1) : Int)).toNat (IntKind.bits .i64))) - 1)) r11 er11) (by kernel_rfl) (.inl rfl) ?_
                      refine LAt.fin (by kernel_rfl) (And.intro (And.intro (by kernel_rfl) (by kernel_rfl)) ?_)
                      refine AT.runU tOk [(9, []), (10, []), (11, [])] 32 [⟨[8, 15], 3, 46, 47⟩, ⟨[2, 8, 15], 3, 41, 42⟩] [11, 10, 9, 8, 7, 6, 5, 4, 3, 2, 1, 0] rfl (by kernel_rfl) (fun cx => ?_)
                      refine AT.to ⟨100, 0, [(52, .val false [.lit (.bool (!r11))]), (51, .val false [.lit (.bool (!r11))]), (50, .val false [.lit (.bool (!r11))]), (49, .val false [.lit (.bool r11)]), (48, .val false [.lit (.int .i64 (IntKind.wrap .i64 ((IntKind.wrap .i64 (1 * 2 ^ min (((IntKind.wrap .u64 x1) : Int)).toNat (IntKind.bits .i64))) - 1)))]), (47, .val false [.lit (.int .i64 v9.Members)]), (46, .adr (.box 7) [(0, 0)] 3 1), (45, .val false [.lit (.bool false)]), (44, .val false [.lit (.bool false)]), (43, .val false [.lit (.bool r10)]), (42, .val false [.lit (.int .i64 v9.Id)]), (41, .adr (.box 7) [(0, 0)] 3 0), (7, .adr (.box 7) [(0, 0)] 3 0), (40, .val true (Vrow.row v9)), (39, .fad ((Vrow.row v9))), (38, .val false [.lit (.int .i64 y3)]), (37, .val false [.sl false 3 (CV.frzEs (x0.Rows.map Vrow.row))]), (36, .adr (.box 2) [(0, 0)] 2 0), (33, .val false [.lit (.bool true)]), (32, .val false [.lit (.int .i64 (x0.Rows.length : Int))]), (31, .val false [.sl false 3 (CV.frzEs (x0.Rows.map Vrow.row))]), (30, .adr (.box 2) [(0, 0)] 2 0), (29, .val false [.lit (.int .i64 y3)]), (6, .val false [.lit (.int .i64 y3)]), (5, .val false [.lit (.int .i64 (IntKind.wrap .i64 ((IntKind.wrap .i64 (1 * 2 ^ min (((IntKind.wrap .u64 x1) : Int)).toNat (IntKind.bits .i64))) - 1)))]), (4, .val false [.lit (.bool false)]), (2, .adr (.box 2) [(0, 0)] 2 0)], [(7, (Vrow.row v9)), (2, (CV.frzRow (Vtab.row x0)))]⟩ (by kernel_rfl) ?_
                      rw [h8]
                      refine AT.runU tOk [(12, []), (13, [15]), (14, [])] 29 [⟨[15], 3, 53, 54⟩, ⟨[8, 15], 3, 46, 47⟩, ⟨[2, 8, 15], 3, 41, 42⟩] [14, 13, 12, 11, 10, 9, 8, 7, 6, 5, 4, 3, 2, 1, 0] rfl (by kernel_rfl) (fun cx => ?_)
                      refine AT.big1 tOk 15 (by kernel_rfl) (by kernel_rfl) ?_
                      refine LAt.callU tOk [.rd, .rd, .rd] (f := 76) (av := #[.tmp 54, .const (.int .i64 0), .tmp 55]) (ats := #[3, 3, 3]) (d := (some 56)) (ty := 4) (g := (some (11, false))) (by kernel_rfl) (by kernel_rfl) (by kernel_rfl) [] (spec_l1In n v9.Bare 0 (IntKind.wrap .i64 ((IntKind.wrap .i64 (1 * 2 ^ min (((IntKind.wrap .u64 x1) : Int)).toNat (IntKind.bits .i64))) - 1)) r12 er12) (by kernel_rfl) (.inl rfl) ?_
                      refine LAt.fin (by kernel_rfl) (And.intro (And.intro (by kernel_rfl) (by kernel_rfl)) ?_)
                      refine AT.runU tOk [(16, []), (17, []), (18, [])] 25 [⟨[15], 3, 53, 54⟩, ⟨[8, 15], 3, 46, 47⟩, ⟨[2, 8, 15], 3, 41, 42⟩] [18, 17, 16, 15, 14, 13, 12, 11, 10, 9, 8, 7, 6, 5, 4, 3, 2, 1, 0] rfl (by kernel_rfl) (fun cx => ?_)
                      refine AT.to ⟨100, 0, [(59, .val false [.lit (.bool (!r12))]), (58, .val false [.lit (.bool (!r12))]), (57, .val false [.lit (.bool (!r12))]), (56, .val false [.lit (.bool r12)]), (55, .val false [.lit (.int .i64 (IntKind.wrap .i64 ((IntKind.wrap .i64 (1 * 2 ^ min (((IntKind.wrap .u64 x1) : Int)).toNat (IntKind.bits .i64))) - 1)))]), (54, .val false [.lit (.int .i64 v9.Bare)]), (53, .adr (.box 7) [(0, 0)] 3 2), (52, .val false [.lit (.bool false)]), (51, .val false [.lit (.bool false)]), (50, .val false [.lit (.bool false)]), (49, .val false [.lit (.bool r11)]), (48, .val false [.lit (.int .i64 (IntKind.wrap .i64 ((IntKind.wrap .i64 (1 * 2 ^ min (((IntKind.wrap .u64 x1) : Int)).toNat (IntKind.bits .i64))) - 1)))]), (47, .val false [.lit (.int .i64 v9.Members)]), (46, .adr (.box 7) [(0, 0)] 3 1), (45, .val false [.lit (.bool false)]), (44, .val false [.lit (.bool false)]), (43, .val false [.lit (.bool r10)]), (42, .val false [.lit (.int .i64 v9.Id)]), (41, .adr (.box 7) [(0, 0)] 3 0), (7, .adr (.box 7) [(0, 0)] 3 0), (40, .val true (Vrow.row v9)), (39, .fad ((Vrow.row v9))), (38, .val false [.lit (.int .i64 y3)]), (37, .val false [.sl false 3 (CV.frzEs (x0.Rows.map Vrow.row))]), (36, .adr (.box 2) [(0, 0)] 2 0), (33, .val false [.lit (.bool true)]), (32, .val false [.lit (.int .i64 (x0.Rows.length : Int))]), (31, .val false [.sl false 3 (CV.frzEs (x0.Rows.map Vrow.row))]), (30, .adr (.box 2) [(0, 0)] 2 0), (29, .val false [.lit (.int .i64 y3)]), (6, .val false [.lit (.int .i64 y3)]), (5, .val false [.lit (.int .i64 (IntKind.wrap .i64 ((IntKind.wrap .i64 (1 * 2 ^ min (((IntKind.wrap .u64 x1) : Int)).toNat (IntKind.bits .i64))) - 1)))]), (4, .val false [.lit (.bool false)]), (2, .adr (.box 2) [(0, 0)] 2 0)], [(7, (Vrow.row v9)), (2, (CV.frzRow (Vtab.row x0)))]⟩ (by kernel_rfl) ?_
                      rw [h9]
                      refine AT.runU tOk [(19, []), (20, []), (21, []), (22, []), (23, []), (24, []), (25, []), (26, []), (27, []), (28, []), (29, []), (30, []), (31, []), (32, []), (33, []), (34, []), (35, []), (36, []), (37, []), (38, []), (39, []), (40, []), (41, []), (42, []), (43, [])] 0 [⟨[15], 3, 53, 54⟩, ⟨[8, 15], 3, 46, 47⟩, ⟨[2, 8, 15], 3, 41, 42⟩] [43, 42, 41, 40, 39, 38, 37, 36, 35, 34, 33, 32, 31, 30, 29, 28, 27, 26, 25, 24, 23, 22, 21, 20, 19, 18, 17, 16, 15, 14, 13, 12, 11, 10, 9, 8, 7, 6, 5, 4, 3, 2, 1, 0] rfl (by kernel_rfl) (fun cx => ?_)
                      exact AT.done [84, 83, 82, 81, 80, 79, 78, 77, 76, 75, 74, 73, 72, 71, 70, 69, 68, 67, 66, 65, 64, 63, 62, 61, 60, 59, 58, 57, 56, 55, 54, 53, 52, 51, 50, 49, 48, 47, 46, 45, 44, 43, 42, 41, 7, 40, 39, 38, 37, 36, 33, 32, 31, 30, 29, 6, 5, 4, 2] [7, 2] _ (by kernel_rfl) (by kernel_rfl) rfl
                    · refine Tr.cond (b := true) (by kernel_rfl) (fun _ => ?_) (fun h => nomatch h)
                      refine Tr.rs ?_
                      refine LAt.runU tOk 1 (by kernel_rfl) ?_
                      refine LAt.doneU [4, 84, 83, 82, 81, 80, 79, 78, 77, 76, 75, 74, 73, 72, 71, 70, 69, 68, 67, 66, 65, 64, 63, 62, 61, 60, 59, 58, 57, 56, 55, 54, 53, 52, 51, 50, 49, 48, 47, 46, 45, 44, 43, 42, 41, 7, 40, 39, 38, 37, 36, 33, 32, 31, 30, 29, 6, 5, 2] [7, 2] (by kernel_rfl) ?_
                      refine Tr.ret ?_
                      have H := Option.some.inj H
                      subst H
                      have H := Ho8
                      dsimp only at H
                      have H := Option.some.inj H
                      subst H
                      exact Fin.of _ [(false, [.lit (.bool false)])] (by kernel_rfl) rfl rfl
                · have H := bifT h8 H
                  refine Tr.draws mixed 44 (by kernel_rfl) ⟨100, 0, [(84, .val false [.lit (.bool true)]), (83, .tup []), (82, .tup []), (81, .tup []), (80, .tup []), (79, .tup []), (78, .tup []), (77, .tup []), (76, .tup []), (75, .tup []), (74, .tup []), (73, .tup []), (72, .tup []), (71, .tup []), (70, .tup []), (69, .val false [.lit (.bool true)]), (68, .val false [.lit (.bool true)]), (67, .tup []), (66, .tup []), (65, .tup []), (64, .tup []), (63, .tup []), (62, .tup []), (61, .tup []), (60, .tup []), (59, .val false [.lit (.bool true)]), (58, .val false [.lit (.bool true)]), (57, .tup []), (56, .tup []), (55, .tup []), (54, .tup []), (53, .tup []), (52, .val false [.lit (.bool true)]), (51, .val false [.lit (.bool true)]), (50, .val false [.lit (.bool true)]), (49, .val false [.lit (.bool r11)]), (48, .val false [.lit (.int .i64 (IntKind.wrap .i64 ((IntKind.wrap .i64 (1 * 2 ^ min (((IntKind.wrap .u64 x1) : Int)).toNat (IntKind.bits .i64))) - 1)))]), (47, .val false [.lit (.int .i64 v9.Members)]), (46, .adr (.box 7) [(0, 0)] 3 1), (45, .val false [.lit (.bool false)]), (44, .val false [.lit (.bool false)]), (43, .val false [.lit (.bool r10)]), (42, .val false [.lit (.int .i64 v9.Id)]), (41, .adr (.box 7) [(0, 0)] 3 0), (7, .adr (.box 7) [(0, 0)] 3 0), (40, .val true (Vrow.row v9)), (39, .fad ((Vrow.row v9))), (38, .val false [.lit (.int .i64 y3)]), (37, .val false [.sl false 3 (CV.frzEs (x0.Rows.map Vrow.row))]), (36, .adr (.box 2) [(0, 0)] 2 0), (33, .val false [.lit (.bool true)]), (32, .val false [.lit (.int .i64 (x0.Rows.length : Int))]), (31, .val false [.sl false 3 (CV.frzEs (x0.Rows.map Vrow.row))]), (30, .adr (.box 2) [(0, 0)] 2 0), (29, .val false [.lit (.int .i64 y3)]), (6, .val false [.lit (.int .i64 y3)]), (5, .val false [.lit (.int .i64 (IntKind.wrap .i64 ((IntKind.wrap .i64 (1 * 2 ^ min (((IntKind.wrap .u64 x1) : Int)).toNat (IntKind.bits .i64))) - 1)))]), (4, .val false [.lit (.bool false)]), (2, .adr (.box 2) [(0, 0)] 2 0)], [(7, (Vrow.row v9)), (2, (CV.frzRow (Vtab.row x0)))]⟩ (fun cx => ?_) ?_
                  · refine AT.runU tOk [(0, []), (1, [2, 8])] 42 [⟨[2, 8], 3, 41, 42⟩] [1, 0] rfl (by kernel_rfl) (fun cx => ?_)
                    refine AT.big1 tOk 2 (by kernel_rfl) (by kernel_rfl) ?_
                    refine LAt.callU tOk [.rd, .rd, .rd] (f := 76) (av := #[.tmp 42, .const (.int .i64 1), .const (.int .i64 99)]) (ats := #[3, 3, 3]) (d := (some 43)) (ty := 4) (g := none) (by kernel_rfl) (by kernel_rfl) (by kernel_rfl) [] (spec_l1In n v9.Id 1 99 r10 er10) (by kernel_rfl) (.inl rfl) ?_
                    refine LAt.fin (by kernel_rfl) (And.intro (And.intro (by kernel_rfl) (by kernel_rfl)) ?_)
                    refine AT.runU tOk [(3, []), (4, [])] 39 [⟨[2, 8], 3, 41, 42⟩] [4, 3, 2, 1, 0] rfl (by kernel_rfl) (fun cx => ?_)
                    refine AT.to ⟨100, 0, [(45, .val false [.lit (.bool (!r10))]), (44, .val false [.lit (.bool (!r10))]), (43, .val false [.lit (.bool r10)]), (42, .val false [.lit (.int .i64 v9.Id)]), (41, .adr (.box 7) [(0, 0)] 3 0), (7, .adr (.box 7) [(0, 0)] 3 0), (40, .val true (Vrow.row v9)), (39, .fad ((Vrow.row v9))), (38, .val false [.lit (.int .i64 y3)]), (37, .val false [.sl false 3 (CV.frzEs (x0.Rows.map Vrow.row))]), (36, .adr (.box 2) [(0, 0)] 2 0), (33, .val false [.lit (.bool true)]), (32, .val false [.lit (.int .i64 (x0.Rows.length : Int))]), (31, .val false [.sl false 3 (CV.frzEs (x0.Rows.map Vrow.row))]), (30, .adr (.box 2) [(0, 0)] 2 0), (29, .val false [.lit (.int .i64 y3)]), (6, .val false [.lit (.int .i64 y3)]), (5, .val false [.lit (.int .i64 (IntKind.wrap .i64 ((IntKind.wrap .i64 (1 * 2 ^ min (((IntKind.wrap .u64 x1) : Int)).toNat (IntKind.bits .i64))) - 1)))]), (4, .val false [.lit (.bool false)]), (2, .adr (.box 2) [(0, 0)] 2 0)], [(7, (Vrow.row v9)), (2, (CV.frzRow (Vtab.row x0)))]⟩ (by kernel_rfl) ?_
                    rw [h7]
                    refine AT.runU tOk [(5, []), (6, [8]), (7, [])] 36 [⟨[8], 3, 46, 47⟩, ⟨[2, 8], 3, 41, 42⟩] [7, 6, 5, 4, 3, 2, 1, 0] rfl (by kernel_rfl) (fun cx => ?_)
                    refine AT.big1 tOk 8 (by kernel_rfl) (by kernel_rfl) ?_
                    refine LAt.callU tOk [.rd, .rd, .rd] (f := 76) (av := #[.tmp 47, .const (.int .i64 0), .tmp 48]) (ats := #[3, 3, 3]) (d := (some 49)) (ty := 4) (g := (some (4, false))) (by kernel_rfl) (by kernel_rfl) (by kernel_rfl) [] (spec_l1In n v9.Members 0 (IntKind.wrap .i64 ((IntKind.wrap .i64 (1 * 2 ^ min (((IntKind.wrap .u64 x1) : Int)).toNat (IntKind.bits .i64))) - 1)) r11 er11) (by kernel_rfl) (.inl rfl) ?_
                    refine LAt.fin (by kernel_rfl) (And.intro (And.intro (by kernel_rfl) (by kernel_rfl)) ?_)
                    refine AT.runU tOk [(9, []), (10, []), (11, [])] 32 [⟨[8], 3, 46, 47⟩, ⟨[2, 8], 3, 41, 42⟩] [11, 10, 9, 8, 7, 6, 5, 4, 3, 2, 1, 0] rfl (by kernel_rfl) (fun cx => ?_)
                    refine AT.to ⟨100, 0, [(52, .val false [.lit (.bool (!r11))]), (51, .val false [.lit (.bool (!r11))]), (50, .val false [.lit (.bool (!r11))]), (49, .val false [.lit (.bool r11)]), (48, .val false [.lit (.int .i64 (IntKind.wrap .i64 ((IntKind.wrap .i64 (1 * 2 ^ min (((IntKind.wrap .u64 x1) : Int)).toNat (IntKind.bits .i64))) - 1)))]), (47, .val false [.lit (.int .i64 v9.Members)]), (46, .adr (.box 7) [(0, 0)] 3 1), (45, .val false [.lit (.bool false)]), (44, .val false [.lit (.bool false)]), (43, .val false [.lit (.bool r10)]), (42, .val false [.lit (.int .i64 v9.Id)]), (41, .adr (.box 7) [(0, 0)] 3 0), (7, .adr (.box 7) [(0, 0)] 3 0), (40, .val true (Vrow.row v9)), (39, .fad ((Vrow.row v9))), (38, .val false [.lit (.int .i64 y3)]), (37, .val false [.sl false 3 (CV.frzEs (x0.Rows.map Vrow.row))]), (36, .adr (.box 2) [(0, 0)] 2 0), (33, .val false [.lit (.bool true)]), (32, .val false [.lit (.int .i64 (x0.Rows.length : Int))]), (31, .val false [.sl false 3 (CV.frzEs (x0.Rows.map Vrow.row))]), (30, .adr (.box 2) [(0, 0)] 2 0), (29, .val false [.lit (.int .i64 y3)]), (6, .val false [.lit (.int .i64 y3)]), (5, .val false [.lit (.int .i64 (IntKind.wrap .i64 ((IntKind.wrap .i64 (1 * 2 ^ min (((IntKind.wrap .u64 x1) : Int)).toNat (IntKind.bits .i64))) - 1)))]), (4, .val false [.lit (.bool false)]), (2, .adr (.box 2) [(0, 0)] 2 0)], [(7, (Vrow.row v9)), (2, (CV.frzRow (Vtab.row x0)))]⟩ (by kernel_rfl) ?_
                    rw [h8]
                    refine AT.runU tOk [(12, []), (13, []), (14, []), (15, []), (16, []), (17, []), (18, []), (19, []), (20, []), (21, []), (22, []), (23, []), (24, []), (25, []), (26, []), (27, []), (28, []), (29, []), (30, []), (31, []), (32, []), (33, []), (34, []), (35, []), (36, []), (37, []), (38, []), (39, []), (40, []), (41, []), (42, []), (43, [])] 0 [⟨[8], 3, 46, 47⟩, ⟨[2, 8], 3, 41, 42⟩] [43, 42, 41, 40, 39, 38, 37, 36, 35, 34, 33, 32, 31, 30, 29, 28, 27, 26, 25, 24, 23, 22, 21, 20, 19, 18, 17, 16, 15, 14, 13, 12, 11, 10, 9, 8, 7, 6, 5, 4, 3, 2, 1, 0] rfl (by kernel_rfl) (fun cx => ?_)
                    exact AT.done [84, 83, 82, 81, 80, 79, 78, 77, 76, 75, 74, 73, 72, 71, 70, 69, 68, 67, 66, 65, 64, 63, 62, 61, 60, 59, 58, 57, 56, 55, 54, 53, 52, 51, 50, 49, 48, 47, 46, 45, 44, 43, 42, 41, 7, 40, 39, 38, 37, 36, 33, 32, 31, 30, 29, 6, 5, 4, 2] [7, 2] _ (by kernel_rfl) (by kernel_rfl) rfl
                  · refine Tr.cond (b := true) (by kernel_rfl) (fun _ => ?_) (fun h => nomatch h)
                    refine Tr.rs ?_
                    refine LAt.runU tOk 1 (by kernel_rfl) ?_
                    refine LAt.doneU [4, 84, 83, 82, 81, 80, 79, 78, 77, 76, 75, 74, 73, 72, 71, 70, 69, 68, 67, 66, 65, 64, 63, 62, 61, 60, 59, 58, 57, 56, 55, 54, 53, 52, 51, 50, 49, 48, 47, 46, 45, 44, 43, 42, 41, 7, 40, 39, 38, 37, 36, 33, 32, 31, 30, 29, 6, 5, 2] [7, 2] (by kernel_rfl) ?_
                    refine Tr.ret ?_
                    have H := Option.some.inj H
                    subst H
                    have H := Ho8
                    dsimp only at H
                    have H := Option.some.inj H
                    subst H
                    exact Fin.of _ [(false, [.lit (.bool false)])] (by kernel_rfl) rfl rfl
              · have H := bifT h7 H
                refine Tr.draws mixed 44 (by kernel_rfl) ⟨100, 0, [(84, .val false [.lit (.bool true)]), (83, .tup []), (82, .tup []), (81, .tup []), (80, .tup []), (79, .tup []), (78, .tup []), (77, .tup []), (76, .tup []), (75, .tup []), (74, .tup []), (73, .tup []), (72, .tup []), (71, .tup []), (70, .tup []), (69, .val false [.lit (.bool true)]), (68, .val false [.lit (.bool true)]), (67, .tup []), (66, .tup []), (65, .tup []), (64, .tup []), (63, .tup []), (62, .tup []), (61, .tup []), (60, .tup []), (59, .val false [.lit (.bool true)]), (58, .val false [.lit (.bool true)]), (57, .tup []), (56, .tup []), (55, .tup []), (54, .tup []), (53, .tup []), (52, .val false [.lit (.bool true)]), (51, .val false [.lit (.bool true)]), (50, .tup []), (49, .tup []), (48, .tup []), (47, .tup []), (46, .tup []), (45, .val false [.lit (.bool true)]), (44, .val false [.lit (.bool true)]), (43, .val false [.lit (.bool r10)]), (42, .val false [.lit (.int .i64 v9.Id)]), (41, .adr (.box 7) [(0, 0)] 3 0), (7, .adr (.box 7) [(0, 0)] 3 0), (40, .val true (Vrow.row v9)), (39, .fad ((Vrow.row v9))), (38, .val false [.lit (.int .i64 y3)]), (37, .val false [.sl false 3 (CV.frzEs (x0.Rows.map Vrow.row))]), (36, .adr (.box 2) [(0, 0)] 2 0), (33, .val false [.lit (.bool true)]), (32, .val false [.lit (.int .i64 (x0.Rows.length : Int))]), (31, .val false [.sl false 3 (CV.frzEs (x0.Rows.map Vrow.row))]), (30, .adr (.box 2) [(0, 0)] 2 0), (29, .val false [.lit (.int .i64 y3)]), (6, .val false [.lit (.int .i64 y3)]), (5, .val false [.lit (.int .i64 (IntKind.wrap .i64 ((IntKind.wrap .i64 (1 * 2 ^ min (((IntKind.wrap .u64 x1) : Int)).toNat (IntKind.bits .i64))) - 1)))]), (4, .val false [.lit (.bool false)]), (2, .adr (.box 2) [(0, 0)] 2 0)], [(7, (Vrow.row v9)), (2, (CV.frzRow (Vtab.row x0)))]⟩ (fun cx => ?_) ?_
                · refine AT.runU tOk [(0, []), (1, [2])] 42 [⟨[2], 3, 41, 42⟩] [1, 0] rfl (by kernel_rfl) (fun cx => ?_)
                  refine AT.big1 tOk 2 (by kernel_rfl) (by kernel_rfl) ?_
                  refine LAt.callU tOk [.rd, .rd, .rd] (f := 76) (av := #[.tmp 42, .const (.int .i64 1), .const (.int .i64 99)]) (ats := #[3, 3, 3]) (d := (some 43)) (ty := 4) (g := none) (by kernel_rfl) (by kernel_rfl) (by kernel_rfl) [] (spec_l1In n v9.Id 1 99 r10 er10) (by kernel_rfl) (.inl rfl) ?_
                  refine LAt.fin (by kernel_rfl) (And.intro (And.intro (by kernel_rfl) (by kernel_rfl)) ?_)
                  refine AT.runU tOk [(3, []), (4, [])] 39 [⟨[2], 3, 41, 42⟩] [4, 3, 2, 1, 0] rfl (by kernel_rfl) (fun cx => ?_)
                  refine AT.to ⟨100, 0, [(45, .val false [.lit (.bool (!r10))]), (44, .val false [.lit (.bool (!r10))]), (43, .val false [.lit (.bool r10)]), (42, .val false [.lit (.int .i64 v9.Id)]), (41, .adr (.box 7) [(0, 0)] 3 0), (7, .adr (.box 7) [(0, 0)] 3 0), (40, .val true (Vrow.row v9)), (39, .fad ((Vrow.row v9))), (38, .val false [.lit (.int .i64 y3)]), (37, .val false [.sl false 3 (CV.frzEs (x0.Rows.map Vrow.row))]), (36, .adr (.box 2) [(0, 0)] 2 0), (33, .val false [.lit (.bool true)]), (32, .val false [.lit (.int .i64 (x0.Rows.length : Int))]), (31, .val false [.sl false 3 (CV.frzEs (x0.Rows.map Vrow.row))]), (30, .adr (.box 2) [(0, 0)] 2 0), (29, .val false [.lit (.int .i64 y3)]), (6, .val false [.lit (.int .i64 y3)]), (5, .val false [.lit (.int .i64 (IntKind.wrap .i64 ((IntKind.wrap .i64 (1 * 2 ^ min (((IntKind.wrap .u64 x1) : Int)).toNat (IntKind.bits .i64))) - 1)))]), (4, .val false [.lit (.bool false)]), (2, .adr (.box 2) [(0, 0)] 2 0)], [(7, (Vrow.row v9)), (2, (CV.frzRow (Vtab.row x0)))]⟩ (by kernel_rfl) ?_
                  rw [h7]
                  refine AT.runU tOk [(5, []), (6, []), (7, []), (8, []), (9, []), (10, []), (11, []), (12, []), (13, []), (14, []), (15, []), (16, []), (17, []), (18, []), (19, []), (20, []), (21, []), (22, []), (23, []), (24, []), (25, []), (26, []), (27, []), (28, []), (29, []), (30, []), (31, []), (32, []), (33, []), (34, []), (35, []), (36, []), (37, []), (38, []), (39, []), (40, []), (41, []), (42, []), (43, [])] 0 [⟨[2], 3, 41, 42⟩] [43, 42, 41, 40, 39, 38, 37, 36, 35, 34, 33, 32, 31, 30, 29, 28, 27, 26, 25, 24, 23, 22, 21, 20, 19, 18, 17, 16, 15, 14, 13, 12, 11, 10, 9, 8, 7, 6, 5, 4, 3, 2, 1, 0] rfl (by kernel_rfl) (fun cx => ?_)
                  exact AT.done [84, 83, 82, 81, 80, 79, 78, 77, 76, 75, 74, 73, 72, 71, 70, 69, 68, 67, 66, 65, 64, 63, 62, 61, 60, 59, 58, 57, 56, 55, 54, 53, 52, 51, 50, 49, 48, 47, 46, 45, 44, 43, 42, 41, 7, 40, 39, 38, 37, 36, 33, 32, 31, 30, 29, 6, 5, 4, 2] [7, 2] _ (by kernel_rfl) (by kernel_rfl) rfl
                · refine Tr.cond (b := true) (by kernel_rfl) (fun _ => ?_) (fun h => nomatch h)
                  refine Tr.rs ?_
                  refine LAt.runU tOk 1 (by kernel_rfl) ?_
                  refine LAt.doneU [4, 84, 83, 82, 81, 80, 79, 78, 77, 76, 75, 74, 73, 72, 71, 70, 69, 68, 67, 66, 65, 64, 63, 62, 61, 60, 59, 58, 57, 56, 55, 54, 53, 52, 51, 50, 49, 48, 47, 46, 45, 44, 43, 42, 41, 7, 40, 39, 38, 37, 36, 33, 32, 31, 30, 29, 6, 5, 2] [7, 2] (by kernel_rfl) ?_
                  refine Tr.ret ?_
                  have H := Option.some.inj H
                  subst H
                  have H := Ho8
                  dsimp only at H
                  have H := Option.some.inj H
                  subst H
                  exact Fin.of _ [(false, [.lit (.bool false)])] (by kernel_rfl) rfl rfl
        · rintro _ H
          have H : (spec_VtabOk_J1 n x0) = some r := H
          unfold spec_VtabOk_J1 at H
          show Tr _ _ _ _ _
          refine Tr.seq ?_
          refine Tr.rs ?_
          refine LAt.runU tOk 1 (by kernel_rfl) ?_
          refine LAt.doneU [8, 4, 2] [2] (by kernel_rfl) ?_
          obtain ⟨o5, eo5, Ho5⟩ := bind_some H
          clear H
          refine Tr.mid (ι := Unit) (fun v => ⟨100, 0, [(4, .val false [.lit (.bool false)])], []⟩) (fun v => spec_VtabOk_J2 n = some r) ?_ ?_
          · refine Tr.block ?_
            refine Tr.loop (ι := Nat × (Int)) (fun v => ⟨100, 0, [(8, .val false [.lit (.int .i64 v.2)]), (4, .val false [.lit (.bool false)]), (2, .adr (.box 2) [(0, 0)] 2 0)], [(2, (CV.frzRow (Vtab.row x0)))]⟩) (fun v => spec_VtabOk_L3 n v.1 x0 v.2 = some o5) (fun v => v.1) (n, 0) eo5 (St.sub_of [8, 4, 2] [2] (by kernel_rfl)) ?_
            rintro ⟨mo5, y4⟩ H
            have H : spec_VtabOk_L3 n mo5 x0 y4 = some o5 := H
            obtain _ | mo5 := mo5
            · cases (show (none : Option _) = some o5 from H)
            · rw [spec_VtabOk_L3] at H
              refine Tr.seq ?_
              refine Tr.rs ?_
              refine LAt.runU tOk 3 (by kernel_rfl) ?_
              refine LAt.lenE tOk (t := 23) (ty := 3) (e := 3) (x := (.tmp 87)) (d := 88) (g := none) ⟨(.slot 87), [], 0, false, 1, (CV.frzEs (x0.Pvid.map intRow))⟩ (x0.Pvid).length _ (by kernel_rfl) (by kernel_rfl) (by kernel_rfl) (by kernel_rfl) (by kernel_rfl) (frz_len _ _) rfl ?_
              refine LAt.runU tOk 1 (by kernel_rfl) ?_
              refine LAt.doneU [89, 88, 87, 86, 85, 8, 4, 2] [2] (by kernel_rfl) ?_
              refine Tr.to ⟨100, 0, [(89, .val false [.lit (.bool (decide (y4 < (x0.Pvid.length : Int))))]), (88, .val false [.lit (.int .i64 (x0.Pvid.length : Int))]), (87, .val false [.sl false 1 (CV.frzEs (x0.Pvid.map intRow))]), (86, .adr (.box 2) [(0, 0)] 2 1), (85, .val false [.lit (.int .i64 y4)]), (8, .val false [.lit (.int .i64 y4)]), (4, .val false [.lit (.bool false)]), (2, .adr (.box 2) [(0, 0)] 2 0)], [(2, (CV.frzRow (Vtab.row x0)))]⟩ (by kernel_rfl) ?_
              cases h4 : (decide (y4 < (x0.Pvid.length : Int)))
              · have H := bifF h4 H
                refine Tr.cond (b := false) (by kernel_rfl) (fun h => nomatch h) (fun _ => ?_)
                refine Tr.exit ?_
                refine And.intro (fun _ => ?_) (fun h => absurd rfl h)
                have H := Option.some.inj H
                subst H
                have H := Ho5
                dsimp only at H
                exact Exists.intro () (And.intro H (St.sub_of [4] [] (by kernel_rfl)))
              · have H := bifT h4 H
                refine Tr.cond (b := true) (by kernel_rfl) (fun _ => ?_) (fun h => nomatch h)
                refine Tr.skip ?_
                show Tr _ _ _ _ _
                refine Tr.seq ?_
                refine Tr.block ?_
                obtain ⟨v6, ev6, H⟩ := bind_some H
                obtain ⟨r7, er7, H⟩ := bind_some H
                refine Tr.draws mixed 8 (by kernel_rfl) ⟨100, 0, [(99, .val false [.lit (.bool (decide (r7 < 0)))]), (98, .val false [.lit (.int .i64 r7)]), (97, .val false [.lit (.int .i64 v6)]), (96, .fad ([.lit (.int .i64 v6)])), (95, .val false [.lit (.int .i64 y4)]), (94, .ref (.box 2) [(0, 0)] 2 1 1 false), (93, .adr (.box 2) [(0, 0)] 2 1), (92, .ref (.box 2) [(0, 0)] 2 0 2 true), (89, .val false [.lit (.bool true)]), (88, .val false [.lit (.int .i64 (x0.Pvid.length : Int))]), (87, .val false [.sl false 1 (CV.frzEs (x0.Pvid.map intRow))]), (86, .adr (.box 2) [(0, 0)] 2 1), (85, .val false [.lit (.int .i64 y4)]), (8, .val false [.lit (.int .i64 y4)]), (4, .val false [.lit (.bool false)]), (2, .adr (.box 2) [(0, 0)] 2 0)], [(2, (CV.frzRow (Vtab.row x0)))]⟩ (fun cx => ?_) ?_
                · refine AT.runU tOk [(0, [6]), (1, []), (2, [6]), (3, [])] 4 [⟨[6], 23, 93, 94⟩, ⟨[6], 29, 2, 92⟩] [3, 2, 1, 0] rfl (by kernel_rfl) (fun cx => ?_)
                  refine AT.indexF tOk 4 (t := 23) (ty := 0) (x := (.tmp 94)) (y := (.tmp 95)) (d := 96) (g := none) ⟨(.box 2), [(0, 0)], 1, false, 1, (CV.frzEs (x0.Pvid.map intRow))⟩ y4 [.lit (.int .i64 v6)] _ (by kernel_rfl) (by kernel_rfl) (by kernel_rfl) (by kernel_rfl) (by kernel_rfl) (by kernel_rfl) rfl (idx_isF ev6) rfl (fun cx => ?_)
                  refine AT.runU tOk [(5, [])] 2 [⟨[6], 23, 93, 94⟩, ⟨[6], 29, 2, 92⟩] [5, 4, 3, 2, 1, 0] rfl (by kernel_rfl) (fun cx => ?_)
                  refine AT.big1 tOk 6 (by kernel_rfl) (by kernel_rfl) ?_
                  refine LAt.callU tOk [.rd, .rd] (f := 102) (av := #[.tmp 92, .tmp 97]) (ats := #[29, 3]) (d := (some 98)) (ty := 3) (g := none) (by kernel_rfl) (by kernel_rfl) (by kernel_rfl) [] (spec_RowAt n x0 v6 r7 er7) (by kernel_rfl) (.inl rfl) ?_
                  refine LAt.fin (by kernel_rfl) (And.intro (And.intro (by kernel_rfl) (by kernel_rfl)) ?_)
                  refine AT.runU tOk [(7, [])] 0 [⟨[6], 23, 93, 94⟩, ⟨[6], 29, 2, 92⟩] [7, 6, 5, 4, 3, 2, 1, 0] rfl (by kernel_rfl) (fun cx => ?_)
                  exact AT.done [99, 98, 97, 96, 95, 94, 93, 92, 89, 88, 87, 86, 85, 8, 4, 2] [2] _ (by kernel_rfl) (by kernel_rfl) rfl
                · refine Tr.to ⟨100, 0, [(99, .val false [.lit (.bool (decide (r7 < 0)))]), (98, .val false [.lit (.int .i64 r7)]), (97, .val false [.lit (.int .i64 v6)]), (96, .fad ([.lit (.int .i64 v6)])), (95, .val false [.lit (.int .i64 y4)]), (94, .ref (.box 2) [(0, 0)] 2 1 1 false), (93, .adr (.box 2) [(0, 0)] 2 1), (92, .ref (.box 2) [(0, 0)] 2 0 2 true), (89, .val false [.lit (.bool true)]), (88, .val false [.lit (.int .i64 (x0.Pvid.length : Int))]), (87, .val false [.sl false 1 (CV.frzEs (x0.Pvid.map intRow))]), (86, .adr (.box 2) [(0, 0)] 2 1), (85, .val false [.lit (.int .i64 y4)]), (8, .val false [.lit (.int .i64 y4)]), (4, .val false [.lit (.bool false)]), (2, .adr (.box 2) [(0, 0)] 2 0)], [(2, (CV.frzRow (Vtab.row x0)))]⟩ (by kernel_rfl) ?_
                  cases h5 : (decide (r7 < 0))
                  · have H := bifF h5 H
                    refine Tr.cond (b := false) (by kernel_rfl) (fun h => nomatch h) (fun _ => ?_)
                    refine Tr.skip ?_
                    show Tr _ _ _ _ _
                    refine Tr.at ?_
                    refine LAt.runU tOk 3 (by kernel_rfl) ?_
                    refine LAt.doneU [8, 91, 90, 99, 98, 97, 96, 95, 94, 93, 92, 89, 88, 87, 86, 85, 4, 2] [2] (by kernel_rfl) ?_
                    exact Exists.intro (mo5, (IntKind.wrap .i64 (y4 + 1))) (And.intro H (And.intro (Nat.lt_succ_self mo5) (St.sub_of [8, 4, 2] [2] (by kernel_rfl))))
                  · have H := bifT h5 H
                    refine Tr.cond (b := true) (by kernel_rfl) (fun _ => ?_) (fun h => nomatch h)
                    refine Tr.rs ?_
                    refine LAt.runU tOk 1 (by kernel_rfl) ?_
                    refine LAt.doneU [4, 99, 98, 97, 96, 95, 94, 93, 92, 89, 88, 87, 86, 85, 8, 2] [2] (by kernel_rfl) ?_
                    refine Tr.ret ?_
                    have H := Option.some.inj H
                    subst H
                    have H := Ho5
                    dsimp only at H
                    have H := Option.some.inj H
                    subst H
                    exact Fin.of _ [(false, [.lit (.bool false)])] (by kernel_rfl) rfl rfl
          · rintro _ H
            have H : (spec_VtabOk_J2 n) = some r := H
            unfold spec_VtabOk_J2 at H
            show Tr _ _ _ _ _
            refine Tr.rs ?_
            refine LAt.runU tOk 1 (by kernel_rfl) ?_
            refine LAt.doneU [4] [] (by kernel_rfl) ?_
            refine Tr.ret ?_
            have H := Option.some.inj H
            subst H
            exact Fin.of _ [(false, [.lit (.bool true)])] (by kernel_rfl) rfl rfl
      · have H := bifT h3 H
        refine Tr.cond (b := true) (by kernel_rfl) (fun _ => ?_) (fun h => nomatch h)
        refine Tr.rs ?_
        refine LAt.runU tOk 1 (by kernel_rfl) ?_
        refine LAt.doneU [4, 2, 1] [2] (by kernel_rfl) ?_
        refine Tr.ret ?_
        have H := Option.some.inj H
        subst H
        exact Fin.of _ [(false, [.lit (.bool false)])] (by kernel_rfl) rfl rfl
    · have H := bifT h2 H
      refine LAt.runU tOk 5 (by kernel_rfl) ?_
      refine LAt.doneU [24, 4, 2, 1] [2] (by kernel_rfl) ?_
      refine Tr.cond (b := true) (by kernel_rfl) (fun _ => ?_) (fun h => nomatch h)
      refine Tr.rs ?_
      refine LAt.runU tOk 1 (by kernel_rfl) ?_
      refine LAt.doneU [4, 2, 1] [2] (by kernel_rfl) ?_
      refine Tr.ret ?_
      have H := Option.some.inj H
      subst H
      exact Fin.of _ [(false, [.lit (.bool false)])] (by kernel_rfl) rfl rfl
  · have H := bifT h1 H
    refine LAt.runU tOk 12 (by kernel_rfl) ?_
    refine LAt.doneU [24, 4, 2, 1] [2] (by kernel_rfl) ?_
    refine Tr.cond (b := true) (by kernel_rfl) (fun _ => ?_) (fun h => nomatch h)
    refine Tr.rs ?_
    refine LAt.runU tOk 1 (by kernel_rfl) ?_
    refine LAt.doneU [4, 2, 1] [2] (by kernel_rfl) ?_
    refine Tr.ret ?_
    have H := Option.some.inj H
    subst H
    exact Fin.of _ [(false, [.lit (.bool false)])] (by kernel_rfl) rfl rfl

def spec_l9CopyF (n : Nat) (x0 : Vtab) : Option (Vtab) :=
  (bif (decide (([] : List Vrow).length + x0.Rows.length ≤ 268435456)) then (bif (decide (([] : List Int).length + x0.Pvid.length ≤ 268435456)) then (some (⟨(([] : List Vrow) ++ x0.Rows), (([] : List Int) ++ x0.Pvid)⟩ : Vtab)) else none) else none)
/-- loop.example/g00326/spec.l9Copy -/
theorem spec_l9Copy (n : Nat) (x0 : Vtab) (r : Vtab) (H : spec_l9CopyF n x0 = some r) : LCall Try.prog 77 [.val true (CV.frzRow (Vtab.row x0))] [.val true (Vtab.row r)] [] := by
  refine LCall.of_body tOk Try.func77 rfl (c := (.seq (.region 0 (rg Try.f77 0) false) (.seq (.region 1 (rg Try.f77 1) true) .ret))) (by kernel_rfl) (Nat.le_of_ble_eq_true (by kernel_rfl)) 0 (rs := [.cell 2 29]) rfl [] .nil [(true, (Vtab.row r))] [] [] fun cx => ?_
  show Tr _ _ _ ⟨12, 0, [(0, .val true (CV.frzRow (Vtab.row x0)))], []⟩ _
  unfold spec_l9CopyF at H
  refine Tr.rs ?_
  refine LAt.runU tOk 2 (by kernel_rfl) ?_
  refine LAt.doneU [2, 1] [2, 1] (by kernel_rfl) ?_
  obtain ⟨hg1, H⟩ := guard_some H
  obtain ⟨hg2, H⟩ := guard_some H
  refine Tr.draws mixed 10 (by kernel_rfl) ⟨12, 0, [(2, .adr (.box 2) [(0, 0)] 2 0)], [(2, [.sl true 3 ((([] : List Vrow) ++ x0.Rows).map Vrow.row), .sl true 1 ((([] : List Int) ++ x0.Pvid).map intRow)])]⟩ (fun cx => ?_) ?_
  · refine AT.runU tOk [(1, []), (2, [3, 7, 8, 9]), (5, []), (6, [7, 8, 9])] 6 [⟨[7, 8, 9], 23, 8, 9⟩, ⟨[3, 7, 8, 9], 27, 4, 5⟩] [6, 5, 2, 1] rfl (by kernel_rfl) (fun cx => ?_)
    refine AT.big2 tOk 0 4 (by kernel_rfl) (And.intro (by kernel_rfl) ?_) (And.intro (by kernel_rfl) ?_)
    · refine LAt.runU tOk 1 (by kernel_rfl) ?_
      refine LAt.fin (by kernel_rfl) (And.intro (And.intro (by kernel_rfl) (by kernel_rfl)) ?_)
      refine AT.big2 tOk 3 4 (by kernel_rfl) (And.intro (by kernel_rfl) ?_) (And.intro (by kernel_rfl) ?_)
      · refine LAt.appCU tOk (t := 27) (ty := 27) (e := 56) (x := (.tmp 3)) (y := (.tmp 5)) (d := 6) (g := none) ⟨.st [(0, 1, 3), (1, 1, 3), (2, 1, 3)], 3, 24, [.lit (.int .i64 0), .lit (.int .i64 0), .lit (.int .i64 0)]⟩ Vrow.row ([] : List Vrow) x0.Rows ⟨(.box 1), [(0, 0)], 0, false, 3, (CV.frzEs (x0.Rows.map Vrow.row))⟩ (by kernel_rfl) (by kernel_rfl) (by kernel_rfl) (by kernel_rfl) (by kernel_rfl) (by kernel_rfl) (by kernel_rfl) (by kernel_rfl) (by kernel_rfl) (by kernel_rfl) (by kernel_rfl) (.inr rfl) (fun _ => rfl) (fun _ => rfl) hg1 ?_
        refine LAt.fin (by kernel_rfl) (And.intro (And.intro (by kernel_rfl) (by kernel_rfl)) ?_)
        refine AT.big1 tOk 4 (by kernel_rfl) (by kernel_rfl) ?_
        refine LAt.runU tOk 1 (by kernel_rfl) ?_
        refine LAt.fin (by kernel_rfl) (And.intro (And.intro (by kernel_rfl) (by kernel_rfl)) ?_)
        refine AT.big1 tOk 7 (by kernel_rfl) (by kernel_rfl) ?_
        refine LAt.appCU tOk (t := 23) (ty := 23) (e := 3) (x := (.tmp 7)) (y := (.tmp 9)) (d := 10) (g := none) ⟨.int .i64, 1, 8, [.lit (.int .i64 0)]⟩ intRow ([] : List Int) x0.Pvid ⟨(.box 1), [(0, 0)], 1, false, 1, (CV.frzEs (x0.Pvid.map intRow))⟩ (by kernel_rfl) (by kernel_rfl) (by kernel_rfl) (by kernel_rfl) (by kernel_rfl) (by kernel_rfl) (by kernel_rfl) (by kernel_rfl) (by kernel_rfl) (by kernel_rfl) (by kernel_rfl) (.inr rfl) (fun _ => rfl) (fun _ => rfl) hg2 ?_
        refine LAt.fin (by kernel_rfl) (And.intro (And.intro (by kernel_rfl) (by kernel_rfl)) ?_)
        refine AT.big1 tOk 8 (by kernel_rfl) (by kernel_rfl) ?_
        refine LAt.runU tOk 1 (by kernel_rfl) ?_
        refine LAt.fin (by kernel_rfl) (And.intro (And.intro (by kernel_rfl) (by kernel_rfl)) ?_)
        refine AT.big1 tOk 9 (by kernel_rfl) (by kernel_rfl) ?_
        refine LAt.runU tOk 1 (by kernel_rfl) ?_
        refine LAt.fin (by kernel_rfl) (And.intro (And.intro (by kernel_rfl) (by kernel_rfl)) ?_)
        exact AT.done [2] [2] _ (by kernel_rfl) (by kernel_rfl) rfl
      · refine LAt.runU tOk 1 (by kernel_rfl) ?_
        refine LAt.fin (by kernel_rfl) (And.intro (And.intro (by kernel_rfl) (by kernel_rfl)) ?_)
        refine AT.big1 tOk 3 (by kernel_rfl) (by kernel_rfl) ?_
        refine LAt.appCU tOk (t := 27) (ty := 27) (e := 56) (x := (.tmp 3)) (y := (.tmp 5)) (d := 6) (g := none) ⟨.st [(0, 1, 3), (1, 1, 3), (2, 1, 3)], 3, 24, [.lit (.int .i64 0), .lit (.int .i64 0), .lit (.int .i64 0)]⟩ Vrow.row ([] : List Vrow) x0.Rows ⟨(.box 1), [(0, 0)], 0, false, 3, (CV.frzEs (x0.Rows.map Vrow.row))⟩ (by kernel_rfl) (by kernel_rfl) (by kernel_rfl) (by kernel_rfl) (by kernel_rfl) (by kernel_rfl) (by kernel_rfl) (by kernel_rfl) (by kernel_rfl) (by kernel_rfl) (by kernel_rfl) (.inr rfl) (fun _ => rfl) (fun _ => rfl) hg1 ?_
        refine LAt.fin (by kernel_rfl) (And.intro (And.intro (by kernel_rfl) (by kernel_rfl)) ?_)
        refine AT.big1 tOk 7 (by kernel_rfl) (by kernel_rfl) ?_
        refine LAt.appCU tOk (t := 23) (ty := 23) (e := 3) (x := (.tmp 7)) (y := (.tmp 9)) (d := 10) (g := none) ⟨.int .i64, 1, 8, [.lit (.int .i64 0)]⟩ intRow ([] : List Int) x0.Pvid ⟨(.box 1), [(0, 0)], 1, false, 1, (CV.frzEs (x0.Pvid.map intRow))⟩ (by kernel_rfl) (by kernel_rfl) (by kernel_rfl) (by kernel_rfl) (by kernel_rfl) (by kernel_rfl) (by kernel_rfl) (by kernel_rfl) (by kernel_rfl) (by kernel_rfl) (by kernel_rfl) (.inr rfl) (fun _ => rfl) (fun _ => rfl) hg2 ?_
        refine LAt.fin (by kernel_rfl) (And.intro (And.intro (by kernel_rfl) (by kernel_rfl)) ?_)
        refine AT.big1 tOk 8 (by kernel_rfl) (by kernel_rfl) ?_
        refine LAt.runU tOk 1 (by kernel_rfl) ?_
        refine LAt.fin (by kernel_rfl) (And.intro (And.intro (by kernel_rfl) (by kernel_rfl)) ?_)
        refine AT.big1 tOk 9 (by kernel_rfl) (by kernel_rfl) ?_
        refine LAt.runU tOk 1 (by kernel_rfl) ?_
        refine LAt.fin (by kernel_rfl) (And.intro (And.intro (by kernel_rfl) (by kernel_rfl)) ?_)
        exact AT.done [2] [2] _ (by kernel_rfl) (by kernel_rfl) rfl
    · refine LAt.runU tOk 1 (by kernel_rfl) ?_
      refine LAt.fin (by kernel_rfl) (And.intro (And.intro (by kernel_rfl) (by kernel_rfl)) ?_)
      refine AT.big1 tOk 0 (by kernel_rfl) (by kernel_rfl) ?_
      refine LAt.runU tOk 1 (by kernel_rfl) ?_
      refine LAt.fin (by kernel_rfl) (And.intro (And.intro (by kernel_rfl) (by kernel_rfl)) ?_)
      refine AT.big1 tOk 3 (by kernel_rfl) (by kernel_rfl) ?_
      refine LAt.appCU tOk (t := 27) (ty := 27) (e := 56) (x := (.tmp 3)) (y := (.tmp 5)) (d := 6) (g := none) ⟨.st [(0, 1, 3), (1, 1, 3), (2, 1, 3)], 3, 24, [.lit (.int .i64 0), .lit (.int .i64 0), .lit (.int .i64 0)]⟩ Vrow.row ([] : List Vrow) x0.Rows ⟨(.box 1), [(0, 0)], 0, false, 3, (CV.frzEs (x0.Rows.map Vrow.row))⟩ (by kernel_rfl) (by kernel_rfl) (by kernel_rfl) (by kernel_rfl) (by kernel_rfl) (by kernel_rfl) (by kernel_rfl) (by kernel_rfl) (by kernel_rfl) (by kernel_rfl) (by kernel_rfl) (.inr rfl) (fun _ => rfl) (fun _ => rfl) hg1 ?_
      refine LAt.fin (by kernel_rfl) (And.intro (And.intro (by kernel_rfl) (by kernel_rfl)) ?_)
      refine AT.big1 tOk 7 (by kernel_rfl) (by kernel_rfl) ?_
      refine LAt.appCU tOk (t := 23) (ty := 23) (e := 3) (x := (.tmp 7)) (y := (.tmp 9)) (d := 10) (g := none) ⟨.int .i64, 1, 8, [.lit (.int .i64 0)]⟩ intRow ([] : List Int) x0.Pvid ⟨(.box 1), [(0, 0)], 1, false, 1, (CV.frzEs (x0.Pvid.map intRow))⟩ (by kernel_rfl) (by kernel_rfl) (by kernel_rfl) (by kernel_rfl) (by kernel_rfl) (by kernel_rfl) (by kernel_rfl) (by kernel_rfl) (by kernel_rfl) (by kernel_rfl) (by kernel_rfl) (.inr rfl) (fun _ => rfl) (fun _ => rfl) hg2 ?_
      refine LAt.fin (by kernel_rfl) (And.intro (And.intro (by kernel_rfl) (by kernel_rfl)) ?_)
      refine AT.big1 tOk 8 (by kernel_rfl) (by kernel_rfl) ?_
      refine LAt.runU tOk 1 (by kernel_rfl) ?_
      refine LAt.fin (by kernel_rfl) (And.intro (And.intro (by kernel_rfl) (by kernel_rfl)) ?_)
      refine AT.big1 tOk 9 (by kernel_rfl) (by kernel_rfl) ?_
      refine LAt.runU tOk 1 (by kernel_rfl) ?_
      refine LAt.fin (by kernel_rfl) (And.intro (And.intro (by kernel_rfl) (by kernel_rfl)) ?_)
      exact AT.done [2] [2] _ (by kernel_rfl) (by kernel_rfl) rfl
  · refine Tr.ret ?_
    have H := Option.some.inj H
    subst H
    exact Fin.of _ [(true, [.sl true 3 ((([] : List Vrow) ++ x0.Rows).map Vrow.row), .sl true 1 ((([] : List Int) ++ x0.Pvid).map intRow)])] (by kernel_rfl) rfl rfl

def spec_l9Row_J1 (n : Nat) (x0 : Vtab) (x1 : Vrow) (y5 : Bool) (y6 : (List Vrow)) : Option (Vtab) :=
  (bif (!y5) then (bif (decide (y6.length + [x1].length ≤ 268435456)) then (some (⟨(y6 ++ [x1]), (([] : List Int) ++ x0.Pvid)⟩ : Vtab)) else none) else (some (⟨y6, (([] : List Int) ++ x0.Pvid)⟩ : Vtab)))
def spec_l9Row_J3 (n : Nat) (k : (Int × Bool × (List Vrow) → Option ((Bool × (List Vrow)) ⊕ (Vtab)))) (x0 : Vtab) (x1 : Vrow) (y2 : Int) (y9 : Bool) (y10 : Bool) (y11 : Bool) (y12 : Bool) (y13 : (List Vrow)) : Option ((Bool × (List Vrow)) ⊕ (Vtab)) :=
  ((idx x0.Rows y2).bind fun v14 => (bif (v14.Id != x1.Id) then ((idx x0.Rows y2).bind fun v15 => (bif (decide (y13.length + [v15].length ≤ 268435456)) then (k ((IntKind.wrap .i64 (y2 + 1)), y12, (y13 ++ [v15]))) else none)) else (k ((IntKind.wrap .i64 (y2 + 1)), y12, y13))))
def spec_l9Row_L2 (n : Nat) : Nat → Vtab → Vrow → Int → Bool → (List Vrow) → Option ((Bool × (List Vrow)) ⊕ (Vtab))
  | 0, _, _, _, _, _ => none
  | mo8 + 1, x0, x1, y2, y3, y4 => (bif (decide (y2 < (x0.Rows.length : Int))) then (bif (!y3) then ((idx x0.Rows y2).bind fun v17 => (bif (decide (v17.Id ≥ x1.Id)) then (bif (decide (y4.length + [x1].length ≤ 268435456)) then (spec_l9Row_J3 n (fun v => spec_l9Row_L2 n mo8 x0 x1 v.1 v.2.1 v.2.2) x0 x1 y2 true true true true (y4 ++ [x1])) else none) else (spec_l9Row_J3 n (fun v => spec_l9Row_L2 n mo8 x0 x1 v.1 v.2.1 v.2.2) x0 x1 y2 false true true y3 y4))) else (spec_l9Row_J3 n (fun v => spec_l9Row_L2 n mo8 x0 x1 v.1 v.2.1 v.2.2) x0 x1 y2 false false false y3 y4)) else (some (Sum.inl (y3, y4))))
def spec_l9RowF (n : Nat) (x0 : Vtab) (x1 : Vrow) : Option (Vtab) :=
  (bif (decide (([] : List Int).length + x0.Pvid.length ≤ 268435456)) then ((spec_l9Row_L2 n n x0 x1 0 false ([] : List Vrow)).bind fun o => match o with | .inl (y5, y6) => (spec_l9Row_J1 n x0 x1 y5 y6) | .inr r => some r) else none)
/-- loop.example/g00326/spec.l9Row -/
theorem spec_l9Row (n : Nat) (x0 : Vtab) (x1 : Vrow) (r : Vtab) (H : spec_l9RowF n x0 x1 = some r) : LCall Try.prog 108 [.val true (CV.frzRow (Vtab.row x0)), .val true (CV.frzRow (Vrow.row x1))] [.val true (Vtab.row r)] [] := by
  refine LCall.of_body tOk Try.func108 rfl (c := (.seq (.region 0 (rg Try.f108 0) false) (.seq (.region 1 (rg Try.f108 1) false) (.seq (.region 2 (rg Try.f108 2) false) (.seq (.seq (.region 3 (rg Try.f108 3) false) (.block 0 (.loop (.seq (.seq (.region 4 (rg Try.f108 4) false) (.cond (.tmp 17) .skip (.exit 0))) (.seq (.block 1 (.seq (.seq (.region 6 (rg Try.f108 6) true) (.cond (.tmp 32) (.seq (.region 7 (rg Try.f108 7) false) (.region 8 (rg Try.f108 8) false)) .skip)) (.seq (.region 9 (rg Try.f108 9) true) (.cond (.tmp 47) (.region 10 (rg Try.f108 10) true) .skip)))) (.region 5 (rg Try.f108 5) false)))))) (.seq (.seq (.region 11 (rg Try.f108 11) false) (.cond (.tmp 59) (.region 12 (rg Try.f108 12) false) .skip)) (.seq (.region 13 (rg Try.f108 13) false) .ret))))))) (by kernel_rfl) (Nat.le_of_ble_eq_true (by kernel_rfl)) 0 (rs := [.cell 4 29]) rfl [] .nil [(true, (Vtab.row r))] [] [] fun cx => ?_
  show Tr _ _ _ ⟨67, 0, [(0, .val true (CV.frzRow (Vtab.row x0))), (1, .val true (Vrow.row x1))], []⟩ _
  unfold spec_l9RowF at H
  refine Tr.rs ?_
  refine LAt.runU tOk 3 (by kernel_rfl) ?_
  refine LAt.doneU [4, 3, 2] [4, 3, 2] (by kernel_rfl) ?_
  refine Tr.rs ?_
  refine LAt.runU tOk 3 (by kernel_rfl) ?_
  obtain ⟨hg1, H⟩ := guard_some H
  refine LAt.appCU tOk (t := 23) (ty := 23) (e := 3) (x := (.tmp 8)) (y := (.tmp 10)) (d := 11) (g := none) ⟨.int .i64, 1, 8, [.lit (.int .i64 0)]⟩ intRow ([] : List Int) x0.Pvid ⟨(.slot 10), [], 0, false, 1, (CV.frzEs (x0.Pvid.map intRow))⟩ (by kernel_rfl) (by kernel_rfl) (by kernel_rfl) (by kernel_rfl) (by kernel_rfl) (by kernel_rfl) (by kernel_rfl) (by kernel_rfl) (by kernel_rfl) (by kernel_rfl) (by kernel_rfl) (.inr rfl) (fun _ => rfl) (fun _ => rfl) hg1 ?_
  refine LAt.runU tOk 3 (by kernel_rfl) ?_
  refine LAt.doneU [5, 4, 3, 2] [5, 4, 3, 2] (by kernel_rfl) ?_
  refine Tr.rs ?_
  refine LAt.runU tOk 1 (by kernel_rfl) ?_
  refine LAt.doneU [6, 5, 4, 3, 2] [5, 4, 3, 2] (by kernel_rfl) ?_
  refine Tr.seq ?_
  refine Tr.rs ?_
  refine LAt.runU tOk 1 (by kernel_rfl) ?_
  refine LAt.doneU [7, 6, 5, 4, 3, 2] [5, 4, 3, 2] (by kernel_rfl) ?_
  obtain ⟨o8, eo8, Ho8⟩ := bind_some H
  clear H
  refine Tr.mid (ι := Bool × (List Vrow)) (fun v => ⟨67, 0, [(6, .val false [.lit (.bool v.1)]), (5, .adr (.box 5) [(0, 0)] 2 0), (4, .adr (.box 4) [(0, 0)] 2 0), (3, .adr (.box 3) [(0, 0)] 3 0)], [(5, [.sl true 3 (v.2.map Vrow.row), .sl true 1 ((([] : List Int) ++ x0.Pvid).map intRow)]), (4, [.sl true 3 (([] : List Vrow).map Vrow.row), .sl true 1 (([] : List Int).map intRow)]), (3, (Vrow.row x1))]⟩) (fun v => spec_l9Row_J1 n x0 x1 v.1 v.2 = some r) ?_ ?_
  · refine Tr.block ?_
    refine Tr.loop (ι := Nat × (Int × Bool × (List Vrow))) (fun v => ⟨67, 0, [(7, .val false [.lit (.int .i64 v.2.1)]), (6, .val false [.lit (.bool v.2.2.1)]), (5, .adr (.box 5) [(0, 0)] 2 0), (4, .adr (.box 4) [(0, 0)] 2 0), (3, .adr (.box 3) [(0, 0)] 3 0), (2, .adr (.box 2) [(0, 0)] 2 0)], [(5, [.sl true 3 (v.2.2.2.map Vrow.row), .sl true 1 ((([] : List Int) ++ x0.Pvid).map intRow)]), (4, [.sl true 3 (([] : List Vrow).map Vrow.row), .sl true 1 (([] : List Int).map intRow)]), (3, (Vrow.row x1)), (2, (CV.frzRow (Vtab.row x0)))]⟩) (fun v => spec_l9Row_L2 n v.1 x0 x1 v.2.1 v.2.2.1 v.2.2.2 = some o8) (fun v => v.1) (n, (0, false, ([] : List Vrow))) eo8 (St.sub_of [7, 6, 5, 4, 3, 2] [5, 4, 3, 2] (by kernel_rfl)) ?_
    rintro ⟨mo8, y2, y3, y4⟩ H
    have H : spec_l9Row_L2 n mo8 x0 x1 y2 y3 y4 = some o8 := H
    obtain _ | mo8 := mo8
    · cases (show (none : Option _) = some o8 from H)
    · rw [spec_l9Row_L2] at H
      refine Tr.seq ?_
      refine Tr.rs ?_
      refine LAt.runU tOk 3 (by kernel_rfl) ?_
      refine LAt.lenE tOk (t := 27) (ty := 3) (e := 56) (x := (.tmp 15)) (d := 16) (g := none) ⟨(.slot 15), [], 0, false, 3, (CV.frzEs (x0.Rows.map Vrow.row))⟩ (x0.Rows).length _ (by kernel_rfl) (by kernel_rfl) (by kernel_rfl) (by kernel_rfl) (by kernel_rfl) (frz_len _ _) rfl ?_
      refine LAt.runU tOk 1 (by kernel_rfl) ?_
      refine LAt.doneU [17, 16, 15, 14, 13, 7, 6, 5, 4, 3, 2] [5, 4, 3, 2] (by kernel_rfl) ?_
      refine Tr.to ⟨67, 0, [(17, .val false [.lit (.bool (decide (y2 < (x0.Rows.length : Int))))]), (16, .val false [.lit (.int .i64 (x0.Rows.length : Int))]), (15, .val false [.sl false 3 (CV.frzEs (x0.Rows.map Vrow.row))]), (14, .adr (.box 2) [(0, 0)] 2 0), (13, .val false [.lit (.int .i64 y2)]), (7, .val false [.lit (.int .i64 y2)]), (6, .val false [.lit (.bool y3)]), (5, .adr (.box 5) [(0, 0)] 2 0), (4, .adr (.box 4) [(0, 0)] 2 0), (3, .adr (.box 3) [(0, 0)] 3 0), (2, .adr (.box 2) [(0, 0)] 2 0)], [(5, [.sl true 3 (y4.map Vrow.row), .sl true 1 ((([] : List Int) ++ x0.Pvid).map intRow)]), (4, [.sl true 3 (([] : List Vrow).map Vrow.row), .sl true 1 (([] : List Int).map intRow)]), (3, (Vrow.row x1)), (2, (CV.frzRow (Vtab.row x0)))]⟩ (by kernel_rfl) ?_
      cases h2 : (decide (y2 < (x0.Rows.length : Int)))
      · have H := bifF h2 H
        refine Tr.cond (b := false) (by kernel_rfl) (fun h => nomatch h) (fun _ => ?_)
        refine Tr.exit ?_
        refine And.intro (fun _ => ?_) (fun h => absurd rfl h)
        have H := Option.some.inj H
        subst H
        have H := Ho8
        dsimp only at H
        exact Exists.intro (y3, y4) (And.intro H (St.sub_of [6, 5, 4, 3] [5, 4, 3] (by kernel_rfl)))
      · have H := bifT h2 H
        refine Tr.cond (b := true) (by kernel_rfl) (fun _ => ?_) (fun h => nomatch h)
        refine Tr.skip ?_
        show Tr _ _ _ _ _
        refine Tr.seq ?_
        refine Tr.block ?_
        refine Tr.seq ?_
        refine Tr.mid (ι := Bool × Bool × Bool × Bool × (List Vrow)) (fun v => ⟨67, 0, [(32, .val false [.lit (.bool v.1)]), (22, .val false [.lit (.bool v.2.1)]), (21, .val false [.lit (.bool v.2.2.1)]), (20, .val false [.lit (.bool y3)]), (17, .val false [.lit (.bool true)]), (16, .val false [.lit (.int .i64 (x0.Rows.length : Int))]), (15, .val false [.sl false 3 (CV.frzEs (x0.Rows.map Vrow.row))]), (14, .adr (.box 2) [(0, 0)] 2 0), (13, .val false [.lit (.int .i64 y2)]), (7, .val false [.lit (.int .i64 y2)]), (6, .val false [.lit (.bool v.2.2.2.1)]), (5, .adr (.box 5) [(0, 0)] 2 0), (4, .adr (.box 4) [(0, 0)] 2 0), (3, .adr (.box 3) [(0, 0)] 3 0), (2, .adr (.box 2) [(0, 0)] 2 0)], [(5, [.sl true 3 (v.2.2.2.2.map Vrow.row), .sl true 1 ((([] : List Int) ++ x0.Pvid).map intRow)]), (4, [.sl true 3 (([] : List Vrow).map Vrow.row), .sl true 1 (([] : List Int).map intRow)]), (3, (Vrow.row x1)), (2, (CV.frzRow (Vtab.row x0)))]⟩) (fun v => spec_l9Row_J3 n (fun v => spec_l9Row_L2 n mo8 x0 x1 v.1 v.2.1 v.2.2) x0 x1 y2 v.1 v.2.1 v.2.2.1 v.2.2.2.1 v.2.2.2.2 = some o8) ?_ ?_
        · refine Tr.seq ?_
          refine Tr.to ⟨67, 0, [(17, .val false [.lit (.bool true)]), (16, .val false [.lit (.int .i64 (x0.Rows.length : Int))]), (15, .val false [.sl false 3 (CV.frzEs (x0.Rows.map Vrow.row))]), (14, .adr (.box 2) [(0, 0)] 2 0), (13, .val false [.lit (.int .i64 y2)]), (7, .val false [.lit (.int .i64 y2)]), (6, .val false [.lit (.bool y3)]), (5, .adr (.box 5) [(0, 0)] 2 0), (4, .adr (.box 4) [(0, 0)] 2 0), (3, .adr (.box 3) [(0, 0)] 3 0), (2, .adr (.box 2) [(0, 0)] 2 0)], [(5, [.sl true 3 (y4.map Vrow.row), .sl true 1 ((([] : List Int) ++ x0.Pvid).map intRow)]), (4, [.sl true 3 (([] : List Vrow).map Vrow.row), .sl true 1 (([] : List Int).map intRow)]), (3, (Vrow.row x1)), (2, (CV.frzRow (Vtab.row x0)))]⟩ (by kernel_rfl) ?_
          cases h4 : (!y3)
          · have H := bifF h4 H
            refine Tr.draw mixed 13 (by kernel_rfl) ⟨67, 0, [(32, .val false [.lit (.bool false)]), (31, .tup []), (30, .tup []), (29, .tup []), (28, .tup []), (27, .tup []), (26, .tup []), (25, .tup []), (24, .tup []), (23, .tup []), (22, .val false [.lit (.bool false)]), (21, .val false [.lit (.bool false)]), (20, .val false [.lit (.bool y3)]), (17, .val false [.lit (.bool true)]), (16, .val false [.lit (.int .i64 (x0.Rows.length : Int))]), (15, .val false [.sl false 3 (CV.frzEs (x0.Rows.map Vrow.row))]), (14, .adr (.box 2) [(0, 0)] 2 0), (13, .val false [.lit (.int .i64 y2)]), (7, .val false [.lit (.int .i64 y2)]), (6, .val false [.lit (.bool y3)]), (5, .adr (.box 5) [(0, 0)] 2 0), (4, .adr (.box 4) [(0, 0)] 2 0), (3, .adr (.box 3) [(0, 0)] 3 0), (2, .adr (.box 2) [(0, 0)] 2 0)], [(5, [.sl true 3 (y4.map Vrow.row), .sl true 1 ((([] : List Int) ++ x0.Pvid).map intRow)]), (4, [.sl true 3 (([] : List Vrow).map Vrow.row), .sl true 1 (([] : List Int).map intRow)]), (3, (Vrow.row x1)), (2, (CV.frzRow (Vtab.row x0)))]⟩ (fun cx => ?_) ?_
            · refine AT.runU tOk [(0, []), (1, []), (2, [])] 10 [] [2, 1, 0] rfl (by kernel_rfl) (fun cx => ?_)
              refine AT.to ⟨67, 0, [(22, .val false [.lit (.bool (!y3))]), (21, .val false [.lit (.bool (!y3))]), (20, .val false [.lit (.bool y3)]), (17, .val false [.lit (.bool true)]), (16, .val false [.lit (.int .i64 (x0.Rows.length : Int))]), (15, .val false [.sl false 3 (CV.frzEs (x0.Rows.map Vrow.row))]), (14, .adr (.box 2) [(0, 0)] 2 0), (13, .val false [.lit (.int .i64 y2)]), (7, .val false [.lit (.int .i64 y2)]), (6, .val false [.lit (.bool y3)]), (5, .adr (.box 5) [(0, 0)] 2 0), (4, .adr (.box 4) [(0, 0)] 2 0), (3, .adr (.box 3) [(0, 0)] 3 0), (2, .adr (.box 2) [(0, 0)] 2 0)], [(5, [.sl true 3 (y4.map Vrow.row), .sl true 1 ((([] : List Int) ++ x0.Pvid).map intRow)]), (4, [.sl true 3 (([] : List Vrow).map Vrow.row), .sl true 1 (([] : List Int).map intRow)]), (3, (Vrow.row x1)), (2, (CV.frzRow (Vtab.row x0)))]⟩ (by kernel_rfl) ?_
              rw [h4]
              refine AT.runU tOk [(3, []), (4, []), (5, []), (6, []), (7, []), (8, []), (9, []), (10, []), (11, []), (12, [])] 0 [] [12, 11, 10, 9, 8, 7, 6, 5, 4, 3, 2, 1, 0] rfl (by kernel_rfl) (fun cx => ?_)
              exact AT.done [32, 31, 30, 29, 28, 27, 26, 25, 24, 23, 22, 21, 20, 17, 16, 15, 14, 13, 7, 6, 5, 4, 3, 2] [5, 4, 3, 2] _ (by kernel_rfl) (by kernel_rfl) rfl
            · show Tr _ _ _ _ _
              refine Tr.cond (b := false) (by kernel_rfl) (fun h => nomatch h) (fun _ => ?_)
              refine Tr.skip ?_
              exact Exists.intro (false, false, false, y3, y4) (And.intro H (St.sub_of [32, 22, 21, 20, 17, 16, 15, 14, 13, 7, 6, 5, 4, 3, 2] [5, 4, 3, 2] (by kernel_rfl)))
          · have H := bifT h4 H
            obtain ⟨v17, ev17, H⟩ := bind_some H
            refine Tr.draw mixed 13 (by kernel_rfl) ⟨67, 0, [(32, .val false [.lit (.bool (decide (v17.Id ≥ x1.Id)))]), (31, .val false [.lit (.bool (decide (v17.Id ≥ x1.Id)))]), (30, .val false [.lit (.int .i64 x1.Id)]), (29, .adr (.box 3) [(0, 0)] 3 0), (28, .val false [.lit (.int .i64 v17.Id)]), (27, .fad ((Vrow.row v17))), (26, .fad ((Vrow.row v17))), (25, .val false [.lit (.int .i64 y2)]), (24, .ref (.box 2) [(0, 0)] 2 0 1 false), (23, .adr (.box 2) [(0, 0)] 2 0), (22, .val false [.lit (.bool true)]), (21, .val false [.lit (.bool true)]), (20, .val false [.lit (.bool y3)]), (17, .val false [.lit (.bool true)]), (16, .val false [.lit (.int .i64 (x0.Rows.length : Int))]), (15, .val false [.sl false 3 (CV.frzEs (x0.Rows.map Vrow.row))]), (14, .adr (.box 2) [(0, 0)] 2 0), (13, .val false [.lit (.int .i64 y2)]), (7, .val false [.lit (.int .i64 y2)]), (6, .val false [.lit (.bool y3)]), (5, .adr (.box 5) [(0, 0)] 2 0), (4, .adr (.box 4) [(0, 0)] 2 0), (3, .adr (.box 3) [(0, 0)] 3 0), (2, .adr (.box 2) [(0, 0)] 2 0)], [(5, [.sl true 3 (y4.map Vrow.row), .sl true 1 ((([] : List Int) ++ x0.Pvid).map intRow)]), (4, [.sl true 3 (([] : List Vrow).map Vrow.row), .sl true 1 (([] : List Int).map intRow)]), (3, (Vrow.row x1)), (2, (CV.frzRow (Vtab.row x0)))]⟩ (fun cx => ?_) ?_
            · refine AT.runU tOk [(0, []), (1, []), (2, [])] 10 [] [2, 1, 0] rfl (by kernel_rfl) (fun cx => ?_)
              refine AT.to ⟨67, 0, [(22, .val false [.lit (.bool (!y3))]), (21, .val false [.lit (.bool (!y3))]), (20, .val false [.lit (.bool y3)]), (17, .val false [.lit (.bool true)]), (16, .val false [.lit (.int .i64 (x0.Rows.length : Int))]), (15, .val false [.sl false 3 (CV.frzEs (x0.Rows.map Vrow.row))]), (14, .adr (.box 2) [(0, 0)] 2 0), (13, .val false [.lit (.int .i64 y2)]), (7, .val false [.lit (.int .i64 y2)]), (6, .val false [.lit (.bool y3)]), (5, .adr (.box 5) [(0, 0)] 2 0), (4, .adr (.box 4) [(0, 0)] 2 0), (3, .adr (.box 3) [(0, 0)] 3 0), (2, .adr (.box 2) [(0, 0)] 2 0)], [(5, [.sl true 3 (y4.map Vrow.row), .sl true 1 ((([] : List Int) ++ x0.Pvid).map intRow)]), (4, [.sl true 3 (([] : List Vrow).map Vrow.row), .sl true 1 (([] : List Int).map intRow)]), (3, (Vrow.row x1)), (2, (CV.frzRow (Vtab.row x0)))]⟩ (by kernel_rfl) ?_
              rw [h4]
              refine AT.runU tOk [(3, []), (4, []), (5, [])] 7 [⟨[], 27, 23, 24⟩] [5, 4, 3, 2, 1, 0] rfl (by kernel_rfl) (fun cx => ?_)
              refine AT.indexF tOk 6 (t := 27) (ty := 0) (x := (.tmp 24)) (y := (.tmp 25)) (d := 26) (g := (some (2, true))) ⟨(.box 2), [(0, 0)], 0, false, 3, (CV.frzEs (x0.Rows.map Vrow.row))⟩ y2 (Vrow.row v17) _ (by kernel_rfl) (by kernel_rfl) (by kernel_rfl) (by kernel_rfl) (by kernel_rfl) (by kernel_rfl) rfl (idx_isF ev17) rfl (fun cx => ?_)
              refine AT.runU tOk [(7, []), (8, []), (9, []), (10, []), (11, []), (12, [])] 0 [⟨[], 3, 29, 30⟩, ⟨[], 27, 23, 24⟩] [12, 11, 10, 9, 8, 7, 6, 5, 4, 3, 2, 1, 0] rfl (by kernel_rfl) (fun cx => ?_)
              exact AT.done [32, 31, 30, 29, 28, 27, 26, 25, 24, 23, 22, 21, 20, 17, 16, 15, 14, 13, 7, 6, 5, 4, 3, 2] [5, 4, 3, 2] _ (by kernel_rfl) (by kernel_rfl) rfl
            · show Tr _ _ _ _ _
              refine Tr.to ⟨67, 0, [(32, .val false [.lit (.bool (decide (v17.Id ≥ x1.Id)))]), (31, .val false [.lit (.bool (decide (v17.Id ≥ x1.Id)))]), (30, .val false [.lit (.int .i64 x1.Id)]), (29, .adr (.box 3) [(0, 0)] 3 0), (28, .val false [.lit (.int .i64 v17.Id)]), (27, .fad ((Vrow.row v17))), (26, .fad ((Vrow.row v17))), (25, .val false [.lit (.int .i64 y2)]), (24, .ref (.box 2) [(0, 0)] 2 0 1 false), (23, .adr (.box 2) [(0, 0)] 2 0), (22, .val false [.lit (.bool true)]), (21, .val false [.lit (.bool true)]), (20, .val false [.lit (.bool y3)]), (17, .val false [.lit (.bool true)]), (16, .val false [.lit (.int .i64 (x0.Rows.length : Int))]), (15, .val false [.sl false 3 (CV.frzEs (x0.Rows.map Vrow.row))]), (14, .adr (.box 2) [(0, 0)] 2 0), (13, .val false [.lit (.int .i64 y2)]), (7, .val false [.lit (.int .i64 y2)]), (6, .val false [.lit (.bool y3)]), (5, .adr (.box 5) [(0, 0)] 2 0), (4, .adr (.box 4) [(0, 0)] 2 0), (3, .adr (.box 3) [(0, 0)] 3 0), (2, .adr (.box 2) [(0, 0)] 2 0)], [(5, [.sl true 3 (y4.map Vrow.row), .sl true 1 ((([] : List Int) ++ x0.Pvid).map intRow)]), (4, [.sl true 3 (([] : List Vrow).map Vrow.row), .sl true 1 (([] : List Int).map intRow)]), (3, (Vrow.row x1)), (2, (CV.frzRow (Vtab.row x0)))]⟩ (by kernel_rfl) ?_
              cases h5 : (decide (v17.Id ≥ x1.Id))
              · have H := bifF h5 H
                refine Tr.cond (b := false) (by kernel_rfl) (fun h => nomatch h) (fun _ => ?_)
                refine Tr.skip ?_
                exact Exists.intro (false, true, true, y3, y4) (And.intro H (St.sub_of [32, 22, 21, 20, 17, 16, 15, 14, 13, 7, 6, 5, 4, 3, 2] [5, 4, 3, 2] (by kernel_rfl)))
              · have H := bifT h5 H
                refine Tr.cond (b := true) (by kernel_rfl) (fun _ => ?_) (fun h => nomatch h)
                refine Tr.rs ?_
                refine LAt.runU tOk 4 (by kernel_rfl) ?_
                obtain ⟨hg18, H⟩ := guard_some H
                refine LAt.appMU tOk (t := 27) (ty := 27) (e := 56) (x := (.tmp 34)) (y := (.tmp 36)) (d := 37) (g := none) ⟨.st [(0, 1, 3), (1, 1, 3), (2, 1, 3)], 3, 24, [.lit (.int .i64 0), .lit (.int .i64 0), .lit (.int .i64 0)]⟩ Vrow.row y4 [x1] (by kernel_rfl) (by kernel_rfl) (by kernel_rfl) (by kernel_rfl) (by kernel_rfl) (by kernel_rfl) (by kernel_rfl) (by kernel_rfl) (by kernel_rfl) (by kernel_rfl) hg18 ?_
                refine LAt.runU tOk 2 (by kernel_rfl) ?_
                refine LAt.doneU [38, 35, 33, 32, 31, 30, 29, 28, 27, 26, 25, 24, 23, 22, 21, 20, 17, 16, 15, 14, 13, 7, 6, 5, 4, 3, 2] [5, 4, 3, 2] (by kernel_rfl) ?_
                refine Tr.at ?_
                refine LAt.runU tOk 1 (by kernel_rfl) ?_
                refine LAt.doneU [6, 38, 35, 33, 32, 31, 30, 29, 28, 27, 26, 25, 24, 23, 22, 21, 20, 17, 16, 15, 14, 13, 7, 5, 4, 3, 2] [5, 4, 3, 2] (by kernel_rfl) ?_
                exact Exists.intro (true, true, true, true, (y4 ++ [x1])) (And.intro H (St.sub_of [32, 22, 21, 20, 17, 16, 15, 14, 13, 7, 6, 5, 4, 3, 2] [5, 4, 3, 2] (by kernel_rfl)))
        · rintro ⟨y9, y10, y11, y12, y13⟩ H
          have H : (spec_l9Row_J3 n (fun v => spec_l9Row_L2 n mo8 x0 x1 v.1 v.2.1 v.2.2) x0 x1 y2 y9 y10 y11 y12 y13) = some o8 := H
          unfold spec_l9Row_J3 at H
          show Tr _ _ _ _ _
          obtain ⟨v14, ev14, H⟩ := bind_some H
          refine Tr.draws mixed 9 (by kernel_rfl) ⟨67, 0, [(47, .val false [.lit (.bool (v14.Id != x1.Id))]), (46, .val false [.lit (.int .i64 x1.Id)]), (45, .adr (.box 3) [(0, 0)] 3 0), (44, .val false [.lit (.int .i64 v14.Id)]), (43, .fad ((Vrow.row v14))), (42, .fad ((Vrow.row v14))), (41, .val false [.lit (.int .i64 y2)]), (40, .ref (.box 2) [(0, 0)] 2 0 1 false), (39, .adr (.box 2) [(0, 0)] 2 0), (32, .val false [.lit (.bool y9)]), (22, .val false [.lit (.bool y10)]), (21, .val false [.lit (.bool y11)]), (20, .val false [.lit (.bool y3)]), (17, .val false [.lit (.bool true)]), (16, .val false [.lit (.int .i64 (x0.Rows.length : Int))]), (15, .val false [.sl false 3 (CV.frzEs (x0.Rows.map Vrow.row))]), (14, .adr (.box 2) [(0, 0)] 2 0), (13, .val false [.lit (.int .i64 y2)]), (7, .val false [.lit (.int .i64 y2)]), (6, .val false [.lit (.bool y12)]), (5, .adr (.box 5) [(0, 0)] 2 0), (4, .adr (.box 4) [(0, 0)] 2 0), (3, .adr (.box 3) [(0, 0)] 3 0), (2, .adr (.box 2) [(0, 0)] 2 0)], [(5, [.sl true 3 (y13.map Vrow.row), .sl true 1 ((([] : List Int) ++ x0.Pvid).map intRow)]), (4, [.sl true 3 (([] : List Vrow).map Vrow.row), .sl true 1 (([] : List Int).map intRow)]), (3, (Vrow.row x1)), (2, (CV.frzRow (Vtab.row x0)))]⟩ (fun cx => ?_) ?_
          · refine AT.runU tOk [(0, []), (1, []), (2, [])] 6 [⟨[], 27, 39, 40⟩] [2, 1, 0] rfl (by kernel_rfl) (fun cx => ?_)
            refine AT.indexF tOk 3 (t := 27) (ty := 0) (x := (.tmp 40)) (y := (.tmp 41)) (d := 42) (g := none) ⟨(.box 2), [(0, 0)], 0, false, 3, (CV.frzEs (x0.Rows.map Vrow.row))⟩ y2 (Vrow.row v14) _ (by kernel_rfl) (by kernel_rfl) (by kernel_rfl) (by kernel_rfl) (by kernel_rfl) (by kernel_rfl) rfl (idx_isF ev14) rfl (fun cx => ?_)
            refine AT.runU tOk [(4, []), (5, []), (6, []), (7, []), (8, [])] 0 [⟨[], 3, 45, 46⟩, ⟨[], 27, 39, 40⟩] [8, 7, 6, 5, 4, 3, 2, 1, 0] rfl (by kernel_rfl) (fun cx => ?_)
            exact AT.done [47, 46, 45, 44, 43, 42, 41, 40, 39, 32, 22, 21, 20, 17, 16, 15, 14, 13, 7, 6, 5, 4, 3, 2] [5, 4, 3, 2] _ (by kernel_rfl) (by kernel_rfl) rfl
          · refine Tr.to ⟨67, 0, [(47, .val false [.lit (.bool (v14.Id != x1.Id))]), (46, .val false [.lit (.int .i64 x1.Id)]), (45, .adr (.box 3) [(0, 0)] 3 0), (44, .val false [.lit (.int .i64 v14.Id)]), (43, .fad ((Vrow.row v14))), (42, .fad ((Vrow.row v14))), (41, .val false [.lit (.int .i64 y2)]), (40, .ref (.box 2) [(0, 0)] 2 0 1 false), (39, .adr (.box 2) [(0, 0)] 2 0), (32, .val false [.lit (.bool y9)]), (22, .val false [.lit (.bool y10)]), (21, .val false [.lit (.bool y11)]), (20, .val false [.lit (.bool y3)]), (17, .val false [.lit (.bool true)]), (16, .val false [.lit (.int .i64 (x0.Rows.length : Int))]), (15, .val false [.sl false 3 (CV.frzEs (x0.Rows.map Vrow.row))]), (14, .adr (.box 2) [(0, 0)] 2 0), (13, .val false [.lit (.int .i64 y2)]), (7, .val false [.lit (.int .i64 y2)]), (6, .val false [.lit (.bool y12)]), (5, .adr (.box 5) [(0, 0)] 2 0), (4, .adr (.box 4) [(0, 0)] 2 0), (3, .adr (.box 3) [(0, 0)] 3 0), (2, .adr (.box 2) [(0, 0)] 2 0)], [(5, [.sl true 3 (y13.map Vrow.row), .sl true 1 ((([] : List Int) ++ x0.Pvid).map intRow)]), (4, [.sl true 3 (([] : List Vrow).map Vrow.row), .sl true 1 (([] : List Int).map intRow)]), (3, (Vrow.row x1)), (2, (CV.frzRow (Vtab.row x0)))]⟩ (by kernel_rfl) ?_
            cases h3 : (v14.Id != x1.Id)
            · have H := bifF h3 H
              refine Tr.cond (b := false) (by kernel_rfl) (fun h => nomatch h) (fun _ => ?_)
              refine Tr.skip ?_
              show Tr _ _ _ _ _
              refine Tr.at ?_
              refine LAt.runU tOk 3 (by kernel_rfl) ?_
              refine LAt.doneU [7, 19, 18, 47, 46, 45, 44, 43, 42, 41, 40, 39, 32, 22, 21, 20, 17, 16, 15, 14, 13, 6, 5, 4, 3, 2] [5, 4, 3, 2] (by kernel_rfl) ?_
              exact Exists.intro (mo8, ((IntKind.wrap .i64 (y2 + 1)), y12, y13)) (And.intro H (And.intro (Nat.lt_succ_self mo8) (St.sub_of [7, 6, 5, 4, 3, 2] [5, 4, 3, 2] (by kernel_rfl))))
            · have H := bifT h3 H
              refine Tr.cond (b := true) (by kernel_rfl) (fun _ => ?_) (fun h => nomatch h)
              obtain ⟨v15, ev15, H⟩ := bind_some H
              obtain ⟨hg16, H⟩ := guard_some H
              refine Tr.draw mixed 11 (by kernel_rfl) ⟨67, 0, [(57, .adr (.box 5) [(0, 0)] 2 0), (54, .val true (Vrow.row v15)), (53, .fad ((Vrow.row v15))), (52, .val false [.lit (.int .i64 y2)]), (51, .ref (.box 2) [(0, 0)] 2 0 1 false), (50, .adr (.box 2) [(0, 0)] 2 0), (48, .adr (.box 5) [(0, 0)] 2 0), (47, .val false [.lit (.bool true)]), (46, .val false [.lit (.int .i64 x1.Id)]), (45, .adr (.box 3) [(0, 0)] 3 0), (44, .val false [.lit (.int .i64 v14.Id)]), (43, .fad ((Vrow.row v14))), (42, .fad ((Vrow.row v14))), (41, .val false [.lit (.int .i64 y2)]), (40, .ref (.box 2) [(0, 0)] 2 0 1 false), (39, .adr (.box 2) [(0, 0)] 2 0), (32, .val false [.lit (.bool y9)]), (22, .val false [.lit (.bool y10)]), (21, .val false [.lit (.bool y11)]), (20, .val false [.lit (.bool y3)]), (17, .val false [.lit (.bool true)]), (16, .val false [.lit (.int .i64 (x0.Rows.length : Int))]), (15, .val false [.sl false 3 (CV.frzEs (x0.Rows.map Vrow.row))]), (14, .adr (.box 2) [(0, 0)] 2 0), (13, .val false [.lit (.int .i64 y2)]), (7, .val false [.lit (.int .i64 y2)]), (6, .val false [.lit (.bool y12)]), (5, .adr (.box 5) [(0, 0)] 2 0), (4, .adr (.box 4) [(0, 0)] 2 0), (3, .adr (.box 3) [(0, 0)] 3 0), (2, .adr (.box 2) [(0, 0)] 2 0)], [(5, [.sl true 3 ((y13 ++ [v15]).map Vrow.row), .sl true 1 ((([] : List Int) ++ x0.Pvid).map intRow)]), (4, [.sl true 3 (([] : List Vrow).map Vrow.row), .sl true 1 (([] : List Int).map intRow)]), (3, (Vrow.row x1)), (2, (CV.frzRow (Vtab.row x0)))]⟩ (fun cx => ?_) ?_
              · refine AT.runU tOk [(0, []), (1, [8, 10]), (2, []), (3, [7, 8, 10]), (4, [])] 6 [⟨[7, 8, 10], 27, 50, 51⟩, ⟨[8, 10], 27, 48, 49⟩] [4, 3, 2, 1, 0] rfl (by kernel_rfl) (fun cx => ?_)
                refine AT.indexF tOk 5 (t := 27) (ty := 0) (x := (.tmp 51)) (y := (.tmp 52)) (d := 53) (g := none) ⟨(.box 2), [(0, 0)], 0, false, 3, (CV.frzEs (x0.Rows.map Vrow.row))⟩ y2 (Vrow.row v15) _ (by kernel_rfl) (by kernel_rfl) (by kernel_rfl) (by kernel_rfl) (by kernel_rfl) (by kernel_rfl) rfl (idx_isF ev15) rfl (fun cx => ?_)
                refine AT.runU tOk [(6, [])] 4 [⟨[7, 8, 10], 27, 50, 51⟩, ⟨[8, 10], 27, 48, 49⟩] [6, 5, 4, 3, 2, 1, 0] rfl (by kernel_rfl) (fun cx => ?_)
                refine AT.big1 tOk 7 (by kernel_rfl) (by kernel_rfl) ?_
                refine LAt.runU tOk 1 (by kernel_rfl) ?_
                refine LAt.fin (by kernel_rfl) (And.intro (And.intro (by kernel_rfl) (by kernel_rfl)) ?_)
                refine AT.big1 tOk 8 (by kernel_rfl) (by kernel_rfl) ?_
                refine LAt.appMU tOk (t := 27) (ty := 27) (e := 56) (x := (.tmp 49)) (y := (.tmp 55)) (d := 56) (g := none) ⟨.st [(0, 1, 3), (1, 1, 3), (2, 1, 3)], 3, 24, [.lit (.int .i64 0), .lit (.int .i64 0), .lit (.int .i64 0)]⟩ Vrow.row y13 [v15] (by kernel_rfl) (by kernel_rfl) (by kernel_rfl) (by kernel_rfl) (by kernel_rfl) (by kernel_rfl) (by kernel_rfl) (by kernel_rfl) (by kernel_rfl) (by kernel_rfl) hg16 ?_
                refine LAt.fin (by kernel_rfl) (And.intro (And.intro (by kernel_rfl) (by kernel_rfl)) ?_)
                refine AT.runU tOk [(9, [])] 1 [⟨[7, 8, 10], 27, 50, 51⟩, ⟨[8, 10], 27, 48, 49⟩] [9, 8, 7, 6, 5, 4, 3, 2, 1, 0] rfl (by kernel_rfl) (fun cx => ?_)
                refine AT.big1 tOk 10 (by kernel_rfl) (by kernel_rfl) ?_
                refine LAt.runU tOk 1 (by kernel_rfl) ?_
                refine LAt.fin (by kernel_rfl) (And.intro (And.intro (by kernel_rfl) (by kernel_rfl)) ?_)
                exact AT.done [57, 54, 53, 52, 51, 50, 48, 47, 46, 45, 44, 43, 42, 41, 40, 39, 32, 22, 21, 20, 17, 16, 15, 14, 13, 7, 6, 5, 4, 3, 2] [5, 4, 3, 2] _ (by kernel_rfl) (by kernel_rfl) rfl
              · show Tr _ _ _ _ _
                refine Tr.at ?_
                refine LAt.runU tOk 3 (by kernel_rfl) ?_
                refine LAt.doneU [7, 19, 18, 57, 54, 53, 52, 51, 50, 48, 47, 46, 45, 44, 43, 42, 41, 40, 39, 32, 22, 21, 20, 17, 16, 15, 14, 13, 6, 5, 4, 3, 2] [5, 4, 3, 2] (by kernel_rfl) ?_
                exact Exists.intro (mo8, ((IntKind.wrap .i64 (y2 + 1)), y12, (y13 ++ [v15]))) (And.intro H (And.intro (Nat.lt_succ_self mo8) (St.sub_of [7, 6, 5, 4, 3, 2] [5, 4, 3, 2] (by kernel_rfl))))
  · rintro ⟨y5, y6⟩ H
    have H : (spec_l9Row_J1 n x0 x1 y5 y6) = some r := H
    unfold spec_l9Row_J1 at H
    show Tr _ _ _ _ _
    refine Tr.seq ?_
    refine Tr.rs ?_
    refine LAt.runU tOk 2 (by kernel_rfl) ?_
    refine LAt.doneU [59, 5, 4, 3] [5, 4, 3] (by kernel_rfl) ?_
    refine Tr.to ⟨67, 0, [(59, .val false [.lit (.bool (!y5))]), (5, .adr (.box 5) [(0, 0)] 2 0), (4, .adr (.box 4) [(0, 0)] 2 0), (3, .adr (.box 3) [(0, 0)] 3 0)], [(5, [.sl true 3 (y6.map Vrow.row), .sl true 1 ((([] : List Int) ++ x0.Pvid).map intRow)]), (4, [.sl true 3 (([] : List Vrow).map Vrow.row), .sl true 1 (([] : List Int).map intRow)]), (3, (Vrow.row x1))]⟩ (by kernel_rfl) ?_
    cases h1 : (!y5)
    · have H := bifF h1 H
      refine Tr.cond (b := false) (by kernel_rfl) (fun h => nomatch h) (fun _ => ?_)
      refine Tr.skip ?_
      show Tr _ _ _ _ _
      refine Tr.rs ?_
      refine LAt.runU tOk 2 (by kernel_rfl) ?_
      refine LAt.doneU [4] [4] (by kernel_rfl) ?_
      refine Tr.ret ?_
      have H := Option.some.inj H
      subst H
      exact Fin.of _ [(true, [.sl true 3 (y6.map Vrow.row), .sl true 1 ((([] : List Int) ++ x0.Pvid).map intRow)])] (by kernel_rfl) rfl rfl
    · have H := bifT h1 H
      refine Tr.cond (b := true) (by kernel_rfl) (fun _ => ?_) (fun h => nomatch h)
      refine Tr.at ?_
      refine LAt.runU tOk 4 (by kernel_rfl) ?_
      obtain ⟨hg7, H⟩ := guard_some H
      refine LAt.appMU tOk (t := 27) (ty := 27) (e := 56) (x := (.tmp 61)) (y := (.tmp 63)) (d := 64) (g := none) ⟨.st [(0, 1, 3), (1, 1, 3), (2, 1, 3)], 3, 24, [.lit (.int .i64 0), .lit (.int .i64 0), .lit (.int .i64 0)]⟩ Vrow.row y6 [x1] (by kernel_rfl) (by kernel_rfl) (by kernel_rfl) (by kernel_rfl) (by kernel_rfl) (by kernel_rfl) (by kernel_rfl) (by kernel_rfl) (by kernel_rfl) (by kernel_rfl) hg7 ?_
      refine LAt.runU tOk 2 (by kernel_rfl) ?_
      refine LAt.doneU [5, 4] [5, 4] (by kernel_rfl) ?_
      show Tr _ _ _ _ _
      refine Tr.rs ?_
      refine LAt.runU tOk 2 (by kernel_rfl) ?_
      refine LAt.doneU [4] [4] (by kernel_rfl) ?_
      refine Tr.ret ?_
      have H := Option.some.inj H
      subst H
      exact Fin.of _ [(true, [.sl true 3 ((y6 ++ [x1]).map Vrow.row), .sl true 1 ((([] : List Int) ++ x0.Pvid).map intRow)])] (by kernel_rfl) rfl rfl

def spec_l9OrF (n : Nat) (x0 : Vtab) (x1 : Vtab) : Option (Vtab × Bool) :=
  ((spec_VtabOkF n x0 (x1.Pvid.length : Int)).bind fun r1 => (bif (!r1) then ((spec_l9CopyF n x1).bind fun r2 => (some (r2, false))) else (some (x0, true))))
/-- loop.example/g00326/spec.l9Or -/
theorem spec_l9Or (n : Nat) (x0 : Vtab) (x1 : Vtab) (r : Vtab × Bool) (H : spec_l9OrF n x0 x1 = some r) : LCall Try.prog 78 [.own true (Vtab.row x0), .val true (CV.frzRow (Vtab.row x1))] [.val true (Vtab.row r.1), .val false [.lit (.bool r.2)]] [] := by
  refine LCall.of_body tOk Try.func78 rfl (c := (.seq (.region 0 (rg Try.f78 0) false) (.seq (.seq (.region 1 (rg Try.f78 1) false) (.cond (.tmp 11) (.seq (.region 2 (rg Try.f78 2) false) .ret) .skip)) (.seq (.region 3 (rg Try.f78 3) false) .ret)))) (by kernel_rfl) (Nat.le_of_ble_eq_true (by kernel_rfl)) 0 (rs := [.cell 4 29, .tmp 5]) rfl [] .nil [(true, (Vtab.row r.1)), (false, [.lit (.bool r.2)])] [] [] fun cx => ?_
  show Tr _ _ _ ⟨15, 0, [(0, .val true (Vtab.row x0)), (1, .val true (CV.frzRow (Vtab.row x1)))], []⟩ _
  unfold spec_l9OrF at H
  refine Tr.rs ?_
  refine LAt.runU tOk 4 (by kernel_rfl) ?_
  refine LAt.doneU [5, 4, 3, 2] [4, 3, 2] (by kernel_rfl) ?_
  refine Tr.seq ?_
  refine Tr.rs ?_
  refine LAt.runU tOk 3 (by kernel_rfl) ?_
  refine LAt.lenE tOk (t := 23) (ty := 3) (e := 3) (x := (.tmp 8)) (d := 9) (g := none) ⟨(.slot 8), [], 0, false, 1, (CV.frzEs (x1.Pvid.map intRow))⟩ (x1.Pvid).length _ (by kernel_rfl) (by kernel_rfl) (by kernel_rfl) (by kernel_rfl) (by kernel_rfl) (frz_len _ _) rfl ?_
  obtain ⟨r1, er1, H⟩ := bind_some H
  refine LAt.callU tOk [.rd, .rd] (f := 49) (av := #[.tmp 6, .tmp 9]) (ats := #[29, 3]) (d := (some 10)) (ty := 4) (g := none) (by kernel_rfl) (by kernel_rfl) (by kernel_rfl) [.box 2] (spec_VtabOk n x0 (x1.Pvid.length : Int) r1 er1) (by kernel_rfl) (.inr (rets_cons (mine_cons mine_lit mine_nil) rets_nil)) ?_
  refine LAt.runU tOk 1 (by kernel_rfl) ?_
  refine LAt.doneU [11, 5, 4, 3, 2] [4, 3, 2] (by kernel_rfl) ?_
  refine Tr.to ⟨15, 0, [(11, .val false [.lit (.bool (!r1))]), (5, .val false [.lit (.bool false)]), (4, .adr (.box 4) [(0, 0)] 2 0), (3, .adr (.box 3) [(0, 0)] 2 0), (2, .adr (.box 2) [(0, 0)] 2 0)], [(4, [.sl true 3 (([] : List Vrow).map Vrow.row), .sl true 1 (([] : List Int).map intRow)]), (3, (CV.frzRow (Vtab.row x1))), (2, (Vtab.row x0))]⟩ (by kernel_rfl) ?_
  cases h1 : (!r1)
  · have H := bifF h1 H
    refine Tr.cond (b := false) (by kernel_rfl) (fun h => nomatch h) (fun _ => ?_)
    refine Tr.skip ?_
    show Tr _ _ _ _ _
    refine Tr.rs ?_
    refine LAt.runU tOk 3 (by kernel_rfl) ?_
    refine LAt.doneU [5, 4] [4] (by kernel_rfl) ?_
    refine Tr.ret ?_
    have H := Option.some.inj H
    subst H
    exact Fin.of _ [(true, (Vtab.row x0)), (false, [.lit (.bool true)])] (by kernel_rfl) rfl rfl
  · have H := bifT h1 H
    refine Tr.cond (b := true) (by kernel_rfl) (fun _ => ?_) (fun h => nomatch h)
    refine Tr.rs ?_
    refine LAt.runU tOk 1 (by kernel_rfl) ?_
    obtain ⟨r2, er2, H⟩ := bind_some H
    refine LAt.callU tOk [.rd] (f := 77) (av := #[.tmp 12]) (ats := #[29]) (d := (some 13)) (ty := 29) (g := none) (by kernel_rfl) (by kernel_rfl) (by kernel_rfl) [] (spec_l9Copy n x1 r2 er2) (by kernel_rfl) (.inl rfl) ?_
    refine LAt.runU tOk 2 (by kernel_rfl) ?_
    refine LAt.doneU [5, 4, 2] [4, 2] (by kernel_rfl) ?_
    refine Tr.ret ?_
    have H := Option.some.inj H
    subst H
    exact Fin.of _ [(true, (Vtab.row r2)), (false, [.lit (.bool false)])] (by kernel_rfl) rfl rfl

def spec_PutRowF (n : Nat) (x0 : Vtab) (x1 : Vrow) : Option (Vtab × Bool) :=
  ((spec_VtabOkF n x0 (x0.Pvid.length : Int)).bind fun r1 => (bif (!r1) then ((spec_l9CopyF n x0).bind fun r4 => (some (r4, false))) else ((spec_l9RowF n x0 x1).bind fun r2 => ((spec_l9OrF n r2 x0).bind fun r3 => (some (r3.1, r3.2))))))
/-- loop.example/g00326/spec.PutRow -/
theorem spec_PutRow (n : Nat) (x0 : Vtab) (x1 : Vrow) (r : Vtab × Bool) (H : spec_PutRowF n x0 x1 = some r) : LCall Try.prog 38 [.val true (CV.frzRow (Vtab.row x0)), .val true (CV.frzRow (Vrow.row x1))] [.val true (Vtab.row r.1), .val false [.lit (.bool r.2)]] [] := by
  refine LCall.of_body tOk Try.func38 rfl (c := (.seq (.region 0 (rg Try.f38 0) false) (.seq (.seq (.region 1 (rg Try.f38 1) false) (.cond (.tmp 11) (.seq (.region 2 (rg Try.f38 2) false) .ret) .skip)) (.seq (.region 3 (rg Try.f38 3) true) .ret)))) (by kernel_rfl) (Nat.le_of_ble_eq_true (by kernel_rfl)) 0 (rs := [.cell 4 29, .tmp 5]) rfl [] .nil [(true, (Vtab.row r.1)), (false, [.lit (.bool r.2)])] [] [] fun cx => ?_
  show Tr _ _ _ ⟨21, 0, [(0, .val true (CV.frzRow (Vtab.row x0))), (1, .val true (Vrow.row x1))], []⟩ _
  unfold spec_PutRowF at H
  refine Tr.rs ?_
  refine LAt.runU tOk 4 (by kernel_rfl) ?_
  refine LAt.doneU [5, 4, 3, 2] [4, 3, 2] (by kernel_rfl) ?_
  refine Tr.seq ?_
  refine Tr.rs ?_
  refine LAt.runU tOk 3 (by kernel_rfl) ?_
  refine LAt.lenE tOk (t := 23) (ty := 3) (e := 3) (x := (.tmp 8)) (d := 9) (g := none) ⟨(.slot 8), [], 0, false, 1, (CV.frzEs (x0.Pvid.map intRow))⟩ (x0.Pvid).length _ (by kernel_rfl) (by kernel_rfl) (by kernel_rfl) (by kernel_rfl) (by kernel_rfl) (frz_len _ _) rfl ?_
  obtain ⟨r1, er1, H⟩ := bind_some H
  refine LAt.callU tOk [.rd, .rd] (f := 49) (av := #[.tmp 6, .tmp 9]) (ats := #[29, 3]) (d := (some 10)) (ty := 4) (g := none) (by kernel_rfl) (by kernel_rfl) (by kernel_rfl) [] (spec_VtabOk n x0 (x0.Pvid.length : Int) r1 er1) (by kernel_rfl) (.inl rfl) ?_
  refine LAt.runU tOk 1 (by kernel_rfl) ?_
  refine LAt.doneU [11, 5, 4, 3, 2] [4, 3, 2] (by kernel_rfl) ?_
  refine Tr.to ⟨21, 0, [(11, .val false [.lit (.bool (!r1))]), (5, .val false [.lit (.bool false)]), (4, .adr (.box 4) [(0, 0)] 2 0), (3, .adr (.box 3) [(0, 0)] 3 0), (2, .adr (.box 2) [(0, 0)] 2 0)], [(4, [.sl true 3 (([] : List Vrow).map Vrow.row), .sl true 1 (([] : List Int).map intRow)]), (3, (Vrow.row x1)), (2, (CV.frzRow (Vtab.row x0)))]⟩ (by kernel_rfl) ?_
  cases h1 : (!r1)
  · have H := bifF h1 H
    refine Tr.cond (b := false) (by kernel_rfl) (fun h => nomatch h) (fun _ => ?_)
    refine Tr.skip ?_
    show Tr _ _ _ _ _
    obtain ⟨r2, er2, H⟩ := bind_some H
    obtain ⟨r3, er3, H⟩ := bind_some H
    refine Tr.draws mixed 9 (by kernel_rfl) ⟨21, 0, [(5, .val false [.lit (.bool r3.2)]), (4, .adr (.box 4) [(0, 0)] 2 0)], [(4, (Vtab.row r3.1))]⟩ (fun cx => ?_) ?_
    · refine AT.runU tOk [(0, [2, 4, 7]), (1, [2, 4, 7]), (3, [4, 7])] 6 [⟨[4, 7], 29, 2, 17⟩, ⟨[2, 4, 7], 56, 3, 15⟩, ⟨[2, 4, 7], 29, 2, 14⟩] [3, 1, 0] rfl (by kernel_rfl) (fun cx => ?_)
      refine AT.big1 tOk 2 (by kernel_rfl) (by kernel_rfl) ?_
      refine LAt.callU tOk [.rd, .rd] (f := 108) (av := #[.tmp 14, .tmp 15]) (ats := #[29, 56]) (d := (some 16)) (ty := 29) (g := none) (by kernel_rfl) (by kernel_rfl) (by kernel_rfl) [] (spec_l9Row n x0 x1 r2 er2) (by kernel_rfl) (.inl rfl) ?_
      refine LAt.fin (by kernel_rfl) (And.intro (And.intro (by kernel_rfl) (by kernel_rfl)) ?_)
      refine AT.big1 tOk 4 (by kernel_rfl) (by kernel_rfl) ?_
      refine LAt.callU tOk [.own, .rd] (f := 78) (av := #[.tmp 16, .tmp 17]) (ats := #[29, 29]) (d := (some 18)) (ty := 30) (g := none) (by kernel_rfl) (by kernel_rfl) (by kernel_rfl) [] (spec_l9Or n r2 x0 r3 er3) (by kernel_rfl) (.inl rfl) ?_
      refine LAt.fin (by kernel_rfl) (And.intro (And.intro (by kernel_rfl) (by kernel_rfl)) ?_)
      refine AT.runU tOk [(5, []), (6, [])] 2 [⟨[4, 7], 29, 2, 17⟩, ⟨[2, 4, 7], 56, 3, 15⟩, ⟨[2, 4, 7], 29, 2, 14⟩] [6, 5, 4, 2, 3, 1, 0] rfl (by kernel_rfl) (fun cx => ?_)
      refine AT.big1 tOk 7 (by kernel_rfl) (by kernel_rfl) ?_
      refine LAt.runU tOk 1 (by kernel_rfl) ?_
      refine LAt.fin (by kernel_rfl) (And.intro (And.intro (by kernel_rfl) (by kernel_rfl)) ?_)
      refine AT.runU tOk [(8, [])] 0 [⟨[4, 7], 29, 2, 17⟩, ⟨[2, 4, 7], 56, 3, 15⟩, ⟨[2, 4, 7], 29, 2, 14⟩] [8, 7, 6, 5, 4, 2, 3, 1, 0] rfl (by kernel_rfl) (fun cx => ?_)
      exact AT.done [5, 4] [4] _ (by kernel_rfl) (by kernel_rfl) rfl
    · refine Tr.ret ?_
      have H := Option.some.inj H
      subst H
      exact Fin.of _ [(true, (Vtab.row r3.1)), (false, [.lit (.bool r3.2)])] (by kernel_rfl) rfl rfl
  · have H := bifT h1 H
    refine Tr.cond (b := true) (by kernel_rfl) (fun _ => ?_) (fun h => nomatch h)
    refine Tr.rs ?_
    refine LAt.runU tOk 1 (by kernel_rfl) ?_
    obtain ⟨r4, er4, H⟩ := bind_some H
    refine LAt.callU tOk [.rd] (f := 77) (av := #[.tmp 12]) (ats := #[29]) (d := (some 13)) (ty := 29) (g := none) (by kernel_rfl) (by kernel_rfl) (by kernel_rfl) [] (spec_l9Copy n x0 r4 er4) (by kernel_rfl) (.inl rfl) ?_
    refine LAt.runU tOk 2 (by kernel_rfl) ?_
    refine LAt.doneU [5, 4, 3, 2] [4, 3, 2] (by kernel_rfl) ?_
    refine Tr.ret ?_
    have H := Option.some.inj H
    subst H
    exact Fin.of _ [(true, (Vtab.row r4)), (false, [.lit (.bool false)])] (by kernel_rfl) rfl rfl

def impl_copyIntsF (n : Nat) (x0 : (List Int)) : Option ((List Int)) :=
  (bif (decide (([] : List Int).length + x0.length ≤ 268435456)) then (some (([] : List Int) ++ x0)) else none)
/-- loop.example/g00326/impl.copyInts -/
theorem impl_copyInts (n : Nat) (x0 : (List Int)) (r : (List Int)) (H : impl_copyIntsF n x0 = some r) : LCall Try.prog 146 [.val false [.sl false 1 (CV.frzEs (x0.map intRow))]] [.val false [.sl true 1 (r.map intRow)]] [] := by
  refine LCall.of_body tOk Try.func146 rfl (c := (.seq (.region 0 (rg Try.f146 0) false) (.seq (.region 1 (rg Try.f146 1) false) .ret))) (by kernel_rfl) (Nat.le_of_ble_eq_true (by kernel_rfl)) 0 (rs := [.tmp 2]) rfl [] .nil [(false, [.sl true 1 (r.map intRow)])] [] [] fun cx => ?_
  show Tr _ _ _ ⟨5, 0, [(0, .val false [.sl false 1 (CV.frzEs (x0.map intRow))])], []⟩ _
  unfold impl_copyIntsF at H
  refine Tr.rs ?_
  refine LAt.runU tOk 1 (by kernel_rfl) ?_
  refine LAt.doneU [2, 0] [] (by kernel_rfl) ?_
  refine Tr.rs ?_
  refine LAt.runU tOk 1 (by kernel_rfl) ?_
  obtain ⟨hg1, H⟩ := guard_some H
  refine LAt.appCU tOk (t := 23) (ty := 23) (e := 3) (x := (.const (.slice none 0 0))) (y := (.tmp 3)) (d := 4) (g := none) ⟨.int .i64, 1, 8, [.lit (.int .i64 0)]⟩ intRow ([] : List Int) x0 ⟨(.slot 3), [], 0, false, 1, (CV.frzEs (x0.map intRow))⟩ (by kernel_rfl) (by kernel_rfl) (by kernel_rfl) (by kernel_rfl) (by kernel_rfl) (by kernel_rfl) (by kernel_rfl) (by kernel_rfl) (by kernel_rfl) (by kernel_rfl) (by kernel_rfl) (.inr rfl) (fun _ => rfl) (fun _ => rfl) hg1 ?_
  refine LAt.moveU (T := lk tab) (ty := 23) (x := (.tmp 4)) (d := 2) (g := none) false [.sl true 1 ((([] : List Int) ++ x0).map intRow)] (by kernel_rfl) (by kernel_rfl) (by kernel_rfl) (by kernel_rfl) (by kernel_rfl) ?_
  refine LAt.doneU [2] [] (by kernel_rfl) ?_
  refine Tr.ret ?_
  have H := Option.some.inj H
  subst H
  exact Fin.of _ [(false, [.sl true 1 ((([] : List Int) ++ x0).map intRow)])] (by kernel_rfl) rfl rfl

def impl_copyVtabF (n : Nat) (x0 : Vtab) : Option (Vtab) :=
  (bif (decide (([] : List Vrow).length + x0.Rows.length ≤ 268435456)) then ((impl_copyIntsF n x0.Pvid).bind fun r2 => (some (⟨(([] : List Vrow) ++ x0.Rows), r2⟩ : Vtab))) else none)
/-- loop.example/g00326/impl.copyVtab -/
theorem impl_copyVtab (n : Nat) (x0 : Vtab) (r : Vtab) (H : impl_copyVtabF n x0 = some r) : LCall Try.prog 81 [.val true (CV.frzRow (Vtab.row x0))] [.val true (Vtab.row r)] [] := by
  refine LCall.of_body tOk Try.func81 rfl (c := (.seq (.region 0 (rg Try.f81 0) false) (.seq (.region 1 (rg Try.f81 1) true) .ret))) (by kernel_rfl) (Nat.le_of_ble_eq_true (by kernel_rfl)) 0 (rs := [.cell 2 29]) rfl [] .nil [(true, (Vtab.row r))] [] [] fun cx => ?_
  show Tr _ _ _ ⟨10, 0, [(0, .val true (CV.frzRow (Vtab.row x0)))], []⟩ _
  unfold impl_copyVtabF at H
  refine Tr.rs ?_
  refine LAt.runU tOk 2 (by kernel_rfl) ?_
  refine LAt.doneU [2, 1] [2, 1] (by kernel_rfl) ?_
  obtain ⟨hg1, H⟩ := guard_some H
  obtain ⟨r2, er2, H⟩ := bind_some H
  refine Tr.draws mixed 8 (by kernel_rfl) ⟨10, 0, [(2, .adr (.box 2) [(0, 0)] 2 0)], [(2, [.sl true 3 ((([] : List Vrow) ++ x0.Rows).map Vrow.row), .sl true 1 (r2.map intRow)])]⟩ (fun cx => ?_) ?_
  · refine AT.runU tOk [(0, []), (1, [2, 5, 6, 7]), (3, []), (4, [5, 6, 7])] 4 [⟨[5, 6, 7], 23, 6, 7⟩, ⟨[2, 5, 6, 7], 27, 3, 4⟩] [4, 3, 1, 0] rfl (by kernel_rfl) (fun cx => ?_)
    refine AT.big1 tOk 2 (by kernel_rfl) (by kernel_rfl) ?_
    refine LAt.appCU tOk (t := 27) (ty := 27) (e := 56) (x := (.const (.slice none 0 0))) (y := (.tmp 4)) (d := 5) (g := none) ⟨.st [(0, 1, 3), (1, 1, 3), (2, 1, 3)], 3, 24, [.lit (.int .i64 0), .lit (.int .i64 0), .lit (.int .i64 0)]⟩ Vrow.row ([] : List Vrow) x0.Rows ⟨(.box 1), [(0, 0)], 0, false, 3, (CV.frzEs (x0.Rows.map Vrow.row))⟩ (by kernel_rfl) (by kernel_rfl) (by kernel_rfl) (by kernel_rfl) (by kernel_rfl) (by kernel_rfl) (by kernel_rfl) (by kernel_rfl) (by kernel_rfl) (by kernel_rfl) (by kernel_rfl) (.inr rfl) (fun _ => rfl) (fun _ => rfl) hg1 ?_
    refine LAt.fin (by kernel_rfl) (And.intro (And.intro (by kernel_rfl) (by kernel_rfl)) ?_)
    refine AT.big1 tOk 5 (by kernel_rfl) (by kernel_rfl) ?_
    refine LAt.callU tOk [.rd] (f := 146) (av := #[.tmp 7]) (ats := #[23]) (d := (some 8)) (ty := 23) (g := none) (by kernel_rfl) (by kernel_rfl) (by kernel_rfl) [] (impl_copyInts n x0.Pvid r2 er2) (by kernel_rfl) (.inl rfl) ?_
    refine LAt.fin (by kernel_rfl) (And.intro (And.intro (by kernel_rfl) (by kernel_rfl)) ?_)
    refine AT.big1 tOk 6 (by kernel_rfl) (by kernel_rfl) ?_
    refine LAt.runU tOk 1 (by kernel_rfl) ?_
    refine LAt.fin (by kernel_rfl) (And.intro (And.intro (by kernel_rfl) (by kernel_rfl)) ?_)
    refine AT.big1 tOk 7 (by kernel_rfl) (by kernel_rfl) ?_
    refine LAt.runU tOk 1 (by kernel_rfl) ?_
    refine LAt.fin (by kernel_rfl) (And.intro (And.intro (by kernel_rfl) (by kernel_rfl)) ?_)
    exact AT.done [2] [2] _ (by kernel_rfl) (by kernel_rfl) rfl
  · refine Tr.ret ?_
    have H := Option.some.inj H
    subst H
    exact Fin.of _ [(true, [.sl true 3 ((([] : List Vrow) ++ x0.Rows).map Vrow.row), .sl true 1 (r2.map intRow)])] (by kernel_rfl) rfl rfl

def impl_RowAt_J1 (n : Nat) : Option (Int) :=
  (some (-1))
def impl_RowAt_L2 (n : Nat) : Nat → Vtab → Int → Int → Option ((Unit) ⊕ (Int))
  | 0, _, _, _ => none
  | mo2 + 1, x0, x1, y1 => (bif (decide (y1 < (x0.Rows.length : Int))) then ((idx x0.Rows y1).bind fun v3 => (bif (v3.Id == x1) then (some (Sum.inr y1)) else (impl_RowAt_L2 n mo2 x0 x1 (IntKind.wrap .i64 (y1 + 1))))) else (some (Sum.inl ())))
def impl_RowAtF (n : Nat) (x0 : Vtab) (x1 : Int) : Option (Int) :=
  ((impl_RowAt_L2 n n x0 x1 0).bind fun o => match o with | .inl _ => (impl_RowAt_J1 n) | .inr r => some r)
/-- loop.example/g00326/impl.RowAt -/
theorem impl_RowAt (n : Nat) (x0 : Vtab) (x1 : Int) (r : Int) (H : impl_RowAtF n x0 x1 = some r) : LCall Try.prog 40 [.val true (CV.frzRow (Vtab.row x0)), .val false [.lit (.int .i64 x1)]] [.val false [.lit (.int .i64 r)]] [] := by
  refine LCall.of_body tOk Try.func40 rfl (c := (.seq (.region 0 (rg Try.f40 0) false) (.seq (.seq (.region 1 (rg Try.f40 1) false) (.block 0 (.loop (.seq (.region 2 (rg Try.f40 2) false) (.seq (.cond (.tmp 11) .skip (.exit 0)) (.seq (.block 1 (.seq (.region 3 (rg Try.f40 3) false) (.seq (.region 4 (rg Try.f40 4) false) (.cond (.tmp 18) (.seq (.region 5 (rg Try.f40 5) false) .ret) .skip)))) (.region 6 (rg Try.f40 6) false))))))) (.seq (.region 7 (rg Try.f40 7) false) .ret)))) (by kernel_rfl) (Nat.le_of_ble_eq_true (by kernel_rfl)) 0 (rs := [.tmp 4]) rfl [] .nil [(false, [.lit (.int .i64 r)])] [] [] fun cx => ?_
  show Tr _ _ _ ⟨21, 0, [(0, .val true (CV.frzRow (Vtab.row x0))), (1, .val false [.lit (.int .i64 x1)])], []⟩ _
  unfold impl_RowAtF at H
  refine Tr.rs ?_
  refine LAt.runU tOk 2 (by kernel_rfl) ?_
  refine LAt.doneU [4, 2, 1] [2] (by kernel_rfl) ?_
  refine Tr.seq ?_
  refine Tr.rs ?_
  refine LAt.runU tOk 2 (by kernel_rfl) ?_
  refine LAt.lenE tOk (t := 27) (ty := 3) (e := 56) (x := (.tmp 8)) (d := 9) (g := none) ⟨(.slot 8), [], 0, false, 3, (CV.frzEs (x0.Rows.map Vrow.row))⟩ (x0.Rows).length _ (by kernel_rfl) (by kernel_rfl) (by kernel_rfl) (by kernel_rfl) (by kernel_rfl) (frz_len _ _) rfl ?_
  refine LAt.runU tOk 1 (by kernel_rfl) ?_
  refine LAt.doneU [10, 9, 8, 4, 1] [] (by kernel_rfl) ?_
  obtain ⟨o2, eo2, Ho2⟩ := bind_some H
  clear H
  refine Tr.mid (ι := Unit) (fun v => ⟨21, 0, [(4, .val false [.lit (.int .i64 0)])], []⟩) (fun v => impl_RowAt_J1 n = some r) ?_ ?_
  · refine Tr.block ?_
    refine Tr.loop (ι := Nat × (Int)) (fun v => ⟨21, 0, [(10, .val false [.lit (.int .i64 v.2)]), (9, .val false [.lit (.int .i64 (x0.Rows.length : Int))]), (8, .val false [.sl false 3 (CV.frzEs (x0.Rows.map Vrow.row))]), (4, .val false [.lit (.int .i64 0)]), (1, .val false [.lit (.int .i64 x1)])], []⟩) (fun v => impl_RowAt_L2 n v.1 x0 x1 v.2 = some o2) (fun v => v.1) (n, 0) eo2 (St.sub_of [10, 9, 8, 4, 1] [] (by kernel_rfl)) ?_
    rintro ⟨mo2, y1⟩ H
    have H : impl_RowAt_L2 n mo2 x0 x1 y1 = some o2 := H
    obtain _ | mo2 := mo2
    · cases (show (none : Option _) = some o2 from H)
    · rw [impl_RowAt_L2] at H
      refine Tr.rs ?_
      refine LAt.runU tOk 1 (by kernel_rfl) ?_
      refine LAt.doneU [11, 10, 9, 8, 4, 1] [] (by kernel_rfl) ?_
      refine Tr.seq ?_
      refine Tr.to ⟨21, 0, [(11, .val false [.lit (.bool (decide (y1 < (x0.Rows.length : Int))))]), (10, .val false [.lit (.int .i64 y1)]), (9, .val false [.lit (.int .i64 (x0.Rows.length : Int))]), (8, .val false [.sl false 3 (CV.frzEs (x0.Rows.map Vrow.row))]), (4, .val false [.lit (.int .i64 0)]), (1, .val false [.lit (.int .i64 x1)])], []⟩ (by kernel_rfl) ?_
      cases h1 : (decide (y1 < (x0.Rows.length : Int)))
      · have H := bifF h1 H
        refine Tr.cond (b := false) (by kernel_rfl) (fun h => nomatch h) (fun _ => ?_)
        refine Tr.exit ?_
        refine And.intro (fun _ => ?_) (fun h => absurd rfl h)
        have H := Option.some.inj H
        subst H
        have H := Ho2
        dsimp only at H
        exact Exists.intro () (And.intro H (St.sub_of [4] [] (by kernel_rfl)))
      · have H := bifT h1 H
        refine Tr.cond (b := true) (by kernel_rfl) (fun _ => ?_) (fun h => nomatch h)
        refine Tr.skip ?_
        show Tr _ _ _ _ _
        refine Tr.seq ?_
        refine Tr.block ?_
        refine Tr.rs ?_
        refine LAt.runU tOk 1 (by kernel_rfl) ?_
        obtain ⟨v3, ev3, H⟩ := bind_some H
        refine LAt.indexF tOk (t := 27) (ty := 0) (x := (.tmp 8)) (y := (.tmp 10)) (d := 13) (g := none) ⟨(.slot 8), [], 0, false, 3, (CV.frzEs (x0.Rows.map Vrow.row))⟩ y1 (Vrow.row v3) _ (by kernel_rfl) (by kernel_rfl) (by kernel_rfl) (by kernel_rfl) rfl (idx_isF ev3) rfl ?_
        refine LAt.runU tOk 4 (by kernel_rfl) ?_
        refine LAt.doneU [5, 6, 14, 13, 12, 11, 10, 9, 8, 4, 1] [6] (by kernel_rfl) ?_
        refine Tr.rs ?_
        refine LAt.runU tOk 4 (by kernel_rfl) ?_
        refine LAt.doneU [18, 17, 16, 15, 5, 6, 14, 13, 12, 11, 10, 9, 8, 4, 1] [6] (by kernel_rfl) ?_
        refine Tr.to ⟨21, 0, [(18, .val false [.lit (.bool (v3.Id == x1))]), (17, .val false [.lit (.int .i64 x1)]), (16, .val false [.lit (.int .i64 v3.Id)]), (15, .adr (.box 6) [(0, 0)] 3 0), (5, .val false [.lit (.int .i64 y1)]), (6, .adr (.box 6) [(0, 0)] 3 0), (14, .val true (Vrow.row v3)), (13, .fad ((Vrow.row v3))), (12, .val false [.lit (.int .i64 y1)]), (11, .val false [.lit (.bool true)]), (10, .val false [.lit (.int .i64 y1)]), (9, .val false [.lit (.int .i64 (x0.Rows.length : Int))]), (8, .val false [.sl false 3 (CV.frzEs (x0.Rows.map Vrow.row))]), (4, .val false [.lit (.int .i64 0)]), (1, .val false [.lit (.int .i64 x1)])], [(6, (Vrow.row v3))]⟩ (by kernel_rfl) ?_
        cases h2 : (v3.Id == x1)
        · have H := bifF h2 H
          refine Tr.cond (b := false) (by kernel_rfl) (fun h => nomatch h) (fun _ => ?_)
          refine Tr.skip ?_
          show Tr _ _ _ _ _
          refine Tr.at ?_
          refine LAt.runU tOk 2 (by kernel_rfl) ?_
          refine LAt.doneU [10, 20, 18, 17, 16, 15, 5, 6, 14, 13, 12, 11, 9, 8, 4, 1] [6] (by kernel_rfl) ?_
          exact Exists.intro (mo2, (IntKind.wrap .i64 (y1 + 1))) (And.intro H (And.intro (Nat.lt_succ_self mo2) (St.sub_of [10, 9, 8, 4, 1] [] (by kernel_rfl))))
        · have H := bifT h2 H
          refine Tr.cond (b := true) (by kernel_rfl) (fun _ => ?_) (fun h => nomatch h)
          refine Tr.rs ?_
          refine LAt.runU tOk 2 (by kernel_rfl) ?_
          refine LAt.doneU [4, 19, 18, 17, 16, 15, 5, 6, 14, 13, 12, 11, 10, 9, 8, 1] [6] (by kernel_rfl) ?_
          refine Tr.ret ?_
          have H := Option.some.inj H
          subst H
          have H := Ho2
          dsimp only at H
          have H := Option.some.inj H
          subst H
          exact Fin.of _ [(false, [.lit (.int .i64 y1)])] (by kernel_rfl) rfl rfl
  · rintro _ H
    have H : (impl_RowAt_J1 n) = some r := H
    unfold impl_RowAt_J1 at H
    show Tr _ _ _ _ _
    refine Tr.rs ?_
    refine LAt.runU tOk 1 (by kernel_rfl) ?_
    refine LAt.doneU [4] [] (by kernel_rfl) ?_
    refine Tr.ret ?_
    have H := Option.some.inj H
    subst H
    exact Fin.of _ [(false, [.lit (.int .i64 (-1))])] (by kernel_rfl) rfl rfl
end Go.Proofs.Ytgpcfaiacggoiaa.Tw
