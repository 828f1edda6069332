/- Functions of the program, over trees. -/
import Derived.Test.YtnhmckiejhbmcaaProg
import Derived.Test.YtnhmckiejhbmcaaTlRule
import Derived.Test.YtnhmckiejhbmcaaTlU3
import Derived.WalkKit
set_option linter.unusedVariables false
set_option linter.unusedSimpArgs false
set_option maxRecDepth 100000
set_option maxHeartbeats 1000000
namespace Go.Proofs.Ytnhmckiejhbmcaa.Tw
open Go Go.TL Go.Proofs
def tab : List (Nat × TI) := [(2, ⟨.int .i64, 1, 8, [.lit (.int .i64 0)]⟩),
  (3, ⟨.int .i64, 1, 8, [.lit (.int .i64 0)]⟩),
  (4, ⟨.bool, 1, 1, [.lit (.bool false)]⟩),
  (5, ⟨.int .u8, 1, 1, [.lit (.int .u8 0)]⟩),
  (6, ⟨.int .u8, 1, 1, [.lit (.int .u8 0)]⟩),
  (33, ⟨.sl 3, 1, 24, [.sl true 1 []]⟩),
  (38, ⟨.sl 81, 1, 24, [.sl true 3 []]⟩),
  (40, ⟨.st [(0, 1, 38), (1, 1, 33)], 2, 48, [.sl true 3 [], .sl true 1 []]⟩),
  (61, ⟨.sl 5, 1, 24, [.sl true 1 []]⟩),
  (81, ⟨.st [(0, 1, 3), (1, 1, 3), (2, 1, 3)], 3, 24, [.lit (.int .i64 0), .lit (.int .i64 0), .lit (.int .i64 0)]⟩),
  (86, ⟨.int .u64, 1, 8, [.lit (.int .u64 0)]⟩),
  (100, ⟨.st [(0, 1, 61), (1, 1, 3), (2, 1, 3)], 3, 40, [.sl true 1 [], .lit (.int .i64 0), .lit (.int .i64 0)]⟩)]
theorem mixed : Try.prog.follows .mixedOrders = true := by kernel_rfl
theorem tOk : TOk Try.prog (lk tab) := tok_of (by kernel_rfl)

structure Src where
  b : (List Int)
  i : Int
  h : Int
def Src.row (v : Src) : List CV := [.sl true 1 (v.b.map byteRow), .lit (.int .i64 v.i), .lit (.int .i64 v.h)]
def Src.wf (v : Src) : Prop := listWf byteWf v.b ∧ intWf v.i ∧ intWf v.h ∧ True
theorem Src.enc : Enc Src [.sl 1 [.int .u8], .int .i64, .int .i64] Src.row Src.wf := fun cs h => by
  obtain ⟨c0, r0, rfl, k0, h⟩ := fitR_cons h
  obtain ⟨c1, r1, rfl, k1, h⟩ := fitR_cons h
  obtain ⟨c2, r2, rfl, k2, h⟩ := fitR_cons h
  obtain rfl := fitR_nil h
  obtain ⟨x0, rfl, w0⟩ := Enc.sl encByte k0
  obtain ⟨x1, rfl, w1⟩ := fitC_int k1
  obtain ⟨x2, rfl, w2⟩ := fitC_int k2
  exact ⟨⟨x0, x1, x2⟩, rfl, ⟨w0, w1, w2, trivial⟩⟩
theorem Src.row_mine (v : Src) : CV.mineRow (Src.row v) := mine_cons (mine_sl (mine_map byteRow_mine _)) (mine_cons mine_lit (mine_cons mine_lit (mine_nil)))

structure Vrow where
  Id : Int
  Members : Int
  Bare : Int
def Vrow.row (v : Vrow) : List CV := [.lit (.int .i64 v.Id), .lit (.int .i64 v.Members), .lit (.int .i64 v.Bare)]
def Vrow.wf (v : Vrow) : Prop := intWf v.Id ∧ intWf v.Members ∧ intWf v.Bare ∧ True
theorem Vrow.enc : Enc Vrow [.int .i64, .int .i64, .int .i64] Vrow.row Vrow.wf := fun cs h => by
  obtain ⟨c0, r0, rfl, k0, h⟩ := fitR_cons h
  obtain ⟨c1, r1, rfl, k1, h⟩ := fitR_cons h
  obtain ⟨c2, r2, rfl, k2, h⟩ := fitR_cons h
  obtain rfl := fitR_nil h
  obtain ⟨x0, rfl, w0⟩ := fitC_int k0
  obtain ⟨x1, rfl, w1⟩ := fitC_int k1
  obtain ⟨x2, rfl, w2⟩ := fitC_int k2
  exact ⟨⟨x0, x1, x2⟩, rfl, ⟨w0, w1, w2, trivial⟩⟩
theorem Vrow.row_mine (v : Vrow) : CV.mineRow (Vrow.row v) := mine_cons mine_lit (mine_cons mine_lit (mine_cons mine_lit (mine_nil)))

structure Vtab where
  Rows : (List Vrow)
  Pvid : (List Int)
def Vtab.row (v : Vtab) : List CV := [.sl true 3 (v.Rows.map Vrow.row), .sl true 1 (v.Pvid.map intRow)]
def Vtab.wf (v : Vtab) : Prop := listWf Vrow.wf v.Rows ∧ listWf intWf v.Pvid ∧ True
theorem Vtab.enc : Enc Vtab [.sl 3 [.int .i64, .int .i64, .int .i64], .sl 1 [.int .i64]] Vtab.row Vtab.wf := fun cs h => by
  obtain ⟨c0, r0, rfl, k0, h⟩ := fitR_cons h
  obtain ⟨c1, r1, rfl, k1, h⟩ := fitR_cons h
  obtain rfl := fitR_nil h
  obtain ⟨x0, rfl, w0⟩ := Enc.sl Vrow.enc k0
  obtain ⟨x1, rfl, w1⟩ := Enc.sl encInt k1
  exact ⟨⟨x0, x1⟩, rfl, ⟨w0, w1, trivial⟩⟩
theorem Vtab.row_mine (v : Vtab) : CV.mineRow (Vtab.row v) := mine_cons (mine_sl (mine_map Vrow.row_mine _)) (mine_cons (mine_sl (mine_map intRow_mine _)) (mine_nil))

def laws_bigF (n : Nat) (x0 : (List Int)) : Option (Bool) :=
  (some (decide ((x0.length : Int) > 1048576)))
/-- loop.example/g00326/laws.big -/
theorem laws_big (n : Nat) (x0 : (List Int)) (r : Bool) (H : laws_bigF n x0 = some r) : LCall Try.prog 38 [.val false [.sl false 1 (CV.frzEs (x0.map byteRow))]] [.val false [.lit (.bool r)]] [] := by
  refine LCall.of_body tOk Try.func38 rfl (c := (.seq (.region 0 (rg Try.f38 0) false) (.seq (.region 1 (rg Try.f38 1) false) .ret))) (by kernel_rfl) (Nat.le_of_ble_eq_true (by kernel_rfl)) 0 (rs := [.tmp 2]) rfl [] .nil [(false, [.lit (.bool r)])] [] [] fun cx => ?_
  show Tr _ _ _ ⟨6, 0, [(0, .val false [.sl false 1 (CV.frzEs (x0.map byteRow))])], []⟩ _
  unfold laws_bigF at H
  refine Tr.rs ?_
  refine LAt.runU tOk 1 (by kernel_rfl) ?_
  refine LAt.doneU [2, 0] [] (by kernel_rfl) ?_
  refine Tr.rs ?_
  refine LAt.runU tOk 1 (by kernel_rfl) ?_
  refine LAt.lenE tOk (t := 61) (ty := 3) (e := 5) (x := (.tmp 3)) (d := 4) (g := none) ⟨(.slot 3), [], 0, false, 1, (CV.frzEs (x0.map byteRow))⟩ (x0).length _ (by kernel_rfl) (by kernel_rfl) (by kernel_rfl) (by kernel_rfl) (by kernel_rfl) (frz_len _ _) rfl ?_
  refine LAt.runU tOk 2 (by kernel_rfl) ?_
  refine LAt.doneU [2] [] (by kernel_rfl) ?_
  refine Tr.ret ?_
  have H := Option.some.inj H
  subst H
  exact Fin.of _ [(false, [.lit (.bool (decide ((x0.length : Int) > 1048576)))])] (by kernel_rfl) rfl rfl

def spec_l1New_J1 (n : Nat) (x0 : (List Int)) (y3 : Int) : Option (Src) :=
  (some (⟨x0, 0, y3⟩ : Src))
def spec_l1New_L2 (n : Nat) : Nat → (List Int) → Int → Int → Option ((Int) ⊕ (Src))
  | 0, _, _, _ => none
  | mo4 + 1, x0, y1, y2 => (bif (decide (y1 < (x0.length : Int))) then (bif (decide (y1 < 4000)) then ((idx x0 y1).bind fun v5 => (spec_l1New_L2 n mo4 x0 (IntKind.wrap .i64 (y1 + 1)) (IntKind.wrap .i64 (BitVec.ofInt (IntKind.bits .i64) (IntKind.wrap .i64 ((IntKind.wrap .i64 ((IntKind.wrap .i64 (y2 * 137)) + (IntKind.wrap .i64 v5))) + 11)) &&& BitVec.ofInt (IntKind.bits .i64) 1073741823).toNat))) else (some (Sum.inl y2))) else (some (Sum.inl y2)))
def spec_l1NewF (n : Nat) (x0 : (List Int)) : Option (Src) :=
  ((spec_l1New_L2 n n x0 0 (IntKind.wrap .i64 (762762 + (x0.length : Int)))).bind fun o => match o with | .inl y3 => (spec_l1New_J1 n x0 y3) | .inr r => some r)
/-- loop.example/g00326/spec.l1New -/
theorem spec_l1New (n : Nat) (x0 : (List Int)) (r : Src) (H : spec_l1NewF n x0 = some r) : LCall Try.prog 75 [.val false [.sl false 1 (CV.frzEs (x0.map byteRow))]] [.ptr (CV.frzRow (Src.row r))] [] := by
  refine LCall.of_body_ptr tOk Try.func75 rfl (c := (.seq (.region 0 (rg Try.f75 0) false) (.seq (.region 1 (rg Try.f75 1) false) (.seq (.seq (.region 2 (rg Try.f75 2) false) (.block 0 (.loop (.seq (.seq (.region 3 (rg Try.f75 3) false) (.cond (.tmp 15) .skip (.exit 0))) (.seq (.block 1 (.region 5 (rg Try.f75 5) false)) (.region 4 (rg Try.f75 4) false)))))) (.seq (.region 6 (rg Try.f75 6) false) .ret))))) (by kernel_rfl) (Nat.le_of_ble_eq_true (by kernel_rfl)) 2 31 rfl (CV.frzRow (Src.row r)) fun cx => ?_
  show Tr _ _ _ ⟨32, 0, [(0, .val false [.sl false 1 (CV.frzEs (x0.map byteRow))])], []⟩ _
  unfold spec_l1NewF at H
  refine Tr.rs ?_
  refine LAt.runU tOk 1 (by kernel_rfl) ?_
  refine LAt.doneU [2, 0] [] (by kernel_rfl) ?_
  refine Tr.rs ?_
  refine LAt.runU tOk 1 (by kernel_rfl) ?_
  refine LAt.lenE tOk (t := 61) (ty := 3) (e := 5) (x := (.tmp 5)) (d := 6) (g := none) ⟨(.slot 5), [], 0, false, 1, (CV.frzEs (x0.map byteRow))⟩ (x0).length _ (by kernel_rfl) (by kernel_rfl) (by kernel_rfl) (by kernel_rfl) (by kernel_rfl) (frz_len _ _) rfl ?_
  refine LAt.runU tOk 2 (by kernel_rfl) ?_
  refine LAt.doneU [3, 2, 0] [] (by kernel_rfl) ?_
  refine Tr.seq ?_
  refine Tr.rs ?_
  refine LAt.runU tOk 1 (by kernel_rfl) ?_
  refine LAt.doneU [4, 3, 2, 0] [] (by kernel_rfl) ?_
  obtain ⟨o4, eo4, Ho4⟩ := bind_some H
  clear H
  refine Tr.mid (ι := Int) (fun v => ⟨32, 0, [(3, .val false [.lit (.int .i64 v)]), (2, .val false [.lit (.pointer none)]), (0, .val false [.sl false 1 (CV.frzEs (x0.map byteRow))])], []⟩) (fun v => spec_l1New_J1 n x0 v = some r) ?_ ?_
  · refine Tr.block ?_
    refine Tr.loop (ι := Nat × (Int × Int)) (fun v => ⟨32, 0, [(4, .val false [.lit (.int .i64 v.2.1)]), (3, .val false [.lit (.int .i64 v.2.2)]), (2, .val false [.lit (.pointer none)]), (0, .val false [.sl false 1 (CV.frzEs (x0.map byteRow))])], []⟩) (fun v => spec_l1New_L2 n v.1 x0 v.2.1 v.2.2 = some o4) (fun v => v.1) (n, (0, (IntKind.wrap .i64 (762762 + (x0.length : Int))))) eo4 (St.sub_of [4, 3, 2, 0] [] (by kernel_rfl)) ?_
    rintro ⟨mo4, y1, y2⟩ H
    have H : spec_l1New_L2 n mo4 x0 y1 y2 = some o4 := H
    obtain _ | mo4 := mo4
    · cases (show (none : Option _) = some o4 from H)
    · rw [spec_l1New_L2] at H
      refine Tr.seq ?_
      refine Tr.rs ?_
      refine LAt.runU tOk 2 (by kernel_rfl) ?_
      refine LAt.lenE tOk (t := 61) (ty := 3) (e := 5) (x := (.tmp 9)) (d := 10) (g := none) ⟨(.slot 9), [], 0, false, 1, (CV.frzEs (x0.map byteRow))⟩ (x0).length _ (by kernel_rfl) (by kernel_rfl) (by kernel_rfl) (by kernel_rfl) (by kernel_rfl) (frz_len _ _) rfl ?_
      refine LAt.runU tOk 2 (by kernel_rfl) ?_
      refine LAt.to ⟨32, 0, [(12, .val false [.lit (.bool (decide (y1 < (x0.length : Int))))]), (11, .val false [.lit (.bool (decide (y1 < (x0.length : Int))))]), (10, .val false [.lit (.int .i64 (x0.length : Int))]), (9, .val false [.sl false 1 (CV.frzEs (x0.map byteRow))]), (8, .val false [.lit (.int .i64 y1)]), (4, .val false [.lit (.int .i64 y1)]), (3, .val false [.lit (.int .i64 y2)]), (2, .val false [.lit (.pointer none)]), (0, .val false [.sl false 1 (CV.frzEs (x0.map byteRow))])], []⟩ (by kernel_rfl) ?_
      cases h1 : (decide (y1 < (x0.length : Int)))
      · have H := bifF h1 H
        refine LAt.runU tOk 3 (by kernel_rfl) ?_
        refine LAt.doneU [15, 14, 13, 12, 11, 10, 9, 8, 4, 3, 2, 0] [] (by kernel_rfl) ?_
        refine Tr.cond (b := false) (by kernel_rfl) (fun h => nomatch h) (fun _ => ?_)
        refine Tr.exit ?_
        refine And.intro (fun _ => ?_) (fun h => absurd rfl h)
        have H := Option.some.inj H
        subst H
        have H := Ho4
        dsimp only at H
        exact Exists.intro y2 (And.intro H (St.sub_of [3, 2, 0] [] (by kernel_rfl)))
      · have H := bifT h1 H
        refine LAt.runU tOk 3 (by kernel_rfl) ?_
        refine LAt.doneU [15, 14, 13, 12, 11, 10, 9, 8, 4, 3, 2, 0] [] (by kernel_rfl) ?_
        refine Tr.to ⟨32, 0, [(15, .val false [.lit (.bool (decide (y1 < 4000)))]), (14, .val false [.lit (.bool (decide (y1 < 4000)))]), (13, .val false [.lit (.int .i64 y1)]), (12, .val false [.lit (.bool true)]), (11, .val false [.lit (.bool true)]), (10, .val false [.lit (.int .i64 (x0.length : Int))]), (9, .val false [.sl false 1 (CV.frzEs (x0.map byteRow))]), (8, .val false [.lit (.int .i64 y1)]), (4, .val false [.lit (.int .i64 y1)]), (3, .val false [.lit (.int .i64 y2)]), (2, .val false [.lit (.pointer none)]), (0, .val false [.sl false 1 (CV.frzEs (x0.map byteRow))])], []⟩ (by kernel_rfl) ?_
        cases h2 : (decide (y1 < 4000))
        · have H := bifF h2 H
          refine Tr.cond (b := false) (by kernel_rfl) (fun h => nomatch h) (fun _ => ?_)
          refine Tr.exit ?_
          refine And.intro (fun _ => ?_) (fun h => absurd rfl h)
          have H := Option.some.inj H
          subst H
          have H := Ho4
          dsimp only at H
          exact Exists.intro y2 (And.intro H (St.sub_of [3, 2, 0] [] (by kernel_rfl)))
        · have H := bifT h2 H
          refine Tr.cond (b := true) (by kernel_rfl) (fun _ => ?_) (fun h => nomatch h)
          refine Tr.skip ?_
          show Tr _ _ _ _ _
          refine Tr.seq ?_
          refine Tr.block ?_
          refine Tr.at ?_
          refine LAt.runU tOk 4 (by kernel_rfl) ?_
          obtain ⟨v5, ev5, H⟩ := bind_some H
          refine LAt.indexF tOk (t := 61) (ty := 0) (x := (.tmp 20)) (y := (.tmp 21)) (d := 22) (g := none) ⟨(.slot 20), [], 0, false, 1, (CV.frzEs (x0.map byteRow))⟩ y1 [.lit (.int .u8 v5)] _ (by kernel_rfl) (by kernel_rfl) (by kernel_rfl) (by kernel_rfl) rfl (idx_isF ev5) rfl ?_
          refine LAt.runU tOk 6 (by kernel_rfl) ?_
          refine LAt.doneU [3, 27, 26, 25, 24, 23, 22, 21, 20, 19, 18, 15, 14, 13, 12, 11, 10, 9, 8, 4, 2, 0] [] (by kernel_rfl) ?_
          show Tr _ _ _ _ _
          refine Tr.at ?_
          refine LAt.runU tOk 3 (by kernel_rfl) ?_
          refine LAt.doneU [4, 17, 16, 3, 27, 26, 25, 24, 23, 22, 21, 20, 19, 18, 15, 14, 13, 12, 11, 10, 9, 8, 2, 0] [] (by kernel_rfl) ?_
          exact Exists.intro (mo4, ((IntKind.wrap .i64 (y1 + 1)), (IntKind.wrap .i64 (BitVec.ofInt (IntKind.bits .i64) (IntKind.wrap .i64 ((IntKind.wrap .i64 ((IntKind.wrap .i64 (y2 * 137)) + (IntKind.wrap .i64 v5))) + 11)) &&& BitVec.ofInt (IntKind.bits .i64) 1073741823).toNat))) (And.intro H (And.intro (Nat.lt_succ_self mo4) (St.sub_of [4, 3, 2, 0] [] (by kernel_rfl))))
  · rintro y3 H
    have H : (spec_l1New_J1 n x0 y3) = some r := H
    unfold spec_l1New_J1 at H
    show Tr _ _ _ _ _
    refine Tr.rs ?_
    refine LAt.runU tOk 5 (by kernel_rfl) ?_
    refine LAt.doneU [2] [31] (by kernel_rfl) ?_
    refine Tr.ret ?_
    have H := Option.some.inj H
    subst H
    exact And.intro (by kernel_rfl) (by kernel_rfl)

def spec_l1ByteF (n : Nat) (x0 : Src) : Option (Int × Src) :=
  (bif (decide ((0 : Int) ≤ 33)) then (bif (decide ((0 : Int) ≤ 47)) then (bif (decide (x0.i < (x0.b.length : Int))) then ((idx x0.b x0.i).bind fun v3 => (some ((IntKind.wrap .i64 (BitVec.ofInt (IntKind.bits .i64) (IntKind.wrap .i64 ((IntKind.wrap .i64 (BitVec.ofInt (IntKind.bits .i64) (IntKind.wrap .i64 (BitVec.ofInt (IntKind.bits .i64) (Int.fdiv (IntKind.wrap .i64 ((IntKind.wrap .i64 (x0.h * 6364136223846793005)) + 1442695040888963407)) (2 ^ min ((33 : Int)).toNat (IntKind.bits .i64))) ^^^ BitVec.ofInt (IntKind.bits .i64) (Int.fdiv (IntKind.wrap .i64 ((IntKind.wrap .i64 (x0.h * 6364136223846793005)) + 1442695040888963407)) (2 ^ min ((47 : Int)).toNat (IntKind.bits .i64)))).toNat) &&& BitVec.ofInt (IntKind.bits .i64) 255).toNat) + (IntKind.wrap .i64 v3))) &&& BitVec.ofInt (IntKind.bits .i64) 255).toNat), (⟨x0.b, (IntKind.wrap .i64 (x0.i + 1)), (IntKind.wrap .i64 ((IntKind.wrap .i64 (x0.h * 6364136223846793005)) + 1442695040888963407))⟩ : Src)))) else (some ((IntKind.wrap .i64 (BitVec.ofInt (IntKind.bits .i64) (IntKind.wrap .i64 (BitVec.ofInt (IntKind.bits .i64) (Int.fdiv (IntKind.wrap .i64 ((IntKind.wrap .i64 (x0.h * 6364136223846793005)) + 1442695040888963407)) (2 ^ min ((33 : Int)).toNat (IntKind.bits .i64))) ^^^ BitVec.ofInt (IntKind.bits .i64) (Int.fdiv (IntKind.wrap .i64 ((IntKind.wrap .i64 (x0.h * 6364136223846793005)) + 1442695040888963407)) (2 ^ min ((47 : Int)).toNat (IntKind.bits .i64)))).toNat) &&& BitVec.ofInt (IntKind.bits .i64) 255).toNat), (⟨x0.b, x0.i, (IntKind.wrap .i64 ((IntKind.wrap .i64 (x0.h * 6364136223846793005)) + 1442695040888963407))⟩ : Src)))) else none) else none)
/-- loop.example/g00326/spec.l1Byte -/
theorem spec_l1Byte (n : Nat) (x0 : Src) (r : Int × Src) (H : spec_l1ByteF n x0 = some r) : LCall Try.prog 83 [.ptr (CV.frzRow (Src.row x0))] [.val false [.lit (.int .i64 r.1)]] [(0, (CV.frzRow (Src.row r.2)))] := by
  refine LCall.of_body tOk Try.func83 rfl (c := (.seq (.region 0 (rg Try.f83 0) false) (.seq (.region 1 (rg Try.f83 1) false) (.seq (.region 2 (rg Try.f83 2) true) (.seq (.seq (.region 3 (rg Try.f83 3) true) (.cond (.tmp 34) (.seq (.region 4 (rg Try.f83 4) true) (.region 5 (rg Try.f83 5) false)) .skip)) (.seq (.region 6 (rg Try.f83 6) false) .ret)))))) (by kernel_rfl) (Nat.le_of_ble_eq_true (by kernel_rfl)) 1 (rs := [.tmp 2]) rfl [] .nil [(false, [.lit (.int .i64 r.1)])] [] [(0, (CV.frzRow (Src.row r.2)))] fun cx => ?_
  show Tr _ _ _ ⟨58, 1, [(0, .adr (.box 0) [(0, 0)] 3 0)], [(0, (CV.frzRow (Src.row x0)))]⟩ _
  unfold spec_l1ByteF at H
  refine Tr.rs ?_
  refine LAt.runU tOk 1 (by kernel_rfl) ?_
  refine LAt.doneU [2, 0] [0] (by kernel_rfl) ?_
  refine Tr.rs ?_
  refine LAt.runU tOk 10 (by kernel_rfl) ?_
  refine LAt.doneU [2, 0] [0] (by kernel_rfl) ?_
  obtain ⟨hg1, H⟩ := guard_some H
  obtain ⟨hg2, H⟩ := guard_some H
  refine Tr.draws mixed 13 (by kernel_rfl) ⟨58, 1, [(3, .val false [.lit (.int .i64 (IntKind.wrap .i64 (BitVec.ofInt (IntKind.bits .i64) (IntKind.wrap .i64 (BitVec.ofInt (IntKind.bits .i64) (Int.fdiv (IntKind.wrap .i64 ((IntKind.wrap .i64 (x0.h * 6364136223846793005)) + 1442695040888963407)) (2 ^ min ((33 : Int)).toNat (IntKind.bits .i64))) ^^^ BitVec.ofInt (IntKind.bits .i64) (Int.fdiv (IntKind.wrap .i64 ((IntKind.wrap .i64 (x0.h * 6364136223846793005)) + 1442695040888963407)) (2 ^ min ((47 : Int)).toNat (IntKind.bits .i64)))).toNat) &&& BitVec.ofInt (IntKind.bits .i64) 255).toNat))]), (2, .val false [.lit (.int .i64 0)]), (0, .adr (.box 0) [(0, 0)] 3 0)], [(0, [.sl false 1 (CV.frzEs (x0.b.map byteRow)), .lit (.int .i64 x0.i), .lit (.int .i64 (IntKind.wrap .i64 ((IntKind.wrap .i64 (x0.h * 6364136223846793005)) + 1442695040888963407)))])]⟩ (fun cx => ?_) ?_
  · refine AT.runU tOk [(0, []), (1, []), (2, []), (3, [4]), (5, []), (6, []), (7, []), (8, [9])] 5 [⟨[9], 3, 20, 21⟩, ⟨[4], 3, 15, 16⟩] [8, 7, 6, 5, 3, 2, 1, 0] rfl (by kernel_rfl) (fun cx => ?_)
    refine AT.big2 tOk 4 9 (by kernel_rfl) (And.intro (by kernel_rfl) ?_) (And.intro (by kernel_rfl) ?_)
    · refine LAt.binC tOk (op := .shr) (t := 3) (ty := 86) (ty' := 3) (x := (.tmp 16)) (y := (.const (.int .u64 33))) (d := 17) (g := none) (.int .i64 (IntKind.wrap .i64 ((IntKind.wrap .i64 (x0.h * 6364136223846793005)) + 1442695040888963407))) (.int .u64 33) (.int .i64 (Int.fdiv (IntKind.wrap .i64 ((IntKind.wrap .i64 (x0.h * 6364136223846793005)) + 1442695040888963407)) (2 ^ min ((33 : Int)).toNat (IntKind.bits .i64)))) _ (by kernel_rfl) (by kernel_rfl) (by kernel_rfl) (by kernel_rfl) (by kernel_rfl) (φ := (0 : Int) ≤ 33) (by kernel_rfl) (of_decide_eq_true hg1) rfl ?_
      refine LAt.fin (by kernel_rfl) (And.intro (And.intro (by kernel_rfl) (by kernel_rfl)) ?_)
      refine AT.big1 tOk 9 (by kernel_rfl) (by kernel_rfl) ?_
      refine LAt.binC tOk (op := .shr) (t := 3) (ty := 86) (ty' := 3) (x := (.tmp 21)) (y := (.const (.int .u64 47))) (d := 22) (g := none) (.int .i64 (IntKind.wrap .i64 ((IntKind.wrap .i64 (x0.h * 6364136223846793005)) + 1442695040888963407))) (.int .u64 47) (.int .i64 (Int.fdiv (IntKind.wrap .i64 ((IntKind.wrap .i64 (x0.h * 6364136223846793005)) + 1442695040888963407)) (2 ^ min ((47 : Int)).toNat (IntKind.bits .i64)))) _ (by kernel_rfl) (by kernel_rfl) (by kernel_rfl) (by kernel_rfl) (by kernel_rfl) (φ := (0 : Int) ≤ 47) (by kernel_rfl) (of_decide_eq_true hg2) rfl ?_
      refine LAt.fin (by kernel_rfl) (And.intro (And.intro (by kernel_rfl) (by kernel_rfl)) ?_)
      refine AT.runU tOk [(10, []), (11, []), (12, [])] 0 [⟨[9], 3, 20, 21⟩, ⟨[4], 3, 15, 16⟩] [12, 11, 10, 9, 4, 8, 7, 6, 5, 3, 2, 1, 0] rfl (by kernel_rfl) (fun cx => ?_)
      exact AT.done [3, 2, 0] [0] _ (by kernel_rfl) (by kernel_rfl) rfl
    · refine LAt.binC tOk (op := .shr) (t := 3) (ty := 86) (ty' := 3) (x := (.tmp 21)) (y := (.const (.int .u64 47))) (d := 22) (g := none) (.int .i64 (IntKind.wrap .i64 ((IntKind.wrap .i64 (x0.h * 6364136223846793005)) + 1442695040888963407))) (.int .u64 47) (.int .i64 (Int.fdiv (IntKind.wrap .i64 ((IntKind.wrap .i64 (x0.h * 6364136223846793005)) + 1442695040888963407)) (2 ^ min ((47 : Int)).toNat (IntKind.bits .i64)))) _ (by kernel_rfl) (by kernel_rfl) (by kernel_rfl) (by kernel_rfl) (by kernel_rfl) (φ := (0 : Int) ≤ 47) (by kernel_rfl) (of_decide_eq_true hg2) rfl ?_
      refine LAt.fin (by kernel_rfl) (And.intro (And.intro (by kernel_rfl) (by kernel_rfl)) ?_)
      refine AT.big1 tOk 4 (by kernel_rfl) (by kernel_rfl) ?_
      refine LAt.binC tOk (op := .shr) (t := 3) (ty := 86) (ty' := 3) (x := (.tmp 16)) (y := (.const (.int .u64 33))) (d := 17) (g := none) (.int .i64 (IntKind.wrap .i64 ((IntKind.wrap .i64 (x0.h * 6364136223846793005)) + 1442695040888963407))) (.int .u64 33) (.int .i64 (Int.fdiv (IntKind.wrap .i64 ((IntKind.wrap .i64 (x0.h * 6364136223846793005)) + 1442695040888963407)) (2 ^ min ((33 : Int)).toNat (IntKind.bits .i64)))) _ (by kernel_rfl) (by kernel_rfl) (by kernel_rfl) (by kernel_rfl) (by kernel_rfl) (φ := (0 : Int) ≤ 33) (by kernel_rfl) (of_decide_eq_true hg1) rfl ?_
      refine LAt.fin (by kernel_rfl) (And.intro (And.intro (by kernel_rfl) (by kernel_rfl)) ?_)
      refine AT.runU tOk [(10, []), (11, []), (12, [])] 0 [⟨[9], 3, 20, 21⟩, ⟨[4], 3, 15, 16⟩] [12, 11, 10, 4, 9, 8, 7, 6, 5, 3, 2, 1, 0] rfl (by kernel_rfl) (fun cx => ?_)
      exact AT.done [3, 2, 0] [0] _ (by kernel_rfl) (by kernel_rfl) rfl
  · refine Tr.seq ?_
    refine Tr.draws mixed 10 (by kernel_rfl) ⟨58, 1, [(34, .val false [.lit (.bool (decide (x0.i < (x0.b.length : Int))))]), (3, .val false [.lit (.int .i64 (IntKind.wrap .i64 (BitVec.ofInt (IntKind.bits .i64) (IntKind.wrap .i64 (BitVec.ofInt (IntKind.bits .i64) (Int.fdiv (IntKind.wrap .i64 ((IntKind.wrap .i64 (x0.h * 6364136223846793005)) + 1442695040888963407)) (2 ^ min ((33 : Int)).toNat (IntKind.bits .i64))) ^^^ BitVec.ofInt (IntKind.bits .i64) (Int.fdiv (IntKind.wrap .i64 ((IntKind.wrap .i64 (x0.h * 6364136223846793005)) + 1442695040888963407)) (2 ^ min ((47 : Int)).toNat (IntKind.bits .i64)))).toNat) &&& BitVec.ofInt (IntKind.bits .i64) 255).toNat))]), (2, .val false [.lit (.int .i64 0)]), (0, .adr (.box 0) [(0, 0)] 3 0)], [(0, [.sl false 1 (CV.frzEs (x0.b.map byteRow)), .lit (.int .i64 x0.i), .lit (.int .i64 (IntKind.wrap .i64 ((IntKind.wrap .i64 (x0.h * 6364136223846793005)) + 1442695040888963407)))])]⟩ (fun cx => ?_) ?_
    · refine AT.runU tOk [(0, []), (1, []), (2, []), (3, []), (4, []), (5, []), (6, []), (7, [])] 2 [⟨[], 61, 31, 32⟩, ⟨[], 3, 27, 28⟩] [7, 6, 5, 4, 3, 2, 1, 0] rfl (by kernel_rfl) (fun cx => ?_)
      refine AT.lenE tOk 8 (t := 61) (ty := 3) (e := 5) (x := (.tmp 32)) (d := 33) (g := none) ⟨(.box 0), [(0, 0)], 0, false, 1, (CV.frzEs (x0.b.map byteRow))⟩ (x0.b).length _ (by kernel_rfl) (by kernel_rfl) (by kernel_rfl) (by kernel_rfl) (by kernel_rfl) (by kernel_rfl) (by kernel_rfl) (frz_len _ _) rfl (fun cx => ?_)
      refine AT.runU tOk [(9, [])] 0 [⟨[], 61, 31, 32⟩, ⟨[], 3, 27, 28⟩] [9, 8, 7, 6, 5, 4, 3, 2, 1, 0] rfl (by kernel_rfl) (fun cx => ?_)
      exact AT.done [34, 3, 2, 0] [0] _ (by kernel_rfl) (by kernel_rfl) rfl
    · refine Tr.to ⟨58, 1, [(34, .val false [.lit (.bool (decide (x0.i < (x0.b.length : Int))))]), (3, .val false [.lit (.int .i64 (IntKind.wrap .i64 (BitVec.ofInt (IntKind.bits .i64) (IntKind.wrap .i64 (BitVec.ofInt (IntKind.bits .i64) (Int.fdiv (IntKind.wrap .i64 ((IntKind.wrap .i64 (x0.h * 6364136223846793005)) + 1442695040888963407)) (2 ^ min ((33 : Int)).toNat (IntKind.bits .i64))) ^^^ BitVec.ofInt (IntKind.bits .i64) (Int.fdiv (IntKind.wrap .i64 ((IntKind.wrap .i64 (x0.h * 6364136223846793005)) + 1442695040888963407)) (2 ^ min ((47 : Int)).toNat (IntKind.bits .i64)))).toNat) &&& BitVec.ofInt (IntKind.bits .i64) 255).toNat))]), (2, .val false [.lit (.int .i64 0)]), (0, .adr (.box 0) [(0, 0)] 3 0)], [(0, [.sl false 1 (CV.frzEs (x0.b.map byteRow)), .lit (.int .i64 x0.i), .lit (.int .i64 (IntKind.wrap .i64 ((IntKind.wrap .i64 (x0.h * 6364136223846793005)) + 1442695040888963407)))])]⟩ (by kernel_rfl) ?_
      cases h1 : (decide (x0.i < (x0.b.length : Int)))
      · have H := bifF h1 H
        refine Tr.cond (b := false) (by kernel_rfl) (fun h => nomatch h) (fun _ => ?_)
        refine Tr.skip ?_
        show Tr _ _ _ _ _
        refine Tr.rs ?_
        refine LAt.runU tOk 2 (by kernel_rfl) ?_
        refine LAt.doneU [2, 0] [0] (by kernel_rfl) ?_
        refine Tr.ret ?_
        have H := Option.some.inj H
        subst H
        exact Fin.ofY _ [(false, [.lit (.int .i64 (IntKind.wrap .i64 (BitVec.ofInt (IntKind.bits .i64) (IntKind.wrap .i64 (BitVec.ofInt (IntKind.bits .i64) (Int.fdiv (IntKind.wrap .i64 ((IntKind.wrap .i64 (x0.h * 6364136223846793005)) + 1442695040888963407)) (2 ^ min ((33 : Int)).toNat (IntKind.bits .i64))) ^^^ BitVec.ofInt (IntKind.bits .i64) (Int.fdiv (IntKind.wrap .i64 ((IntKind.wrap .i64 (x0.h * 6364136223846793005)) + 1442695040888963407)) (2 ^ min ((47 : Int)).toNat (IntKind.bits .i64)))).toNat) &&& BitVec.ofInt (IntKind.bits .i64) 255).toNat))])] [] _ [] _ [(0, [.sl false 1 (CV.frzEs (x0.b.map byteRow)), .lit (.int .i64 x0.i), .lit (.int .i64 (IntKind.wrap .i64 ((IntKind.wrap .i64 (x0.h * 6364136223846793005)) + 1442695040888963407)))])] (by kernel_rfl) rfl rfl rfl (by kernel_rfl) (by kernel_rfl) (by kernel_rfl) (by kernel_rfl) rfl rfl rfl
      · have H := bifT h1 H
        refine Tr.cond (b := true) (by kernel_rfl) (fun _ => ?_) (fun h => nomatch h)
        obtain ⟨v3, ev3, H⟩ := bind_some H
        refine Tr.draws mixed 15 (by kernel_rfl) ⟨58, 1, [(3, .val false [.lit (.int .i64 (IntKind.wrap .i64 (BitVec.ofInt (IntKind.bits .i64) (IntKind.wrap .i64 ((IntKind.wrap .i64 (BitVec.ofInt (IntKind.bits .i64) (IntKind.wrap .i64 (BitVec.ofInt (IntKind.bits .i64) (Int.fdiv (IntKind.wrap .i64 ((IntKind.wrap .i64 (x0.h * 6364136223846793005)) + 1442695040888963407)) (2 ^ min ((33 : Int)).toNat (IntKind.bits .i64))) ^^^ BitVec.ofInt (IntKind.bits .i64) (Int.fdiv (IntKind.wrap .i64 ((IntKind.wrap .i64 (x0.h * 6364136223846793005)) + 1442695040888963407)) (2 ^ min ((47 : Int)).toNat (IntKind.bits .i64)))).toNat) &&& BitVec.ofInt (IntKind.bits .i64) 255).toNat) + (IntKind.wrap .i64 v3))) &&& BitVec.ofInt (IntKind.bits .i64) 255).toNat))]), (2, .val false [.lit (.int .i64 0)]), (0, .adr (.box 0) [(0, 0)] 3 0)], [(0, [.sl false 1 (CV.frzEs (x0.b.map byteRow)), .lit (.int .i64 x0.i), .lit (.int .i64 (IntKind.wrap .i64 ((IntKind.wrap .i64 (x0.h * 6364136223846793005)) + 1442695040888963407)))])]⟩ (fun cx => ?_) ?_
        · refine AT.runU tOk [(0, []), (1, []), (2, []), (3, []), (4, []), (5, []), (6, []), (7, []), (8, [])] 6 [⟨[], 3, 42, 43⟩, ⟨[], 61, 38, 39⟩] [8, 7, 6, 5, 4, 3, 2, 1, 0] rfl (by kernel_rfl) (fun cx => ?_)
          refine AT.indexF tOk 9 (t := 61) (ty := 0) (x := (.tmp 39)) (y := (.tmp 43)) (d := 44) (g := none) ⟨(.box 0), [(0, 0)], 0, false, 1, (CV.frzEs (x0.b.map byteRow))⟩ x0.i [.lit (.int .u8 v3)] _ (by kernel_rfl) (by kernel_rfl) (by kernel_rfl) (by kernel_rfl) (by kernel_rfl) (by kernel_rfl) rfl (idx_isF ev3) rfl (fun cx => ?_)
          refine AT.runU tOk [(10, []), (11, []), (12, []), (13, []), (14, [])] 0 [⟨[], 3, 42, 43⟩, ⟨[], 61, 38, 39⟩] [14, 13, 12, 11, 10, 9, 8, 7, 6, 5, 4, 3, 2, 1, 0] rfl (by kernel_rfl) (fun cx => ?_)
          exact AT.done [3, 2, 0] [0] _ (by kernel_rfl) (by kernel_rfl) rfl
        · refine Tr.at ?_
          refine LAt.runU tOk 9 (by kernel_rfl) ?_
          refine LAt.doneU [3, 2, 0] [0] (by kernel_rfl) ?_
          show Tr _ _ _ _ _
          refine Tr.rs ?_
          refine LAt.runU tOk 2 (by kernel_rfl) ?_
          refine LAt.doneU [2, 0] [0] (by kernel_rfl) ?_
          refine Tr.ret ?_
          have H := Option.some.inj H
          subst H
          exact Fin.ofY _ [(false, [.lit (.int .i64 (IntKind.wrap .i64 (BitVec.ofInt (IntKind.bits .i64) (IntKind.wrap .i64 ((IntKind.wrap .i64 (BitVec.ofInt (IntKind.bits .i64) (IntKind.wrap .i64 (BitVec.ofInt (IntKind.bits .i64) (Int.fdiv (IntKind.wrap .i64 ((IntKind.wrap .i64 (x0.h * 6364136223846793005)) + 1442695040888963407)) (2 ^ min ((33 : Int)).toNat (IntKind.bits .i64))) ^^^ BitVec.ofInt (IntKind.bits .i64) (Int.fdiv (IntKind.wrap .i64 ((IntKind.wrap .i64 (x0.h * 6364136223846793005)) + 1442695040888963407)) (2 ^ min ((47 : Int)).toNat (IntKind.bits .i64)))).toNat) &&& BitVec.ofInt (IntKind.bits .i64) 255).toNat) + (IntKind.wrap .i64 v3))) &&& BitVec.ofInt (IntKind.bits .i64) 255).toNat))])] [] _ [] _ [(0, [.sl false 1 (CV.frzEs (x0.b.map byteRow)), .lit (.int .i64 (IntKind.wrap .i64 (x0.i + 1))), .lit (.int .i64 (IntKind.wrap .i64 ((IntKind.wrap .i64 (x0.h * 6364136223846793005)) + 1442695040888963407)))])] (by kernel_rfl) rfl rfl rfl (by kernel_rfl) (by kernel_rfl) (by kernel_rfl) (by kernel_rfl) rfl rfl rfl

def spec_l1BelowF (n : Nat) (x0 : Src) (x1 : Int) : Option (Int × Src) :=
  (bif (decide (x1 ≤ 0)) then (some (0, x0)) else (bif (decide (x1 ≤ 256)) then ((spec_l1ByteF n x0).bind fun r5 => (bif (decide ((x1 : Int) ≠ 0)) then (some ((Int.tmod r5.1 x1), r5.2)) else none)) else ((spec_l1ByteF n x0).bind fun r1 => ((spec_l1ByteF n r1.2).bind fun r2 => ((spec_l1ByteF n r2.2).bind fun r3 => (bif (decide ((x1 : Int) ≠ 0)) then (some ((Int.tmod (IntKind.wrap .i64 ((IntKind.wrap .i64 ((IntKind.wrap .i64 (r1.1 * 65536)) + (IntKind.wrap .i64 (r2.1 * 256)))) + r3.1)) x1), r3.2)) else none))))))
/-- loop.example/g00326/spec.l1Below -/
theorem spec_l1Below (n : Nat) (x0 : Src) (x1 : Int) (r : Int × Src) (H : spec_l1BelowF n x0 x1 = some r) : LCall Try.prog 76 [.ptr (CV.frzRow (Src.row x0)), .val false [.lit (.int .i64 x1)]] [.val false [.lit (.int .i64 r.1)]] [(0, (CV.frzRow (Src.row r.2)))] := by
  refine LCall.of_body tOk Try.func76 rfl (c := (.seq (.region 0 (rg Try.f76 0) false) (.seq (.seq (.region 1 (rg Try.f76 1) false) (.cond (.tmp 9) (.seq (.region 2 (rg Try.f76 2) false) .ret) .skip)) (.seq (.seq (.region 3 (rg Try.f76 3) false) (.cond (.tmp 11) (.seq (.region 4 (rg Try.f76 4) false) .ret) .skip)) (.seq (.region 5 (rg Try.f76 5) false) (.seq (.region 6 (rg Try.f76 6) false) (.seq (.region 7 (rg Try.f76 7) false) (.seq (.region 8 (rg Try.f76 8) false) .ret)))))))) (by kernel_rfl) (Nat.le_of_ble_eq_true (by kernel_rfl)) 1 (rs := [.tmp 4]) rfl [] .nil [(false, [.lit (.int .i64 r.1)])] [] [(0, (CV.frzRow (Src.row r.2)))] fun cx => ?_
  show Tr _ _ _ ⟨31, 1, [(0, .adr (.box 0) [(0, 0)] 3 0), (1, .val false [.lit (.int .i64 x1)])], [(0, (CV.frzRow (Src.row x0)))]⟩ _
  unfold spec_l1BelowF at H
  refine Tr.rs ?_
  refine LAt.runU tOk 1 (by kernel_rfl) ?_
  refine LAt.doneU [4, 0, 1] [0] (by kernel_rfl) ?_
  refine Tr.seq ?_
  refine Tr.rs ?_
  refine LAt.runU tOk 2 (by kernel_rfl) ?_
  refine LAt.doneU [9, 4, 0, 1] [0] (by kernel_rfl) ?_
  refine Tr.to ⟨31, 1, [(9, .val false [.lit (.bool (decide (x1 ≤ 0)))]), (4, .val false [.lit (.int .i64 0)]), (0, .adr (.box 0) [(0, 0)] 3 0), (1, .val false [.lit (.int .i64 x1)])], [(0, (CV.frzRow (Src.row x0)))]⟩ (by kernel_rfl) ?_
  cases h1 : (decide (x1 ≤ 0))
  · have H := bifF h1 H
    refine Tr.cond (b := false) (by kernel_rfl) (fun h => nomatch h) (fun _ => ?_)
    refine Tr.skip ?_
    show Tr _ _ _ _ _
    refine Tr.seq ?_
    refine Tr.rs ?_
    refine LAt.runU tOk 2 (by kernel_rfl) ?_
    refine LAt.doneU [11, 4, 0, 1] [0] (by kernel_rfl) ?_
    refine Tr.to ⟨31, 1, [(11, .val false [.lit (.bool (decide (x1 ≤ 256)))]), (4, .val false [.lit (.int .i64 0)]), (0, .adr (.box 0) [(0, 0)] 3 0), (1, .val false [.lit (.int .i64 x1)])], [(0, (CV.frzRow (Src.row x0)))]⟩ (by kernel_rfl) ?_
    cases h2 : (decide (x1 ≤ 256))
    · have H := bifF h2 H
      refine Tr.cond (b := false) (by kernel_rfl) (fun h => nomatch h) (fun _ => ?_)
      refine Tr.skip ?_
      show Tr _ _ _ _ _
      refine Tr.rs ?_
      refine LAt.runU tOk 1 (by kernel_rfl) ?_
      obtain ⟨r1, er1, H⟩ := bind_some H
      refine LAt.callL tOk [.lend] (f := 83) (av := #[.tmp 16]) (ats := #[90]) (d := (some 17)) (ty := 3) (g := none) (by kernel_rfl) (by kernel_rfl) (by kernel_rfl) [] (spec_l1Byte n x0 r1 er1) (by kernel_rfl) (.inl rfl) ?_
      refine LAt.runU tOk 1 (by kernel_rfl) ?_
      refine LAt.doneU [5, 4, 0, 1] [0] (by kernel_rfl) ?_
      refine Tr.rs ?_
      refine LAt.runU tOk 1 (by kernel_rfl) ?_
      obtain ⟨r2, er2, H⟩ := bind_some H
      refine LAt.callL tOk [.lend] (f := 83) (av := #[.tmp 18]) (ats := #[90]) (d := (some 19)) (ty := 3) (g := none) (by kernel_rfl) (by kernel_rfl) (by kernel_rfl) [] (spec_l1Byte n r1.2 r2 er2) (by kernel_rfl) (.inl rfl) ?_
      refine LAt.runU tOk 1 (by kernel_rfl) ?_
      refine LAt.doneU [6, 5, 4, 0, 1] [0] (by kernel_rfl) ?_
      refine Tr.rs ?_
      refine LAt.runU tOk 1 (by kernel_rfl) ?_
      obtain ⟨r3, er3, H⟩ := bind_some H
      refine LAt.callL tOk [.lend] (f := 83) (av := #[.tmp 20]) (ats := #[90]) (d := (some 21)) (ty := 3) (g := none) (by kernel_rfl) (by kernel_rfl) (by kernel_rfl) [] (spec_l1Byte n r2.2 r3 er3) (by kernel_rfl) (.inl rfl) ?_
      refine LAt.runU tOk 1 (by kernel_rfl) ?_
      refine LAt.doneU [7, 6, 5, 4, 0, 1] [0] (by kernel_rfl) ?_
      refine Tr.rs ?_
      refine LAt.runU tOk 8 (by kernel_rfl) ?_
      obtain ⟨hg4, H⟩ := guard_some H
      refine LAt.binC tOk (op := .rem) (t := 3) (ty := 3) (ty' := 3) (x := (.tmp 28)) (y := (.tmp 29)) (d := 30) (g := none) (.int .i64 (IntKind.wrap .i64 ((IntKind.wrap .i64 ((IntKind.wrap .i64 (r1.1 * 65536)) + (IntKind.wrap .i64 (r2.1 * 256)))) + r3.1))) (.int .i64 x1) (.int .i64 (Int.tmod (IntKind.wrap .i64 ((IntKind.wrap .i64 ((IntKind.wrap .i64 (r1.1 * 65536)) + (IntKind.wrap .i64 (r2.1 * 256)))) + r3.1)) x1)) _ (by kernel_rfl) (by kernel_rfl) (by kernel_rfl) (by kernel_rfl) (by kernel_rfl) (φ := (IntKind.i64 = IntKind.i64 ∧ (x1 : Int) ≠ 0)) (by kernel_rfl) (⟨rfl, of_decide_eq_true hg4⟩) rfl ?_
      refine LAt.runU tOk 1 (by kernel_rfl) ?_
      refine LAt.doneU [4, 0] [0] (by kernel_rfl) ?_
      refine Tr.ret ?_
      have H := Option.some.inj H
      subst H
      exact Fin.ofY _ [(false, [.lit (.int .i64 (Int.tmod (IntKind.wrap .i64 ((IntKind.wrap .i64 ((IntKind.wrap .i64 (r1.1 * 65536)) + (IntKind.wrap .i64 (r2.1 * 256)))) + r3.1)) x1))])] [] _ [] _ [(0, (CV.frzRow (Src.row r3.2)))] (by kernel_rfl) rfl rfl rfl (by kernel_rfl) (by kernel_rfl) (by kernel_rfl) (by kernel_rfl) rfl rfl rfl
    · have H := bifT h2 H
      refine Tr.cond (b := true) (by kernel_rfl) (fun _ => ?_) (fun h => nomatch h)
      refine Tr.rs ?_
      refine LAt.runU tOk 1 (by kernel_rfl) ?_
      obtain ⟨r5, er5, H⟩ := bind_some H
      refine LAt.callL tOk [.lend] (f := 83) (av := #[.tmp 12]) (ats := #[90]) (d := (some 13)) (ty := 3) (g := none) (by kernel_rfl) (by kernel_rfl) (by kernel_rfl) [] (spec_l1Byte n x0 r5 er5) (by kernel_rfl) (.inl rfl) ?_
      refine LAt.runU tOk 1 (by kernel_rfl) ?_
      obtain ⟨hg6, H⟩ := guard_some H
      refine LAt.binC tOk (op := .rem) (t := 3) (ty := 3) (ty' := 3) (x := (.tmp 13)) (y := (.tmp 14)) (d := 15) (g := none) (.int .i64 r5.1) (.int .i64 x1) (.int .i64 (Int.tmod r5.1 x1)) _ (by kernel_rfl) (by kernel_rfl) (by kernel_rfl) (by kernel_rfl) (by kernel_rfl) (φ := (IntKind.i64 = IntKind.i64 ∧ (x1 : Int) ≠ 0)) (by kernel_rfl) (⟨rfl, of_decide_eq_true hg6⟩) rfl ?_
      refine LAt.runU tOk 1 (by kernel_rfl) ?_
      refine LAt.doneU [4, 0, 1] [0] (by kernel_rfl) ?_
      refine Tr.ret ?_
      have H := Option.some.inj H
      subst H
      exact Fin.ofY _ [(false, [.lit (.int .i64 (Int.tmod r5.1 x1))])] [] _ [] _ [(0, (CV.frzRow (Src.row r5.2)))] (by kernel_rfl) rfl rfl rfl (by kernel_rfl) (by kernel_rfl) (by kernel_rfl) (by kernel_rfl) rfl rfl rfl
  · have H := bifT h1 H
    refine Tr.cond (b := true) (by kernel_rfl) (fun _ => ?_) (fun h => nomatch h)
    refine Tr.rs ?_
    refine LAt.runU tOk 1 (by kernel_rfl) ?_
    refine LAt.doneU [4, 0, 1] [0] (by kernel_rfl) ?_
    refine Tr.ret ?_
    have H := Option.some.inj H
    subst H
    exact Fin.ofY _ [(false, [.lit (.int .i64 0)])] [] _ [] _ [(0, (CV.frzRow (Src.row x0)))] (by kernel_rfl) rfl rfl rfl (by kernel_rfl) (by kernel_rfl) (by kernel_rfl) (by kernel_rfl) rfl rfl rfl

def spec_l1InF (n : Nat) (x0 : Int) (x1 : Int) (x2 : Int) : Option (Bool) :=
  (bif (decide (x0 ≥ x1)) then (some (decide (x0 ≤ x2))) else (some false))
/-- loop.example/g00326/spec.l1In -/
theorem spec_l1In (n : Nat) (x0 : Int) (x1 : Int) (x2 : Int) (r : Bool) (H : spec_l1InF n x0 x1 x2 = some r) : LCall Try.prog 51 [.val false [.lit (.int .i64 x0)], .val false [.lit (.int .i64 x1)], .val false [.lit (.int .i64 x2)]] [.val false [.lit (.bool r)]] [] := by
  refine LCall.of_body tOk Try.func51 rfl (c := (.seq (.region 0 (rg Try.f51 0) false) (.seq (.region 1 (rg Try.f51 1) false) .ret))) (by kernel_rfl) (Nat.le_of_ble_eq_true (by kernel_rfl)) 0 (rs := [.tmp 6]) rfl [] .nil [(false, [.lit (.bool r)])] [] [] fun cx => ?_
  show Tr _ _ _ ⟨15, 0, [(0, .val false [.lit (.int .i64 x0)]), (1, .val false [.lit (.int .i64 x1)]), (2, .val false [.lit (.int .i64 x2)])], []⟩ _
  unfold spec_l1InF at H
  refine Tr.rs ?_
  refine LAt.runU tOk 1 (by kernel_rfl) ?_
  refine LAt.doneU [6, 0, 1, 2] [] (by kernel_rfl) ?_
  refine Tr.rs ?_
  refine LAt.runU tOk 4 (by kernel_rfl) ?_
  refine LAt.to ⟨15, 0, [(10, .val false [.lit (.bool (decide (x0 ≥ x1)))]), (9, .val false [.lit (.bool (decide (x0 ≥ x1)))]), (8, .val false [.lit (.int .i64 x1)]), (7, .val false [.lit (.int .i64 x0)]), (6, .val false [.lit (.bool false)]), (0, .val false [.lit (.int .i64 x0)]), (1, .val false [.lit (.int .i64 x1)]), (2, .val false [.lit (.int .i64 x2)])], []⟩ (by kernel_rfl) ?_
  cases h1 : (decide (x0 ≥ x1))
  · have H := bifF h1 H
    refine LAt.runU tOk 5 (by kernel_rfl) ?_
    refine LAt.doneU [6] [] (by kernel_rfl) ?_
    refine Tr.ret ?_
    have H := Option.some.inj H
    subst H
    exact Fin.of _ [(false, [.lit (.bool false)])] (by kernel_rfl) rfl rfl
  · have H := bifT h1 H
    refine LAt.runU tOk 5 (by kernel_rfl) ?_
    refine LAt.doneU [6] [] (by kernel_rfl) ?_
    refine Tr.ret ?_
    have H := Option.some.inj H
    subst H
    exact Fin.of _ [(false, [.lit (.bool (decide (x0 ≤ x2)))])] (by kernel_rfl) rfl rfl

def spec_VtabNew_J1 (n : Nat) (x0 : Int) (y5 : (List Int)) : Option (Vtab) :=
  (some (⟨[(⟨1, (IntKind.wrap .i64 ((IntKind.wrap .i64 (1 * 2 ^ min (((IntKind.wrap .u64 x0) : Int)).toNat (IntKind.bits .i64))) - 1)), (IntKind.wrap .i64 ((IntKind.wrap .i64 (1 * 2 ^ min (((IntKind.wrap .u64 x0) : Int)).toNat (IntKind.bits .i64))) - 1))⟩ : Vrow)], y5⟩ : Vtab))
def spec_VtabNew_L2 (n : Nat) : Nat → Int → Int → (List Int) → Option (((List Int)) ⊕ (Vtab))
  | 0, _, _, _ => none
  | mo6 + 1, x0, y3, y4 => (bif (decide (y3 < x0)) then (bif (decide (y4.length + [1].length ≤ 268435456)) then (spec_VtabNew_L2 n mo6 x0 (IntKind.wrap .i64 (y3 + 1)) (y4 ++ [1])) else none) else (some (Sum.inl y4)))
def spec_VtabNewF (n : Nat) (x0 : Int) : Option (Vtab) :=
  ((spec_l1InF n x0 1 6).bind fun r1 => (bif (!r1) then (some (⟨([] : List Vrow), ([] : List Int)⟩ : Vtab)) else (bif (decide ((0 : Int) ≤ (IntKind.wrap .u64 x0))) then ((spec_VtabNew_L2 n n x0 0 ([] : List Int)).bind fun o => match o with | .inl y5 => (spec_VtabNew_J1 n x0 y5) | .inr r => some r) else none)))
/-- loop.example/g00326/spec.VtabNew -/
theorem spec_VtabNew (n : Nat) (x0 : Int) (r : Vtab) (H : spec_VtabNewF n x0 = some r) : LCall Try.prog 22 [.val false [.lit (.int .i64 x0)]] [.val true (Vtab.row r)] [] := by
  refine LCall.of_body tOk Try.func22 rfl (c := (.seq (.region 0 (rg Try.f22 0) false) (.seq (.seq (.region 1 (rg Try.f22 1) false) (.cond (.tmp 8) (.seq (.region 2 (rg Try.f22 2) false) .ret) .skip)) (.seq (.region 3 (rg Try.f22 3) false) (.seq (.region 4 (rg Try.f22 4) false) (.seq (.seq (.region 5 (rg Try.f22 5) false) (.block 0 (.loop (.seq (.seq (.region 6 (rg Try.f22 6) false) (.cond (.tmp 21) .skip (.exit 0))) (.seq (.block 1 (.region 8 (rg Try.f22 8) false)) (.region 7 (rg Try.f22 7) false)))))) (.seq (.region 9 (rg Try.f22 9) false) .ret))))))) (by kernel_rfl) (Nat.le_of_ble_eq_true (by kernel_rfl)) 0 (rs := [.cell 2 40]) rfl [] .nil [(true, (Vtab.row r))] [] [] fun cx => ?_
  show Tr _ _ _ ⟨30, 0, [(0, .val false [.lit (.int .i64 x0)])], []⟩ _
  unfold spec_VtabNewF at H
  refine Tr.rs ?_
  refine LAt.runU tOk 1 (by kernel_rfl) ?_
  refine LAt.doneU [2, 0] [2] (by kernel_rfl) ?_
  refine Tr.seq ?_
  refine Tr.rs ?_
  refine LAt.runU tOk 1 (by kernel_rfl) ?_
  obtain ⟨r1, er1, H⟩ := bind_some H
  refine LAt.callU tOk [.rd, .rd, .rd] (f := 51) (av := #[.tmp 6, .const (.int .i64 1), .const (.int .i64 6)]) (ats := #[3, 3, 3]) (d := (some 7)) (ty := 4) (g := none) (by kernel_rfl) (by kernel_rfl) (by kernel_rfl) [] (spec_l1In n x0 1 6 r1 er1) (by kernel_rfl) (.inl rfl) ?_
  refine LAt.runU tOk 1 (by kernel_rfl) ?_
  refine LAt.doneU [8, 2, 0] [2] (by kernel_rfl) ?_
  refine Tr.to ⟨30, 0, [(8, .val false [.lit (.bool (!r1))]), (2, .adr (.box 2) [(0, 0)] 2 0), (0, .val false [.lit (.int .i64 x0)])], [(2, [.sl true 3 (([] : List Vrow).map Vrow.row), .sl true 1 (([] : List Int).map intRow)])]⟩ (by kernel_rfl) ?_
  cases h1 : (!r1)
  · have H := bifF h1 H
    refine Tr.cond (b := false) (by kernel_rfl) (fun h => nomatch h) (fun _ => ?_)
    refine Tr.skip ?_
    show Tr _ _ _ _ _
    refine Tr.rs ?_
    refine LAt.runU tOk 2 (by kernel_rfl) ?_
    obtain ⟨hg2, H⟩ := guard_some H
    refine LAt.binC tOk (op := .shl) (t := 3) (ty := 86) (ty' := 3) (x := (.const (.int .i64 1))) (y := (.tmp 11)) (d := 12) (g := none) (.int .i64 1) (.int .u64 (IntKind.wrap .u64 x0)) (.int .i64 (IntKind.wrap .i64 (1 * 2 ^ min (((IntKind.wrap .u64 x0) : Int)).toNat (IntKind.bits .i64)))) _ (by kernel_rfl) (by kernel_rfl) (by kernel_rfl) (by kernel_rfl) (by kernel_rfl) (φ := (0 : Int) ≤ (IntKind.wrap .u64 x0)) (by kernel_rfl) (of_decide_eq_true hg2) rfl ?_
    refine LAt.runU tOk 2 (by kernel_rfl) ?_
    refine LAt.doneU [3, 2, 0] [2] (by kernel_rfl) ?_
    refine Tr.rs ?_
    refine LAt.runU tOk 7 (by kernel_rfl) ?_
    refine LAt.doneU [4, 2, 0] [4, 2] (by kernel_rfl) ?_
    refine Tr.seq ?_
    refine Tr.rs ?_
    refine LAt.runU tOk 1 (by kernel_rfl) ?_
    refine LAt.doneU [5, 4, 2, 0] [4, 2] (by kernel_rfl) ?_
    obtain ⟨o6, eo6, Ho6⟩ := bind_some H
    clear H
    refine Tr.mid (ι := (List Int)) (fun v => ⟨30, 0, [(4, .adr (.box 4) [(0, 0)] 2 0), (2, .adr (.box 2) [(0, 0)] 2 0)], [(4, [.sl true 3 ([(⟨1, (IntKind.wrap .i64 ((IntKind.wrap .i64 (1 * 2 ^ min (((IntKind.wrap .u64 x0) : Int)).toNat (IntKind.bits .i64))) - 1)), (IntKind.wrap .i64 ((IntKind.wrap .i64 (1 * 2 ^ min (((IntKind.wrap .u64 x0) : Int)).toNat (IntKind.bits .i64))) - 1))⟩ : Vrow)].map Vrow.row), .sl true 1 (v.map intRow)]), (2, [.sl true 3 (([] : List Vrow).map Vrow.row), .sl true 1 (([] : List Int).map intRow)])]⟩) (fun v => spec_VtabNew_J1 n x0 v = some r) ?_ ?_
    · refine Tr.block ?_
      refine Tr.loop (ι := Nat × (Int × (List Int))) (fun v => ⟨30, 0, [(5, .val false [.lit (.int .i64 v.2.1)]), (4, .adr (.box 4) [(0, 0)] 2 0), (2, .adr (.box 2) [(0, 0)] 2 0), (0, .val false [.lit (.int .i64 x0)])], [(4, [.sl true 3 ([(⟨1, (IntKind.wrap .i64 ((IntKind.wrap .i64 (1 * 2 ^ min (((IntKind.wrap .u64 x0) : Int)).toNat (IntKind.bits .i64))) - 1)), (IntKind.wrap .i64 ((IntKind.wrap .i64 (1 * 2 ^ min (((IntKind.wrap .u64 x0) : Int)).toNat (IntKind.bits .i64))) - 1))⟩ : Vrow)].map Vrow.row), .sl true 1 (v.2.2.map intRow)]), (2, [.sl true 3 (([] : List Vrow).map Vrow.row), .sl true 1 (([] : List Int).map intRow)])]⟩) (fun v => spec_VtabNew_L2 n v.1 x0 v.2.1 v.2.2 = some o6) (fun v => v.1) (n, (0, ([] : List Int))) eo6 (St.sub_of [5, 4, 2, 0] [4, 2] (by kernel_rfl)) ?_
      rintro ⟨mo6, y3, y4⟩ H
      have H : spec_VtabNew_L2 n mo6 x0 y3 y4 = some o6 := H
      obtain _ | mo6 := mo6
      · cases (show (none : Option _) = some o6 from H)
      · rw [spec_VtabNew_L2] at H
        refine Tr.seq ?_
        refine Tr.rs ?_
        refine LAt.runU tOk 3 (by kernel_rfl) ?_
        refine LAt.doneU [21, 20, 19, 5, 4, 2, 0] [4, 2] (by kernel_rfl) ?_
        refine Tr.to ⟨30, 0, [(21, .val false [.lit (.bool (decide (y3 < x0)))]), (20, .val false [.lit (.int .i64 x0)]), (19, .val false [.lit (.int .i64 y3)]), (5, .val false [.lit (.int .i64 y3)]), (4, .adr (.box 4) [(0, 0)] 2 0), (2, .adr (.box 2) [(0, 0)] 2 0), (0, .val false [.lit (.int .i64 x0)])], [(4, [.sl true 3 ([(⟨1, (IntKind.wrap .i64 ((IntKind.wrap .i64 (1 * 2 ^ min (((IntKind.wrap .u64 x0) : Int)).toNat (IntKind.bits .i64))) - 1)), (IntKind.wrap .i64 ((IntKind.wrap .i64 (1 * 2 ^ min (((IntKind.wrap .u64 x0) : Int)).toNat (IntKind.bits .i64))) - 1))⟩ : Vrow)].map Vrow.row), .sl true 1 (y4.map intRow)]), (2, [.sl true 3 (([] : List Vrow).map Vrow.row), .sl true 1 (([] : List Int).map intRow)])]⟩ (by kernel_rfl) ?_
        cases h2 : (decide (y3 < x0))
        · have H := bifF h2 H
          refine Tr.cond (b := false) (by kernel_rfl) (fun h => nomatch h) (fun _ => ?_)
          refine Tr.exit ?_
          refine And.intro (fun _ => ?_) (fun h => absurd rfl h)
          have H := Option.some.inj H
          subst H
          have H := Ho6
          dsimp only at H
          exact Exists.intro y4 (And.intro H (St.sub_of [4, 2] [4, 2] (by kernel_rfl)))
        · have H := bifT h2 H
          refine Tr.cond (b := true) (by kernel_rfl) (fun _ => ?_) (fun h => nomatch h)
          refine Tr.skip ?_
          show Tr _ _ _ _ _
          refine Tr.seq ?_
          refine Tr.block ?_
          refine Tr.at ?_
          refine LAt.runU tOk 3 (by kernel_rfl) ?_
          obtain ⟨hg7, H⟩ := guard_some H
          refine LAt.appMU tOk (t := 33) (ty := 33) (e := 3) (x := (.tmp 25)) (y := (.tmp 26)) (d := 27) (g := none) ⟨.int .i64, 1, 8, [.lit (.int .i64 0)]⟩ intRow y4 [1] (by kernel_rfl) (by kernel_rfl) (by kernel_rfl) (by kernel_rfl) (by kernel_rfl) (by kernel_rfl) (by kernel_rfl) (by kernel_rfl) (by kernel_rfl) (by kernel_rfl) hg7 ?_
          refine LAt.runU tOk 2 (by kernel_rfl) ?_
          refine LAt.doneU [28, 24, 21, 20, 19, 5, 4, 2, 0] [4, 2] (by kernel_rfl) ?_
          show Tr _ _ _ _ _
          refine Tr.at ?_
          refine LAt.runU tOk 3 (by kernel_rfl) ?_
          refine LAt.doneU [5, 23, 22, 28, 24, 21, 20, 19, 4, 2, 0] [4, 2] (by kernel_rfl) ?_
          exact Exists.intro (mo6, ((IntKind.wrap .i64 (y3 + 1)), (y4 ++ [1]))) (And.intro H (And.intro (Nat.lt_succ_self mo6) (St.sub_of [5, 4, 2, 0] [4, 2] (by kernel_rfl))))
    · rintro y5 H
      have H : (spec_VtabNew_J1 n x0 y5) = some r := H
      unfold spec_VtabNew_J1 at H
      show Tr _ _ _ _ _
      refine Tr.rs ?_
      refine LAt.runU tOk 2 (by kernel_rfl) ?_
      refine LAt.doneU [2] [2] (by kernel_rfl) ?_
      refine Tr.ret ?_
      have H := Option.some.inj H
      subst H
      exact Fin.of _ [(true, [.sl true 3 ([(⟨1, (IntKind.wrap .i64 ((IntKind.wrap .i64 (1 * 2 ^ min (((IntKind.wrap .u64 x0) : Int)).toNat (IntKind.bits .i64))) - 1)), (IntKind.wrap .i64 ((IntKind.wrap .i64 (1 * 2 ^ min (((IntKind.wrap .u64 x0) : Int)).toNat (IntKind.bits .i64))) - 1))⟩ : Vrow)].map Vrow.row), .sl true 1 (y5.map intRow)])] (by kernel_rfl) rfl rfl
  · have H := bifT h1 H
    refine Tr.cond (b := true) (by kernel_rfl) (fun _ => ?_) (fun h => nomatch h)
    refine Tr.rs ?_
    refine LAt.runU tOk 2 (by kernel_rfl) ?_
    refine LAt.doneU [2, 0] [2] (by kernel_rfl) ?_
    refine Tr.ret ?_
    have H := Option.some.inj H
    subst H
    exact Fin.of _ [(true, [.sl true 3 (([] : List Vrow).map Vrow.row), .sl true 1 (([] : List Int).map intRow)])] (by kernel_rfl) rfl rfl

def spec_RowAt_J1 (n : Nat) : Option (Int) :=
  (some (-1))
def spec_RowAt_L2 (n : Nat) : Nat → Vtab → Int → Int → Option ((Unit) ⊕ (Int))
  | 0, _, _, _ => none
  | mo2 + 1, x0, x1, y1 => (bif (decide (y1 < (x0.Rows.length : Int))) then ((idx x0.Rows y1).bind fun v3 => (bif (v3.Id == x1) then (some (Sum.inr y1)) else (spec_RowAt_L2 n mo2 x0 x1 (IntKind.wrap .i64 (y1 + 1))))) else (some (Sum.inl ())))
def spec_RowAtF (n : Nat) (x0 : Vtab) (x1 : Int) : Option (Int) :=
  ((spec_RowAt_L2 n n x0 x1 0).bind fun o => match o with | .inl _ => (spec_RowAt_J1 n) | .inr r => some r)
/-- loop.example/g00326/spec.RowAt -/
theorem spec_RowAt (n : Nat) (x0 : Vtab) (x1 : Int) (r : Int) (H : spec_RowAtF n x0 x1 = some r) : LCall Try.prog 58 [.val true (CV.frzRow (Vtab.row x0)), .val false [.lit (.int .i64 x1)]] [.val false [.lit (.int .i64 r)]] [] := by
  refine LCall.of_body tOk Try.func58 rfl (c := (.seq (.region 0 (rg Try.f58 0) false) (.seq (.seq (.region 1 (rg Try.f58 1) false) (.block 0 (.loop (.seq (.seq (.region 2 (rg Try.f58 2) false) (.cond (.tmp 10) .skip (.exit 0))) (.seq (.block 1 (.seq (.region 4 (rg Try.f58 4) false) (.cond (.tmp 20) (.seq (.region 5 (rg Try.f58 5) false) .ret) .skip))) (.region 3 (rg Try.f58 3) false)))))) (.seq (.region 6 (rg Try.f58 6) false) .ret)))) (by kernel_rfl) (Nat.le_of_ble_eq_true (by kernel_rfl)) 0 (rs := [.tmp 4]) rfl [] .nil [(false, [.lit (.int .i64 r)])] [] [] fun cx => ?_
  show Tr _ _ _ ⟨22, 0, [(0, .val true (CV.frzRow (Vtab.row x0))), (1, .val false [.lit (.int .i64 x1)])], []⟩ _
  unfold spec_RowAtF at H
  refine Tr.rs ?_
  refine LAt.runU tOk 2 (by kernel_rfl) ?_
  refine LAt.doneU [4, 2, 1] [2] (by kernel_rfl) ?_
  refine Tr.seq ?_
  refine Tr.rs ?_
  refine LAt.runU tOk 1 (by kernel_rfl) ?_
  refine LAt.doneU [5, 4, 2, 1] [2] (by kernel_rfl) ?_
  obtain ⟨o2, eo2, Ho2⟩ := bind_some H
  clear H
  refine Tr.mid (ι := Unit) (fun v => ⟨22, 0, [(4, .val false [.lit (.int .i64 0)])], []⟩) (fun v => spec_RowAt_J1 n = some r) ?_ ?_
  · refine Tr.block ?_
    refine Tr.loop (ι := Nat × (Int)) (fun v => ⟨22, 0, [(5, .val false [.lit (.int .i64 v.2)]), (4, .val false [.lit (.int .i64 0)]), (2, .adr (.box 2) [(0, 0)] 2 0), (1, .val false [.lit (.int .i64 x1)])], [(2, (CV.frzRow (Vtab.row x0)))]⟩) (fun v => spec_RowAt_L2 n v.1 x0 x1 v.2 = some o2) (fun v => v.1) (n, 0) eo2 (St.sub_of [5, 4, 2, 1] [2] (by kernel_rfl)) ?_
    rintro ⟨mo2, y1⟩ H
    have H : spec_RowAt_L2 n mo2 x0 x1 y1 = some o2 := H
    obtain _ | mo2 := mo2
    · cases (show (none : Option _) = some o2 from H)
    · rw [spec_RowAt_L2] at H
      refine Tr.seq ?_
      refine Tr.rs ?_
      refine LAt.runU tOk 3 (by kernel_rfl) ?_
      refine LAt.lenE tOk (t := 38) (ty := 3) (e := 81) (x := (.tmp 8)) (d := 9) (g := none) ⟨(.slot 8), [], 0, false, 3, (CV.frzEs (x0.Rows.map Vrow.row))⟩ (x0.Rows).length _ (by kernel_rfl) (by kernel_rfl) (by kernel_rfl) (by kernel_rfl) (by kernel_rfl) (frz_len _ _) rfl ?_
      refine LAt.runU tOk 1 (by kernel_rfl) ?_
      refine LAt.doneU [10, 9, 8, 7, 6, 5, 4, 2, 1] [2] (by kernel_rfl) ?_
      refine Tr.to ⟨22, 0, [(10, .val false [.lit (.bool (decide (y1 < (x0.Rows.length : Int))))]), (9, .val false [.lit (.int .i64 (x0.Rows.length : Int))]), (8, .val false [.sl false 3 (CV.frzEs (x0.Rows.map Vrow.row))]), (7, .adr (.box 2) [(0, 0)] 2 0), (6, .val false [.lit (.int .i64 y1)]), (5, .val false [.lit (.int .i64 y1)]), (4, .val false [.lit (.int .i64 0)]), (2, .adr (.box 2) [(0, 0)] 2 0), (1, .val false [.lit (.int .i64 x1)])], [(2, (CV.frzRow (Vtab.row x0)))]⟩ (by kernel_rfl) ?_
      cases h1 : (decide (y1 < (x0.Rows.length : Int)))
      · have H := bifF h1 H
        refine Tr.cond (b := false) (by kernel_rfl) (fun h => nomatch h) (fun _ => ?_)
        refine Tr.exit ?_
        refine And.intro (fun _ => ?_) (fun h => absurd rfl h)
        have H := Option.some.inj H
        subst H
        have H := Ho2
        dsimp only at H
        exact Exists.intro () (And.intro H (St.sub_of [4] [] (by kernel_rfl)))
      · have H := bifT h1 H
        refine Tr.cond (b := true) (by kernel_rfl) (fun _ => ?_) (fun h => nomatch h)
        refine Tr.skip ?_
        show Tr _ _ _ _ _
        refine Tr.seq ?_
        refine Tr.block ?_
        refine Tr.rs ?_
        refine LAt.runU tOk 3 (by kernel_rfl) ?_
        obtain ⟨v3, ev3, H⟩ := bind_some H
        refine LAt.indexF tOk (t := 38) (ty := 0) (x := (.tmp 14)) (y := (.tmp 15)) (d := 16) (g := none) ⟨(.slot 14), [], 0, false, 3, (CV.frzEs (x0.Rows.map Vrow.row))⟩ y1 (Vrow.row v3) _ (by kernel_rfl) (by kernel_rfl) (by kernel_rfl) (by kernel_rfl) rfl (idx_isF ev3) rfl ?_
        refine LAt.runU tOk 4 (by kernel_rfl) ?_
        refine LAt.doneU [20, 19, 18, 17, 16, 15, 14, 13, 10, 9, 8, 7, 6, 5, 4, 2, 1] [2] (by kernel_rfl) ?_
        refine Tr.to ⟨22, 0, [(20, .val false [.lit (.bool (v3.Id == x1))]), (19, .val false [.lit (.int .i64 x1)]), (18, .val false [.lit (.int .i64 v3.Id)]), (17, .fad ((Vrow.row v3))), (16, .fad ((Vrow.row v3))), (15, .val false [.lit (.int .i64 y1)]), (14, .val false [.sl false 3 (CV.frzEs (x0.Rows.map Vrow.row))]), (13, .adr (.box 2) [(0, 0)] 2 0), (10, .val false [.lit (.bool true)]), (9, .val false [.lit (.int .i64 (x0.Rows.length : Int))]), (8, .val false [.sl false 3 (CV.frzEs (x0.Rows.map Vrow.row))]), (7, .adr (.box 2) [(0, 0)] 2 0), (6, .val false [.lit (.int .i64 y1)]), (5, .val false [.lit (.int .i64 y1)]), (4, .val false [.lit (.int .i64 0)]), (2, .adr (.box 2) [(0, 0)] 2 0), (1, .val false [.lit (.int .i64 x1)])], [(2, (CV.frzRow (Vtab.row x0)))]⟩ (by kernel_rfl) ?_
        cases h2 : (v3.Id == x1)
        · have H := bifF h2 H
          refine Tr.cond (b := false) (by kernel_rfl) (fun h => nomatch h) (fun _ => ?_)
          refine Tr.skip ?_
          show Tr _ _ _ _ _
          refine Tr.at ?_
          refine LAt.runU tOk 3 (by kernel_rfl) ?_
          refine LAt.doneU [5, 12, 11, 20, 19, 18, 17, 16, 15, 14, 13, 10, 9, 8, 7, 6, 4, 2, 1] [2] (by kernel_rfl) ?_
          exact Exists.intro (mo2, (IntKind.wrap .i64 (y1 + 1))) (And.intro H (And.intro (Nat.lt_succ_self mo2) (St.sub_of [5, 4, 2, 1] [2] (by kernel_rfl))))
        · have H := bifT h2 H
          refine Tr.cond (b := true) (by kernel_rfl) (fun _ => ?_) (fun h => nomatch h)
          refine Tr.rs ?_
          refine LAt.runU tOk 2 (by kernel_rfl) ?_
          refine LAt.doneU [4, 21, 20, 19, 18, 17, 16, 15, 14, 13, 10, 9, 8, 7, 6, 5, 2, 1] [2] (by kernel_rfl) ?_
          refine Tr.ret ?_
          have H := Option.some.inj H
          subst H
          have H := Ho2
          dsimp only at H
          have H := Option.some.inj H
          subst H
          exact Fin.of _ [(false, [.lit (.int .i64 y1)])] (by kernel_rfl) rfl rfl
  · rintro _ H
    have H : (spec_RowAt_J1 n) = some r := H
    unfold spec_RowAt_J1 at H
    show Tr _ _ _ _ _
    refine Tr.rs ?_
    refine LAt.runU tOk 1 (by kernel_rfl) ?_
    refine LAt.doneU [4] [] (by kernel_rfl) ?_
    refine Tr.ret ?_
    have H := Option.some.inj H
    subst H
    exact Fin.of _ [(false, [.lit (.int .i64 (-1))])] (by kernel_rfl) rfl rfl

def spec_VtabOk_J2 (n : Nat) : Option (Bool) :=
  (some true)
def spec_VtabOk_L3 (n : Nat) : Nat → Vtab → Int → Option ((Unit) ⊕ (Bool))
  | 0, _, _ => none
  | mo5 + 1, x0, y4 => (bif (decide (y4 < (x0.Pvid.length : Int))) then ((idx x0.Pvid y4).bind fun v6 => ((spec_RowAtF n x0 v6).bind fun r7 => (bif (decide (r7 < 0)) then (some (Sum.inr false)) else (spec_VtabOk_L3 n mo5 x0 (IntKind.wrap .i64 (y4 + 1)))))) else (some (Sum.inl ())))
def spec_VtabOk_J1 (n : Nat) (x0 : Vtab) : Option (Bool) :=
  ((spec_VtabOk_L3 n n x0 0).bind fun o => match o with | .inl _ => (spec_VtabOk_J2 n) | .inr r => some r)
def spec_VtabOk_L4 (n : Nat) : Nat → Vtab → Int → Int → Option ((Unit) ⊕ (Bool))
  | 0, _, _, _ => none
  | mo8 + 1, x0, x1, y3 => (bif (decide (y3 < (x0.Rows.length : Int))) then ((idx x0.Rows y3).bind fun v9 => ((spec_l1InF n v9.Id 1 99).bind fun r10 => (bif (!r10) then (some (Sum.inr false)) else ((spec_l1InF n v9.Members 0 (IntKind.wrap .i64 ((IntKind.wrap .i64 (1 * 2 ^ min (((IntKind.wrap .u64 x1) : Int)).toNat (IntKind.bits .i64))) - 1))).bind fun r11 => (bif (!r11) then (some (Sum.inr false)) else ((spec_l1InF n v9.Bare 0 (IntKind.wrap .i64 ((IntKind.wrap .i64 (1 * 2 ^ min (((IntKind.wrap .u64 x1) : Int)).toNat (IntKind.bits .i64))) - 1))).bind fun r12 => (bif (!r12) then (some (Sum.inr false)) else (bif ((IntKind.wrap .i64 (BitVec.ofInt (IntKind.bits .i64) v9.Bare &&& BitVec.ofInt (IntKind.bits .i64) v9.Members).toNat) != v9.Bare) then (some (Sum.inr false)) else (bif (decide (y3 > 0)) then ((idx x0.Rows (IntKind.wrap .i64 (y3 - 1))).bind fun v13 => (bif (decide (v13.Id ≥ v9.Id)) then (some (Sum.inr false)) else (spec_VtabOk_L4 n mo8 x0 x1 (IntKind.wrap .i64 (y3 + 1))))) else (spec_VtabOk_L4 n mo8 x0 x1 (IntKind.wrap .i64 (y3 + 1)))))))))))) else (some (Sum.inl ())))
def spec_VtabOkF (n : Nat) (x0 : Vtab) (x1 : Int) : Option (Bool) :=
  ((spec_l1InF n x1 1 6).bind fun r1 => (bif (!r1) then (some false) else (bif ((x0.Pvid.length : Int) != x1) then (some false) else (bif (decide ((x0.Rows.length : Int) > 6)) then (some false) else (bif (decide ((0 : Int) ≤ (IntKind.wrap .u64 x1))) then ((spec_VtabOk_L4 n n x0 x1 0).bind fun o => match o with | .inl _ => (spec_VtabOk_J1 n x0) | .inr r => some r) else none)))))
/-- loop.example/g00326/spec.VtabOk -/
theorem spec_VtabOk (n : Nat) (x0 : Vtab) (x1 : Int) (r : Bool) (H : spec_VtabOkF n x0 x1 = some r) : LCall Try.prog 28 [.val true (CV.frzRow (Vtab.row x0)), .val false [.lit (.int .i64 x1)]] [.val false [.lit (.bool r)]] [] := by
  refine LCall.of_body tOk Try.func28 rfl (c := (.seq (.region 0 (rg Try.f28 0) false) (.seq (.seq (.region 1 (rg Try.f28 1) false) (.cond (.tmp 24) (.seq (.region 2 (rg Try.f28 2) false) .ret) .skip)) (.seq (.region 3 (rg Try.f28 3) false) (.seq (.seq (.region 4 (rg Try.f28 4) false) (.block 0 (.loop (.seq (.seq (.region 5 (rg Try.f28 5) false) (.cond (.tmp 33) .skip (.exit 0))) (.seq (.block 1 (.seq (.region 7 (rg Try.f28 7) false) (.seq (.region 8 (rg Try.f28 8) true) (.cond (.tmp 84) (.seq (.region 9 (rg Try.f28 9) false) .ret) .skip)))) (.region 6 (rg Try.f28 6) false)))))) (.seq (.seq (.region 10 (rg Try.f28 10) false) (.block 2 (.loop (.seq (.seq (.region 11 (rg Try.f28 11) false) (.cond (.tmp 89) .skip (.exit 2))) (.seq (.block 3 (.seq (.region 13 (rg Try.f28 13) true) (.cond (.tmp 99) (.seq (.region 14 (rg Try.f28 14) false) .ret) .skip))) (.region 12 (rg Try.f28 12) false)))))) (.seq (.region 15 (rg Try.f28 15) false) .ret))))))) (by kernel_rfl) (Nat.le_of_ble_eq_true (by kernel_rfl)) 0 (rs := [.tmp 4]) rfl [] .nil [(false, [.lit (.bool r)])] [] [] fun cx => ?_
  show Tr _ _ _ ⟨100, 0, [(0, .val true (CV.frzRow (Vtab.row x0))), (1, .val false [.lit (.int .i64 x1)])], []⟩ _
  unfold spec_VtabOkF at H
  refine Tr.rs ?_
  refine LAt.runU tOk 2 (by kernel_rfl) ?_
  refine LAt.doneU [4, 2, 1] [2] (by kernel_rfl) ?_
  refine Tr.seq ?_
  refine Tr.rs ?_
  refine LAt.runU tOk 1 (by kernel_rfl) ?_
  obtain ⟨r1, er1, H⟩ := bind_some H
  refine LAt.callU tOk [.rd, .rd, .rd] (f := 51) (av := #[.tmp 9, .const (.int .i64 1), .const (.int .i64 6)]) (ats := #[3, 3, 3]) (d := (some 10)) (ty := 4) (g := none) (by kernel_rfl) (by kernel_rfl) (by kernel_rfl) [] (spec_l1In n x1 1 6 r1 er1) (by kernel_rfl) (.inl rfl) ?_
  refine LAt.runU tOk 2 (by kernel_rfl) ?_
  refine LAt.to ⟨100, 0, [(12, .val false [.lit (.bool (!r1))]), (11, .val false [.lit (.bool (!r1))]), (10, .val false [.lit (.bool r1)]), (9, .val false [.lit (.int .i64 x1)]), (4, .val false [.lit (.bool false)]), (2, .adr (.box 2) [(0, 0)] 2 0), (1, .val false [.lit (.int .i64 x1)])], [(2, (CV.frzRow (Vtab.row x0)))]⟩ (by kernel_rfl) ?_
  cases h1 : (!r1)
  · have H := bifF h1 H
    refine LAt.runU tOk 2 (by kernel_rfl) ?_
    refine LAt.lenE tOk (t := 33) (ty := 3) (e := 3) (x := (.tmp 14)) (d := 15) (g := (some (3, false))) ⟨(.slot 14), [], 0, false, 1, (CV.frzEs (x0.Pvid.map intRow))⟩ (x0.Pvid).length _ (by kernel_rfl) (by kernel_rfl) (by kernel_rfl) (by kernel_rfl) (by kernel_rfl) (frz_len _ _) rfl ?_
    refine LAt.runU tOk 4 (by kernel_rfl) ?_
    refine LAt.to ⟨100, 0, [(19, .val false [.lit (.bool ((x0.Pvid.length : Int) != x1))]), (18, .val false [.lit (.bool ((x0.Pvid.length : Int) != x1))]), (17, .val false [.lit (.bool ((x0.Pvid.length : Int) != x1))]), (16, .val false [.lit (.int .i64 x1)]), (15, .val false [.lit (.int .i64 (x0.Pvid.length : Int))]), (14, .val false [.sl false 1 (CV.frzEs (x0.Pvid.map intRow))]), (13, .adr (.box 2) [(0, 0)] 2 1), (12, .val false [.lit (.bool false)]), (11, .val false [.lit (.bool false)]), (10, .val false [.lit (.bool r1)]), (9, .val false [.lit (.int .i64 x1)]), (4, .val false [.lit (.bool false)]), (2, .adr (.box 2) [(0, 0)] 2 0), (1, .val false [.lit (.int .i64 x1)])], [(2, (CV.frzRow (Vtab.row x0)))]⟩ (by kernel_rfl) ?_
    cases h2 : ((x0.Pvid.length : Int) != x1)
    · have H := bifF h2 H
      refine LAt.runU tOk 2 (by kernel_rfl) ?_
      refine LAt.lenE tOk (t := 38) (ty := 3) (e := 81) (x := (.tmp 21)) (d := 22) (g := (some (10, false))) ⟨(.slot 21), [], 0, false, 3, (CV.frzEs (x0.Rows.map Vrow.row))⟩ (x0.Rows).length _ (by kernel_rfl) (by kernel_rfl) (by kernel_rfl) (by kernel_rfl) (by kernel_rfl) (frz_len _ _) rfl ?_
      refine LAt.runU tOk 2 (by kernel_rfl) ?_
      refine LAt.doneU [24, 4, 2, 1] [2] (by kernel_rfl) ?_
      refine Tr.to ⟨100, 0, [(24, .val false [.lit (.bool (decide ((x0.Rows.length : Int) > 6)))]), (4, .val false [.lit (.bool false)]), (2, .adr (.box 2) [(0, 0)] 2 0), (1, .val false [.lit (.int .i64 x1)])], [(2, (CV.frzRow (Vtab.row x0)))]⟩ (by kernel_rfl) ?_
      cases h3 : (decide ((x0.Rows.length : Int) > 6))
      · have H := bifF h3 H
        refine Tr.cond (b := false) (by kernel_rfl) (fun h => nomatch h) (fun _ => ?_)
        refine Tr.skip ?_
        show Tr _ _ _ _ _
        refine Tr.rs ?_
        refine LAt.runU tOk 2 (by kernel_rfl) ?_
        obtain ⟨hg2, H⟩ := guard_some H
        refine LAt.binC tOk (op := .shl) (t := 3) (ty := 86) (ty' := 3) (x := (.const (.int .i64 1))) (y := (.tmp 26)) (d := 27) (g := none) (.int .i64 1) (.int .u64 (IntKind.wrap .u64 x1)) (.int .i64 (IntKind.wrap .i64 (1 * 2 ^ min (((IntKind.wrap .u64 x1) : Int)).toNat (IntKind.bits .i64)))) _ (by kernel_rfl) (by kernel_rfl) (by kernel_rfl) (by kernel_rfl) (by kernel_rfl) (φ := (0 : Int) ≤ (IntKind.wrap .u64 x1)) (by kernel_rfl) (of_decide_eq_true hg2) rfl ?_
        refine LAt.runU tOk 2 (by kernel_rfl) ?_
        refine LAt.doneU [5, 4, 2] [2] (by kernel_rfl) ?_
        refine Tr.seq ?_
        refine Tr.rs ?_
        refine LAt.runU tOk 1 (by kernel_rfl) ?_
        refine LAt.doneU [6, 5, 4, 2] [2] (by kernel_rfl) ?_
        obtain ⟨o8, eo8, Ho8⟩ := bind_some H
        clear H
        refine Tr.mid (ι := Unit) (fun v => ⟨100, 0, [(4, .val false [.lit (.bool false)]), (2, .adr (.box 2) [(0, 0)] 2 0)], [(2, (CV.frzRow (Vtab.row x0)))]⟩) (fun v => spec_VtabOk_J1 n x0 = some r) ?_ ?_
        · refine Tr.block ?_
          refine Tr.loop (ι := Nat × (Int)) (fun v => ⟨100, 0, [(6, .val false [.lit (.int .i64 v.2)]), (5, .val false [.lit (.int .i64 (IntKind.wrap .i64 ((IntKind.wrap .i64 (1 * 2 ^ min (((IntKind.wrap .u64 x1) : Int)).toNat (IntKind.bits .i64))) - 1)))]), (4, .val false [.lit (.bool false)]), (2, .adr (.box 2) [(0, 0)] 2 0)], [(2, (CV.frzRow (Vtab.row x0)))]⟩) (fun v => spec_VtabOk_L4 n v.1 x0 x1 v.2 = some o8) (fun v => v.1) (n, 0) eo8 (St.sub_of [6, 5, 4, 2] [2] (by kernel_rfl)) ?_
          rintro ⟨mo8, y3⟩ H
          have H : spec_VtabOk_L4 n mo8 x0 x1 y3 = some o8 := H
          obtain _ | mo8 := mo8
          · cases (show (none : Option _) = some o8 from H)
          · rw [spec_VtabOk_L4] at H
            refine Tr.seq ?_
            refine Tr.rs ?_
            refine LAt.runU tOk 3 (by kernel_rfl) ?_
            refine LAt.lenE tOk (t := 38) (ty := 3) (e := 81) (x := (.tmp 31)) (d := 32) (g := none) ⟨(.slot 31), [], 0, false, 3, (CV.frzEs (x0.Rows.map Vrow.row))⟩ (x0.Rows).length _ (by kernel_rfl) (by kernel_rfl) (by kernel_rfl) (by kernel_rfl) (by kernel_rfl) (frz_len _ _) rfl ?_
            refine LAt.runU tOk 1 (by kernel_rfl) ?_
            refine LAt.doneU [33, 32, 31, 30, 29, 6, 5, 4, 2] [2] (by kernel_rfl) ?_
            refine Tr.to ⟨100, 0, [(33, .val false [.lit (.bool (decide (y3 < (x0.Rows.length : Int))))]), (32, .val false [.lit (.int .i64 (x0.Rows.length : Int))]), (31, .val false [.sl false 3 (CV.frzEs (x0.Rows.map Vrow.row))]), (30, .adr (.box 2) [(0, 0)] 2 0), (29, .val false [.lit (.int .i64 y3)]), (6, .val false [.lit (.int .i64 y3)]), (5, .val false [.lit (.int .i64 (IntKind.wrap .i64 ((IntKind.wrap .i64 (1 * 2 ^ min (((IntKind.wrap .u64 x1) : Int)).toNat (IntKind.bits .i64))) - 1)))]), (4, .val false [.lit (.bool false)]), (2, .adr (.box 2) [(0, 0)] 2 0)], [(2, (CV.frzRow (Vtab.row x0)))]⟩ (by kernel_rfl) ?_
            cases h6 : (decide (y3 < (x0.Rows.length : Int)))
            · have H := bifF h6 H
              refine Tr.cond (b := false) (by kernel_rfl) (fun h => nomatch h) (fun _ => ?_)
              refine Tr.exit ?_
              refine And.intro (fun _ => ?_) (fun h => absurd rfl h)
              have H := Option.some.inj H
              subst H
              have H := Ho8
              dsimp only at H
              exact Exists.intro () (And.intro H (St.sub_of [4, 2] [2] (by kernel_rfl)))
            · have H := bifT h6 H
              refine Tr.cond (b := true) (by kernel_rfl) (fun _ => ?_) (fun h => nomatch h)
              refine Tr.skip ?_
              show Tr _ _ _ _ _
              refine Tr.seq ?_
              refine Tr.block ?_
              refine Tr.rs ?_
              refine LAt.runU tOk 3 (by kernel_rfl) ?_
              obtain ⟨v9, ev9, H⟩ := bind_some H
              refine LAt.indexF tOk (t := 38) (ty := 0) (x := (.tmp 37)) (y := (.tmp 38)) (d := 39) (g := none) ⟨(.slot 37), [], 0, false, 3, (CV.frzEs (x0.Rows.map Vrow.row))⟩ y3 (Vrow.row v9) _ (by kernel_rfl) (by kernel_rfl) (by kernel_rfl) (by kernel_rfl) rfl (idx_isF ev9) rfl ?_
              refine LAt.runU tOk 3 (by kernel_rfl) ?_
              refine LAt.doneU [7, 40, 39, 38, 37, 36, 33, 32, 31, 30, 29, 6, 5, 4, 2] [7, 2] (by kernel_rfl) ?_
              obtain ⟨r10, er10, H⟩ := bind_some H
              refine Tr.to ⟨100, 0, [(7, .adr (.box 7) [(0, 0)] 3 0), (40, .val true (Vrow.row v9)), (39, .fad ((Vrow.row v9))), (38, .val false [.lit (.int .i64 y3)]), (37, .val false [.sl false 3 (CV.frzEs (x0.Rows.map Vrow.row))]), (36, .adr (.box 2) [(0, 0)] 2 0), (33, .val false [.lit (.bool true)]), (32, .val false [.lit (.int .i64 (x0.Rows.length : Int))]), (31, .val false [.sl false 3 (CV.frzEs (x0.Rows.map Vrow.row))]), (30, .adr (.box 2) [(0, 0)] 2 0), (29, .val false [.lit (.int .i64 y3)]), (6, .val false [.lit (.int .i64 y3)]), (5, .val false [.lit (.int .i64 (IntKind.wrap .i64 ((IntKind.wrap .i64 (1 * 2 ^ min (((IntKind.wrap .u64 x1) : Int)).toNat (IntKind.bits .i64))) - 1)))]), (4, .val false [.lit (.bool false)]), (2, .adr (.box 2) [(0, 0)] 2 0)], [(7, (Vrow.row v9)), (2, (CV.frzRow (Vtab.row x0)))]⟩ (by kernel_rfl) ?_
              cases h7 : (!r10)
              · have H := bifF h7 H
                obtain ⟨r11, er11, H⟩ := bind_some H
                refine Tr.to ⟨100, 0, [(7, .adr (.box 7) [(0, 0)] 3 0), (40, .val true (Vrow.row v9)), (39, .fad ((Vrow.row v9))), (38, .val false [.lit (.int .i64 y3)]), (37, .val false [.sl false 3 (CV.frzEs (x0.Rows.map Vrow.row))]), (36, .adr (.box 2) [(0, 0)] 2 0), (33, .val false [.lit (.bool true)]), (32, .val false [.lit (.int .i64 (x0.Rows.length : Int))]), (31, .val false [.sl false 3 (CV.frzEs (x0.Rows.map Vrow.row))]), (30, .adr (.box 2) [(0, 0)] 2 0), (29, .val false [.lit (.int .i64 y3)]), (6, .val false [.lit (.int .i64 y3)]), (5, .val false [.lit (.int .i64 (IntKind.wrap .i64 ((IntKind.wrap .i64 (1 * 2 ^ min (((IntKind.wrap .u64 x1) : Int)).toNat (IntKind.bits .i64))) - 1)))]), (4, .val false [.lit (.bool false)]), (2, .adr (.box 2) [(0, 0)] 2 0)], [(7, (Vrow.row v9)), (2, (CV.frzRow (Vtab.row x0)))]⟩ (by kernel_rfl) ?_
                cases h8 : (!r11)
                · have H := bifF h8 H
                  obtain ⟨r12, er12, H⟩ := bind_some H
                  refine Tr.to ⟨100, 0, [(7, .adr (.box 7) [(0, 0)] 3 0), (40, .val true (Vrow.row v9)), (39, .fad ((Vrow.row v9))), (38, .val false [.lit (.int .i64 y3)]), (37, .val false [.sl false 3 (CV.frzEs (x0.Rows.map Vrow.row))]), (36, .adr (.box 2) [(0, 0)] 2 0), (33, .val false [.lit (.bool true)]), (32, .val false [.lit (.int .i64 (x0.Rows.length : Int))]), (31, .val false [.sl false 3 (CV.frzEs (x0.Rows.map Vrow.row))]), (30, .adr (.box 2) [(0, 0)] 2 0), (29, .val false [.lit (.int .i64 y3)]), (6, .val false [.lit (.int .i64 y3)]), (5, .val false [.lit (.int .i64 (IntKind.wrap .i64 ((IntKind.wrap .i64 (1 * 2 ^ min (((IntKind.wrap .u64 x1) : Int)).toNat (IntKind.bits .i64))) - 1)))]), (4, .val false [.lit (.bool false)]), (2, .adr (.box 2) [(0, 0)] 2 0)], [(7, (Vrow.row v9)), (2, (CV.frzRow (Vtab.row x0)))]⟩ (by kernel_rfl) ?_
                  cases h9 : (!r12)
                  · have H := bifF h9 H
                    refine Tr.to ⟨100, 0, [(7, .adr (.box 7) [(0, 0)] 3 0), (40, .val true (Vrow.row v9)), (39, .fad ((Vrow.row v9))), (38, .val false [.lit (.int .i64 y3)]), (37, .val false [.sl false 3 (CV.frzEs (x0.Rows.map Vrow.row))]), (36, .adr (.box 2) [(0, 0)] 2 0), (33, .val false [.lit (.bool true)]), (32, .val false [.lit (.int .i64 (x0.Rows.length : Int))]), (31, .val false [.sl false 3 (CV.frzEs (x0.Rows.map Vrow.row))]), (30, .adr (.box 2) [(0, 0)] 2 0), (29, .val false [.lit (.int .i64 y3)]), (6, .val false [.lit (.int .i64 y3)]), (5, .val false [.lit (.int .i64 (IntKind.wrap .i64 ((IntKind.wrap .i64 (1 * 2 ^ min (((IntKind.wrap .u64 x1) : Int)).toNat (IntKind.bits .i64))) - 1)))]), (4, .val false [.lit (.bool false)]), (2, .adr (.box 2) [(0, 0)] 2 0)], [(7, (Vrow.row v9)), (2, (CV.frzRow (Vtab.row x0)))]⟩ (by kernel_rfl) ?_
                    cases h10 : ((IntKind.wrap .i64 (BitVec.ofInt (IntKind.bits .i64) v9.Bare &&& BitVec.ofInt (IntKind.bits .i64) v9.Members).toNat) != v9.Bare)
                    · have H := bifF h10 H
                      refine Tr.to ⟨100, 0, [(7, .adr (.box 7) [(0, 0)] 3 0), (40, .val true (Vrow.row v9)), (39, .fad ((Vrow.row v9))), (38, .val false [.lit (.int .i64 y3)]), (37, .val false [.sl false 3 (CV.frzEs (x0.Rows.map Vrow.row))]), (36, .adr (.box 2) [(0, 0)] 2 0), (33, .val false [.lit (.bool true)]), (32, .val false [.lit (.int .i64 (x0.Rows.length : Int))]), (31, .val false [.sl false 3 (CV.frzEs (x0.Rows.map Vrow.row))]), (30, .adr (.box 2) [(0, 0)] 2 0), (29, .val false [.lit (.int .i64 y3)]), (6, .val false [.lit (.int .i64 y3)]), (5, .val false [.lit (.int .i64 (IntKind.wrap .i64 ((IntKind.wrap .i64 (1 * 2 ^ min (((IntKind.wrap .u64 x1) : Int)).toNat (IntKind.bits .i64))) - 1)))]), (4, .val false [.lit (.bool false)]), (2, .adr (.box 2) [(0, 0)] 2 0)], [(7, (Vrow.row v9)), (2, (CV.frzRow (Vtab.row x0)))]⟩ (by kernel_rfl) ?_
                      cases h11 : (decide (y3 > 0))
                      · have H := bifF h11 H
                        refine Tr.draws mixed 44 (by kernel_rfl) ⟨100, 0, [(84, .val false [.lit (.bool false)]), (83, .val false [.lit (.bool false)]), (82, .tup []), (81, .tup []), (80, .tup []), (79, .tup []), (78, .tup []), (77, .tup []), (76, .tup []), (75, .tup []), (74, .tup []), (73, .tup []), (72, .val false [.lit (.bool false)]), (71, .val false [.lit (.bool false)]), (70, .val false [.lit (.int .i64 y3)]), (69, .val false [.lit (.bool false)]), (68, .val false [.lit (.bool false)]), (67, .val false [.lit (.bool false)]), (66, .val false [.lit (.int .i64 v9.Bare)]), (65, .adr (.box 7) [(0, 0)] 3 2), (64, .val false [.lit (.int .i64 (IntKind.wrap .i64 (BitVec.ofInt (IntKind.bits .i64) v9.Bare &&& BitVec.ofInt (IntKind.bits .i64) v9.Members).toNat))]), (63, .val false [.lit (.int .i64 v9.Members)]), (62, .adr (.box 7) [(0, 0)] 3 1), (61, .val false [.lit (.int .i64 v9.Bare)]), (60, .adr (.box 7) [(0, 0)] 3 2), (59, .val false [.lit (.bool false)]), (58, .val false [.lit (.bool false)]), (57, .val false [.lit (.bool false)]), (56, .val false [.lit (.bool r12)]), (55, .val false [.lit (.int .i64 (IntKind.wrap .i64 ((IntKind.wrap .i64 (1 * 2 ^ min (((IntKind.wrap .u64 x1) : Int)).toNat (IntKind.bits .i64))) - 1)))]), (54, .val false [.lit (.int .i64 v9.Bare)]), (53, .adr (.box 7) [(0, 0)] 3 2), (52, .val false [.lit (.bool false)]), (51, .val false [.lit (.bool false)]), (50, .val false [.lit (.bool false)]), (49, .val false [.lit (.bool r11)]), (48, .val false [.lit (.int .i64 (IntKind.wrap .i64 ((IntKind.wrap .i64 (1 * 2 ^ min (((IntKind.wrap .u64 x1) : Int)).toNat (IntKind.bits .i64))) - 1)))]), (47, .val false [.lit (.int .i64 v9.Members)]), (46, .adr (.box 7) [(0, 0)] 3 1), (45, .val false [.lit (.bool false)]), (44, .val false [.lit (.bool false)]), (43, .val false [.lit (.bool r10)]), (42, .val false [.lit (.int .i64 v9.Id)]), (41, .adr (.box 7) [(0, 0)] 3 0), (7, .adr (.box 7) [(0, 0)] 3 0), (40, .val true (Vrow.row v9)), (39, .fad ((Vrow.row v9))), (38, .val false [.lit (.int .i64 y3)]), (37, .val false [.sl false 3 (CV.frzEs (x0.Rows.map Vrow.row))]), (36, .adr (.box 2) [(0, 0)] 2 0), (33, .val false [.lit (.bool true)]), (32, .val false [.lit (.int .i64 (x0.Rows.length : Int))]), (31, .val false [.sl false 3 (CV.frzEs (x0.Rows.map Vrow.row))]), (30, .adr (.box 2) [(0, 0)] 2 0), (29, .val false [.lit (.int .i64 y3)]), (6, .val false [.lit (.int .i64 y3)]), (5, .val false [.lit (.int .i64 (IntKind.wrap .i64 ((IntKind.wrap .i64 (1 * 2 ^ min (((IntKind.wrap .u64 x1) : Int)).toNat (IntKind.bits .i64))) - 1)))]), (4, .val false [.lit (.bool false)]), (2, .adr (.box 2) [(0, 0)] 2 0)], [(7, (Vrow.row v9)), (2, (CV.frzRow (Vtab.row x0)))]⟩ (fun cx => ?_) ?_
                        · refine AT.runU tOk [(0, []), (1, [2, 8, 15])] 42 [⟨[2, 8, 15], 3, 41, 42⟩] [1, 0] rfl (by kernel_rfl) (fun cx => ?_)
                          refine AT.big1 tOk 2 (by kernel_rfl) (by kernel_rfl) ?_
                          refine LAt.callU tOk [.rd, .rd, .rd] (f := 51) (av := #[.tmp 42, .const (.int .i64 1), .const (.int .i64 99)]) (ats := #[3, 3, 3]) (d := (some 43)) (ty := 4) (g := none) (by kernel_rfl) (by kernel_rfl) (by kernel_rfl) [] (spec_l1In n v9.Id 1 99 r10 er10) (by kernel_rfl) (.inl rfl) ?_
                          refine LAt.fin (by kernel_rfl) (And.intro (And.intro (by kernel_rfl) (by kernel_rfl)) ?_)
                          refine AT.runU tOk [(3, []), (4, [])] 39 [⟨[2, 8, 15], 3, 41, 42⟩] [4, 3, 2, 1, 0] rfl (by kernel_rfl) (fun cx => ?_)
                          refine AT.to ⟨100, 0, [(45, .val false [.lit (.bool (!r10))]), (44, .val false [.lit (.bool (!r10))]), (43, .val false [.lit (.bool r10)]), (42, .val false [.lit (.int .i64 v9.Id)]), (41, .adr (.box 7) [(0, 0)] 3 0), (7, .adr (.box 7) [(0, 0)] 3 0), (40, .val true (Vrow.row v9)), (39, .fad ((Vrow.row v9))), (38, .val false [.lit (.int .i64 y3)]), (37, .val false [.sl false 3 (CV.frzEs (x0.Rows.map Vrow.row))]), (36, .adr (.box 2) [(0, 0)] 2 0), (33, .val false [.lit (.bool true)]), (32, .val false [.lit (.int .i64 (x0.Rows.length : Int))]), (31, .val false [.sl false 3 (CV.frzEs (x0.Rows.map Vrow.row))]), (30, .adr (.box 2) [(0, 0)] 2 0), (29, .val false [.lit (.int .i64 y3)]), (6, .val false [.lit (.int .i64 y3)]), (5, .val false [.lit (.int .i64 (IntKind.wrap .i64 ((IntKind.wrap .i64 (1 * 2 ^ min (((IntKind.wrap .u64 x1) : Int)).toNat (IntKind.bits .i64))) - 1)))]), (4, .val false [.lit (.bool false)]), (2, .adr (.box 2) [(0, 0)] 2 0)], [(7, (Vrow.row v9)), (2, (CV.frzRow (Vtab.row x0)))]⟩ (by kernel_rfl) ?_
                          rw [h7]
                          refine AT.runU tOk [(5, []), (6, [8, 15]), (7, [])] 36 [⟨[8, 15], 3, 46, 47⟩, ⟨[2, 8, 15], 3, 41, 42⟩] [7, 6, 5, 4, 3, 2, 1, 0] rfl (by kernel_rfl) (fun cx => ?_)
                          refine AT.big1 tOk 8 (by kernel_rfl) (by kernel_rfl) ?_
                          refine LAt.callU tOk [.rd, .rd, .rd] (f := 51) (av := #[.tmp 47, .const (.int .i64 0), .tmp 48]) (ats := #[3, 3, 3]) (d := (some 49)) (ty := 4) (g := (some (4, false))) (by kernel_rfl) (by kernel_rfl) (by kernel_rfl) [] (spec_l1In n v9.Members 0 (IntKind.wrap .i64 ((IntKind.wrap .i64 (1 * 2 ^ min (((IntKind.wrap .u64 x1) : Int)).toNat (IntKind.bits .i64))) - 1)) r11 er11) (by kernel_rfl) (.inl rfl) ?_
                          refine LAt.fin (by kernel_rfl) (And.intro (And.intro (by kernel_rfl) (by kernel_rfl)) ?_)
                          refine AT.runU tOk [(9, []), (10, []), (11, [])] 32 [⟨[8, 15], 3, 46, 47⟩, ⟨[2, 8, 15], 3, 41, 42⟩] [11, 10, 9, 8, 7, 6, 5, 4, 3, 2, 1, 0] rfl (by kernel_rfl) (fun cx => ?_)
                          refine AT.to ⟨100, 0, [(52, .val false [.lit (.bool (!r11))]), (51, .val false [.lit (.bool (!r11))]), (50, .val false [.lit (.bool (!r11))]), (49, .val false [.lit (.bool r11)]), (48, .val false [.lit (.int .i64 (IntKind.wrap .i64 ((IntKind.wrap .i64 (1 * 2 ^ min (((IntKind.wrap .u64 x1) : Int)).toNat (IntKind.bits .i64))) - 1)))]), (47, .val false [.lit (.int .i64 v9.Members)]), (46, .adr (.box 7) [(0, 0)] 3 1), (45, .val false [.lit (.bool false)]), (44, .val false [.lit (.bool false)]), (43, .val false [.lit (.bool r10)]), (42, .val false [.lit (.int .i64 v9.Id)]), (41, .adr (.box 7) [(0, 0)] 3 0), (7, .adr (.box 7) [(0, 0)] 3 0), (40, .val true (Vrow.row v9)), (39, .fad ((Vrow.row v9))), (38, .val false [.lit (.int .i64 y3)]), (37, .val false [.sl false 3 (CV.frzEs (x0.Rows.map Vrow.row))]), (36, .adr (.box 2) [(0, 0)] 2 0), (33, .val false [.lit (.bool true)]), (32, .val false [.lit (.int .i64 (x0.Rows.length : Int))]), (31, .val false [.sl false 3 (CV.frzEs (x0.Rows.map Vrow.row))]), (30, .adr (.box 2) [(0, 0)] 2 0), (29, .val false [.lit (.int .i64 y3)]), (6, .val false [.lit (.int .i64 y3)]), (5, .val false [.lit (.int .i64 (IntKind.wrap .i64 ((IntKind.wrap .i64 (1 * 2 ^ min (((IntKind.wrap .u64 x1) : Int)).toNat (IntKind.bits .i64))) - 1)))]), (4, .val false [.lit (.bool false)]), (2, .adr (.box 2) [(0, 0)] 2 0)], [(7, (Vrow.row v9)), (2, (CV.frzRow (Vtab.row x0)))]⟩ (by kernel_rfl) ?_
                          rw [h8]
                          refine AT.runU tOk [(12, []), (13, [15]), (14, [])] 29 [⟨[15], 3, 53, 54⟩, ⟨[8, 15], 3, 46, 47⟩, ⟨[2, 8, 15], 3, 41, 42⟩] [14, 13, 12, 11, 10, 9, 8, 7, 6, 5, 4, 3, 2, 1, 0] rfl (by kernel_rfl) (fun cx => ?_)
                          refine AT.big1 tOk 15 (by kernel_rfl) (by kernel_rfl) ?_
                          refine LAt.callU tOk [.rd, .rd, .rd] (f := 51) (av := #[.tmp 54, .const (.int .i64 0), .tmp 55]) (ats := #[3, 3, 3]) (d := (some 56)) (ty := 4) (g := (some (11, false))) (by kernel_rfl) (by kernel_rfl) (by kernel_rfl) [] (spec_l1In n v9.Bare 0 (IntKind.wrap .i64 ((IntKind.wrap .i64 (1 * 2 ^ min (((IntKind.wrap .u64 x1) : Int)).toNat (IntKind.bits .i64))) - 1)) r12 er12) (by kernel_rfl) (.inl rfl) ?_
                          refine LAt.fin (by kernel_rfl) (And.intro (And.intro (by kernel_rfl) (by kernel_rfl)) ?_)
                          refine AT.runU tOk [(16, []), (17, []), (18, [])] 25 [⟨[15], 3, 53, 54⟩, ⟨[8, 15], 3, 46, 47⟩, ⟨[2, 8, 15], 3, 41, 42⟩] [18, 17, 16, 15, 14, 13, 12, 11, 10, 9, 8, 7, 6, 5, 4, 3, 2, 1, 0] rfl (by kernel_rfl) (fun cx => ?_)
                          refine AT.to ⟨100, 0, [(59, .val false [.lit (.bool (!r12))]), (58, .val false [.lit (.bool (!r12))]), (57, .val false [.lit (.bool (!r12))]), (56, .val false [.lit (.bool r12)]), (55, .val false [.lit (.int .i64 (IntKind.wrap .i64 ((IntKind.wrap .i64 (1 * 2 ^ min (((IntKind.wrap .u64 x1) : Int)).toNat (IntKind.bits .i64))) - 1)))]), (54, .val false [.lit (.int .i64 v9.Bare)]), (53, .adr (.box 7) [(0, 0)] 3 2), (52, .val false [.lit (.bool false)]), (51, .val false [.lit (.bool false)]), (50, .val false [.lit (.bool false)]), (49, .val false [.lit (.bool r11)]), (48, .val false [.lit (.int .i64 (IntKind.wrap .i64 ((IntKind.wrap .i64 (1 * 2 ^ min (((IntKind.wrap .u64 x1) : Int)).toNat (IntKind.bits .i64))) - 1)))]), (47, .val false [.lit (.int .i64 v9.Members)]), (46, .adr (.box 7) [(0, 0)] 3 1), (45, .val false [.lit (.bool false)]), (44, .val false [.lit (.bool false)]), (43, .val false [.lit (.bool r10)]), (42, .val false [.lit (.int .i64 v9.Id)]), (41, .adr (.box 7) [(0, 0)] 3 0), (7, .adr (.box 7) [(0, 0)] 3 0), (40, .val true (Vrow.row v9)), (39, .fad ((Vrow.row v9))), (38, .val false [.lit (.int .i64 y3)]), (37, .val false [.sl false 3 (CV.frzEs (x0.Rows.map Vrow.row))]), (36, .adr (.box 2) [(0, 0)] 2 0), (33, .val false [.lit (.bool true)]), (32, .val false [.lit (.int .i64 (x0.Rows.length : Int))]), (31, .val false [.sl false 3 (CV.frzEs (x0.Rows.map Vrow.row))]), (30, .adr (.box 2) [(0, 0)] 2 0), (29, .val false [.lit (.int .i64 y3)]), (6, .val false [.lit (.int .i64 y3)]), (5, .val false [.lit (.int .i64 (IntKind.wrap .i64 ((IntKind.wrap .i64 (1 * 2 ^ min (((IntKind.wrap .u64 x1) : Int)).toNat (IntKind.bits .i64))) - 1)))]), (4, .val false [.lit (.bool false)]), (2, .adr (.box 2) [(0, 0)] 2 0)], [(7, (Vrow.row v9)), (2, (CV.frzRow (Vtab.row x0)))]⟩ (by kernel_rfl) ?_
                          rw [h9]
                          refine AT.runU tOk [(19, []), (20, []), (21, []), (22, []), (23, []), (24, []), (25, []), (26, []), (27, []), (28, [])] 15 [⟨[], 3, 65, 66⟩, ⟨[], 3, 62, 63⟩, ⟨[], 3, 60, 61⟩, ⟨[15], 3, 53, 54⟩, ⟨[8, 15], 3, 46, 47⟩, ⟨[2, 8, 15], 3, 41, 42⟩] [28, 27, 26, 25, 24, 23, 22, 21, 20, 19, 18, 17, 16, 15, 14, 13, 12, 11, 10, 9, 8, 7, 6, 5, 4, 3, 2, 1, 0] rfl (by kernel_rfl) (fun cx => ?_)
                          refine AT.to ⟨100, 0, [(69, .val false [.lit (.bool ((IntKind.wrap .i64 (BitVec.ofInt (IntKind.bits .i64) v9.Bare &&& BitVec.ofInt (IntKind.bits .i64) v9.Members).toNat) != v9.Bare))]), (68, .val false [.lit (.bool ((IntKind.wrap .i64 (BitVec.ofInt (IntKind.bits .i64) v9.Bare &&& BitVec.ofInt (IntKind.bits .i64) v9.Members).toNat) != v9.Bare))]), (67, .val false [.lit (.bool ((IntKind.wrap .i64 (BitVec.ofInt (IntKind.bits .i64) v9.Bare &&& BitVec.ofInt (IntKind.bits .i64) v9.Members).toNat) != v9.Bare))]), (66, .val false [.lit (.int .i64 v9.Bare)]), (65, .adr (.box 7) [(0, 0)] 3 2), (64, .val false [.lit (.int .i64 (IntKind.wrap .i64 (BitVec.ofInt (IntKind.bits .i64) v9.Bare &&& BitVec.ofInt (IntKind.bits .i64) v9.Members).toNat))]), (63, .val false [.lit (.int .i64 v9.Members)]), (62, .adr (.box 7) [(0, 0)] 3 1), (61, .val false [.lit (.int .i64 v9.Bare)]), (60, .adr (.box 7) [(0, 0)] 3 2), (59, .val false [.lit (.bool false)]), (58, .val false [.lit (.bool false)]), (57, .val false [.lit (.bool false)]), (56, .val false [.lit (.bool r12)]), (55, .val false [.lit (.int .i64 (IntKind.wrap .i64 ((IntKind.wrap .i64 (1 * 2 ^ min (((IntKind.wrap .u64 x1) : Int)).toNat (IntKind.bits .i64))) - 1)))]), (54, .val false [.lit (.int .i64 v9.Bare)]), (53, .adr (.box 7) [(0, 0)] 3 2), (52, .val false [.lit (.bool false)]), (51, .val false [.lit (.bool false)]), (50, .val false [.lit (.bool false)]), (49, .val false [.lit (.bool r11)]), (48, .val false [.lit (.int .i64 (IntKind.wrap .i64 ((IntKind.wrap .i64 (1 * 2 ^ min (((IntKind.wrap .u64 x1) : Int)).toNat (IntKind.bits .i64))) - 1)))]), (47, .val false [.lit (.int .i64 v9.Members)]), (46, .adr (.box 7) [(0, 0)] 3 1), (45, .val false [.lit (.bool false)]), (44, .val false [.lit (.bool false)]), (43, .val false [.lit (.bool r10)]), (42, .val false [.lit (.int .i64 v9.Id)]), (41, .adr (.box 7) [(0, 0)] 3 0), (7, .adr (.box 7) [(0, 0)] 3 0), (40, .val true (Vrow.row v9)), (39, .fad ((Vrow.row v9))), (38, .val false [.lit (.int .i64 y3)]), (37, .val false [.sl false 3 (CV.frzEs (x0.Rows.map Vrow.row))]), (36, .adr (.box 2) [(0, 0)] 2 0), (33, .val false [.lit (.bool true)]), (32, .val false [.lit (.int .i64 (x0.Rows.length : Int))]), (31, .val false [.sl false 3 (CV.frzEs (x0.Rows.map Vrow.row))]), (30, .adr (.box 2) [(0, 0)] 2 0), (29, .val false [.lit (.int .i64 y3)]), (6, .val false [.lit (.int .i64 y3)]), (5, .val false [.lit (.int .i64 (IntKind.wrap .i64 ((IntKind.wrap .i64 (1 * 2 ^ min (((IntKind.wrap .u64 x1) : Int)).toNat (IntKind.bits .i64))) - 1)))]), (4, .val false [.lit (.bool false)]), (2, .adr (.box 2) [(0, 0)] 2 0)], [(7, (Vrow.row v9)), (2, (CV.frzRow (Vtab.row x0)))]⟩ (by kernel_rfl) ?_
                          rw [h10]
                          refine AT.runU tOk [(29, []), (30, []), (31, [])] 12 [⟨[], 3, 65, 66⟩, ⟨[], 3, 62, 63⟩, ⟨[], 3, 60, 61⟩, ⟨[15], 3, 53, 54⟩, ⟨[8, 15], 3, 46, 47⟩, ⟨[2, 8, 15], 3, 41, 42⟩] [31, 30, 29, 28, 27, 26, 25, 24, 23, 22, 21, 20, 19, 18, 17, 16, 15, 14, 13, 12, 11, 10, 9, 8, 7, 6, 5, 4, 3, 2, 1, 0] rfl (by kernel_rfl) (fun cx => ?_)
                          refine AT.to ⟨100, 0, [(72, .val false [.lit (.bool (decide (y3 > 0)))]), (71, .val false [.lit (.bool (decide (y3 > 0)))]), (70, .val false [.lit (.int .i64 y3)]), (69, .val false [.lit (.bool false)]), (68, .val false [.lit (.bool false)]), (67, .val false [.lit (.bool false)]), (66, .val false [.lit (.int .i64 v9.Bare)]), (65, .adr (.box 7) [(0, 0)] 3 2), (64, .val false [.lit (.int .i64 (IntKind.wrap .i64 (BitVec.ofInt (IntKind.bits .i64) v9.Bare &&& BitVec.ofInt (IntKind.bits .i64) v9.Members).toNat))]), (63, .val false [.lit (.int .i64 v9.Members)]), (62, .adr (.box 7) [(0, 0)] 3 1), (61, .val false [.lit (.int .i64 v9.Bare)]), (60, .adr (.box 7) [(0, 0)] 3 2), (59, .val false [.lit (.bool false)]), (58, .val false [.lit (.bool false)]), (57, .val false [.lit (.bool false)]), (56, .val false [.lit (.bool r12)]), (55, .val false [.lit (.int .i64 (IntKind.wrap .i64 ((IntKind.wrap .i64 (1 * 2 ^ min (((IntKind.wrap .u64 x1) : Int)).toNat (IntKind.bits .i64))) - 1)))]), (54, .val false [.lit (.int .i64 v9.Bare)]), (53, .adr (.box 7) [(0, 0)] 3 2), (52, .val false [.lit (.bool false)]), (51, .val false [.lit (.bool false)]), (50, .val false [.lit (.bool false)]), (49, .val false [.lit (.bool r11)]), (48, .val false [.lit (.int .i64 (IntKind.wrap .i64 ((IntKind.wrap .i64 (1 * 2 ^ min (((IntKind.wrap .u64 x1) : Int)).toNat (IntKind.bits .i64))) - 1)))]), (47, .val false [.lit (.int .i64 v9.Members)]), (46, .adr (.box 7) [(0, 0)] 3 1), (45, .val false [.lit (.bool false)]), (44, .val false [.lit (.bool false)]), (43, .val false [.lit (.bool r10)]), (42, .val false [.lit (.int .i64 v9.Id)]), (41, .adr (.box 7) [(0, 0)] 3 0), (7, .adr (.box 7) [(0, 0)] 3 0), (40, .val true (Vrow.row v9)), (39, .fad ((Vrow.row v9))), (38, .val false [.lit (.int .i64 y3)]), (37, .val false [.sl false 3 (CV.frzEs (x0.Rows.map Vrow.row))]), (36, .adr (.box 2) [(0, 0)] 2 0), (33, .val false [.lit (.bool true)]), (32, .val false [.lit (.int .i64 (x0.Rows.length : Int))]), (31, .val false [.sl false 3 (CV.frzEs (x0.Rows.map Vrow.row))]), (30, .adr (.box 2) [(0, 0)] 2 0), (29, .val false [.lit (.int .i64 y3)]), (6, .val false [.lit (.int .i64 y3)]), (5, .val false [.lit (.int .i64 (IntKind.wrap .i64 ((IntKind.wrap .i64 (1 * 2 ^ min (((IntKind.wrap .u64 x1) : Int)).toNat (IntKind.bits .i64))) - 1)))]), (4, .val false [.lit (.bool false)]), (2, .adr (.box 2) [(0, 0)] 2 0)], [(7, (Vrow.row v9)), (2, (CV.frzRow (Vtab.row x0)))]⟩ (by kernel_rfl) ?_
                          rw [h11]
                          refine AT.runU tOk [(32, []), (33, []), (34, []), (35, []), (36, []), (37, []), (38, []), (39, []), (40, []), (41, []), (42, []), (43, [])] 0 [⟨[], 3, 65, 66⟩, ⟨[], 3, 62, 63⟩, ⟨[], 3, 60, 61⟩, ⟨[15], 3, 53, 54⟩, ⟨[8, 15], 3, 46, 47⟩, ⟨[2, 8, 15], 3, 41, 42⟩] [43, 42, 41, 40, 39, 38, 37, 36, 35, 34, 33, 32, 31, 30, 29, 28, 27, 26, 25, 24, 23, 22, 21, 20, 19, 18, 17, 16, 15, 14, 13, 12, 11, 10, 9, 8, 7, 6, 5, 4, 3, 2, 1, 0] rfl (by kernel_rfl) (fun cx => ?_)
                          exact AT.done [84, 83, 82, 81, 80, 79, 78, 77, 76, 75, 74, 73, 72, 71, 70, 69, 68, 67, 66, 65, 64, 63, 62, 61, 60, 59, 58, 57, 56, 55, 54, 53, 52, 51, 50, 49, 48, 47, 46, 45, 44, 43, 42, 41, 7, 40, 39, 38, 37, 36, 33, 32, 31, 30, 29, 6, 5, 4, 2] [7, 2] _ (by kernel_rfl) (by kernel_rfl) rfl
                        · refine Tr.cond (b := false) (by kernel_rfl) (fun h => nomatch h) (fun _ => ?_)
                          refine Tr.skip ?_
                          show Tr _ _ _ _ _
                          refine Tr.at ?_
                          refine LAt.runU tOk 3 (by kernel_rfl) ?_
                          refine LAt.doneU [6, 35, 34, 84, 83, 82, 81, 80, 79, 78, 77, 76, 75, 74, 73, 72, 71, 70, 69, 68, 67, 66, 65, 64, 63, 62, 61, 60, 59, 58, 57, 56, 55, 54, 53, 52, 51, 50, 49, 48, 47, 46, 45, 44, 43, 42, 41, 7, 40, 39, 38, 37, 36, 33, 32, 31, 30, 29, 5, 4, 2] [7, 2] (by kernel_rfl) ?_
                          exact Exists.intro (mo8, (IntKind.wrap .i64 (y3 + 1))) (And.intro H (And.intro (Nat.lt_succ_self mo8) (St.sub_of [6, 5, 4, 2] [2] (by kernel_rfl))))
                      · have H := bifT h11 H
                        obtain ⟨v13, ev13, H⟩ := bind_some H
                        refine Tr.draws mixed 44 (by kernel_rfl) ⟨100, 0, [(84, .val false [.lit (.bool (decide (v13.Id ≥ v9.Id)))]), (83, .val false [.lit (.bool (decide (v13.Id ≥ v9.Id)))]), (82, .val false [.lit (.bool (decide (v13.Id ≥ v9.Id)))]), (81, .val false [.lit (.int .i64 v9.Id)]), (80, .adr (.box 7) [(0, 0)] 3 0), (79, .val false [.lit (.int .i64 v13.Id)]), (78, .fad ((Vrow.row v13))), (77, .fad ((Vrow.row v13))), (76, .val false [.lit (.int .i64 (IntKind.wrap .i64 (y3 - 1)))]), (75, .val false [.lit (.int .i64 y3)]), (74, .ref (.box 2) [(0, 0)] 2 0 1 false), (73, .adr (.box 2) [(0, 0)] 2 0), (72, .val false [.lit (.bool true)]), (71, .val false [.lit (.bool true)]), (70, .val false [.lit (.int .i64 y3)]), (69, .val false [.lit (.bool false)]), (68, .val false [.lit (.bool false)]), (67, .val false [.lit (.bool false)]), (66, .val false [.lit (.int .i64 v9.Bare)]), (65, .adr (.box 7) [(0, 0)] 3 2), (64, .val false [.lit (.int .i64 (IntKind.wrap .i64 (BitVec.ofInt (IntKind.bits .i64) v9.Bare &&& BitVec.ofInt (IntKind.bits .i64) v9.Members).toNat))]), (63, .val false [.lit (.int .i64 v9.Members)]), (62, .adr (.box 7) [(0, 0)] 3 1), (61, .val false [.lit (.int .i64 v9.Bare)]), (60, .adr (.box 7) [(0, 0)] 3 2), (59, .val false [.lit (.bool false)]), (58, .val false [.lit (.bool false)]), (57, .val false [.lit (.bool false)]), (56, .val false [.lit (.bool r12)]), (55, .val false [.lit (.int .i64 (IntKind.wrap .i64 ((IntKind.wrap .i64 (1 * 2 ^ min (((IntKind.wrap .u64 x1) : Int)).toNat (IntKind.bits .i64))) - 1)))]), (54, .val false [.lit (.int .i64 v9.Bare)]), (53, .adr (.box 7) [(0, 0)] 3 2), (52, .val false [.lit (.bool false)]), (51, .val false [.lit (.bool false)]), (50, .val false [.lit (.bool false)]), (49, .val false [.lit (.bool r11)]), (48, .val false [.lit (.int .i64 (IntKind.wrap .i64 ((IntKind.wrap .i64 (1 * 2 ^ min (((IntKind.wrap .u64 x1) : Int)).toNat (IntKind.bits .i64))) - 1)))]), (47, .val false [.lit (.int .i64 v9.Members)]), (46, .adr (.box 7) [(0, 0)] 3 1), (45, .val false [.lit (.bool false)]), (44, .val false [.lit (.bool false)]), (43, .val false [.lit (.bool r10)]), (42, .val false [.lit (.int .i64 v9.Id)]), (41, .adr (.box 7) [(0, 0)] 3 0), (7, .adr (.box 7) [(0, 0)] 3 0), (40, .val true (Vrow.row v9)), (39, .fad ((Vrow.row v9))), (38, .val false [.lit (.int .i64 y3)]), (37, .val false [.sl false 3 (CV.frzEs (x0.Rows.map Vrow.row))]), (36, .adr (.box 2) [(0, 0)] 2 0), (33, .val false [.lit (.bool true)]), (32, .val false [.lit (.int .i64 (x0.Rows.length : Int))]), (31, .val false [.sl false 3 (CV.frzEs (x0.Rows.map Vrow.row))]), (30, .adr (.box 2) [(0, 0)] 2 0), (29, .val false [.lit (.int .i64 y3)]), (6, .val false [.lit (.int .i64 y3)]), (5, .val false [.lit (.int .i64 (IntKind.wrap .i64 ((IntKind.wrap .i64 (1 * 2 ^ min (((IntKind.wrap .u64 x1) : Int)).toNat (IntKind.bits .i64))) - 1)))]), (4, .val false [.lit (.bool false)]), (2, .adr (.box 2) [(0, 0)] 2 0)], [(7, (Vrow.row v9)), (2, (CV.frzRow (Vtab.row x0)))]⟩ (fun cx => ?_) ?_
                        · refine AT.runU tOk [(0, []), (1, [2, 8, 15])] 42 [⟨[2, 8, 15], 3, 41, 42⟩] [1, 0] rfl (by kernel_rfl) (fun cx => ?_)
                          refine AT.big1 tOk 2 (by kernel_rfl) (by kernel_rfl) ?_
                          refine LAt.callU tOk [.rd, .rd, .rd] (f := 51) (av := #[.tmp 42, .const (.int .i64 1), .const (.int .i64 99)]) (ats := #[3, 3, 3]) (d := (some 43)) (ty := 4) (g := none) (by kernel_rfl) (by kernel_rfl) (by kernel_rfl) [] (spec_l1In n v9.Id 1 99 r10 er10) (by kernel_rfl) (.inl rfl) ?_
                          refine LAt.fin (by kernel_rfl) (And.intro (And.intro (by kernel_rfl) (by kernel_rfl)) ?_)
                          refine AT.runU tOk [(3, []), (4, [])] 39 [⟨[2, 8, 15], 3, 41, 42⟩] [4, 3, 2, 1, 0] rfl (by kernel_rfl) (fun cx => ?_)
                          refine AT.to ⟨100, 0, [(45, .val false [.lit (.bool (!r10))]), (44, .val false [.lit (.bool (!r10))]), (43, .val false [.lit (.bool r10)]), (42, .val false [.lit (.int .i64 v9.Id)]), (41, .adr (.box 7) [(0, 0)] 3 0), (7, .adr (.box 7) [(0, 0)] 3 0), (40, .val true (Vrow.row v9)), (39, .fad ((Vrow.row v9))), (38, .val false [.lit (.int .i64 y3)]), (37, .val false [.sl false 3 (CV.frzEs (x0.Rows.map Vrow.row))]), (36, .adr (.box 2) [(0, 0)] 2 0), (33, .val false [.lit (.bool true)]), (32, .val false [.lit (.int .i64 (x0.Rows.length : Int))]), (31, .val false [.sl false 3 (CV.frzEs (x0.Rows.map Vrow.row))]), (30, .adr (.box 2) [(0, 0)] 2 0), (29, .val false [.lit (.int .i64 y3)]), (6, .val false [.lit (.int .i64 y3)]), (5, .val false [.lit (.int .i64 (IntKind.wrap .i64 ((IntKind.wrap .i64 (1 * 2 ^ min (((IntKind.wrap .u64 x1) : Int)).toNat (IntKind.bits .i64))) - 1)))]), (4, .val false [.lit (.bool false)]), (2, .adr (.box 2) [(0, 0)] 2 0)], [(7, (Vrow.row v9)), (2, (CV.frzRow (Vtab.row x0)))]⟩ (by kernel_rfl) ?_
                          rw [h7]
                          refine AT.runU tOk [(5, []), (6, [8, 15]), (7, [])] 36 [⟨[8, 15], 3, 46, 47⟩, ⟨[2, 8, 15], 3, 41, 42⟩] [7, 6, 5, 4, 3, 2, 1, 0] rfl (by kernel_rfl) (fun cx => ?_)
                          refine AT.big1 tOk 8 (by kernel_rfl) (by kernel_rfl) ?_
                          refine LAt.callU tOk [.rd, .rd, .rd] (f := 51) (av := #[.tmp 47, .const (.int .i64 0), .tmp 48]) (ats := #[3, 3, 3]) (d := (some 49)) (ty := 4) (g := (some (4, false))) (by kernel_rfl) (by kernel_rfl) (by kernel_rfl) [] (spec_l1In n v9.Members 0 (IntKind.wrap .i64 ((IntKind.wrap .i64 (1 * 2 ^ min (((IntKind.wrap .u64 x1) : Int)).toNat (IntKind.bits .i64))) - 1)) r11 er11) (by kernel_rfl) (.inl rfl) ?_
                          refine LAt.fin (by kernel_rfl) (And.intro (And.intro (by kernel_rfl) (by kernel_rfl)) ?_)
                          refine AT.runU tOk [(9, []), (10, []), (11, [])] 32 [⟨[8, 15], 3, 46, 47⟩, ⟨[2, 8, 15], 3, 41, 42⟩] [11, 10, 9, 8, 7, 6, 5, 4, 3, 2, 1, 0] rfl (by kernel_rfl) (fun cx => ?_)
                          refine AT.to ⟨100, 0, [(52, .val false [.lit (.bool (!r11))]), (51, .val false [.lit (.bool (!r11))]), (50, .val false [.lit (.bool (!r11))]), (49, .val false [.lit (.bool r11)]), (48, .val false [.lit (.int .i64 (IntKind.wrap .i64 ((IntKind.wrap .i64 (1 * 2 ^ min (((IntKind.wrap .u64 x1) : Int)).toNat (IntKind.bits .i64))) - 1)))]), (47, .val false [.lit (.int .i64 v9.Members)]), (46, .adr (.box 7) [(0, 0)] 3 1), (45, .val false [.lit (.bool false)]), (44, .val false [.lit (.bool false)]), (43, .val false [.lit (.bool r10)]), (42, .val false [.lit (.int .i64 v9.Id)]), (41, .adr (.box 7) [(0, 0)] 3 0), (7, .adr (.box 7) [(0, 0)] 3 0), (40, .val true (Vrow.row v9)), (39, .fad ((Vrow.row v9))), (38, .val false [.lit (.int .i64 y3)]), (37, .val false [.sl false 3 (CV.frzEs (x0.Rows.map Vrow.row))]), (36, .adr (.box 2) [(0, 0)] 2 0), (33, .val false [.lit (.bool true)]), (32, .val false [.lit (.int .i64 (x0.Rows.length : Int))]), (31, .val false [.sl false 3 (CV.frzEs (x0.Rows.map Vrow.row))]), (30, .adr (.box 2) [(0, 0)] 2 0), (29, .val false [.lit (.int .i64 y3)]), (6, .val false [.lit (.int .i64 y3)]), (5, .val false [.lit (.int .i64 (IntKind.wrap .i64 ((IntKind.wrap .i64 (1 * 2 ^ min (((IntKind.wrap .u64 x1) : Int)).toNat (IntKind.bits .i64))) - 1)))]), (4, .val false [.lit (.bool false)]), (2, .adr (.box 2) [(0, 0)] 2 0)], [(7, (Vrow.row v9)), (2, (CV.frzRow (Vtab.row x0)))]⟩ (by kernel_rfl) ?_
                          rw [h8]
                          refine AT.runU tOk [(12, []), (13, [15]), (14, [])] 29 [⟨[15], 3, 53, 54⟩, ⟨[8, 15], 3, 46, 47⟩, ⟨[2, 8, 15], 3, 41, 42⟩] [14, 13, 12, 11, 10, 9, 8, 7, 6, 5, 4, 3, 2, 1, 0] rfl (by kernel_rfl) (fun cx => ?_)
                          refine AT.big1 tOk 15 (by kernel_rfl) (by kernel_rfl) ?_
                          refine LAt.callU tOk [.rd, .rd, .rd] (f := 51) (av := #[.tmp 54, .const (.int .i64 0), .tmp 55]) (ats := #[3, 3, 3]) (d := (some 56)) (ty := 4) (g := (some (11, false))) (by kernel_rfl) (by kernel_rfl) (by kernel_rfl) [] (spec_l1In n v9.Bare 0 (IntKind.wrap .i64 ((IntKind.wrap .i64 (1 * 2 ^ min (((IntKind.wrap .u64 x1) : Int)).toNat (IntKind.bits .i64))) - 1)) r12 er12) (by kernel_rfl) (.inl rfl) ?_
                          refine LAt.fin (by kernel_rfl) (And.intro (And.intro (by kernel_rfl) (by kernel_rfl)) ?_)
                          refine AT.runU tOk [(16, []), (17, []), (18, [])] 25 [⟨[15], 3, 53, 54⟩, ⟨[8, 15], 3, 46, 47⟩, ⟨[2, 8, 15], 3, 41, 42⟩] [18, 17, 16, 15, 14, 13, 12, 11, 10, 9, 8, 7, 6, 5, 4, 3, 2, 1, 0] rfl (by kernel_rfl) (fun cx => ?_)
                          refine AT.to ⟨100, 0, [(59, .val false [.lit (.bool (!r12))]), (58, .val false [.lit (.bool (!r12))]), (57, .val false [.lit (.bool (!r12))]), (56, .val false [.lit (.bool r12)]), (55, .val false [.lit (.int .i64 (IntKind.wrap .i64 ((IntKind.wrap .i64 (1 * 2 ^ min (((IntKind.wrap .u64 x1) : Int)).toNat (IntKind.bits .i64))) - 1)))]), (54, .val false [.lit (.int .i64 v9.Bare)]), (53, .adr (.box 7) [(0, 0)] 3 2), (52, .val false [.lit (.bool false)]), (51, .val false [.lit (.bool false)]), (50, .val false [.lit (.bool false)]), (49, .val false [.lit (.bool r11)]), (48, .val false [.lit (.int .i64 (IntKind.wrap .i64 ((IntKind.wrap .i64 (1 * 2 ^ min (((IntKind.wrap .u64 x1) : Int)).toNat (IntKind.bits .i64))) - 1)))]), (47, .val false [.lit (.int .i64 v9.Members)]), (46, .adr (.box 7) [(0, 0)] 3 1), (45, .val false [.lit (.bool false)]), (44, .val false [.lit (.bool false)]), (43, .val false [.lit (.bool r10)]), (42, .val false [.lit (.int .i64 v9.Id)]), (41, .adr (.box 7) [(0, 0)] 3 0), (7, .adr (.box 7) [(0, 0)] 3 0), (40, .val true (Vrow.row v9)), (39, .fad ((Vrow.row v9))), (38, .val false [.lit (.int .i64 y3)]), (37, .val false [.sl false 3 (CV.frzEs (x0.Rows.map Vrow.row))]), (36, .adr (.box 2) [(0, 0)] 2 0), (33, .val false [.lit (.bool true)]), (32, .val false [.lit (.int .i64 (x0.Rows.length : Int))]), (31, .val false [.sl false 3 (CV.frzEs (x0.Rows.map Vrow.row))]), (30, .adr (.box 2) [(0, 0)] 2 0), (29, .val false [.lit (.int .i64 y3)]), (6, .val false [.lit (.int .i64 y3)]), (5, .val false [.lit (.int .i64 (IntKind.wrap .i64 ((IntKind.wrap .i64 (1 * 2 ^ min (((IntKind.wrap .u64 x1) : Int)).toNat (IntKind.bits .i64))) - 1)))]), (4, .val false [.lit (.bool false)]), (2, .adr (.box 2) [(0, 0)] 2 0)], [(7, (Vrow.row v9)), (2, (CV.frzRow (Vtab.row x0)))]⟩ (by kernel_rfl) ?_
                          rw [h9]
                          refine AT.runU tOk [(19, []), (20, []), (21, []), (22, []), (23, []), (24, []), (25, []), (26, []), (27, []), (28, [])] 15 [⟨[], 3, 65, 66⟩, ⟨[], 3, 62, 63⟩, ⟨[], 3, 60, 61⟩, ⟨[15], 3, 53, 54⟩, ⟨[8, 15], 3, 46, 47⟩, ⟨[2, 8, 15], 3, 41, 42⟩] [28, 27, 26, 25, 24, 23, 22, 21, 20, 19, 18, 17, 16, 15, 14, 13, 12, 11, 10, 9, 8, 7, 6, 5, 4, 3, 2, 1, 0] rfl (by kernel_rfl) (fun cx => ?_)
                          refine AT.to ⟨100, 0, [(69, .val false [.lit (.bool ((IntKind.wrap .i64 (BitVec.ofInt (IntKind.bits .i64) v9.Bare &&& BitVec.ofInt (IntKind.bits .i64) v9.Members).toNat) != v9.Bare))]), (68, .val false [.lit (.bool ((IntKind.wrap .i64 (BitVec.ofInt (IntKind.bits .i64) v9.Bare &&& BitVec.ofInt (IntKind.bits .i64) v9.Members).toNat) != v9.Bare))]), (67, .val false [.lit (.bool ((IntKind.wrap .i64 (BitVec.ofInt (IntKind.bits .i64) v9.Bare &&& BitVec.ofInt (IntKind.bits .i64) v9.Members).toNat) != v9.Bare))]), (66, .val false [.lit (.int .i64 v9.Bare)]), (65, .adr (.box 7) [(0, 0)] 3 2), (64, .val false [.lit (.int .i64 (IntKind.wrap .i64 (BitVec.ofInt (IntKind.bits .i64) v9.Bare &&& BitVec.ofInt (IntKind.bits .i64) v9.Members).toNat))]), (63, .val false [.lit (.int .i64 v9.Members)]), (62, .adr (.box 7) [(0, 0)] 3 1), (61, .val false [.lit (.int .i64 v9.Bare)]), (60, .adr (.box 7) [(0, 0)] 3 2), (59, .val false [.lit (.bool false)]), (58, .val false [.lit (.bool false)]), (57, .val false [.lit (.bool false)]), (56, .val false [.lit (.bool r12)]), (55, .val false [.lit (.int .i64 (IntKind.wrap .i64 ((IntKind.wrap .i64 (1 * 2 ^ min (((IntKind.wrap .u64 x1) : Int)).toNat (IntKind.bits .i64))) - 1)))]), (54, .val false [.lit (.int .i64 v9.Bare)]), (53, .adr (.box 7) [(0, 0)] 3 2), (52, .val false [.lit (.bool false)]), (51, .val false [.lit (.bool false)]), (50, .val false [.lit (.bool false)]), (49, .val false [.lit (.bool r11)]), (48, .val false [.lit (.int .i64 (IntKind.wrap .i64 ((IntKind.wrap .i64 (1 * 2 ^ min (((IntKind.wrap .u64 x1) : Int)).toNat (IntKind.bits .i64))) - 1)))]), (47, .val false [.lit (.int .i64 v9.Members)]), (46, .adr (.box 7) [(0, 0)] 3 1), (45, .val false [.lit (.bool false)]), (44, .val false [.lit (.bool false)]), (43, .val false [.lit (.bool r10)]), (42, .val false [.lit (.int .i64 v9.Id)]), (41, .adr (.box 7) [(0, 0)] 3 0), (7, .adr (.box 7) [(0, 0)] 3 0), (40, .val true (Vrow.row v9)), (39, .fad ((Vrow.row v9))), (38, .val false [.lit (.int .i64 y3)]), (37, .val false [.sl false 3 (CV.frzEs (x0.Rows.map Vrow.row))]), (36, .adr (.box 2) [(0, 0)] 2 0), (33, .val false [.lit (.bool true)]), (32, .val false [.lit (.int .i64 (x0.Rows.length : Int))]), (31, .val false [.sl false 3 (CV.frzEs (x0.Rows.map Vrow.row))]), (30, .adr (.box 2) [(0, 0)] 2 0), (29, .val false [.lit (.int .i64 y3)]), (6, .val false [.lit (.int .i64 y3)]), (5, .val false [.lit (.int .i64 (IntKind.wrap .i64 ((IntKind.wrap .i64 (1 * 2 ^ min (((IntKind.wrap .u64 x1) : Int)).toNat (IntKind.bits .i64))) - 1)))]), (4, .val false [.lit (.bool false)]), (2, .adr (.box 2) [(0, 0)] 2 0)], [(7, (Vrow.row v9)), (2, (CV.frzRow (Vtab.row x0)))]⟩ (by kernel_rfl) ?_
                          rw [h10]
                          refine AT.runU tOk [(29, []), (30, []), (31, [])] 12 [⟨[], 3, 65, 66⟩, ⟨[], 3, 62, 63⟩, ⟨[], 3, 60, 61⟩, ⟨[15], 3, 53, 54⟩, ⟨[8, 15], 3, 46, 47⟩, ⟨[2, 8, 15], 3, 41, 42⟩] [31, 30, 29, 28, 27, 26, 25, 24, 23, 22, 21, 20, 19, 18, 17, 16, 15, 14, 13, 12, 11, 10, 9, 8, 7, 6, 5, 4, 3, 2, 1, 0] rfl (by kernel_rfl) (fun cx => ?_)
                          refine AT.to ⟨100, 0, [(72, .val false [.lit (.bool (decide (y3 > 0)))]), (71, .val false [.lit (.bool (decide (y3 > 0)))]), (70, .val false [.lit (.int .i64 y3)]), (69, .val false [.lit (.bool false)]), (68, .val false [.lit (.bool false)]), (67, .val false [.lit (.bool false)]), (66, .val false [.lit (.int .i64 v9.Bare)]), (65, .adr (.box 7) [(0, 0)] 3 2), (64, .val false [.lit (.int .i64 (IntKind.wrap .i64 (BitVec.ofInt (IntKind.bits .i64) v9.Bare &&& BitVec.ofInt (IntKind.bits .i64) v9.Members).toNat))]), (63, .val false [.lit (.int .i64 v9.Members)]), (62, .adr (.box 7) [(0, 0)] 3 1), (61, .val false [.lit (.int .i64 v9.Bare)]), (60, .adr (.box 7) [(0, 0)] 3 2), (59, .val false [.lit (.bool false)]), (58, .val false [.lit (.bool false)]), (57, .val false [.lit (.bool false)]), (56, .val false [.lit (.bool r12)]), (55, .val false [.lit (.int .i64 (IntKind.wrap .i64 ((IntKind.wrap .i64 (1 * 2 ^ min (((IntKind.wrap .u64 x1) : Int)).toNat (IntKind.bits .i64))) - 1)))]), (54, .val false [.lit (.int .i64 v9.Bare)]), (53, .adr (.box 7) [(0, 0)] 3 2), (52, .val false [.lit (.bool false)]), (51, .val false [.lit (.bool false)]), (50, .val false [.lit (.bool false)]), (49, .val false [.lit (.bool r11)]), (48, .val false [.lit (.int .i64 (IntKind.wrap .i64 ((IntKind.wrap .i64 (1 * 2 ^ min (((IntKind.wrap .u64 x1) : Int)).toNat (IntKind.bits .i64))) - 1)))]), (47, .val false [.lit (.int .i64 v9.Members)]), (46, .adr (.box 7) [(0, 0)] 3 1), (45, .val false [.lit (.bool false)]), (44, .val false [.lit (.bool false)]), (43, .val false [.lit (.bool r10)]), (42, .val false [.lit (.int .i64 v9.Id)]), (41, .adr (.box 7) [(0, 0)] 3 0), (7, .adr (.box 7) [(0, 0)] 3 0), (40, .val true (Vrow.row v9)), (39, .fad ((Vrow.row v9))), (38, .val false [.lit (.int .i64 y3)]), (37, .val false [.sl false 3 (CV.frzEs (x0.Rows.map Vrow.row))]), (36, .adr (.box 2) [(0, 0)] 2 0), (33, .val false [.lit (.bool true)]), (32, .val false [.lit (.int .i64 (x0.Rows.length : Int))]), (31, .val false [.sl false 3 (CV.frzEs (x0.Rows.map Vrow.row))]), (30, .adr (.box 2) [(0, 0)] 2 0), (29, .val false [.lit (.int .i64 y3)]), (6, .val false [.lit (.int .i64 y3)]), (5, .val false [.lit (.int .i64 (IntKind.wrap .i64 ((IntKind.wrap .i64 (1 * 2 ^ min (((IntKind.wrap .u64 x1) : Int)).toNat (IntKind.bits .i64))) - 1)))]), (4, .val false [.lit (.bool false)]), (2, .adr (.box 2) [(0, 0)] 2 0)], [(7, (Vrow.row v9)), (2, (CV.frzRow (Vtab.row x0)))]⟩ (by kernel_rfl) ?_
                          rw [h11]
                          refine AT.runU tOk [(32, []), (33, []), (34, []), (35, [])] 8 [⟨[], 38, 73, 74⟩, ⟨[], 3, 65, 66⟩, ⟨[], 3, 62, 63⟩, ⟨[], 3, 60, 61⟩, ⟨[15], 3, 53, 54⟩, ⟨[8, 15], 3, 46, 47⟩, ⟨[2, 8, 15], 3, 41, 42⟩] [35, 34, 33, 32, 31, 30, 29, 28, 27, 26, 25, 24, 23, 22, 21, 20, 19, 18, 17, 16, 15, 14, 13, 12, 11, 10, 9, 8, 7, 6, 5, 4, 3, 2, 1, 0] rfl (by kernel_rfl) (fun cx => ?_)
                          refine AT.indexF tOk 36 (t := 38) (ty := 0) (x := (.tmp 74)) (y := (.tmp 76)) (d := 77) (g := (some (31, true))) ⟨(.box 2), [(0, 0)], 0, false, 3, (CV.frzEs (x0.Rows.map Vrow.row))⟩ (IntKind.wrap .i64 (y3 - 1)) (Vrow.row v13) _ (by kernel_rfl) (by kernel_rfl) (by kernel_rfl) (by kernel_rfl) (by kernel_rfl) (by kernel_rfl) rfl (idx_isF ev13) rfl (fun cx => ?_)
                          refine AT.runU tOk [(37, []), (38, []), (39, []), (40, []), (41, []), (42, []), (43, [])] 0 [⟨[], 3, 80, 81⟩, ⟨[], 38, 73, 74⟩, ⟨[], 3, 65, 66⟩, ⟨[], 3, 62, 63⟩, ⟨[], 3, 60, 61⟩, ⟨[15], 3, 53, 54⟩, ⟨[8, 15], 3, 46, 47⟩, ⟨[2, 8, 15], 3, 41, 42⟩] [43, 42, 41, 40, 39, 38, 37, 36, 35, 34, 33, 32, 31, 30, 29, 28, 27, 26, 25, 24, 23, 22, 21, 20, 19, 18, 17, 16, 15, 14, 13, 12, 11, 10, 9, 8, 7, 6, 5, 4, 3, 2, 1, 0] rfl (by kernel_rfl) (fun cx => ?_)
                          exact AT.done [84, 83, 82, 81, 80, 79, 78, 77, 76, 75, 74, 73, 72, 71, 70, 69, 68, 67, 66, 65, 64, 63, 62, 61, 60, 59, 58, 57, 56, 55, 54, 53, 52, 51, 50, 49, 48, 47, 46, 45, 44, 43, 42, 41, 7, 40, 39, 38, 37, 36, 33, 32, 31, 30, 29, 6, 5, 4, 2] [7, 2] _ (by kernel_rfl) (by kernel_rfl) rfl
                        · refine Tr.to ⟨100, 0, [(84, .val false [.lit (.bool (decide (v13.Id ≥ v9.Id)))]), (83, .val false [.lit (.bool (decide (v13.Id ≥ v9.Id)))]), (82, .val false [.lit (.bool (decide (v13.Id ≥ v9.Id)))]), (81, .val false [.lit (.int .i64 v9.Id)]), (80, .adr (.box 7) [(0, 0)] 3 0), (79, .val false [.lit (.int .i64 v13.Id)]), (78, .fad ((Vrow.row v13))), (77, .fad ((Vrow.row v13))), (76, .val false [.lit (.int .i64 (IntKind.wrap .i64 (y3 - 1)))]), (75, .val false [.lit (.int .i64 y3)]), (74, .ref (.box 2) [(0, 0)] 2 0 1 false), (73, .adr (.box 2) [(0, 0)] 2 0), (72, .val false [.lit (.bool true)]), (71, .val false [.lit (.bool true)]), (70, .val false [.lit (.int .i64 y3)]), (69, .val false [.lit (.bool false)]), (68, .val false [.lit (.bool false)]), (67, .val false [.lit (.bool false)]), (66, .val false [.lit (.int .i64 v9.Bare)]), (65, .adr (.box 7) [(0, 0)] 3 2), (64, .val false [.lit (.int .i64 (IntKind.wrap .i64 (BitVec.ofInt (IntKind.bits .i64) v9.Bare &&& BitVec.ofInt (IntKind.bits .i64) v9.Members).toNat))]), (63, .val false [.lit (.int .i64 v9.Members)]), (62, .adr (.box 7) [(0, 0)] 3 1), (61, .val false [.lit (.int .i64 v9.Bare)]), (60, .adr (.box 7) [(0, 0)] 3 2), (59, .val false [.lit (.bool false)]), (58, .val false [.lit (.bool false)]), (57, .val false [.lit (.bool false)]), (56, .val false [.lit (.bool r12)]), (55, .val false [.lit (.int .i64 (IntKind.wrap .i64 ((IntKind.wrap .i64 (1 * 2 ^ min (((IntKind.wrap .u64 x1) : Int)).toNat (IntKind.bits .i64))) - 1)))]), (54, .val false [.lit (.int .i64 v9.Bare)]), (53, .adr (.box 7) [(0, 0)] 3 2), (52, .val false [.lit (.bool false)]), (51, .val false [.lit (.bool false)]), (50, .val false [.lit (.bool false)]), (49, .val false [.lit (.bool r11)]), (48, .val false [.lit (.int .i64 (IntKind.wrap .i64 ((IntKind.wrap .i64 (1 * 2 ^ min (((IntKind.wrap .u64 x1) : Int)).toNat (IntKind.bits .i64))) - 1)))]), (47, .val false [.lit (.int .i64 v9.Members)]), (46, .adr (.box 7) [(0, 0)] 3 1), (45, .val false [.lit (.bool false)]), (44, .val false [.lit (.bool false)]), (43, .val false [.lit (.bool r10)]), (42, .val false [.lit (.int .i64 v9.Id)]), (41, .adr (.box 7) [(0, 0)] 3 0), (7, .adr (.box 7) [(0, 0)] 3 0), (40, .val true (Vrow.row v9)), (39, .fad ((Vrow.row v9))), (38, .val false [.lit (.int .i64 y3)]), (37, .val false [.sl false 3 (CV.frzEs (x0.Rows.map Vrow.row))]), (36, .adr (.box 2) [(0, 0)] 2 0), (33, .val false [.lit (.bool true)]), (32, .val false [.lit (.int .i64 (x0.Rows.length : Int))]), (31, .val false [.sl false 3 (CV.frzEs (x0.Rows.map Vrow.row))]), (30, .adr (.box 2) [(0, 0)] 2 0), (29, .val false [.lit (.int .i64 y3)]), (6, .val false [.lit (.int .i64 y3)]), (5, .val false [.lit (.int .i64 (IntKind.wrap .i64 ((IntKind.wrap .i64 (1 * 2 ^ min (((IntKind.wrap .u64 x1) : Int)).toNat (IntKind.bits .i64))) - 1)))]), (4, .val false [.lit (.bool false)]), (2, .adr (.box 2) [(0, 0)] 2 0)], [(7, (Vrow.row v9)), (2, (CV.frzRow (Vtab.row x0)))]⟩ (by kernel_rfl) ?_
                          cases h12 : (decide (v13.Id ≥ v9.Id))
                          · have H := bifF h12 H
                            refine Tr.cond (b := false) (by kernel_rfl) (fun h => nomatch h) (fun _ => ?_)
                            refine Tr.skip ?_
                            show Tr _ _ _ _ _
                            refine Tr.at ?_
                            refine LAt.runU tOk 3 (by kernel_rfl) ?_
                            refine LAt.doneU [6, 35, 34, 84, 83, 82, 81, 80, 79, 78, 77, 76, 75, 74, 73, 72, 71, 70, 69, 68, 67, 66, 65, 64, 63, 62, 61, 60, 59, 58, 57, 56, 55, 54, 53, 52, 51, 50, 49, 48, 47, 46, 45, 44, 43, 42, 41, 7, 40, 39, 38, 37, 36, 33, 32, 31, 30, 29, 5, 4, 2] [7, 2] (by kernel_rfl) ?_
                            exact Exists.intro (mo8, (IntKind.wrap .i64 (y3 + 1))) (And.intro H (And.intro (Nat.lt_succ_self mo8) (St.sub_of [6, 5, 4, 2] [2] (by kernel_rfl))))
                          · have H := bifT h12 H
                            refine Tr.cond (b := true) (by kernel_rfl) (fun _ => ?_) (fun h => nomatch h)
                            refine Tr.rs ?_
                            refine LAt.runU tOk 1 (by kernel_rfl) ?_
                            refine LAt.doneU [4, 84, 83, 82, 81, 80, 79, 78, 77, 76, 75, 74, 73, 72, 71, 70, 69, 68, 67, 66, 65, 64, 63, 62, 61, 60, 59, 58, 57, 56, 55, 54, 53, 52, 51, 50, 49, 48, 47, 46, 45, 44, 43, 42, 41, 7, 40, 39, 38, 37, 36, 33, 32, 31, 30, 29, 6, 5, 2] [7, 2] (by kernel_rfl) ?_
                            refine Tr.ret ?_
                            have H := Option.some.inj H
                            subst H
                            have H := Ho8
                            dsimp only at H
                            have H := Option.some.inj H
                            subst H
                            exact Fin.of _ [(false, [.lit (.bool false)])] (by kernel_rfl) rfl rfl
                    · have H := bifT h10 H
                      refine Tr.draws mixed 44 (by kernel_rfl) ⟨100, 0, [(84, .val false [.lit (.bool true)]), (83, .tup []), (82, .tup []), (81, .tup []), (80, .tup []), (79, .tup []), (78, .tup []), (77, .tup []), (76, .tup []), (75, .tup []), (74, .tup []), (73, .tup []), (72, .tup []), (71, .tup []), (70, .tup []), (69, .val false [.lit (.bool true)]), (68, .val false [.lit (.bool true)]), (67, .val false [.lit (.bool true)]), (66, .val false [.lit (.int .i64 v9.Bare)]), (65, .adr (.box 7) [(0, 0)] 3 2), (64, .val false [.lit (.int .i64 (IntKind.wrap .i64 (BitVec.ofInt (IntKind.bits .i64) v9.Bare &&& BitVec.ofInt (IntKind.bits .i64) v9.Members).toNat))]), (63, .val false [.lit (.int .i64 v9.Members)]), (62, .adr (.box 7) [(0, 0)] 3 1), (61, .val false [.lit (.int .i64 v9.Bare)]), (60, .adr (.box 7) [(0, 0)] 3 2), (59, .val false [.lit (.bool false)]), (58, .val false [.lit (.bool false)]), (57, .val false [.lit (.bool false)]), (56, .val false [.lit (.bool r12)]), (55, .val false [.lit (.int .i64 (IntKind.wrap .i64 ((IntKind.wrap .i64 (1 * 2 ^ min (((IntKind.wrap .u64 x1) : Int)).toNat (IntKind.bits .i64))) - 1)))]), (54, .val false [.lit (.int .i64 v9.Bare)]), (53, .adr (.box 7) [(0, 0)] 3 2), (52, .val false [.lit (.bool false)]), (51, .val false [.lit (.bool false)]), (50, .val false [.lit (.bool false)]), (49, .val false [.lit (.bool r11)]), (48, .val false [.lit (.int .i64 (IntKind.wrap .i64 ((IntKind.wrap .i64 (1 * 2 ^ min (((IntKind.wrap .u64 x1) : Int)).toNat (IntKind.bits .i64))) - 1)))]), (47, .val false [.lit (.int .i64 v9.Members)]), (46, .adr (.box 7) [(0, 0)] 3 1), (45, .val false [.lit (.bool false)]), (44, .val false [.lit (.bool false)]), (43, .val false [.lit (.bool r10)]), (42, .val false [.lit (.int .i64 v9.Id)]), (41, .adr (.box 7) [(0, 0)] 3 0), (7, .adr (.box 7) [(0, 0)] 3 0), (40, .val true (Vrow.row v9)), (39, .fad ((Vrow.row v9))), (38, .val false [.lit (.int .i64 y3)]), (37, .val false [.sl false 3 (CV.frzEs (x0.Rows.map Vrow.row))]), (36, .adr (.box 2) [(0, 0)] 2 0), (33, .val false [.lit (.bool true)]), (32, .val false [.lit (.int .i64 (x0.Rows.length : Int))]), (31, .val false [.sl false 3 (CV.frzEs (x0.Rows.map Vrow.row))]), (30, .adr (.box 2) [(0, 0)] 2 0), (29, .val false [.lit (.int .i64 y3)]), (6, .val false [.lit (.int .i64 y3)]), (5, .val false [.lit (.int .i64 (IntKind.wrap .i64 ((IntKind.wrap .i64 (1 * 2 ^ min (((IntKind.wrap .u64 x1) : Int)).toNat (IntKind.bits .i64))) - 1)))]), (4, .val false [.lit (.bool false)]), (2, .adr (.box 2) [(0, 0)] 2 0)], [(7, (Vrow.row v9)), (2, (CV.frzRow (Vtab.row x0)))]⟩ (fun cx => ?_) ?_
                      · refine AT.runU tOk [(0, []), (1, [2, 8, 15])] 42 [⟨[2, 8, 15], 3, 41, 42⟩] [1, 0] rfl (by kernel_rfl) (fun cx => ?_)
                        refine AT.big1 tOk 2 (by kernel_rfl) (by kernel_rfl) ?_
                        refine LAt.callU tOk [.rd, .rd, .rd] (f := 51) (av := #[.tmp 42, .const (.int .i64 1), .const (.int .i64 99)]) (ats := #[3, 3, 3]) (d := (some 43)) (ty := 4) (g := none) (by kernel_rfl) (by kernel_rfl) (by kernel_rfl) [] (spec_l1In n v9.Id 1 99 r10 er10) (by kernel_rfl) (.inl rfl) ?_
                        refine LAt.fin (by kernel_rfl) (And.intro (And.intro (by kernel_rfl) (by kernel_rfl)) ?_)
                        refine AT.runU tOk [(3, []), (4, [])] 39 [⟨[2, 8, 15], 3, 41, 42⟩] [4, 3, 2, 1, 0] rfl (by kernel_rfl) (fun cx => ?_)
                        refine AT.to ⟨100, 0, [(45, .val false [.lit (.bool (!r10))]), (44, .val false [.lit (.bool (!r10))]), (43, .val false [.lit (.bool r10)]), (42, .val false [.lit (.int .i64 v9.Id)]), (41, .adr (.box 7) [(0, 0)] 3 0), (7, .adr (.box 7) [(0, 0)] 3 0), (40, .val true (Vrow.row v9)), (39, .fad ((Vrow.row v9))), (38, .val false [.lit (.int .i64 y3)]), (37, .val false [.sl false 3 (CV.frzEs (x0.Rows.map Vrow.row))]), (36, .adr (.box 2) [(0, 0)] 2 0), (33, .val false [.lit (.bool true)]), (32, .val false [.lit (.int .i64 (x0.Rows.length : Int))]), (31, .val false [.sl false 3 (CV.frzEs (x0.Rows.map Vrow.row))]), (30, .adr (.box 2) [(0, 0)] 2 0), (29, .val false [.lit (.int .i64 y3)]), (6, .val false [.lit (.int .i64 y3)]), (5, .val false [.lit (.int .i64 (IntKind.wrap .i64 ((IntKind.wrap .i64 (1 * 2 ^ min (((IntKind.wrap .u64 x1) : Int)).toNat (IntKind.bits .i64))) - 1)))]), (4, .val false [.lit (.bool false)]), (2, .adr (.box 2) [(0, 0)] 2 0)], [(7, (Vrow.row v9)), (2, (CV.frzRow (Vtab.row x0)))]⟩ (by kernel_rfl) ?_
                        rw [h7]
                        refine AT.runU tOk [(5, []), (6, [8, 15]), (7, [])] 36 [⟨[8, 15], 3, 46, 47⟩, ⟨[2, 8, 15], 3, 41, 42⟩] [7, 6, 5, 4, 3, 2, 1, 0] rfl (by kernel_rfl) (fun cx => ?_)
                        refine AT.big1 tOk 8 (by kernel_rfl) (by kernel_rfl) ?_
                        refine LAt.callU tOk [.rd, .rd, .rd] (f := 51) (av := #[.tmp 47, .const (.int .i64 0), .tmp 48]) (ats := #[3, 3, 3]) (d := (some 49)) (ty := 4) (g := (some (4, false))) (by kernel_rfl) (by kernel_rfl) (by kernel_rfl) [] (spec_l1In n v9.Members 0 (IntKind.wrap .i64 ((IntKind.wrap .i64 (1 * 2 ^ min (((IntKind.wrap .u64 x1) : Int)).toNat (IntKind.bits .i64))) - 1)) r11 er11) (by kernel_rfl) (.inl rfl) ?_
                        refine LAt.fin (by kernel_rfl) (And.intro (And.intro (by kernel_rfl) (by kernel_rfl)) ?_)
                        refine AT.runU tOk [(9, []), (10, []), (11, [])] 32 [⟨[8, 15], 3, 46, 47⟩, ⟨[2, 8, 15], 3, 41, 42⟩] [11, 10, 9, 8, 7, 6, 5, 4, 3, 2, 1, 0] rfl (by kernel_rfl) (fun cx => ?_)
                        refine AT.to ⟨100, 0, [(52, .val false [.lit (.bool (!r11))]), (51, .val false [.lit (.bool (!r11))]), (50, .val false [.lit (.bool (!r11))]), (49, .val false [.lit (.bool r11)]), (48, .val false [.lit (.int .i64 (IntKind.wrap .i64 ((IntKind.wrap .i64 (1 * 2 ^ min (((IntKind.wrap .u64 x1) : Int)).toNat (IntKind.bits .i64))) - 1)))]), (47, .val false [.lit (.int .i64 v9.Members)]), (46, .adr (.box 7) [(0, 0)] 3 1), (45, .val false [.lit (.bool false)]), (44, .val false [.lit (.bool false)]), (43, .val false [.lit (.bool r10)]), (42, .val false [.lit (.int .i64 v9.Id)]), (41, .adr (.box 7) [(0, 0)] 3 0), (7, .adr (.box 7) [(0, 0)] 3 0), (40, .val true (Vrow.row v9)), (39, .fad ((Vrow.row v9))), (38, .val false [.lit (.int .i64 y3)]), (37, .val false [.sl false 3 (CV.frzEs (x0.Rows.map Vrow.row))]), (36, .adr (.box 2) [(0, 0)] 2 0), (33, .val false [.lit (.bool true)]), (32, .val false [.lit (.int .i64 (x0.Rows.length : Int))]), (31, .val false [.sl false 3 (CV.frzEs (x0.Rows.map Vrow.row))]), (30, .adr (.box 2) [(0, 0)] 2 0), (29, .val false [.lit (.int .i64 y3)]), (6, .val false [.lit (.int .i64 y3)]), (5, .val false [.lit (.int .i64 (IntKind.wrap .i64 ((IntKind.wrap .i64 (1 * 2 ^ min (((IntKind.wrap .u64 x1) : Int)).toNat (IntKind.bits .i64))) - 1)))]), (4, .val false [.lit (.bool false)]), (2, .adr (.box 2) [(0, 0)] 2 0)], [(7, (Vrow.row v9)), (2, (CV.frzRow (Vtab.row x0)))]⟩ (by kernel_rfl) ?_
                        rw [h8]
                        refine AT.runU tOk [(12, []), (13, [15]), (14, [])] 29 [⟨[15], 3, 53, 54⟩, ⟨[8, 15], 3, 46, 47⟩, ⟨[2, 8, 15], 3, 41, 42⟩] [14, 13, 12, 11, 10, 9, 8, 7, 6, 5, 4, 3, 2, 1, 0] rfl (by kernel_rfl) (fun cx => ?_)
                        refine AT.big1 tOk 15 (by kernel_rfl) (by kernel_rfl) ?_
                        refine LAt.callU tOk [.rd, .rd, .rd] (f := 51) (av := #[.tmp 54, .const (.int .i64 0), .tmp 55]) (ats := #[3, 3, 3]) (d := (some 56)) (ty := 4) (g := (some (11, false))) (by kernel_rfl) (by kernel_rfl) (by kernel_rfl) [] (spec_l1In n v9.Bare 0 (IntKind.wrap .i64 ((IntKind.wrap .i64 (1 * 2 ^ min (((IntKind.wrap .u64 x1) : Int)).toNat (IntKind.bits .i64))) - 1)) r12 er12) (by kernel_rfl) (.inl rfl) ?_
                        refine LAt.fin (by kernel_rfl) (And.intro (And.intro (by kernel_rfl) (by kernel_rfl)) ?_)
                        refine AT.runU tOk [(16, []), (17, []), (18, [])] 25 [⟨[15], 3, 53, 54⟩, ⟨[8, 15], 3, 46, 47⟩, ⟨[2, 8, 15], 3, 41, 42⟩] [18, 17, 16, 15, 14, 13, 12, 11, 10, 9, 8, 7, 6, 5, 4, 3, 2, 1, 0] rfl (by kernel_rfl) (fun cx => ?_)
                        refine AT.to ⟨100, 0, [(59, .val false [.lit (.bool (!r12))]), (58, .val false [.lit (.bool (!r12))]), (57, .val false [.lit (.bool (!r12))]), (56, .val false [.lit (.bool r12)]), (55, .val false [.lit (.int .i64 (IntKind.wrap .i64 ((IntKind.wrap .i64 (1 * 2 ^ min (((IntKind.wrap .u64 x1) : Int)).toNat (IntKind.bits .i64))) - 1)))]), (54, .val false [.lit (.int .i64 v9.Bare)]), (53, .adr (.box 7) [(0, 0)] 3 2), (52, .val false [.lit (.bool false)]), (51, .val false [.lit (.bool false)]), (50, .val false [.lit (.bool false)]), (49, .val false [.lit (.bool r11)]), (48, .val false [.lit (.int .i64 (IntKind.wrap .i64 ((IntKind.wrap .i64 (1 * 2 ^ min (((IntKind.wrap .u64 x1) : Int)).toNat (IntKind.bits .i64))) - 1)))]), (47, .val false [.lit (.int .i64 v9.Members)]), (46, .adr (.box 7) [(0, 0)] 3 1), (45, .val false [.lit (.bool false)]), (44, .val false [.lit (.bool false)]), (43, .val false [.lit (.bool r10)]), (42, .val false [.lit (.int .i64 v9.Id)]), (41, .adr (.box 7) [(0, 0)] 3 0), (7, .adr (.box 7) [(0, 0)] 3 0), (40, .val true (Vrow.row v9)), (39, .fad ((Vrow.row v9))), (38, .val false [.lit (.int .i64 y3)]), (37, .val false [.sl false 3 (CV.frzEs (x0.Rows.map Vrow.row))]), (36, .adr (.box 2) [(0, 0)] 2 0), (33, .val false [.lit (.bool true)]), (32, .val false [.lit (.int .i64 (x0.Rows.length : Int))]), (31, .val false [.sl false 3 (CV.frzEs (x0.Rows.map Vrow.row))]), (30, .adr (.box 2) [(0, 0)] 2 0), (29, .val false [.lit (.int .i64 y3)]), (6, .val false [.lit (.int .i64 y3)]), (5, .val false [.lit (.int .i64 (IntKind.wrap .i64 ((IntKind.wrap .i64 (1 * 2 ^ min (((IntKind.wrap .u64 x1) : Int)).toNat (IntKind.bits .i64))) - 1)))]), (4, .val false [.lit (.bool false)]), (2, .adr (.box 2) [(0, 0)] 2 0)], [(7, (Vrow.row v9)), (2, (CV.frzRow (Vtab.row x0)))]⟩ (by kernel_rfl) ?_
                        rw [h9]
                        refine AT.runU tOk [(19, []), (20, []), (21, []), (22, []), (23, []), (24, []), (25, []), (26, []), (27, []), (28, [])] 15 [⟨[], 3, 65, 66⟩, ⟨[], 3, 62, 63⟩, ⟨[], 3, 60, 61⟩, ⟨[15], 3, 53, 54⟩, ⟨[8, 15], 3, 46, 47⟩, ⟨[2, 8, 15], 3, 41, 42⟩] [28, 27, 26, 25, 24, 23, 22, 21, 20, 19, 18, 17, 16, 15, 14, 13, 12, 11, 10, 9, 8, 7, 6, 5, 4, 3, 2, 1, 0] rfl (by kernel_rfl) (fun cx => ?_)
                        refine AT.to ⟨100, 0, [(69, .val false [.lit (.bool ((IntKind.wrap .i64 (BitVec.ofInt (IntKind.bits .i64) v9.Bare &&& BitVec.ofInt (IntKind.bits .i64) v9.Members).toNat) != v9.Bare))]), (68, .val false [.lit (.bool ((IntKind.wrap .i64 (BitVec.ofInt (IntKind.bits .i64) v9.Bare &&& BitVec.ofInt (IntKind.bits .i64) v9.Members).toNat) != v9.Bare))]), (67, .val false [.lit (.bool ((IntKind.wrap .i64 (BitVec.ofInt (IntKind.bits .i64) v9.Bare &&& BitVec.ofInt (IntKind.bits .i64) v9.Members).toNat) != v9.Bare))]), (66, .val false [.lit (.int .i64 v9.Bare)]), (65, .adr (.box 7) [(0, 0)] 3 2), (64, .val false [.lit (.int .i64 (IntKind.wrap .i64 (BitVec.ofInt (IntKind.bits .i64) v9.Bare &&& BitVec.ofInt (IntKind.bits .i64) v9.Members).toNat))]), (63, .val false [.lit (.int .i64 v9.Members)]), (62, .adr (.box 7) [(0, 0)] 3 1), (61, .val false [.lit (.int .i64 v9.Bare)]), (60, .adr (.box 7) [(0, 0)] 3 2), (59, .val false [.lit (.bool false)]), (58, .val false [.lit (.bool false)]), (57, .val false [.lit (.bool false)]), (56, .val false [.lit (.bool r12)]), (55, .val false [.lit (.int .i64 (IntKind.wrap .i64 ((IntKind.wrap .i64 (1 * 2 ^ min (((IntKind.wrap .u64 x1) : Int)).toNat (IntKind.bits .i64))) - 1)))]), (54, .val false [.lit (.int .i64 v9.Bare)]), (53, .adr (.box 7) [(0, 0)] 3 2), (52, .val false [.lit (.bool false)]), (51, .val false [.lit (.bool false)]), (50, .val false [.lit (.bool false)]), (49, .val false [.lit (.bool r11)]), (48, .val false [.lit (.int .i64 (IntKind.wrap .i64 ((IntKind.wrap .i64 (1 * 2 ^ min (((IntKind.wrap .u64 x1) : Int)).toNat (IntKind.bits .i64))) - 1)))]), (47, .val false [.lit (.int .i64 v9.Members)]), (46, .adr (.box 7) [(0, 0)] 3 1), (45, .val false [.lit (.bool false)]), (44, .val false [.lit (.bool false)]), (43, .val false [.lit (.bool r10)]), (42, .val false [.lit (.int .i64 v9.Id)]), (41, .adr (.box 7) [(0, 0)] 3 0), (7, .adr (.box 7) [(0, 0)] 3 0), (40, .val true (Vrow.row v9)), (39, .fad ((Vrow.row v9))), (38, .val false [.lit (.int .i64 y3)]), (37, .val false [.sl false 3 (CV.frzEs (x0.Rows.map Vrow.row))]), (36, .adr (.box 2) [(0, 0)] 2 0), (33, .val false [.lit (.bool true)]), (32, .val false [.lit (.int .i64 (x0.Rows.length : Int))]), (31, .val false [.sl false 3 (CV.frzEs (x0.Rows.map Vrow.row))]), (30, .adr (.box 2) [(0, 0)] 2 0), (29, .val false [.lit (.int .i64 y3)]), (6, .val false [.lit (.int .i64 y3)]), (5, .val false [.lit (.int .i64 (IntKind.wrap .i64 ((IntKind.wrap .i64 (1 * 2 ^ min (((IntKind.wrap .u64 x1) : Int)).toNat (IntKind.bits .i64))) - 1)))]), (4, .val false [.lit (.bool false)]), (2, .adr (.box 2) [(0, 0)] 2 0)], [(7, (Vrow.row v9)), (2, (CV.frzRow (Vtab.row x0)))]⟩ (by kernel_rfl) ?_
                        rw [h10]
                        refine AT.runU tOk [(29, []), (30, []), (31, []), (32, []), (33, []), (34, []), (35, []), (36, []), (37, []), (38, []), (39, []), (40, []), (41, []), (42, []), (43, [])] 0 [⟨[], 3, 65, 66⟩, ⟨[], 3, 62, 63⟩, ⟨[], 3, 60, 61⟩, ⟨[15], 3, 53, 54⟩, ⟨[8, 15], 3, 46, 47⟩, ⟨[2, 8, 15], 3, 41, 42⟩] [43, 42, 41, 40, 39, 38, 37, 36, 35, 34, 33, 32, 31, 30, 29, 28, 27, 26, 25, 24, 23, 22, 21, 20, 19, 18, 17, 16, 15, 14, 13, 12, 11, 10, 9, 8, 7, 6, 5, 4, 3, 2, 1, 0] rfl (by kernel_rfl) (fun cx => ?_)
                        exact AT.done [84, 83, 82, 81, 80, 79, 78, 77, 76, 75, 74, 73, 72, 71, 70, 69, 68, 67, 66, 65, 64, 63, 62, 61, 60, 59, 58, 57, 56, 55, 54, 53, 52, 51, 50, 49, 48, 47, 46, 45, 44, 43, 42, 41, 7, 40, 39, 38, 37, 36, 33, 32, 31, 30, 29, 6, 5, 4, 2] [7, 2] _ (by kernel_rfl) (by kernel_rfl) rfl
                      · refine Tr.cond (b := true) (by kernel_rfl) (fun _ => ?_) (fun h => nomatch h)
                        refine Tr.rs ?_
                        refine LAt.runU tOk 1 (by kernel_rfl) ?_
                        refine LAt.doneU [4, 84, 83, 82, 81, 80, 79, 78, 77, 76, 75, 74, 73, 72, 71, 70, 69, 68, 67, 66, 65, 64, 63, 62, 61, 60, 59, 58, 57, 56, 55, 54, 53, 52, 51, 50, 49, 48, 47, 46, 45, 44, 43, 42, 41, 7, 40, 39, 38, 37, 36, 33, 32, 31, 30, 29, 6, 5, 2] [7, 2] (by kernel_rfl) ?_
                        refine Tr.ret ?_
                        have H := Option.some.inj H
                        subst H
                        have H := Ho8
                        dsimp only at H
                        have H := Option.some.inj H
                        subst H
                        exact Fin.of _ [(false, [.lit (.bool false)])] (by kernel_rfl) rfl rfl
                  · have H := bifT h9 H
                    refine Tr.draws mixed 44 (by kernel_rfl) ⟨100, 0, [(84, .val false [.lit (.bool true)]), (83, .tup []), (82, .tup []), (81, .tup []), (80, .tup []), (79, .tup []), (78, .tup []), (77, .tup []), (76, .tup []), (75, .tup []), (74, .tup []), (73, .tup []), (72, .tup []), (71, .tup []), (70, .tup []), (69, .val false [.lit (.bool true)]), (68, .val false [.lit (.bool true)]), (67, .tup []), (66, .tup []), (65, .tup []), (64, .tup []), (63, .tup []), (62, .tup []), (61, .tup []), (60, .tup []), (59, .val false [.lit (.bool true)]), (58, .val false [.lit (.bool true)]), (57, .val false [.lit (.bool true)]), (56, .val false [.lit (.bool r12)]), (55, .val false [.lit (.int .i64 (IntKind.wrap .i64 ((IntKind.wrap .i64 (1 * 2 ^ min (((IntKind.wrap .u64 x1) : Int)).toNat (IntKind.bits .i64))) - 1)))]), (54, .val false [.lit (.int .i64 v9.Bare)]), (53, .adr (.box 7) [(0, 0)] 3 2), (52, .val false [.lit (.bool false)]), (51, .val false [.lit (.bool false)]), (50, .val false [.lit (.bool false)]), (49, .val false [.lit (.bool r11)]), (48, .val false [.lit (.int .i64 (IntKind.wrap .i64 ((IntKind.wrap .i64 (1 * 2 ^ min (((IntKind.wrap .u64 x1) : Int)).toNat (IntKind.bits .i64))) - 1)))]), (47, .val false [.lit (.int .i64 v9.Members)]), (46, .adr (.box 7) [(0, 0)] 3 1), (45, .val false [.lit (.bool false)]), (44, .val false [.lit (.bool false)]), (43, .val false [.lit (.bool r10)]), (42, .val false [.lit (.int .i64 v9.Id)]), (41, .adr (.box 7) [(0, 0)] 3 0), (7, .adr (.box 7) [(0, 0)] 3 0), (40, .val true (Vrow.row v9)), (39, .fad ((Vrow.row v9))), (38, .val false [.lit (.int .i64 y3)]), (37, .val false [.sl false 3 (CV.frzEs (x0.Rows.map Vrow.row))]), (36, .adr (.box 2) [(0, 0)] 2 0), (33, .val false [.lit (.bool true)]), (32, .val false [.lit (.int .i64 (x0.Rows.length : Int))]), (31, .val false [.sl false 3 (CV.frzEs (x0.Rows.map Vrow.row))]), (30, .adr (.box 2) [(0, 0)] 2 0), (29, .val false [.lit (.int .i64 y3)]), (6, .val false [.lit (.int .i64 y3)]), (5, .val false [.lit (.int .i64 (IntKind.wrap .i64 ((IntKind.wrap .i64 (1 * 2 ^ min (((IntKind.wrap .u64 x1) : Int)).toNat (IntKind.bits .i64))) - 1)))]), (4, .val false [.lit (.bool false)]), (2, .adr (.box 2) [(0, 0)] 2 0)], [(7, (Vrow.row v9)), (2, (CV.frzRow (Vtab.row x0)))]⟩ (fun cx => ?_) ?_
                    · refine AT.runU tOk [(0, []), (1, [2, 8, 15])] 42 [⟨[2, 8, 15], 3, 41, 42⟩] [1, 0] rfl (by kernel_rfl) (fun cx => ?_)
                      refine AT.big1 tOk 2 (by kernel_rfl) (by kernel_rfl) ?_
                      refine LAt.callU tOk [.rd, .rd, .rd] (f := 51) (av := #[.tmp 42, .const (.int .i64 1), .const (.int .i64 99)]) (ats := #[3, 3, 3]) (d := (some 43)) (ty := 4) (g := none) (by kernel_rfl) (by kernel_rfl) (by kernel_rfl) [] (spec_l1In n v9.Id 1 99 r10 er10) (by kernel_rfl) (.inl rfl) ?_
                      refine LAt.fin (by kernel_rfl) (And.intro (And.intro (by kernel_rfl) (by kernel_rfl)) ?_)
                      refine AT.runU tOk [(3, []), (4, [])] 39 [⟨[2, 8, 15], 3, 41, 42⟩] [4, 3, 2, 1, 0] rfl (by kernel_rfl) (fun cx => ?_)
                      refine AT.to ⟨100, 0, [(45, .val false [.lit (.bool (!r10))]), (44, .val false [.lit (.bool (!r10))]), (43, .val false [.lit (.bool r10)]), (42, .val false [.lit (.int .i64 v9.Id)]), (41, .adr (.box 7) [(0, 0)] 3 0), (7, .adr (.box 7) [(0, 0)] 3 0), (40, .val true (Vrow.row v9)), (39, .fad ((Vrow.row v9))), (38, .val false [.lit (.int .i64 y3)]), (37, .val false [.sl false 3 (CV.frzEs (x0.Rows.map Vrow.row))]), (36, .adr (.box 2) [(0, 0)] 2 0), (33, .val false [.lit (.bool true)]), (32, .val false [.lit (.int .i64 (x0.Rows.length : Int))]), (31, .val false [.sl false 3 (CV.frzEs (x0.Rows.map Vrow.row))]), (30, .adr (.box 2) [(0, 0)] 2 0), (29, .val false [.lit (.int .i64 y3)]), (6, .val false [.lit (.int .i64 y3)]), (5, .val false [.lit (.int .i64 (IntKind.wrap .i64 ((IntKind.wrap .i64 (1 * 2 ^ min (((IntKind.wrap .u64 x1) : Int)).toNat (IntKind.bits .i64))) - 1)))]), (4, .val false [.lit (.bool false)]), (2, .adr (.box 2) [(0, 0)] 2 0)], [(7, (Vrow.row v9)), (2, (CV.frzRow (Vtab.row x0)))]⟩ (by kernel_rfl) ?_
                      rw [h7]
                      refine AT.runU tOk [(5, []), (6, [8, 15]), (7, [])] 36 [⟨[8, 15], 3, 46, 47⟩, ⟨[2, 8, 15], 3, 41, 42⟩] [7, 6, 5, 4, 3, 2, 1, 0] rfl (by kernel_rfl) (fun cx => ?_)
                      refine AT.big1 tOk 8 (by kernel_rfl) (by kernel_rfl) ?_
                      refine LAt.callU tOk [.rd, .rd, .rd] (f := 51) (av := #[.tmp 47, .const (.int .i64 0), .tmp 48]) (ats := #[3, 3, 3]) (d := (some 49)) (ty := 4) (g := (some (4, false))) (by kernel_rfl) (by kernel_rfl) (by kernel_rfl) [] (spec_l1In n v9.Members 0 (IntKind.wrap .i64 ((IntKind.wrap .i64 (1 * 2 ^ min (((IntKind.wrap .u64 x1) : Int)).toNat (IntKind.bits .i64))) - 1)) r11 er11) (by kernel_rfl) (.inl rfl) ?_
                      refine LAt.fin (by kernel_rfl) (And.intro (And.intro (by kernel_rfl) (by kernel_rfl)) ?_)
                      refine AT.runU tOk [(9, []), (10, []), (11, [])] 32 [⟨[8, 15], 3, 46, 47⟩, ⟨[2, 8, 15], 3, 41, 42⟩] [11, 10, 9, 8, 7, 6, 5, 4, 3, 2, 1, 0] rfl (by kernel_rfl) (fun cx => ?_)
                      refine AT.to ⟨100, 0, [(52, .val false [.lit (.bool (!r11))]), (51, .val false [.lit (.bool (!r11))]), (50, .val false [.lit (.bool (!r11))]), (49, .val false [.lit (.bool r11)]), (48, .val false [.lit (.int .i64 (IntKind.wrap .i64 ((IntKind.wrap .i64 (1 * 2 ^ min (((IntKind.wrap .u64 x1) : Int)).toNat (IntKind.bits .i64))) - 1)))]), (47, .val false [.lit (.int .i64 v9.Members)]), (46, .adr (.box 7) [(0, 0)] 3 1), (45, .val false [.lit (.bool false)]), (44, .val false [.lit (.bool false)]), (43, .val false [.lit (.bool r10)]), (42, .val false [.lit (.int .i64 v9.Id)]), (41, .adr (.box 7) [(0, 0)] 3 0), (7, .adr (.box 7) [(0, 0)] 3 0), (40, .val true (Vrow.row v9)), (39, .fad ((Vrow.row v9))), (38, .val false [.lit (.int .i64 y3)]), (37, .val false [.sl false 3 (CV.frzEs (x0.Rows.map Vrow.row))]), (36, .adr (.box 2) [(0, 0)] 2 0), (33, .val false [.lit (.bool true)]), (32, .val false [.lit (.int .i64 (x0.Rows.length : Int))]), (31, .val false [.sl false 3 (CV.frzEs (x0.Rows.map Vrow.row))]), (30, .adr (.box 2) [(0, 0)] 2 0), (29, .val false [.lit (.int .i64 y3)]), (6, .val false [.lit (.int .i64 y3)]), (5, .val false [.lit (.int .i64 (IntKind.wrap .i64 ((IntKind.wrap .i64 (1 * 2 ^ min (((IntKind.wrap .u64 x1) : Int)).toNat (IntKind.bits .i64))) - 1)))]), (4, .val false [.lit (.bool false)]), (2, .adr (.box 2) [(0, 0)] 2 0)], [(7, (Vrow.row v9)), (2, (CV.frzRow (Vtab.row x0)))]⟩ (by kernel_rfl) ?_
                      rw [h8]
                      refine AT.runU tOk [(12, []), (13, [15]), (14, [])] 29 [⟨[15], 3, 53, 54⟩, ⟨[8, 15], 3, 46, 47⟩, ⟨[2, 8, 15], 3, 41, 42⟩] [14, 13, 12, 11, 10, 9, 8, 7, 6, 5, 4, 3, 2, 1, 0] rfl (by kernel_rfl) (fun cx => ?_)
                      refine AT.big1 tOk 15 (by kernel_rfl) (by kernel_rfl) ?_
                      refine LAt.callU tOk [.rd, .rd, .rd] (f := 51) (av := #[.tmp 54, .const (.int .i64 0), .tmp 55]) (ats := #[3, 3, 3]) (d := (some 56)) (ty := 4) (g := (some (11, false))) (by kernel_rfl) (by kernel_rfl) (by kernel_rfl) [] (spec_l1In n v9.Bare 0 (IntKind.wrap .i64 ((IntKind.wrap .i64 (1 * 2 ^ min (((IntKind.wrap .u64 x1) : Int)).toNat (IntKind.bits .i64))) - 1)) r12 er12) (by kernel_rfl) (.inl rfl) ?_
                      refine LAt.fin (by kernel_rfl) (And.intro (And.intro (by kernel_rfl) (by kernel_rfl)) ?_)
                      refine AT.runU tOk [(16, []), (17, []), (18, [])] 25 [⟨[15], 3, 53, 54⟩, ⟨[8, 15], 3, 46, 47⟩, ⟨[2, 8, 15], 3, 41, 42⟩] [18, 17, 16, 15, 14, 13, 12, 11, 10, 9, 8, 7, 6, 5, 4, 3, 2, 1, 0] rfl (by kernel_rfl) (fun cx => ?_)
                      refine AT.to ⟨100, 0, [(59, .val false [.lit (.bool (!r12))]), (58, .val false [.lit (.bool (!r12))]), (57, .val false [.lit (.bool (!r12))]), (56, .val false [.lit (.bool r12)]), (55, .val false [.lit (.int .i64 (IntKind.wrap .i64 ((IntKind.wrap .i64 (1 * 2 ^ min (((IntKind.wrap .u64 x1) : Int)).toNat (IntKind.bits .i64))) - 1)))]), (54, .val false [.lit (.int .i64 v9.Bare)]), (53, .adr (.box 7) [(0, 0)] 3 2), (52, .val false [.lit (.bool false)]), (51, .val false [.lit (.bool false)]), (50, .val false [.lit (.bool false)]), (49, .val false [.lit (.bool r11)]), (48, .val false [.lit (.int .i64 (IntKind.wrap .i64 ((IntKind.wrap .i64 (1 * 2 ^ min (((IntKind.wrap .u64 x1) : Int)).toNat (IntKind.bits .i64))) - 1)))]), (47, .val false [.lit (.int .i64 v9.Members)]), (46, .adr (.box 7) [(0, 0)] 3 1), (45, .val false [.lit (.bool false)]), (44, .val false [.lit (.bool false)]), (43, .val false [.lit (.bool r10)]), (42, .val false [.lit (.int .i64 v9.Id)]), (41, .adr (.box 7) [(0, 0)] 3 0), (7, .adr (.box 7) [(0, 0)] 3 0), (40, .val true (Vrow.row v9)), (39, .fad ((Vrow.row v9))), (38, .val false [.lit (.int .i64 y3)]), (37, .val false [.sl false 3 (CV.frzEs (x0.Rows.map Vrow.row))]), (36, .adr (.box 2) [(0, 0)] 2 0), (33, .val false [.lit (.bool true)]), (32, .val false [.lit (.int .i64 (x0.Rows.length : Int))]), (31, .val false [.sl false 3 (CV.frzEs (x0.Rows.map Vrow.row))]), (30, .adr (.box 2) [(0, 0)] 2 0), (29, .val false [.lit (.int .i64 y3)]), (6, .val false [.lit (.int .i64 y3)]), (5, .val false [.lit (.int .i64 (IntKind.wrap .i64 ((IntKind.wrap .i64 (1 * 2 ^ min (((IntKind.wrap .u64 x1) : Int)).toNat (IntKind.bits .i64))) - 1)))]), (4, .val false [.lit (.bool false)]), (2, .adr (.box 2) [(0, 0)] 2 0)], [(7, (Vrow.row v9)), (2, (CV.frzRow (Vtab.row x0)))]⟩ (by kernel_rfl) ?_
                      rw [h9]
                      refine AT.runU tOk [(19, []), (20, []), (21, []), (22, []), (23, []), (24, []), (25, []), (26, []), (27, []), (28, []), (29, []), (30, []), (31, []), (32, []), (33, []), (34, []), (35, []), (36, []), (37, []), (38, []), (39, []), (40, []), (41, []), (42, []), (43, [])] 0 [⟨[15], 3, 53, 54⟩, ⟨[8, 15], 3, 46, 47⟩, ⟨[2, 8, 15], 3, 41, 42⟩] [43, 42, 41, 40, 39, 38, 37, 36, 35, 34, 33, 32, 31, 30, 29, 28, 27, 26, 25, 24, 23, 22, 21, 20, 19, 18, 17, 16, 15, 14, 13, 12, 11, 10, 9, 8, 7, 6, 5, 4, 3, 2, 1, 0] rfl (by kernel_rfl) (fun cx => ?_)
                      exact AT.done [84, 83, 82, 81, 80, 79, 78, 77, 76, 75, 74, 73, 72, 71, 70, 69, 68, 67, 66, 65, 64, 63, 62, 61, 60, 59, 58, 57, 56, 55, 54, 53, 52, 51, 50, 49, 48, 47, 46, 45, 44, 43, 42, 41, 7, 40, 39, 38, 37, 36, 33, 32, 31, 30, 29, 6, 5, 4, 2] [7, 2] _ (by kernel_rfl) (by kernel_rfl) rfl
                    · refine Tr.cond (b := true) (by kernel_rfl) (fun _ => ?_) (fun h => nomatch h)
                      refine Tr.rs ?_
                      refine LAt.runU tOk 1 (by kernel_rfl) ?_
                      refine LAt.doneU [4, 84, 83, 82, 81, 80, 79, 78, 77, 76, 75, 74, 73, 72, 71, 70, 69, 68, 67, 66, 65, 64, 63, 62, 61, 60, 59, 58, 57, 56, 55, 54, 53, 52, 51, 50, 49, 48, 47, 46, 45, 44, 43, 42, 41, 7, 40, 39, 38, 37, 36, 33, 32, 31, 30, 29, 6, 5, 2] [7, 2] (by kernel_rfl) ?_
                      refine Tr.ret ?_
                      have H := Option.some.inj H
                      subst H
                      have H := Ho8
                      dsimp only at H
                      have H := Option.some.inj H
                      subst H
                      exact Fin.of _ [(false, [.lit (.bool false)])] (by kernel_rfl) rfl rfl
                · have H := bifT h8 H
                  refine Tr.draws mixed 44 (by kernel_rfl) ⟨100, 0, [(84, .val false [.lit (.bool true)]), (83, .tup []), (82, .tup []), (81, .tup []), (80, .tup []), (79, .tup []), (78, .tup []), (77, .tup []), (76, .tup []), (75, .tup []), (74, .tup []), (73, .tup []), (72, .tup []), (71, .tup []), (70, .tup []), (69, .val false [.lit (.bool true)]), (68, .val false [.lit (.bool true)]), (67, .tup []), (66, .tup []), (65, .tup []), (64, .tup []), (63, .tup []), (62, .tup []), (61, .tup []), (60, .tup []), (59, .val false [.lit (.bool true)]), (58, .val false [.lit (.bool true)]), (57, .tup []), (56, .tup []), (55, .tup []), (54, .tup []), (53, .tup []), (52, .val false [.lit (.bool true)]), (51, .val false [.lit (.bool true)]), (50, .val false [.lit (.bool true)]), (49, .val false [.lit (.bool r11)]), (48, .val false [.lit (.int .i64 (IntKind.wrap .i64 ((IntKind.wrap .i64 (1 * 2 ^ min (((IntKind.wrap .u64 x1) : Int)).toNat (IntKind.bits .i64))) - 1)))]), (47, .val false [.lit (.int .i64 v9.Members)]), (46, .adr (.box 7) [(0, 0)] 3 1), (45, .val false [.lit (.bool false)]), (44, .val false [.lit (.bool false)]), (43, .val false [.lit (.bool r10)]), (42, .val false [.lit (.int .i64 v9.Id)]), (41, .adr (.box 7) [(0, 0)] 3 0), (7, .adr (.box 7) [(0, 0)] 3 0), (40, .val true (Vrow.row v9)), (39, .fad ((Vrow.row v9))), (38, .val false [.lit (.int .i64 y3)]), (37, .val false [.sl false 3 (CV.frzEs (x0.Rows.map Vrow.row))]), (36, .adr (.box 2) [(0, 0)] 2 0), (33, .val false [.lit (.bool true)]), (32, .val false [.lit (.int .i64 (x0.Rows.length : Int))]), (31, .val false [.sl false 3 (CV.frzEs (x0.Rows.map Vrow.row))]), (30, .adr (.box 2) [(0, 0)] 2 0), (29, .val false [.lit (.int .i64 y3)]), (6, .val false [.lit (.int .i64 y3)]), (5, .val false [.lit (.int .i64 (IntKind.wrap .i64 ((IntKind.wrap .i64 (1 * 2 ^ min (((IntKind.wrap .u64 x1) : Int)).toNat (IntKind.bits .i64))) - 1)))]), (4, .val false [.lit (.bool false)]), (2, .adr (.box 2) [(0, 0)] 2 0)], [(7, (Vrow.row v9)), (2, (CV.frzRow (Vtab.row x0)))]⟩ (fun cx => ?_) ?_
                  · refine AT.runU tOk [(0, []), (1, [2, 8])] 42 [⟨[2, 8], 3, 41, 42⟩] [1, 0] rfl (by kernel_rfl) (fun cx => ?_)
                    refine AT.big1 tOk 2 (by kernel_rfl) (by kernel_rfl) ?_
                    refine LAt.callU tOk [.rd, .rd, .rd] (f := 51) (av := #[.tmp 42, .const (.int .i64 1), .const (.int .i64 99)]) (ats := #[3, 3, 3]) (d := (some 43)) (ty := 4) (g := none) (by kernel_rfl) (by kernel_rfl) (by kernel_rfl) [] (spec_l1In n v9.Id 1 99 r10 er10) (by kernel_rfl) (.inl rfl) ?_
                    refine LAt.fin (by kernel_rfl) (And.intro (And.intro (by kernel_rfl) (by kernel_rfl)) ?_)
                    refine AT.runU tOk [(3, []), (4, [])] 39 [⟨[2, 8], 3, 41, 42⟩] [4, 3, 2, 1, 0] rfl (by kernel_rfl) (fun cx => ?_)
                    refine AT.to ⟨100, 0, [(45, .val false [.lit (.bool (!r10))]), (44, .val false [.lit (.bool (!r10))]), (43, .val false [.lit (.bool r10)]), (42, .val false [.lit (.int .i64 v9.Id)]), (41, .adr (.box 7) [(0, 0)] 3 0), (7, .adr (.box 7) [(0, 0)] 3 0), (40, .val true (Vrow.row v9)), (39, .fad ((Vrow.row v9))), (38, .val false [.lit (.int .i64 y3)]), (37, .val false [.sl false 3 (CV.frzEs (x0.Rows.map Vrow.row))]), (36, .adr (.box 2) [(0, 0)] 2 0), (33, .val false [.lit (.bool true)]), (32, .val false [.lit (.int .i64 (x0.Rows.length : Int))]), (31, .val false [.sl false 3 (CV.frzEs (x0.Rows.map Vrow.row))]), (30, .adr (.box 2) [(0, 0)] 2 0), (29, .val false [.lit (.int .i64 y3)]), (6, .val false [.lit (.int .i64 y3)]), (5, .val false [.lit (.int .i64 (IntKind.wrap .i64 ((IntKind.wrap .i64 (1 * 2 ^ min (((IntKind.wrap .u64 x1) : Int)).toNat (IntKind.bits .i64))) - 1)))]), (4, .val false [.lit (.bool false)]), (2, .adr (.box 2) [(0, 0)] 2 0)], [(7, (Vrow.row v9)), (2, (CV.frzRow (Vtab.row x0)))]⟩ (by kernel_rfl) ?_
                    rw [h7]
                    refine AT.runU tOk [(5, []), (6, [8]), (7, [])] 36 [⟨[8], 3, 46, 47⟩, ⟨[2, 8], 3, 41, 42⟩] [7, 6, 5, 4, 3, 2, 1, 0] rfl (by kernel_rfl) (fun cx => ?_)
                    refine AT.big1 tOk 8 (by kernel_rfl) (by kernel_rfl) ?_
                    refine LAt.callU tOk [.rd, .rd, .rd] (f := 51) (av := #[.tmp 47, .const (.int .i64 0), .tmp 48]) (ats := #[3, 3, 3]) (d := (some 49)) (ty := 4) (g := (some (4, false))) (by kernel_rfl) (by kernel_rfl) (by kernel_rfl) [] (spec_l1In n v9.Members 0 (IntKind.wrap .i64 ((IntKind.wrap .i64 (1 * 2 ^ min (((IntKind.wrap .u64 x1) : Int)).toNat (IntKind.bits .i64))) - 1)) r11 er11) (by kernel_rfl) (.inl rfl) ?_
                    refine LAt.fin (by kernel_rfl) (And.intro (And.intro (by kernel_rfl) (by kernel_rfl)) ?_)
                    refine AT.runU tOk [(9, []), (10, []), (11, [])] 32 [⟨[8], 3, 46, 47⟩, ⟨[2, 8], 3, 41, 42⟩] [11, 10, 9, 8, 7, 6, 5, 4, 3, 2, 1, 0] rfl (by kernel_rfl) (fun cx => ?_)
                    refine AT.to ⟨100, 0, [(52, .val false [.lit (.bool (!r11))]), (51, .val false [.lit (.bool (!r11))]), (50, .val false [.lit (.bool (!r11))]), (49, .val false [.lit (.bool r11)]), (48, .val false [.lit (.int .i64 (IntKind.wrap .i64 ((IntKind.wrap .i64 (1 * 2 ^ min (((IntKind.wrap .u64 x1) : Int)).toNat (IntKind.bits .i64))) - 1)))]), (47, .val false [.lit (.int .i64 v9.Members)]), (46, .adr (.box 7) [(0, 0)] 3 1), (45, .val false [.lit (.bool false)]), (44, .val false [.lit (.bool false)]), (43, .val false [.lit (.bool r10)]), (42, .val false [.lit (.int .i64 v9.Id)]), (41, .adr (.box 7) [(0, 0)] 3 0), (7, .adr (.box 7) [(0, 0)] 3 0), (40, .val true (Vrow.row v9)), (39, .fad ((Vrow.row v9))), (38, .val false [.lit (.int .i64 y3)]), (37, .val false [.sl false 3 (CV.frzEs (x0.Rows.map Vrow.row))]), (36, .adr (.box 2) [(0, 0)] 2 0), (33, .val false [.lit (.bool true)]), (32, .val false [.lit (.int .i64 (x0.Rows.length : Int))]), (31, .val false [.sl false 3 (CV.frzEs (x0.Rows.map Vrow.row))]), (30, .adr (.box 2) [(0, 0)] 2 0), (29, .val false [.lit (.int .i64 y3)]), (6, .val false [.lit (.int .i64 y3)]), (5, .val false [.lit (.int .i64 (IntKind.wrap .i64 ((IntKind.wrap .i64 (1 * 2 ^ min (((IntKind.wrap .u64 x1) : Int)).toNat (IntKind.bits .i64))) - 1)))]), (4, .val false [.lit (.bool false)]), (2, .adr (.box 2) [(0, 0)] 2 0)], [(7, (Vrow.row v9)), (2, (CV.frzRow (Vtab.row x0)))]⟩ (by kernel_rfl) ?_
                    rw [h8]
                    refine AT.runU tOk [(12, []), (13, []), (14, []), (15, []), (16, []), (17, []), (18, []), (19, []), (20, []), (21, []), (22, []), (23, []), (24, []), (25, []), (26, []), (27, []), (28, []), (29, []), (30, []), (31, []), (32, []), (33, []), (34, []), (35, []), (36, []), (37, []), (38, []), (39, []), (40, []), (41, []), (42, []), (43, [])] 0 [⟨[8], 3, 46, 47⟩, ⟨[2, 8], 3, 41, 42⟩] [43, 42, 41, 40, 39, 38, 37, 36, 35, 34, 33, 32, 31, 30, 29, 28, 27, 26, 25, 24, 23, 22, 21, 20, 19, 18, 17, 16, 15, 14, 13, 12, 11, 10, 9, 8, 7, 6, 5, 4, 3, 2, 1, 0] rfl (by kernel_rfl) (fun cx => ?_)
                    exact AT.done [84, 83, 82, 81, 80, 79, 78, 77, 76, 75, 74, 73, 72, 71, 70, 69, 68, 67, 66, 65, 64, 63, 62, 61, 60, 59, 58, 57, 56, 55, 54, 53, 52, 51, 50, 49, 48, 47, 46, 45, 44, 43, 42, 41, 7, 40, 39, 38, 37, 36, 33, 32, 31, 30, 29, 6, 5, 4, 2] [7, 2] _ (by kernel_rfl) (by kernel_rfl) rfl
                  · refine Tr.cond (b := true) (by kernel_rfl) (fun _ => ?_) (fun h => nomatch h)
                    refine Tr.rs ?_
                    refine LAt.runU tOk 1 (by kernel_rfl) ?_
                    refine LAt.doneU [4, 84, 83, 82, 81, 80, 79, 78, 77, 76, 75, 74, 73, 72, 71, 70, 69, 68, 67, 66, 65, 64, 63, 62, 61, 60, 59, 58, 57, 56, 55, 54, 53, 52, 51, 50, 49, 48, 47, 46, 45, 44, 43, 42, 41, 7, 40, 39, 38, 37, 36, 33, 32, 31, 30, 29, 6, 5, 2] [7, 2] (by kernel_rfl) ?_
                    refine Tr.ret ?_
                    have H := Option.some.inj H
                    subst H
                    have H := Ho8
                    dsimp only at H
                    have H := Option.some.inj H
                    subst H
                    exact Fin.of _ [(false, [.lit (.bool false)])] (by kernel_rfl) rfl rfl
              · have H := bifT h7 H
                refine Tr.draws mixed 44 (by kernel_rfl) ⟨100, 0, [(84, .val false [.lit (.bool true)]), (83, .tup []), (82, .tup []), (81, .tup []), (80, .tup []), (79, .tup []), (78, .tup []), (77, .tup []), (76, .tup []), (75, .tup []), (74, .tup []), (73, .tup []), (72, .tup []), (71, .tup []), (70, .tup []), (69, .val false [.lit (.bool true)]), (68, .val false [.lit (.bool true)]), (67, .tup []), (66, .tup []), (65, .tup []), (64, .tup []), (63, .tup []), (62, .tup []), (61, .tup []), (60, .tup []), (59, .val false [.lit (.bool true)]), (58, .val false [.lit (.bool true)]), (57, .tup []), (56, .tup []), (55, .tup []), (54, .tup []), (53, .tup []), (52, .val false [.lit (.bool true)]), (51, .val false [.lit (.bool true)]), (50, .tup []), (49, .tup []), (48, .tup []), (47, .tup []), (46, .tup []), (45, .val false [.lit (.bool true)]), (44, .val false [.lit (.bool true)]), (43, .val false [.lit (.bool r10)]), (42, .val false [.lit (.int .i64 v9.Id)]), (41, .adr (.box 7) [(0, 0)] 3 0), (7, .adr (.box 7) [(0, 0)] 3 0), (40, .val true (Vrow.row v9)), (39, .fad ((Vrow.row v9))), (38, .val false [.lit (.int .i64 y3)]), (37, .val false [.sl false 3 (CV.frzEs (x0.Rows.map Vrow.row))]), (36, .adr (.box 2) [(0, 0)] 2 0), (33, .val false [.lit (.bool true)]), (32, .val false [.lit (.int .i64 (x0.Rows.length : Int))]), (31, .val false [.sl false 3 (CV.frzEs (x0.Rows.map Vrow.row))]), (30, .adr (.box 2) [(0, 0)] 2 0), (29, .val false [.lit (.int .i64 y3)]), (6, .val false [.lit (.int .i64 y3)]), (5, .val false [.lit (.int .i64 (IntKind.wrap .i64 ((IntKind.wrap .i64 (1 * 2 ^ min (((IntKind.wrap .u64 x1) : Int)).toNat (IntKind.bits .i64))) - 1)))]), (4, .val false [.lit (.bool false)]), (2, .adr (.box 2) [(0, 0)] 2 0)], [(7, (Vrow.row v9)), (2, (CV.frzRow (Vtab.row x0)))]⟩ (fun cx => ?_) ?_
                · refine AT.runU tOk [(0, []), (1, [2])] 42 [⟨[2], 3, 41, 42⟩] [1, 0] rfl (by kernel_rfl) (fun cx => ?_)
                  refine AT.big1 tOk 2 (by kernel_rfl) (by kernel_rfl) ?_
                  refine LAt.callU tOk [.rd, .rd, .rd] (f := 51) (av := #[.tmp 42, .const (.int .i64 1), .const (.int .i64 99)]) (ats := #[3, 3, 3]) (d := (some 43)) (ty := 4) (g := none) (by kernel_rfl) (by kernel_rfl) (by kernel_rfl) [] (spec_l1In n v9.Id 1 99 r10 er10) (by kernel_rfl) (.inl rfl) ?_
                  refine LAt.fin (by kernel_rfl) (And.intro (And.intro (by kernel_rfl) (by kernel_rfl)) ?_)
                  refine AT.runU tOk [(3, []), (4, [])] 39 [⟨[2], 3, 41, 42⟩] [4, 3, 2, 1, 0] rfl (by kernel_rfl) (fun cx => ?_)
                  refine AT.to ⟨100, 0, [(45, .val false [.lit (.bool (!r10))]), (44, .val false [.lit (.bool (!r10))]), (43, .val false [.lit (.bool r10)]), (42, .val false [.lit (.int .i64 v9.Id)]), (41, .adr (.box 7) [(0, 0)] 3 0), (7, .adr (.box 7) [(0, 0)] 3 0), (40, .val true (Vrow.row v9)), (39, .fad ((Vrow.row v9))), (38, .val false [.lit (.int .i64 y3)]), (37, .val false [.sl false 3 (CV.frzEs (x0.Rows.map Vrow.row))]), (36, .adr (.box 2) [(0, 0)] 2 0), (33, .val false [.lit (.bool true)]), (32, .val false [.lit (.int .i64 (x0.Rows.length : Int))]), (31, .val false [.sl false 3 (CV.frzEs (x0.Rows.map Vrow.row))]), (30, .adr (.box 2) [(0, 0)] 2 0), (29, .val false [.lit (.int .i64 y3)]), (6, .val false [.lit (.int .i64 y3)]), (5, .val false [.lit (.int .i64 (IntKind.wrap .i64 ((IntKind.wrap .i64 (1 * 2 ^ min (((IntKind.wrap .u64 x1) : Int)).toNat (IntKind.bits .i64))) - 1)))]), (4, .val false [.lit (.bool false)]), (2, .adr (.box 2) [(0, 0)] 2 0)], [(7, (Vrow.row v9)), (2, (CV.frzRow (Vtab.row x0)))]⟩ (by kernel_rfl) ?_
                  rw [h7]
                  refine AT.runU tOk [(5, []), (6, []), (7, []), (8, []), (9, []), (10, []), (11, []), (12, []), (13, []), (14, []), (15, []), (16, []), (17, []), (18, []), (19, []), (20, []), (21, []), (22, []), (23, []), (24, []), (25, []), (26, []), (27, []), (28, []), (29, []), (30, []), (31, []), (32, []), (33, []), (34, []), (35, []), (36, []), (37, []), (38, []), (39, []), (40, []), (41, []), (42, []), (43, [])] 0 [⟨[2], 3, 41, 42⟩] [43, 42, 41, 40, 39, 38, 37, 36, 35, 34, 33, 32, 31, 30, 29, 28, 27, 26, 25, 24, 23, 22, 21, 20, 19, 18, 17, 16, 15, 14, 13, 12, 11, 10, 9, 8, 7, 6, 5, 4, 3, 2, 1, 0] rfl (by kernel_rfl) (fun cx => ?_)
                  exact AT.done [84, 83, 82, 81, 80, 79, 78, 77, 76, 75, 74, 73, 72, 71, 70, 69, 68, 67, 66, 65, 64, 63, 62, 61, 60, 59, 58, 57, 56, 55, 54, 53, 52, 51, 50, 49, 48, 47, 46, 45, 44, 43, 42, 41, 7, 40, 39, 38, 37, 36, 33, 32, 31, 30, 29, 6, 5, 4, 2] [7, 2] _ (by kernel_rfl) (by kernel_rfl) rfl
                · refine Tr.cond (b := true) (by kernel_rfl) (fun _ => ?_) (fun h => nomatch h)
                  refine Tr.rs ?_
                  refine LAt.runU tOk 1 (by kernel_rfl) ?_
                  refine LAt.doneU [4, 84, 83, 82, 81, 80, 79, 78, 77, 76, 75, 74, 73, 72, 71, 70, 69, 68, 67, 66, 65, 64, 63, 62, 61, 60, 59, 58, 57, 56, 55, 54, 53, 52, 51, 50, 49, 48, 47, 46, 45, 44, 43, 42, 41, 7, 40, 39, 38, 37, 36, 33, 32, 31, 30, 29, 6, 5, 2] [7, 2] (by kernel_rfl) ?_
                  refine Tr.ret ?_
                  have H := Option.some.inj H
                  subst H
                  have H := Ho8
                  dsimp only at H
                  have H := Option.some.inj H
                  subst H
                  exact Fin.of _ [(false, [.lit (.bool false)])] (by kernel_rfl) rfl rfl
        · rintro _ H
          have H : (spec_VtabOk_J1 n x0) = some r := H
          unfold spec_VtabOk_J1 at H
          show Tr _ _ _ _ _
          refine Tr.seq ?_
          refine Tr.rs ?_
          refine LAt.runU tOk 1 (by kernel_rfl) ?_
          refine LAt.doneU [8, 4, 2] [2] (by kernel_rfl) ?_
          obtain ⟨o5, eo5, Ho5⟩ := bind_some H
          clear H
          refine Tr.mid (ι := Unit) (fun v => ⟨100, 0, [(4, .val false [.lit (.bool false)])], []⟩) (fun v => spec_VtabOk_J2 n = some r) ?_ ?_
          · refine Tr.block ?_
            refine Tr.loop (ι := Nat × (Int)) (fun v => ⟨100, 0, [(8, .val false [.lit (.int .i64 v.2)]), (4, .val false [.lit (.bool false)]), (2, .adr (.box 2) [(0, 0)] 2 0)], [(2, (CV.frzRow (Vtab.row x0)))]⟩) (fun v => spec_VtabOk_L3 n v.1 x0 v.2 = some o5) (fun v => v.1) (n, 0) eo5 (St.sub_of [8, 4, 2] [2] (by kernel_rfl)) ?_
            rintro ⟨mo5, y4⟩ H
            have H : spec_VtabOk_L3 n mo5 x0 y4 = some o5 := H
            obtain _ | mo5 := mo5
            · cases (show (none : Option _) = some o5 from H)
            · rw [spec_VtabOk_L3] at H
              refine Tr.seq ?_
              refine Tr.rs ?_
              refine LAt.runU tOk 3 (by kernel_rfl) ?_
              refine LAt.lenE tOk (t := 33) (ty := 3) (e := 3) (x := (.tmp 87)) (d := 88) (g := none) ⟨(.slot 87), [], 0, false, 1, (CV.frzEs (x0.Pvid.map intRow))⟩ (x0.Pvid).length _ (by kernel_rfl) (by kernel_rfl) (by kernel_rfl) (by kernel_rfl) (by kernel_rfl) (frz_len _ _) rfl ?_
              refine LAt.runU tOk 1 (by kernel_rfl) ?_
              refine LAt.doneU [89, 88, 87, 86, 85, 8, 4, 2] [2] (by kernel_rfl) ?_
              refine Tr.to ⟨100, 0, [(89, .val false [.lit (.bool (decide (y4 < (x0.Pvid.length : Int))))]), (88, .val false [.lit (.int .i64 (x0.Pvid.length : Int))]), (87, .val false [.sl false 1 (CV.frzEs (x0.Pvid.map intRow))]), (86, .adr (.box 2) [(0, 0)] 2 1), (85, .val false [.lit (.int .i64 y4)]), (8, .val false [.lit (.int .i64 y4)]), (4, .val false [.lit (.bool false)]), (2, .adr (.box 2) [(0, 0)] 2 0)], [(2, (CV.frzRow (Vtab.row x0)))]⟩ (by kernel_rfl) ?_
              cases h4 : (decide (y4 < (x0.Pvid.length : Int)))
              · have H := bifF h4 H
                refine Tr.cond (b := false) (by kernel_rfl) (fun h => nomatch h) (fun _ => ?_)
                refine Tr.exit ?_
                refine And.intro (fun _ => ?_) (fun h => absurd rfl h)
                have H := Option.some.inj H
                subst H
                have H := Ho5
                dsimp only at H
                exact Exists.intro () (And.intro H (St.sub_of [4] [] (by kernel_rfl)))
              · have H := bifT h4 H
                refine Tr.cond (b := true) (by kernel_rfl) (fun _ => ?_) (fun h => nomatch h)
                refine Tr.skip ?_
                show Tr _ _ _ _ _
                refine Tr.seq ?_
                refine Tr.block ?_
                obtain ⟨v6, ev6, H⟩ := bind_some H
                obtain ⟨r7, er7, H⟩ := bind_some H
                refine Tr.draws mixed 8 (by kernel_rfl) ⟨100, 0, [(99, .val false [.lit (.bool (decide (r7 < 0)))]), (98, .val false [.lit (.int .i64 r7)]), (97, .val false [.lit (.int .i64 v6)]), (96, .fad ([.lit (.int .i64 v6)])), (95, .val false [.lit (.int .i64 y4)]), (94, .ref (.box 2) [(0, 0)] 2 1 1 false), (93, .adr (.box 2) [(0, 0)] 2 1), (92, .ref (.box 2) [(0, 0)] 2 0 2 true), (89, .val false [.lit (.bool true)]), (88, .val false [.lit (.int .i64 (x0.Pvid.length : Int))]), (87, .val false [.sl false 1 (CV.frzEs (x0.Pvid.map intRow))]), (86, .adr (.box 2) [(0, 0)] 2 1), (85, .val false [.lit (.int .i64 y4)]), (8, .val false [.lit (.int .i64 y4)]), (4, .val false [.lit (.bool false)]), (2, .adr (.box 2) [(0, 0)] 2 0)], [(2, (CV.frzRow (Vtab.row x0)))]⟩ (fun cx => ?_) ?_
                · refine AT.runU tOk [(0, [6]), (1, []), (2, [6]), (3, [])] 4 [⟨[6], 33, 93, 94⟩, ⟨[6], 40, 2, 92⟩] [3, 2, 1, 0] rfl (by kernel_rfl) (fun cx => ?_)
                  refine AT.indexF tOk 4 (t := 33) (ty := 0) (x := (.tmp 94)) (y := (.tmp 95)) (d := 96) (g := none) ⟨(.box 2), [(0, 0)], 1, false, 1, (CV.frzEs (x0.Pvid.map intRow))⟩ y4 [.lit (.int .i64 v6)] _ (by kernel_rfl) (by kernel_rfl) (by kernel_rfl) (by kernel_rfl) (by kernel_rfl) (by kernel_rfl) rfl (idx_isF ev6) rfl (fun cx => ?_)
                  refine AT.runU tOk [(5, [])] 2 [⟨[6], 33, 93, 94⟩, ⟨[6], 40, 2, 92⟩] [5, 4, 3, 2, 1, 0] rfl (by kernel_rfl) (fun cx => ?_)
                  refine AT.big1 tOk 6 (by kernel_rfl) (by kernel_rfl) ?_
                  refine LAt.callU tOk [.rd, .rd] (f := 58) (av := #[.tmp 92, .tmp 97]) (ats := #[40, 3]) (d := (some 98)) (ty := 3) (g := none) (by kernel_rfl) (by kernel_rfl) (by kernel_rfl) [] (spec_RowAt n x0 v6 r7 er7) (by kernel_rfl) (.inl rfl) ?_
                  refine LAt.fin (by kernel_rfl) (And.intro (And.intro (by kernel_rfl) (by kernel_rfl)) ?_)
                  refine AT.runU tOk [(7, [])] 0 [⟨[6], 33, 93, 94⟩, ⟨[6], 40, 2, 92⟩] [7, 6, 5, 4, 3, 2, 1, 0] rfl (by kernel_rfl) (fun cx => ?_)
                  exact AT.done [99, 98, 97, 96, 95, 94, 93, 92, 89, 88, 87, 86, 85, 8, 4, 2] [2] _ (by kernel_rfl) (by kernel_rfl) rfl
                · refine Tr.to ⟨100, 0, [(99, .val false [.lit (.bool (decide (r7 < 0)))]), (98, .val false [.lit (.int .i64 r7)]), (97, .val false [.lit (.int .i64 v6)]), (96, .fad ([.lit (.int .i64 v6)])), (95, .val false [.lit (.int .i64 y4)]), (94, .ref (.box 2) [(0, 0)] 2 1 1 false), (93, .adr (.box 2) [(0, 0)] 2 1), (92, .ref (.box 2) [(0, 0)] 2 0 2 true), (89, .val false [.lit (.bool true)]), (88, .val false [.lit (.int .i64 (x0.Pvid.length : Int))]), (87, .val false [.sl false 1 (CV.frzEs (x0.Pvid.map intRow))]), (86, .adr (.box 2) [(0, 0)] 2 1), (85, .val false [.lit (.int .i64 y4)]), (8, .val false [.lit (.int .i64 y4)]), (4, .val false [.lit (.bool false)]), (2, .adr (.box 2) [(0, 0)] 2 0)], [(2, (CV.frzRow (Vtab.row x0)))]⟩ (by kernel_rfl) ?_
                  cases h5 : (decide (r7 < 0))
                  · have H := bifF h5 H
                    refine Tr.cond (b := false) (by kernel_rfl) (fun h => nomatch h) (fun _ => ?_)
                    refine Tr.skip ?_
                    show Tr _ _ _ _ _
                    refine Tr.at ?_
                    refine LAt.runU tOk 3 (by kernel_rfl) ?_
                    refine LAt.doneU [8, 91, 90, 99, 98, 97, 96, 95, 94, 93, 92, 89, 88, 87, 86, 85, 4, 2] [2] (by kernel_rfl) ?_
                    exact Exists.intro (mo5, (IntKind.wrap .i64 (y4 + 1))) (And.intro H (And.intro (Nat.lt_succ_self mo5) (St.sub_of [8, 4, 2] [2] (by kernel_rfl))))
                  · have H := bifT h5 H
                    refine Tr.cond (b := true) (by kernel_rfl) (fun _ => ?_) (fun h => nomatch h)
                    refine Tr.rs ?_
                    refine LAt.runU tOk 1 (by kernel_rfl) ?_
                    refine LAt.doneU [4, 99, 98, 97, 96, 95, 94, 93, 92, 89, 88, 87, 86, 85, 8, 2] [2] (by kernel_rfl) ?_
                    refine Tr.ret ?_
                    have H := Option.some.inj H
                    subst H
                    have H := Ho5
                    dsimp only at H
                    have H := Option.some.inj H
                    subst H
                    exact Fin.of _ [(false, [.lit (.bool false)])] (by kernel_rfl) rfl rfl
          · rintro _ H
            have H : (spec_VtabOk_J2 n) = some r := H
            unfold spec_VtabOk_J2 at H
            show Tr _ _ _ _ _
            refine Tr.rs ?_
            refine LAt.runU tOk 1 (by kernel_rfl) ?_
            refine LAt.doneU [4] [] (by kernel_rfl) ?_
            refine Tr.ret ?_
            have H := Option.some.inj H
            subst H
            exact Fin.of _ [(false, [.lit (.bool true)])] (by kernel_rfl) rfl rfl
      · have H := bifT h3 H
        refine Tr.cond (b := true) (by kernel_rfl) (fun _ => ?_) (fun h => nomatch h)
        refine Tr.rs ?_
        refine LAt.runU tOk 1 (by kernel_rfl) ?_
        refine LAt.doneU [4, 2, 1] [2] (by kernel_rfl) ?_
        refine Tr.ret ?_
        have H := Option.some.inj H
        subst H
        exact Fin.of _ [(false, [.lit (.bool false)])] (by kernel_rfl) rfl rfl
    · have H := bifT h2 H
      refine LAt.runU tOk 5 (by kernel_rfl) ?_
      refine LAt.doneU [24, 4, 2, 1] [2] (by kernel_rfl) ?_
      refine Tr.cond (b := true) (by kernel_rfl) (fun _ => ?_) (fun h => nomatch h)
      refine Tr.rs ?_
      refine LAt.runU tOk 1 (by kernel_rfl) ?_
      refine LAt.doneU [4, 2, 1] [2] (by kernel_rfl) ?_
      refine Tr.ret ?_
      have H := Option.some.inj H
      subst H
      exact Fin.of _ [(false, [.lit (.bool false)])] (by kernel_rfl) rfl rfl
  · have H := bifT h1 H
    refine LAt.runU tOk 12 (by kernel_rfl) ?_
    refine LAt.doneU [24, 4, 2, 1] [2] (by kernel_rfl) ?_
    refine Tr.cond (b := true) (by kernel_rfl) (fun _ => ?_) (fun h => nomatch h)
    refine Tr.rs ?_
    refine LAt.runU tOk 1 (by kernel_rfl) ?_
    refine LAt.doneU [4, 2, 1] [2] (by kernel_rfl) ?_
    refine Tr.ret ?_
    have H := Option.some.inj H
    subst H
    exact Fin.of _ [(false, [.lit (.bool false)])] (by kernel_rfl) rfl rfl

def spec_l9CopyF (n : Nat) (x0 : Vtab) : Option (Vtab) :=
  (bif (decide (([] : List Vrow).length + x0.Rows.length ≤ 268435456)) then (bif (decide (([] : List Int).length + x0.Pvid.length ≤ 268435456)) then (some (⟨(([] : List Vrow) ++ x0.Rows), (([] : List Int) ++ x0.Pvid)⟩ : Vtab)) else none) else none)
/-- loop.example/g00326/spec.l9Copy -/
theorem spec_l9Copy (n : Nat) (x0 : Vtab) (r : Vtab) (H : spec_l9CopyF n x0 = some r) : LCall Try.prog 93 [.val true (CV.frzRow (Vtab.row x0))] [.val true (Vtab.row r)] [] := by
  refine LCall.of_body tOk Try.func93 rfl (c := (.seq (.region 0 (rg Try.f93 0) false) (.seq (.region 1 (rg Try.f93 1) true) .ret))) (by kernel_rfl) (Nat.le_of_ble_eq_true (by kernel_rfl)) 0 (rs := [.cell 2 40]) rfl [] .nil [(true, (Vtab.row r))] [] [] fun cx => ?_
  show Tr _ _ _ ⟨12, 0, [(0, .val true (CV.frzRow (Vtab.row x0)))], []⟩ _
  unfold spec_l9CopyF at H
  refine Tr.rs ?_
  refine LAt.runU tOk 2 (by kernel_rfl) ?_
  refine LAt.doneU [2, 1] [2, 1] (by kernel_rfl) ?_
  obtain ⟨hg1, H⟩ := guard_some H
  obtain ⟨hg2, H⟩ := guard_some H
  refine Tr.draws mixed 10 (by kernel_rfl) ⟨12, 0, [(2, .adr (.box 2) [(0, 0)] 2 0)], [(2, [.sl true 3 ((([] : List Vrow) ++ x0.Rows).map Vrow.row), .sl true 1 ((([] : List Int) ++ x0.Pvid).map intRow)])]⟩ (fun cx => ?_) ?_
  · refine AT.runU tOk [(1, []), (2, [3, 7, 8, 9]), (5, []), (6, [7, 8, 9])] 6 [⟨[7, 8, 9], 33, 8, 9⟩, ⟨[3, 7, 8, 9], 38, 4, 5⟩] [6, 5, 2, 1] rfl (by kernel_rfl) (fun cx => ?_)
    refine AT.big2 tOk 0 4 (by kernel_rfl) (And.intro (by kernel_rfl) ?_) (And.intro (by kernel_rfl) ?_)
    · refine LAt.runU tOk 1 (by kernel_rfl) ?_
      refine LAt.fin (by kernel_rfl) (And.intro (And.intro (by kernel_rfl) (by kernel_rfl)) ?_)
      refine AT.big2 tOk 3 4 (by kernel_rfl) (And.intro (by kernel_rfl) ?_) (And.intro (by kernel_rfl) ?_)
      · refine LAt.appCU tOk (t := 38) (ty := 38) (e := 81) (x := (.tmp 3)) (y := (.tmp 5)) (d := 6) (g := none) ⟨.st [(0, 1, 3), (1, 1, 3), (2, 1, 3)], 3, 24, [.lit (.int .i64 0), .lit (.int .i64 0), .lit (.int .i64 0)]⟩ Vrow.row ([] : List Vrow) x0.Rows ⟨(.box 1), [(0, 0)], 0, false, 3, (CV.frzEs (x0.Rows.map Vrow.row))⟩ (by kernel_rfl) (by kernel_rfl) (by kernel_rfl) (by kernel_rfl) (by kernel_rfl) (by kernel_rfl) (by kernel_rfl) (by kernel_rfl) (by kernel_rfl) (by kernel_rfl) (by kernel_rfl) (.inr rfl) (fun _ => rfl) (fun _ => rfl) hg1 ?_
        refine LAt.fin (by kernel_rfl) (And.intro (And.intro (by kernel_rfl) (by kernel_rfl)) ?_)
        refine AT.big1 tOk 4 (by kernel_rfl) (by kernel_rfl) ?_
        refine LAt.runU tOk 1 (by kernel_rfl) ?_
        refine LAt.fin (by kernel_rfl) (And.intro (And.intro (by kernel_rfl) (by kernel_rfl)) ?_)
        refine AT.big1 tOk 7 (by kernel_rfl) (by kernel_rfl) ?_
        refine LAt.appCU tOk (t := 33) (ty := 33) (e := 3) (x := (.tmp 7)) (y := (.tmp 9)) (d := 10) (g := none) ⟨.int .i64, 1, 8, [.lit (.int .i64 0)]⟩ intRow ([] : List Int) x0.Pvid ⟨(.box 1), [(0, 0)], 1, false, 1, (CV.frzEs (x0.Pvid.map intRow))⟩ (by kernel_rfl) (by kernel_rfl) (by kernel_rfl) (by kernel_rfl) (by kernel_rfl) (by kernel_rfl) (by kernel_rfl) (by kernel_rfl) (by kernel_rfl) (by kernel_rfl) (by kernel_rfl) (.inr rfl) (fun _ => rfl) (fun _ => rfl) hg2 ?_
        refine LAt.fin (by kernel_rfl) (And.intro (And.intro (by kernel_rfl) (by kernel_rfl)) ?_)
        refine AT.big1 tOk 8 (by kernel_rfl) (by kernel_rfl) ?_
        refine LAt.runU tOk 1 (by kernel_rfl) ?_
        refine LAt.fin (by kernel_rfl) (And.intro (And.intro (by kernel_rfl) (by kernel_rfl)) ?_)
        refine AT.big1 tOk 9 (by kernel_rfl) (by kernel_rfl) ?_
        refine LAt.runU tOk 1 (by kernel_rfl) ?_
        refine LAt.fin (by kernel_rfl) (And.intro (And.intro (by kernel_rfl) (by kernel_rfl)) ?_)
        exact AT.done [2] [2] _ (by kernel_rfl) (by kernel_rfl) rfl
      · refine LAt.runU tOk 1 (by kernel_rfl) ?_
        refine LAt.fin (by kernel_rfl) (And.intro (And.intro (by kernel_rfl) (by kernel_rfl)) ?_)
        refine AT.big1 tOk 3 (by kernel_rfl) (by kernel_rfl) ?_
        refine LAt.appCU tOk (t := 38) (ty := 38) (e := 81) (x := (.tmp 3)) (y := (.tmp 5)) (d := 6) (g := none) ⟨.st [(0, 1, 3), (1, 1, 3), (2, 1, 3)], 3, 24, [.lit (.int .i64 0), .lit (.int .i64 0), .lit (.int .i64 0)]⟩ Vrow.row ([] : List Vrow) x0.Rows ⟨(.box 1), [(0, 0)], 0, false, 3, (CV.frzEs (x0.Rows.map Vrow.row))⟩ (by kernel_rfl) (by kernel_rfl) (by kernel_rfl) (by kernel_rfl) (by kernel_rfl) (by kernel_rfl) (by kernel_rfl) (by kernel_rfl) (by kernel_rfl) (by kernel_rfl) (by kernel_rfl) (.inr rfl) (fun _ => rfl) (fun _ => rfl) hg1 ?_
        refine LAt.fin (by kernel_rfl) (And.intro (And.intro (by kernel_rfl) (by kernel_rfl)) ?_)
        refine AT.big1 tOk 7 (by kernel_rfl) (by kernel_rfl) ?_
        refine LAt.appCU tOk (t := 33) (ty := 33) (e := 3) (x := (.tmp 7)) (y := (.tmp 9)) (d := 10) (g := none) ⟨.int .i64, 1, 8, [.lit (.int .i64 0)]⟩ intRow ([] : List Int) x0.Pvid ⟨(.box 1), [(0, 0)], 1, false, 1, (CV.frzEs (x0.Pvid.map intRow))⟩ (by kernel_rfl) (by kernel_rfl) (by kernel_rfl) (by kernel_rfl) (by kernel_rfl) (by kernel_rfl) (by kernel_rfl) (by kernel_rfl) (by kernel_rfl) (by kernel_rfl) (by kernel_rfl) (.inr rfl) (fun _ => rfl) (fun _ => rfl) hg2 ?_
        refine LAt.fin (by kernel_rfl) (And.intro (And.intro (by kernel_rfl) (by kernel_rfl)) ?_)
        refine AT.big1 tOk 8 (by kernel_rfl) (by kernel_rfl) ?_
        refine LAt.runU tOk 1 (by kernel_rfl) ?_
        refine LAt.fin (by kernel_rfl) (And.intro (And.intro (by kernel_rfl) (by kernel_rfl)) ?_)
        refine AT.big1 tOk 9 (by kernel_rfl) (by kernel_rfl) ?_
        refine LAt.runU tOk 1 (by kernel_rfl) ?_
        refine LAt.fin (by kernel_rfl) (And.intro (And.intro (by kernel_rfl) (by kernel_rfl)) ?_)
        exact AT.done [2] [2] _ (by kernel_rfl) (by kernel_rfl) rfl
    · refine LAt.runU tOk 1 (by kernel_rfl) ?_
      refine LAt.fin (by kernel_rfl) (And.intro (And.intro (by kernel_rfl) (by kernel_rfl)) ?_)
      refine AT.big1 tOk 0 (by kernel_rfl) (by kernel_rfl) ?_
      refine LAt.runU tOk 1 (by kernel_rfl) ?_
      refine LAt.fin (by kernel_rfl) (And.intro (And.intro (by kernel_rfl) (by kernel_rfl)) ?_)
      refine AT.big1 tOk 3 (by kernel_rfl) (by kernel_rfl) ?_
      refine LAt.appCU tOk (t := 38) (ty := 38) (e := 81) (x := (.tmp 3)) (y := (.tmp 5)) (d := 6) (g := none) ⟨.st [(0, 1, 3), (1, 1, 3), (2, 1, 3)], 3, 24, [.lit (.int .i64 0), .lit (.int .i64 0), .lit (.int .i64 0)]⟩ Vrow.row ([] : List Vrow) x0.Rows ⟨(.box 1), [(0, 0)], 0, false, 3, (CV.frzEs (x0.Rows.map Vrow.row))⟩ (by kernel_rfl) (by kernel_rfl) (by kernel_rfl) (by kernel_rfl) (by kernel_rfl) (by kernel_rfl) (by kernel_rfl) (by kernel_rfl) (by kernel_rfl) (by kernel_rfl) (by kernel_rfl) (.inr rfl) (fun _ => rfl) (fun _ => rfl) hg1 ?_
      refine LAt.fin (by kernel_rfl) (And.intro (And.intro (by kernel_rfl) (by kernel_rfl)) ?_)
      refine AT.big1 tOk 7 (by kernel_rfl) (by kernel_rfl) ?_
      refine LAt.appCU tOk (t := 33) (ty := 33) (e := 3) (x := (.tmp 7)) (y := (.tmp 9)) (d := 10) (g := none) ⟨.int .i64, 1, 8, [.lit (.int .i64 0)]⟩ intRow ([] : List Int) x0.Pvid ⟨(.box 1), [(0, 0)], 1, false, 1, (CV.frzEs (x0.Pvid.map intRow))⟩ (by kernel_rfl) (by kernel_rfl) (by kernel_rfl) (by kernel_rfl) (by kernel_rfl) (by kernel_rfl) (by kernel_rfl) (by kernel_rfl) (by kernel_rfl) (by kernel_rfl) (by kernel_rfl) (.inr rfl) (fun _ => rfl) (fun _ => rfl) hg2 ?_
      refine LAt.fin (by kernel_rfl) (And.intro (And.intro (by kernel_rfl) (by kernel_rfl)) ?_)
      refine AT.big1 tOk 8 (by kernel_rfl) (by kernel_rfl) ?_
      refine LAt.runU tOk 1 (by kernel_rfl) ?_
      refine LAt.fin (by kernel_rfl) (And.intro (And.intro (by kernel_rfl) (by kernel_rfl)) ?_)
      refine AT.big1 tOk 9 (by kernel_rfl) (by kernel_rfl) ?_
      refine LAt.runU tOk 1 (by kernel_rfl) ?_
      refine LAt.fin (by kernel_rfl) (And.intro (And.intro (by kernel_rfl) (by kernel_rfl)) ?_)
      exact AT.done [2] [2] _ (by kernel_rfl) (by kernel_rfl) rfl
  · refine Tr.ret ?_
    have H := Option.some.inj H
    subst H
    exact Fin.of _ [(true, [.sl true 3 ((([] : List Vrow) ++ x0.Rows).map Vrow.row), .sl true 1 ((([] : List Int) ++ x0.Pvid).map intRow)])] (by kernel_rfl) rfl rfl

def spec_l9OrF (n : Nat) (x0 : Vtab) (x1 : Vtab) : Option (Vtab × Bool) :=
  ((spec_VtabOkF n x0 (x1.Pvid.length : Int)).bind fun r1 => (bif (!r1) then ((spec_l9CopyF n x1).bind fun r2 => (some (r2, false))) else (some (x0, true))))
/-- loop.example/g00326/spec.l9Or -/
theorem spec_l9Or (n : Nat) (x0 : Vtab) (x1 : Vtab) (r : Vtab × Bool) (H : spec_l9OrF n x0 x1 = some r) : LCall Try.prog 94 [.own true (Vtab.row x0), .val true (CV.frzRow (Vtab.row x1))] [.val true (Vtab.row r.1), .val false [.lit (.bool r.2)]] [] := by
  refine LCall.of_body tOk Try.func94 rfl (c := (.seq (.region 0 (rg Try.f94 0) false) (.seq (.seq (.region 1 (rg Try.f94 1) false) (.cond (.tmp 11) (.seq (.region 2 (rg Try.f94 2) false) .ret) .skip)) (.seq (.region 3 (rg Try.f94 3) false) .ret)))) (by kernel_rfl) (Nat.le_of_ble_eq_true (by kernel_rfl)) 0 (rs := [.cell 4 40, .tmp 5]) rfl [] .nil [(true, (Vtab.row r.1)), (false, [.lit (.bool r.2)])] [] [] fun cx => ?_
  show Tr _ _ _ ⟨15, 0, [(0, .val true (Vtab.row x0)), (1, .val true (CV.frzRow (Vtab.row x1)))], []⟩ _
  unfold spec_l9OrF at H
  refine Tr.rs ?_
  refine LAt.runU tOk 4 (by kernel_rfl) ?_
  refine LAt.doneU [5, 4, 3, 2] [4, 3, 2] (by kernel_rfl) ?_
  refine Tr.seq ?_
  refine Tr.rs ?_
  refine LAt.runU tOk 3 (by kernel_rfl) ?_
  refine LAt.lenE tOk (t := 33) (ty := 3) (e := 3) (x := (.tmp 8)) (d := 9) (g := none) ⟨(.slot 8), [], 0, false, 1, (CV.frzEs (x1.Pvid.map intRow))⟩ (x1.Pvid).length _ (by kernel_rfl) (by kernel_rfl) (by kernel_rfl) (by kernel_rfl) (by kernel_rfl) (frz_len _ _) rfl ?_
  obtain ⟨r1, er1, H⟩ := bind_some H
  refine LAt.callU tOk [.rd, .rd] (f := 28) (av := #[.tmp 6, .tmp 9]) (ats := #[40, 3]) (d := (some 10)) (ty := 4) (g := none) (by kernel_rfl) (by kernel_rfl) (by kernel_rfl) [.box 2] (spec_VtabOk n x0 (x1.Pvid.length : Int) r1 er1) (by kernel_rfl) (.inr (rets_cons (mine_cons mine_lit mine_nil) rets_nil)) ?_
  refine LAt.runU tOk 1 (by kernel_rfl) ?_
  refine LAt.doneU [11, 5, 4, 3, 2] [4, 3, 2] (by kernel_rfl) ?_
  refine Tr.to ⟨15, 0, [(11, .val false [.lit (.bool (!r1))]), (5, .val false [.lit (.bool false)]), (4, .adr (.box 4) [(0, 0)] 2 0), (3, .adr (.box 3) [(0, 0)] 2 0), (2, .adr (.box 2) [(0, 0)] 2 0)], [(4, [.sl true 3 (([] : List Vrow).map Vrow.row), .sl true 1 (([] : List Int).map intRow)]), (3, (CV.frzRow (Vtab.row x1))), (2, (Vtab.row x0))]⟩ (by kernel_rfl) ?_
  cases h1 : (!r1)
  · have H := bifF h1 H
    refine Tr.cond (b := false) (by kernel_rfl) (fun h => nomatch h) (fun _ => ?_)
    refine Tr.skip ?_
    show Tr _ _ _ _ _
    refine Tr.rs ?_
    refine LAt.runU tOk 3 (by kernel_rfl) ?_
    refine LAt.doneU [5, 4] [4] (by kernel_rfl) ?_
    refine Tr.ret ?_
    have H := Option.some.inj H
    subst H
    exact Fin.of _ [(true, (Vtab.row x0)), (false, [.lit (.bool true)])] (by kernel_rfl) rfl rfl
  · have H := bifT h1 H
    refine Tr.cond (b := true) (by kernel_rfl) (fun _ => ?_) (fun h => nomatch h)
    refine Tr.rs ?_
    refine LAt.runU tOk 1 (by kernel_rfl) ?_
    obtain ⟨r2, er2, H⟩ := bind_some H
    refine LAt.callU tOk [.rd] (f := 93) (av := #[.tmp 12]) (ats := #[40]) (d := (some 13)) (ty := 40) (g := none) (by kernel_rfl) (by kernel_rfl) (by kernel_rfl) [] (spec_l9Copy n x1 r2 er2) (by kernel_rfl) (.inl rfl) ?_
    refine LAt.runU tOk 2 (by kernel_rfl) ?_
    refine LAt.doneU [5, 4, 2] [4, 2] (by kernel_rfl) ?_
    refine Tr.ret ?_
    have H := Option.some.inj H
    subst H
    exact Fin.of _ [(true, (Vtab.row r2)), (false, [.lit (.bool false)])] (by kernel_rfl) rfl rfl

def spec_SetPvidF (n : Nat) (x0 : Vtab) (x1 : Int) (x2 : Int) : Option (Vtab × Bool) :=
  ((spec_VtabOkF n x0 (x0.Pvid.length : Int)).bind fun r1 => (bif (!r1) then ((spec_l9CopyF n x0).bind fun r7 => (some (r7, false))) else ((spec_l1InF n x1 0 (IntKind.wrap .i64 ((x0.Pvid.length : Int) - 1))).bind fun r2 => (bif (!r2) then ((spec_l9CopyF n x0).bind fun r6 => (some (r6, false))) else ((spec_l9CopyF n x0).bind fun r3 => ((idx r3.Pvid x1).bind fun v4 => ((spec_l9OrF n (⟨r3.Rows, (r3.Pvid.set (x1.toNat) x2)⟩ : Vtab) x0).bind fun r5 => (some (r5.1, r5.2)))))))))
/-- loop.example/g00326/spec.SetPvid -/
theorem spec_SetPvid (n : Nat) (x0 : Vtab) (x1 : Int) (x2 : Int) (r : Vtab × Bool) (H : spec_SetPvidF n x0 x1 x2 = some r) : LCall Try.prog 89 [.val true (CV.frzRow (Vtab.row x0)), .val false [.lit (.int .i64 x1)], .val false [.lit (.int .i64 x2)]] [.val true (Vtab.row r.1), .val false [.lit (.bool r.2)]] [] := by
  refine LCall.of_body tOk Try.func89 rfl (c := (.seq (.region 0 (rg Try.f89 0) false) (.seq (.seq (.region 1 (rg Try.f89 1) false) (.cond (.tmp 23) (.seq (.region 2 (rg Try.f89 2) false) .ret) .skip)) (.seq (.region 3 (rg Try.f89 3) false) (.seq (.region 4 (rg Try.f89 4) false) (.seq (.region 5 (rg Try.f89 5) false) .ret)))))) (by kernel_rfl) (Nat.le_of_ble_eq_true (by kernel_rfl)) 0 (rs := [.cell 6 40, .tmp 7]) rfl [] .nil [(true, (Vtab.row r.1)), (false, [.lit (.bool r.2)])] [] [] fun cx => ?_
  show Tr _ _ _ ⟨38, 0, [(0, .val true (CV.frzRow (Vtab.row x0))), (1, .val false [.lit (.int .i64 x1)]), (2, .val false [.lit (.int .i64 x2)])], []⟩ _
  unfold spec_SetPvidF at H
  refine Tr.rs ?_
  refine LAt.runU tOk 3 (by kernel_rfl) ?_
  refine LAt.doneU [7, 6, 3, 1, 2] [6, 3] (by kernel_rfl) ?_
  refine Tr.seq ?_
  refine Tr.rs ?_
  refine LAt.runU tOk 3 (by kernel_rfl) ?_
  refine LAt.lenE tOk (t := 33) (ty := 3) (e := 3) (x := (.tmp 11)) (d := 12) (g := none) ⟨(.slot 11), [], 0, false, 1, (CV.frzEs (x0.Pvid.map intRow))⟩ (x0.Pvid).length _ (by kernel_rfl) (by kernel_rfl) (by kernel_rfl) (by kernel_rfl) (by kernel_rfl) (frz_len _ _) rfl ?_
  obtain ⟨r1, er1, H⟩ := bind_some H
  refine LAt.callU tOk [.rd, .rd] (f := 28) (av := #[.tmp 9, .tmp 12]) (ats := #[40, 3]) (d := (some 13)) (ty := 4) (g := none) (by kernel_rfl) (by kernel_rfl) (by kernel_rfl) [] (spec_VtabOk n x0 (x0.Pvid.length : Int) r1 er1) (by kernel_rfl) (.inl rfl) ?_
  refine LAt.runU tOk 2 (by kernel_rfl) ?_
  refine LAt.to ⟨38, 0, [(15, .val false [.lit (.bool (!r1))]), (14, .val false [.lit (.bool (!r1))]), (13, .val false [.lit (.bool r1)]), (12, .val false [.lit (.int .i64 (x0.Pvid.length : Int))]), (11, .val false [.sl false 1 (CV.frzEs (x0.Pvid.map intRow))]), (10, .adr (.box 3) [(0, 0)] 2 1), (9, .val true (CV.frzRow (Vtab.row x0))), (7, .val false [.lit (.bool false)]), (6, .adr (.box 6) [(0, 0)] 2 0), (3, .adr (.box 3) [(0, 0)] 2 0), (1, .val false [.lit (.int .i64 x1)]), (2, .val false [.lit (.int .i64 x2)])], [(6, [.sl true 3 (([] : List Vrow).map Vrow.row), .sl true 1 (([] : List Int).map intRow)]), (3, (CV.frzRow (Vtab.row x0)))]⟩ (by kernel_rfl) ?_
  cases h1 : (!r1)
  · have H := bifF h1 H
    refine LAt.runU tOk 3 (by kernel_rfl) ?_
    refine LAt.lenE tOk (t := 33) (ty := 3) (e := 3) (x := (.tmp 18)) (d := 19) (g := (some (6, false))) ⟨(.slot 18), [], 0, false, 1, (CV.frzEs (x0.Pvid.map intRow))⟩ (x0.Pvid).length _ (by kernel_rfl) (by kernel_rfl) (by kernel_rfl) (by kernel_rfl) (by kernel_rfl) (frz_len _ _) rfl ?_
    refine LAt.runU tOk 1 (by kernel_rfl) ?_
    obtain ⟨r2, er2, H⟩ := bind_some H
    refine LAt.callU tOk [.rd, .rd, .rd] (f := 51) (av := #[.tmp 16, .const (.int .i64 0), .tmp 20]) (ats := #[3, 3, 3]) (d := (some 21)) (ty := 4) (g := (some (6, false))) (by kernel_rfl) (by kernel_rfl) (by kernel_rfl) [] (spec_l1In n x1 0 (IntKind.wrap .i64 ((x0.Pvid.length : Int) - 1)) r2 er2) (by kernel_rfl) (.inl rfl) ?_
    refine LAt.runU tOk 2 (by kernel_rfl) ?_
    refine LAt.doneU [23, 7, 6, 3, 1, 2] [6, 3] (by kernel_rfl) ?_
    refine Tr.to ⟨38, 0, [(23, .val false [.lit (.bool (!r2))]), (7, .val false [.lit (.bool false)]), (6, .adr (.box 6) [(0, 0)] 2 0), (3, .adr (.box 3) [(0, 0)] 2 0), (1, .val false [.lit (.int .i64 x1)]), (2, .val false [.lit (.int .i64 x2)])], [(6, [.sl true 3 (([] : List Vrow).map Vrow.row), .sl true 1 (([] : List Int).map intRow)]), (3, (CV.frzRow (Vtab.row x0)))]⟩ (by kernel_rfl) ?_
    cases h2 : (!r2)
    · have H := bifF h2 H
      refine Tr.cond (b := false) (by kernel_rfl) (fun h => nomatch h) (fun _ => ?_)
      refine Tr.skip ?_
      show Tr _ _ _ _ _
      refine Tr.rs ?_
      refine LAt.runU tOk 1 (by kernel_rfl) ?_
      obtain ⟨r3, er3, H⟩ := bind_some H
      refine LAt.callU tOk [.rd] (f := 93) (av := #[.tmp 26]) (ats := #[40]) (d := (some 27)) (ty := 40) (g := none) (by kernel_rfl) (by kernel_rfl) (by kernel_rfl) [] (spec_l9Copy n x0 r3 er3) (by kernel_rfl) (.inl rfl) ?_
      refine LAt.runU tOk 2 (by kernel_rfl) ?_
      refine LAt.doneU [8, 7, 6, 3, 1, 2] [8, 6, 3] (by kernel_rfl) ?_
      refine Tr.rs ?_
      refine LAt.runU tOk 4 (by kernel_rfl) ?_
      obtain ⟨v4, ev4, H⟩ := bind_some H
      refine LAt.indexO tOk (t := 33) (ty := 0) (x := (.tmp 29)) (y := (.tmp 30)) (d := 32) (g := none) ⟨(.box 8), [(0, 0)], 1, true, 1, (r3.Pvid.map intRow)⟩ x1 (x1.toNat) (intRow v4) _ (by kernel_rfl) (by kernel_rfl) (by kernel_rfl) (by kernel_rfl) rfl (by kernel_rfl) (idx_isE ev4) rfl rfl ?_
      refine LAt.storeU tOk (t := 3) (ty := 0) (ad := (.tmp 32)) (x := (.tmp 31)) (g := none) ⟨.int .i64, 1, 8, [.lit (.int .i64 0)]⟩ false [.lit (.int .i64 x2)] (.box 8) [(0, 0), (1, (x1.toNat))] [(1, (x1.toNat))] 1 0 [.sl true 2 [(Vtab.row r3)]] (intRow v4) (Vtab.row r3) [.sl true 3 (r3.Rows.map Vrow.row), .sl true 1 ((r3.Pvid.set (x1.toNat) x2).map intRow)] (by kernel_rfl) (by kernel_rfl) (by kernel_rfl) (by kernel_rfl) (by kernel_rfl) (by kernel_rfl) (getQ_elemB rfl (idx_get ev4).2) rfl (by intro h; cases h) (by kernel_rfl) (by kernel_rfl) (by kernel_rfl) (modQ_elem (new := x2) rfl (idx_get ev4).2 rfl) (by kernel_rfl) ?_
      refine LAt.doneU [8, 7, 6, 3] [8, 6, 3] (by kernel_rfl) ?_
      refine Tr.rs ?_
      refine LAt.runU tOk 2 (by kernel_rfl) ?_
      obtain ⟨r5, er5, H⟩ := bind_some H
      refine LAt.callU tOk [.own, .rd] (f := 94) (av := #[.tmp 33, .tmp 34]) (ats := #[40, 40]) (d := (some 35)) (ty := 107) (g := none) (by kernel_rfl) (by kernel_rfl) (by kernel_rfl) [] (spec_l9Or n (⟨r3.Rows, (r3.Pvid.set (x1.toNat) x2)⟩ : Vtab) x0 r5 er5) (by kernel_rfl) (.inl rfl) ?_
      refine LAt.runU tOk 4 (by kernel_rfl) ?_
      refine LAt.doneU [7, 6] [6] (by kernel_rfl) ?_
      refine Tr.ret ?_
      have H := Option.some.inj H
      subst H
      exact Fin.of _ [(true, (Vtab.row r5.1)), (false, [.lit (.bool r5.2)])] (by kernel_rfl) rfl rfl
    · have H := bifT h2 H
      refine Tr.cond (b := true) (by kernel_rfl) (fun _ => ?_) (fun h => nomatch h)
      refine Tr.rs ?_
      refine LAt.runU tOk 1 (by kernel_rfl) ?_
      obtain ⟨r6, er6, H⟩ := bind_some H
      refine LAt.callU tOk [.rd] (f := 93) (av := #[.tmp 24]) (ats := #[40]) (d := (some 25)) (ty := 40) (g := none) (by kernel_rfl) (by kernel_rfl) (by kernel_rfl) [] (spec_l9Copy n x0 r6 er6) (by kernel_rfl) (.inl rfl) ?_
      refine LAt.runU tOk 2 (by kernel_rfl) ?_
      refine LAt.doneU [7, 6, 3, 1, 2] [6, 3] (by kernel_rfl) ?_
      refine Tr.ret ?_
      have H := Option.some.inj H
      subst H
      exact Fin.of _ [(true, (Vtab.row r6)), (false, [.lit (.bool false)])] (by kernel_rfl) rfl rfl
  · have H := bifT h1 H
    refine LAt.runU tOk 8 (by kernel_rfl) ?_
    refine LAt.doneU [23, 7, 6, 3, 1, 2] [6, 3] (by kernel_rfl) ?_
    refine Tr.cond (b := true) (by kernel_rfl) (fun _ => ?_) (fun h => nomatch h)
    refine Tr.rs ?_
    refine LAt.runU tOk 1 (by kernel_rfl) ?_
    obtain ⟨r7, er7, H⟩ := bind_some H
    refine LAt.callU tOk [.rd] (f := 93) (av := #[.tmp 24]) (ats := #[40]) (d := (some 25)) (ty := 40) (g := none) (by kernel_rfl) (by kernel_rfl) (by kernel_rfl) [] (spec_l9Copy n x0 r7 er7) (by kernel_rfl) (.inl rfl) ?_
    refine LAt.runU tOk 2 (by kernel_rfl) ?_
    refine LAt.doneU [7, 6, 3, 1, 2] [6, 3] (by kernel_rfl) ?_
    refine Tr.ret ?_
    have H := Option.some.inj H
    subst H
    exact Fin.of _ [(true, (Vtab.row r7)), (false, [.lit (.bool false)])] (by kernel_rfl) rfl rfl

def spec_DropRowF (n : Nat) (x0 : Vtab) (x1 : Int) : Option (Vtab × Bool) :=
  ((spec_RowAtF n x0 x1).bind fun r1 => ((spec_VtabOkF n x0 (x0.Pvid.length : Int)).bind fun r2 => (bif (!r2) then ((spec_l9CopyF n x0).bind fun r10 => (some (r10, false))) else (bif (decide (r1 < 0)) then ((spec_l9CopyF n x0).bind fun r9 => (some (r9, false))) else ((spec_l9CopyF n x0).bind fun r3 => (bif (decide ((0 : Int) ≤ 0) && (decide ((0 : Int) ≤ r1) && decide ((r1 : Int) ≤ (x0.Rows.length : Int)))) then (bif (decide (([] : List Vrow).length + ((x0.Rows.drop ((0 : Int)).toNat).take (((r1 : Int)).toNat - ((0 : Int)).toNat)).length ≤ 268435456)) then (bif (decide ((0 : Int) ≤ (IntKind.wrap .i64 (r1 + 1))) && (decide (((IntKind.wrap .i64 (r1 + 1)) : Int) ≤ (x0.Rows.length : Int)) && decide (((x0.Rows.length : Int) : Int) ≤ (x0.Rows.length : Int)))) then (bif (decide ((([] : List Vrow) ++ ((x0.Rows.drop ((0 : Int)).toNat).take (((r1 : Int)).toNat - ((0 : Int)).toNat))).length + ((x0.Rows.drop (((IntKind.wrap .i64 (r1 + 1)) : Int)).toNat).take ((((x0.Rows.length : Int) : Int)).toNat - (((IntKind.wrap .i64 (r1 + 1)) : Int)).toNat)).length ≤ 268435456)) then ((spec_l9OrF n (⟨((([] : List Vrow) ++ ((x0.Rows.drop ((0 : Int)).toNat).take (((r1 : Int)).toNat - ((0 : Int)).toNat))) ++ ((x0.Rows.drop (((IntKind.wrap .i64 (r1 + 1)) : Int)).toNat).take ((((x0.Rows.length : Int) : Int)).toNat - (((IntKind.wrap .i64 (r1 + 1)) : Int)).toNat))), r3.Pvid⟩ : Vtab) x0).bind fun r8 => (some (r8.1, r8.2))) else none) else none) else none) else none))))))
/-- loop.example/g00326/spec.DropRow -/
theorem spec_DropRow (n : Nat) (x0 : Vtab) (x1 : Int) (r : Vtab × Bool) (H : spec_DropRowF n x0 x1 = some r) : LCall Try.prog 90 [.val true (CV.frzRow (Vtab.row x0)), .val false [.lit (.int .i64 x1)]] [.val true (Vtab.row r.1), .val false [.lit (.bool r.2)]] [] := by
  refine LCall.of_body tOk Try.func90 rfl (c := (.seq (.region 0 (rg Try.f90 0) false) (.seq (.region 1 (rg Try.f90 1) false) (.seq (.seq (.region 2 (rg Try.f90 2) false) (.cond (.tmp 20) (.seq (.region 3 (rg Try.f90 3) false) .ret) .skip)) (.seq (.region 4 (rg Try.f90 4) false) (.seq (.region 5 (rg Try.f90 5) true) (.seq (.region 6 (rg Try.f90 6) false) .ret))))))) (by kernel_rfl) (Nat.le_of_ble_eq_true (by kernel_rfl)) 0 (rs := [.cell 4 40, .tmp 5]) rfl [] .nil [(true, (Vtab.row r.1)), (false, [.lit (.bool r.2)])] [] [] fun cx => ?_
  show Tr _ _ _ ⟨43, 0, [(0, .val true (CV.frzRow (Vtab.row x0))), (1, .val false [.lit (.int .i64 x1)])], []⟩ _
  unfold spec_DropRowF at H
  refine Tr.rs ?_
  refine LAt.runU tOk 3 (by kernel_rfl) ?_
  refine LAt.doneU [5, 4, 2, 1] [4, 2] (by kernel_rfl) ?_
  refine Tr.rs ?_
  refine LAt.runU tOk 2 (by kernel_rfl) ?_
  obtain ⟨r1, er1, H⟩ := bind_some H
  refine LAt.callU tOk [.rd, .rd] (f := 58) (av := #[.tmp 8, .tmp 9]) (ats := #[40, 3]) (d := (some 10)) (ty := 3) (g := none) (by kernel_rfl) (by kernel_rfl) (by kernel_rfl) [] (spec_RowAt n x0 x1 r1 er1) (by kernel_rfl) (.inl rfl) ?_
  refine LAt.runU tOk 1 (by kernel_rfl) ?_
  refine LAt.doneU [6, 5, 4, 2] [4, 2] (by kernel_rfl) ?_
  refine Tr.seq ?_
  refine Tr.rs ?_
  refine LAt.runU tOk 3 (by kernel_rfl) ?_
  refine LAt.lenE tOk (t := 33) (ty := 3) (e := 3) (x := (.tmp 13)) (d := 14) (g := none) ⟨(.slot 13), [], 0, false, 1, (CV.frzEs (x0.Pvid.map intRow))⟩ (x0.Pvid).length _ (by kernel_rfl) (by kernel_rfl) (by kernel_rfl) (by kernel_rfl) (by kernel_rfl) (frz_len _ _) rfl ?_
  obtain ⟨r2, er2, H⟩ := bind_some H
  refine LAt.callU tOk [.rd, .rd] (f := 28) (av := #[.tmp 11, .tmp 14]) (ats := #[40, 3]) (d := (some 15)) (ty := 4) (g := none) (by kernel_rfl) (by kernel_rfl) (by kernel_rfl) [] (spec_VtabOk n x0 (x0.Pvid.length : Int) r2 er2) (by kernel_rfl) (.inl rfl) ?_
  refine LAt.runU tOk 2 (by kernel_rfl) ?_
  refine LAt.to ⟨43, 0, [(17, .val false [.lit (.bool (!r2))]), (16, .val false [.lit (.bool (!r2))]), (15, .val false [.lit (.bool r2)]), (14, .val false [.lit (.int .i64 (x0.Pvid.length : Int))]), (13, .val false [.sl false 1 (CV.frzEs (x0.Pvid.map intRow))]), (12, .adr (.box 2) [(0, 0)] 2 1), (11, .val true (CV.frzRow (Vtab.row x0))), (6, .val false [.lit (.int .i64 r1)]), (5, .val false [.lit (.bool false)]), (4, .adr (.box 4) [(0, 0)] 2 0), (2, .adr (.box 2) [(0, 0)] 2 0)], [(4, [.sl true 3 (([] : List Vrow).map Vrow.row), .sl true 1 (([] : List Int).map intRow)]), (2, (CV.frzRow (Vtab.row x0)))]⟩ (by kernel_rfl) ?_
  cases h1 : (!r2)
  · have H := bifF h1 H
    refine LAt.runU tOk 3 (by kernel_rfl) ?_
    refine LAt.doneU [20, 6, 5, 4, 2] [4, 2] (by kernel_rfl) ?_
    refine Tr.to ⟨43, 0, [(20, .val false [.lit (.bool (decide (r1 < 0)))]), (6, .val false [.lit (.int .i64 r1)]), (5, .val false [.lit (.bool false)]), (4, .adr (.box 4) [(0, 0)] 2 0), (2, .adr (.box 2) [(0, 0)] 2 0)], [(4, [.sl true 3 (([] : List Vrow).map Vrow.row), .sl true 1 (([] : List Int).map intRow)]), (2, (CV.frzRow (Vtab.row x0)))]⟩ (by kernel_rfl) ?_
    cases h2 : (decide (r1 < 0))
    · have H := bifF h2 H
      refine Tr.cond (b := false) (by kernel_rfl) (fun h => nomatch h) (fun _ => ?_)
      refine Tr.skip ?_
      show Tr _ _ _ _ _
      refine Tr.rs ?_
      refine LAt.runU tOk 1 (by kernel_rfl) ?_
      obtain ⟨r3, er3, H⟩ := bind_some H
      refine LAt.callU tOk [.rd] (f := 93) (av := #[.tmp 23]) (ats := #[40]) (d := (some 24)) (ty := 40) (g := none) (by kernel_rfl) (by kernel_rfl) (by kernel_rfl) [] (spec_l9Copy n x0 r3 er3) (by kernel_rfl) (.inl rfl) ?_
      refine LAt.runU tOk 2 (by kernel_rfl) ?_
      refine LAt.doneU [7, 6, 5, 4, 2] [7, 4, 2] (by kernel_rfl) ?_
      obtain ⟨hg4, H⟩ := guard_some H
      obtain ⟨hg5, H⟩ := guard_some H
      obtain ⟨hg6, H⟩ := guard_some H
      obtain ⟨hg7, H⟩ := guard_some H
      refine Tr.draws mixed 14 (by kernel_rfl) ⟨43, 0, [(7, .adr (.box 7) [(0, 0)] 2 0), (5, .val false [.lit (.bool false)]), (4, .adr (.box 4) [(0, 0)] 2 0), (2, .adr (.box 2) [(0, 0)] 2 0)], [(7, [.sl true 3 (((([] : List Vrow) ++ ((x0.Rows.drop ((0 : Int)).toNat).take (((r1 : Int)).toNat - ((0 : Int)).toNat))) ++ ((x0.Rows.drop (((IntKind.wrap .i64 (r1 + 1)) : Int)).toNat).take ((((x0.Rows.length : Int) : Int)).toNat - (((IntKind.wrap .i64 (r1 + 1)) : Int)).toNat))).map Vrow.row), .sl true 1 (r3.Pvid.map intRow)]), (4, [.sl true 3 (([] : List Vrow).map Vrow.row), .sl true 1 (([] : List Int).map intRow)]), (2, (CV.frzRow (Vtab.row x0)))]⟩ (fun cx => ?_) ?_
      · refine AT.runU tOk [(1, []), (2, [4, 5, 11, 13]), (3, []), (6, []), (7, [10, 11, 13]), (8, []), (9, [])] 7 [⟨[10, 11, 13], 38, 31, 32⟩, ⟨[4, 5, 11, 13], 38, 26, 27⟩] [9, 8, 7, 6, 3, 2, 1] rfl (by kernel_rfl) (fun cx => ?_)
        refine AT.big3 tOk 0 4 10 (by kernel_rfl) (And.intro (by kernel_rfl) ?_) (And.intro (by kernel_rfl) ?_) (And.intro (by kernel_rfl) ?_)
        · refine LAt.runU tOk 1 (by kernel_rfl) ?_
          refine LAt.fin (by kernel_rfl) (And.intro (And.intro (by kernel_rfl) (by kernel_rfl)) ?_)
          refine AT.big2 tOk 4 10 (by kernel_rfl) (And.intro (by kernel_rfl) ?_) (And.intro (by kernel_rfl) ?_)
          · refine LAt.cutG tOk (t := 38) (ty := 38) (e := 81) (x := (.tmp 27)) (lo := none) (hi := (some (.tmp 28))) (d := 29) (g := none) ⟨.st [(0, 1, 3), (1, 1, 3), (2, 1, 3)], 3, 24, [.lit (.int .i64 0), .lit (.int .i64 0), .lit (.int .i64 0)]⟩ Vrow.row x0.Rows ⟨(.box 2), [(0, 0)], 0, false, 3, (CV.frzEs (x0.Rows.map Vrow.row))⟩ 0 r1 (by kernel_rfl) (by kernel_rfl) (by kernel_rfl) (by kernel_rfl) (by kernel_rfl) (by kernel_rfl) rfl (by kernel_rfl) rfl (by kernel_rfl) (by kernel_rfl) hg4 ?_
            refine LAt.fin (by kernel_rfl) (And.intro (And.intro (by kernel_rfl) (by kernel_rfl)) ?_)
            refine AT.big2 tOk 5 10 (by kernel_rfl) (And.intro (by kernel_rfl) ?_) (And.intro (by kernel_rfl) ?_)
            · refine LAt.appCU tOk (t := 38) (ty := 38) (e := 81) (x := (.tmp 25)) (y := (.tmp 29)) (d := 30) (g := none) ⟨.st [(0, 1, 3), (1, 1, 3), (2, 1, 3)], 3, 24, [.lit (.int .i64 0), .lit (.int .i64 0), .lit (.int .i64 0)]⟩ Vrow.row ([] : List Vrow) ((x0.Rows.drop ((0 : Int)).toNat).take (((r1 : Int)).toNat - ((0 : Int)).toNat)) ⟨(.slot 29), [], 0, false, 3, (CV.frzEs (((x0.Rows.drop ((0 : Int)).toNat).take (((r1 : Int)).toNat - ((0 : Int)).toNat)).map Vrow.row))⟩ (by kernel_rfl) (by kernel_rfl) (by kernel_rfl) (by kernel_rfl) (by kernel_rfl) (by kernel_rfl) (by kernel_rfl) (by kernel_rfl) (by kernel_rfl) (by kernel_rfl) (by kernel_rfl) (.inr rfl) (fun _ => rfl) (fun _ => rfl) hg5 ?_
              refine LAt.fin (by kernel_rfl) (And.intro (And.intro (by kernel_rfl) (by kernel_rfl)) ?_)
              refine AT.big1 tOk 10 (by kernel_rfl) (by kernel_rfl) ?_
              refine LAt.cutG tOk (t := 38) (ty := 38) (e := 81) (x := (.tmp 32)) (lo := (some (.tmp 34))) (hi := none) (d := 35) (g := none) ⟨.st [(0, 1, 3), (1, 1, 3), (2, 1, 3)], 3, 24, [.lit (.int .i64 0), .lit (.int .i64 0), .lit (.int .i64 0)]⟩ Vrow.row x0.Rows ⟨(.box 2), [(0, 0)], 0, false, 3, (CV.frzEs (x0.Rows.map Vrow.row))⟩ (IntKind.wrap .i64 (r1 + 1)) (x0.Rows.length : Int) (by kernel_rfl) (by kernel_rfl) (by kernel_rfl) (by kernel_rfl) (by kernel_rfl) (by kernel_rfl) rfl (by kernel_rfl) rfl (by kernel_rfl) (by kernel_rfl) hg6 ?_
              refine LAt.fin (by kernel_rfl) (And.intro (And.intro (by kernel_rfl) (by kernel_rfl)) ?_)
              refine AT.big1 tOk 11 (by kernel_rfl) (by kernel_rfl) ?_
              refine LAt.appCU tOk (t := 38) (ty := 38) (e := 81) (x := (.tmp 30)) (y := (.tmp 35)) (d := 36) (g := none) ⟨.st [(0, 1, 3), (1, 1, 3), (2, 1, 3)], 3, 24, [.lit (.int .i64 0), .lit (.int .i64 0), .lit (.int .i64 0)]⟩ Vrow.row (([] : List Vrow) ++ ((x0.Rows.drop ((0 : Int)).toNat).take (((r1 : Int)).toNat - ((0 : Int)).toNat))) ((x0.Rows.drop (((IntKind.wrap .i64 (r1 + 1)) : Int)).toNat).take ((((x0.Rows.length : Int) : Int)).toNat - (((IntKind.wrap .i64 (r1 + 1)) : Int)).toNat)) ⟨(.slot 35), [], 0, false, 3, (CV.frzEs (((x0.Rows.drop (((IntKind.wrap .i64 (r1 + 1)) : Int)).toNat).take ((((x0.Rows.length : Int) : Int)).toNat - (((IntKind.wrap .i64 (r1 + 1)) : Int)).toNat)).map Vrow.row))⟩ (by kernel_rfl) (by kernel_rfl) (by kernel_rfl) (by kernel_rfl) (by kernel_rfl) (by kernel_rfl) (by kernel_rfl) (by kernel_rfl) (by kernel_rfl) (by kernel_rfl) (by kernel_rfl) (.inr rfl) (fun _ => rfl) (fun _ => rfl) hg7 ?_
              refine LAt.fin (by kernel_rfl) (And.intro (And.intro (by kernel_rfl) (by kernel_rfl)) ?_)
              refine AT.runU tOk [(12, [])] 1 [⟨[10, 11, 13], 38, 31, 32⟩, ⟨[4, 5, 11, 13], 38, 26, 27⟩] [12, 11, 10, 5, 4, 0, 9, 8, 7, 6, 3, 2, 1] rfl (by kernel_rfl) (fun cx => ?_)
              refine AT.big1 tOk 13 (by kernel_rfl) (by kernel_rfl) ?_
              refine LAt.runU tOk 1 (by kernel_rfl) ?_
              refine LAt.fin (by kernel_rfl) (And.intro (And.intro (by kernel_rfl) (by kernel_rfl)) ?_)
              exact AT.done [7, 5, 4, 2] [7, 4, 2] _ (by kernel_rfl) (by kernel_rfl) rfl
            · refine LAt.cutG tOk (t := 38) (ty := 38) (e := 81) (x := (.tmp 32)) (lo := (some (.tmp 34))) (hi := none) (d := 35) (g := none) ⟨.st [(0, 1, 3), (1, 1, 3), (2, 1, 3)], 3, 24, [.lit (.int .i64 0), .lit (.int .i64 0), .lit (.int .i64 0)]⟩ Vrow.row x0.Rows ⟨(.box 2), [(0, 0)], 0, false, 3, (CV.frzEs (x0.Rows.map Vrow.row))⟩ (IntKind.wrap .i64 (r1 + 1)) (x0.Rows.length : Int) (by kernel_rfl) (by kernel_rfl) (by kernel_rfl) (by kernel_rfl) (by kernel_rfl) (by kernel_rfl) rfl (by kernel_rfl) rfl (by kernel_rfl) (by kernel_rfl) hg6 ?_
              refine LAt.fin (by kernel_rfl) (And.intro (And.intro (by kernel_rfl) (by kernel_rfl)) ?_)
              refine AT.big1 tOk 5 (by kernel_rfl) (by kernel_rfl) ?_
              refine LAt.appCU tOk (t := 38) (ty := 38) (e := 81) (x := (.tmp 25)) (y := (.tmp 29)) (d := 30) (g := none) ⟨.st [(0, 1, 3), (1, 1, 3), (2, 1, 3)], 3, 24, [.lit (.int .i64 0), .lit (.int .i64 0), .lit (.int .i64 0)]⟩ Vrow.row ([] : List Vrow) ((x0.Rows.drop ((0 : Int)).toNat).take (((r1 : Int)).toNat - ((0 : Int)).toNat)) ⟨(.slot 29), [], 0, false, 3, (CV.frzEs (((x0.Rows.drop ((0 : Int)).toNat).take (((r1 : Int)).toNat - ((0 : Int)).toNat)).map Vrow.row))⟩ (by kernel_rfl) (by kernel_rfl) (by kernel_rfl) (by kernel_rfl) (by kernel_rfl) (by kernel_rfl) (by kernel_rfl) (by kernel_rfl) (by kernel_rfl) (by kernel_rfl) (by kernel_rfl) (.inr rfl) (fun _ => rfl) (fun _ => rfl) hg5 ?_
              refine LAt.fin (by kernel_rfl) (And.intro (And.intro (by kernel_rfl) (by kernel_rfl)) ?_)
              refine AT.big1 tOk 11 (by kernel_rfl) (by kernel_rfl) ?_
              refine LAt.appCU tOk (t := 38) (ty := 38) (e := 81) (x := (.tmp 30)) (y := (.tmp 35)) (d := 36) (g := none) ⟨.st [(0, 1, 3), (1, 1, 3), (2, 1, 3)], 3, 24, [.lit (.int .i64 0), .lit (.int .i64 0), .lit (.int .i64 0)]⟩ Vrow.row (([] : List Vrow) ++ ((x0.Rows.drop ((0 : Int)).toNat).take (((r1 : Int)).toNat - ((0 : Int)).toNat))) ((x0.Rows.drop (((IntKind.wrap .i64 (r1 + 1)) : Int)).toNat).take ((((x0.Rows.length : Int) : Int)).toNat - (((IntKind.wrap .i64 (r1 + 1)) : Int)).toNat)) ⟨(.slot 35), [], 0, false, 3, (CV.frzEs (((x0.Rows.drop (((IntKind.wrap .i64 (r1 + 1)) : Int)).toNat).take ((((x0.Rows.length : Int) : Int)).toNat - (((IntKind.wrap .i64 (r1 + 1)) : Int)).toNat)).map Vrow.row))⟩ (by kernel_rfl) (by kernel_rfl) (by kernel_rfl) (by kernel_rfl) (by kernel_rfl) (by kernel_rfl) (by kernel_rfl) (by kernel_rfl) (by kernel_rfl) (by kernel_rfl) (by kernel_rfl) (.inr rfl) (fun _ => rfl) (fun _ => rfl) hg7 ?_
              refine LAt.fin (by kernel_rfl) (And.intro (And.intro (by kernel_rfl) (by kernel_rfl)) ?_)
              refine AT.runU tOk [(12, [])] 1 [⟨[10, 11, 13], 38, 31, 32⟩, ⟨[4, 5, 11, 13], 38, 26, 27⟩] [12, 11, 5, 10, 4, 0, 9, 8, 7, 6, 3, 2, 1] rfl (by kernel_rfl) (fun cx => ?_)
              refine AT.big1 tOk 13 (by kernel_rfl) (by kernel_rfl) ?_
              refine LAt.runU tOk 1 (by kernel_rfl) ?_
              refine LAt.fin (by kernel_rfl) (And.intro (And.intro (by kernel_rfl) (by kernel_rfl)) ?_)
              exact AT.done [7, 5, 4, 2] [7, 4, 2] _ (by kernel_rfl) (by kernel_rfl) rfl
          · refine LAt.cutG tOk (t := 38) (ty := 38) (e := 81) (x := (.tmp 32)) (lo := (some (.tmp 34))) (hi := none) (d := 35) (g := none) ⟨.st [(0, 1, 3), (1, 1, 3), (2, 1, 3)], 3, 24, [.lit (.int .i64 0), .lit (.int .i64 0), .lit (.int .i64 0)]⟩ Vrow.row x0.Rows ⟨(.box 2), [(0, 0)], 0, false, 3, (CV.frzEs (x0.Rows.map Vrow.row))⟩ (IntKind.wrap .i64 (r1 + 1)) (x0.Rows.length : Int) (by kernel_rfl) (by kernel_rfl) (by kernel_rfl) (by kernel_rfl) (by kernel_rfl) (by kernel_rfl) rfl (by kernel_rfl) rfl (by kernel_rfl) (by kernel_rfl) hg6 ?_
            refine LAt.fin (by kernel_rfl) (And.intro (And.intro (by kernel_rfl) (by kernel_rfl)) ?_)
            refine AT.big1 tOk 4 (by kernel_rfl) (by kernel_rfl) ?_
            refine LAt.cutG tOk (t := 38) (ty := 38) (e := 81) (x := (.tmp 27)) (lo := none) (hi := (some (.tmp 28))) (d := 29) (g := none) ⟨.st [(0, 1, 3), (1, 1, 3), (2, 1, 3)], 3, 24, [.lit (.int .i64 0), .lit (.int .i64 0), .lit (.int .i64 0)]⟩ Vrow.row x0.Rows ⟨(.box 2), [(0, 0)], 0, false, 3, (CV.frzEs (x0.Rows.map Vrow.row))⟩ 0 r1 (by kernel_rfl) (by kernel_rfl) (by kernel_rfl) (by kernel_rfl) (by kernel_rfl) (by kernel_rfl) rfl (by kernel_rfl) rfl (by kernel_rfl) (by kernel_rfl) hg4 ?_
            refine LAt.fin (by kernel_rfl) (And.intro (And.intro (by kernel_rfl) (by kernel_rfl)) ?_)
            refine AT.big1 tOk 5 (by kernel_rfl) (by kernel_rfl) ?_
            refine LAt.appCU tOk (t := 38) (ty := 38) (e := 81) (x := (.tmp 25)) (y := (.tmp 29)) (d := 30) (g := none) ⟨.st [(0, 1, 3), (1, 1, 3), (2, 1, 3)], 3, 24, [.lit (.int .i64 0), .lit (.int .i64 0), .lit (.int .i64 0)]⟩ Vrow.row ([] : List Vrow) ((x0.Rows.drop ((0 : Int)).toNat).take (((r1 : Int)).toNat - ((0 : Int)).toNat)) ⟨(.slot 29), [], 0, false, 3, (CV.frzEs (((x0.Rows.drop ((0 : Int)).toNat).take (((r1 : Int)).toNat - ((0 : Int)).toNat)).map Vrow.row))⟩ (by kernel_rfl) (by kernel_rfl) (by kernel_rfl) (by kernel_rfl) (by kernel_rfl) (by kernel_rfl) (by kernel_rfl) (by kernel_rfl) (by kernel_rfl) (by kernel_rfl) (by kernel_rfl) (.inr rfl) (fun _ => rfl) (fun _ => rfl) hg5 ?_
            refine LAt.fin (by kernel_rfl) (And.intro (And.intro (by kernel_rfl) (by kernel_rfl)) ?_)
            refine AT.big1 tOk 11 (by kernel_rfl) (by kernel_rfl) ?_
            refine LAt.appCU tOk (t := 38) (ty := 38) (e := 81) (x := (.tmp 30)) (y := (.tmp 35)) (d := 36) (g := none) ⟨.st [(0, 1, 3), (1, 1, 3), (2, 1, 3)], 3, 24, [.lit (.int .i64 0), .lit (.int .i64 0), .lit (.int .i64 0)]⟩ Vrow.row (([] : List Vrow) ++ ((x0.Rows.drop ((0 : Int)).toNat).take (((r1 : Int)).toNat - ((0 : Int)).toNat))) ((x0.Rows.drop (((IntKind.wrap .i64 (r1 + 1)) : Int)).toNat).take ((((x0.Rows.length : Int) : Int)).toNat - (((IntKind.wrap .i64 (r1 + 1)) : Int)).toNat)) ⟨(.slot 35), [], 0, false, 3, (CV.frzEs (((x0.Rows.drop (((IntKind.wrap .i64 (r1 + 1)) : Int)).toNat).take ((((x0.Rows.length : Int) : Int)).toNat - (((IntKind.wrap .i64 (r1 + 1)) : Int)).toNat)).map Vrow.row))⟩ (by kernel_rfl) (by kernel_rfl) (by kernel_rfl) (by kernel_rfl) (by kernel_rfl) (by kernel_rfl) (by kernel_rfl) (by kernel_rfl) (by kernel_rfl) (by kernel_rfl) (by kernel_rfl) (.inr rfl) (fun _ => rfl) (fun _ => rfl) hg7 ?_
            refine LAt.fin (by kernel_rfl) (And.intro (And.intro (by kernel_rfl) (by kernel_rfl)) ?_)
            refine AT.runU tOk [(12, [])] 1 [⟨[10, 11, 13], 38, 31, 32⟩, ⟨[4, 5, 11, 13], 38, 26, 27⟩] [12, 11, 5, 4, 10, 0, 9, 8, 7, 6, 3, 2, 1] rfl (by kernel_rfl) (fun cx => ?_)
            refine AT.big1 tOk 13 (by kernel_rfl) (by kernel_rfl) ?_
            refine LAt.runU tOk 1 (by kernel_rfl) ?_
            refine LAt.fin (by kernel_rfl) (And.intro (And.intro (by kernel_rfl) (by kernel_rfl)) ?_)
            exact AT.done [7, 5, 4, 2] [7, 4, 2] _ (by kernel_rfl) (by kernel_rfl) rfl
        · refine LAt.cutG tOk (t := 38) (ty := 38) (e := 81) (x := (.tmp 27)) (lo := none) (hi := (some (.tmp 28))) (d := 29) (g := none) ⟨.st [(0, 1, 3), (1, 1, 3), (2, 1, 3)], 3, 24, [.lit (.int .i64 0), .lit (.int .i64 0), .lit (.int .i64 0)]⟩ Vrow.row x0.Rows ⟨(.box 2), [(0, 0)], 0, false, 3, (CV.frzEs (x0.Rows.map Vrow.row))⟩ 0 r1 (by kernel_rfl) (by kernel_rfl) (by kernel_rfl) (by kernel_rfl) (by kernel_rfl) (by kernel_rfl) rfl (by kernel_rfl) rfl (by kernel_rfl) (by kernel_rfl) hg4 ?_
          refine LAt.fin (by kernel_rfl) (And.intro (And.intro (by kernel_rfl) (by kernel_rfl)) ?_)
          refine AT.big2 tOk 0 10 (by kernel_rfl) (And.intro (by kernel_rfl) ?_) (And.intro (by kernel_rfl) ?_)
          · refine LAt.runU tOk 1 (by kernel_rfl) ?_
            refine LAt.fin (by kernel_rfl) (And.intro (And.intro (by kernel_rfl) (by kernel_rfl)) ?_)
            refine AT.big2 tOk 5 10 (by kernel_rfl) (And.intro (by kernel_rfl) ?_) (And.intro (by kernel_rfl) ?_)
            · refine LAt.appCU tOk (t := 38) (ty := 38) (e := 81) (x := (.tmp 25)) (y := (.tmp 29)) (d := 30) (g := none) ⟨.st [(0, 1, 3), (1, 1, 3), (2, 1, 3)], 3, 24, [.lit (.int .i64 0), .lit (.int .i64 0), .lit (.int .i64 0)]⟩ Vrow.row ([] : List Vrow) ((x0.Rows.drop ((0 : Int)).toNat).take (((r1 : Int)).toNat - ((0 : Int)).toNat)) ⟨(.slot 29), [], 0, false, 3, (CV.frzEs (((x0.Rows.drop ((0 : Int)).toNat).take (((r1 : Int)).toNat - ((0 : Int)).toNat)).map Vrow.row))⟩ (by kernel_rfl) (by kernel_rfl) (by kernel_rfl) (by kernel_rfl) (by kernel_rfl) (by kernel_rfl) (by kernel_rfl) (by kernel_rfl) (by kernel_rfl) (by kernel_rfl) (by kernel_rfl) (.inr rfl) (fun _ => rfl) (fun _ => rfl) hg5 ?_
              refine LAt.fin (by kernel_rfl) (And.intro (And.intro (by kernel_rfl) (by kernel_rfl)) ?_)
              refine AT.big1 tOk 10 (by kernel_rfl) (by kernel_rfl) ?_
              refine LAt.cutG tOk (t := 38) (ty := 38) (e := 81) (x := (.tmp 32)) (lo := (some (.tmp 34))) (hi := none) (d := 35) (g := none) ⟨.st [(0, 1, 3), (1, 1, 3), (2, 1, 3)], 3, 24, [.lit (.int .i64 0), .lit (.int .i64 0), .lit (.int .i64 0)]⟩ Vrow.row x0.Rows ⟨(.box 2), [(0, 0)], 0, false, 3, (CV.frzEs (x0.Rows.map Vrow.row))⟩ (IntKind.wrap .i64 (r1 + 1)) (x0.Rows.length : Int) (by kernel_rfl) (by kernel_rfl) (by kernel_rfl) (by kernel_rfl) (by kernel_rfl) (by kernel_rfl) rfl (by kernel_rfl) rfl (by kernel_rfl) (by kernel_rfl) hg6 ?_
              refine LAt.fin (by kernel_rfl) (And.intro (And.intro (by kernel_rfl) (by kernel_rfl)) ?_)
              refine AT.big1 tOk 11 (by kernel_rfl) (by kernel_rfl) ?_
              refine LAt.appCU tOk (t := 38) (ty := 38) (e := 81) (x := (.tmp 30)) (y := (.tmp 35)) (d := 36) (g := none) ⟨.st [(0, 1, 3), (1, 1, 3), (2, 1, 3)], 3, 24, [.lit (.int .i64 0), .lit (.int .i64 0), .lit (.int .i64 0)]⟩ Vrow.row (([] : List Vrow) ++ ((x0.Rows.drop ((0 : Int)).toNat).take (((r1 : Int)).toNat - ((0 : Int)).toNat))) ((x0.Rows.drop (((IntKind.wrap .i64 (r1 + 1)) : Int)).toNat).take ((((x0.Rows.length : Int) : Int)).toNat - (((IntKind.wrap .i64 (r1 + 1)) : Int)).toNat)) ⟨(.slot 35), [], 0, false, 3, (CV.frzEs (((x0.Rows.drop (((IntKind.wrap .i64 (r1 + 1)) : Int)).toNat).take ((((x0.Rows.length : Int) : Int)).toNat - (((IntKind.wrap .i64 (r1 + 1)) : Int)).toNat)).map Vrow.row))⟩ (by kernel_rfl) (by kernel_rfl) (by kernel_rfl) (by kernel_rfl) (by kernel_rfl) (by kernel_rfl) (by kernel_rfl) (by kernel_rfl) (by kernel_rfl) (by kernel_rfl) (by kernel_rfl) (.inr rfl) (fun _ => rfl) (fun _ => rfl) hg7 ?_
              refine LAt.fin (by kernel_rfl) (And.intro (And.intro (by kernel_rfl) (by kernel_rfl)) ?_)
              refine AT.runU tOk [(12, [])] 1 [⟨[10, 11, 13], 38, 31, 32⟩, ⟨[4, 5, 11, 13], 38, 26, 27⟩] [12, 11, 10, 5, 0, 4, 9, 8, 7, 6, 3, 2, 1] rfl (by kernel_rfl) (fun cx => ?_)
              refine AT.big1 tOk 13 (by kernel_rfl) (by kernel_rfl) ?_
              refine LAt.runU tOk 1 (by kernel_rfl) ?_
              refine LAt.fin (by kernel_rfl) (And.intro (And.intro (by kernel_rfl) (by kernel_rfl)) ?_)
              exact AT.done [7, 5, 4, 2] [7, 4, 2] _ (by kernel_rfl) (by kernel_rfl) rfl
            · refine LAt.cutG tOk (t := 38) (ty := 38) (e := 81) (x := (.tmp 32)) (lo := (some (.tmp 34))) (hi := none) (d := 35) (g := none) ⟨.st [(0, 1, 3), (1, 1, 3), (2, 1, 3)], 3, 24, [.lit (.int .i64 0), .lit (.int .i64 0), .lit (.int .i64 0)]⟩ Vrow.row x0.Rows ⟨(.box 2), [(0, 0)], 0, false, 3, (CV.frzEs (x0.Rows.map Vrow.row))⟩ (IntKind.wrap .i64 (r1 + 1)) (x0.Rows.length : Int) (by kernel_rfl) (by kernel_rfl) (by kernel_rfl) (by kernel_rfl) (by kernel_rfl) (by kernel_rfl) rfl (by kernel_rfl) rfl (by kernel_rfl) (by kernel_rfl) hg6 ?_
              refine LAt.fin (by kernel_rfl) (And.intro (And.intro (by kernel_rfl) (by kernel_rfl)) ?_)
              refine AT.big1 tOk 5 (by kernel_rfl) (by kernel_rfl) ?_
              refine LAt.appCU tOk (t := 38) (ty := 38) (e := 81) (x := (.tmp 25)) (y := (.tmp 29)) (d := 30) (g := none) ⟨.st [(0, 1, 3), (1, 1, 3), (2, 1, 3)], 3, 24, [.lit (.int .i64 0), .lit (.int .i64 0), .lit (.int .i64 0)]⟩ Vrow.row ([] : List Vrow) ((x0.Rows.drop ((0 : Int)).toNat).take (((r1 : Int)).toNat - ((0 : Int)).toNat)) ⟨(.slot 29), [], 0, false, 3, (CV.frzEs (((x0.Rows.drop ((0 : Int)).toNat).take (((r1 : Int)).toNat - ((0 : Int)).toNat)).map Vrow.row))⟩ (by kernel_rfl) (by kernel_rfl) (by kernel_rfl) (by kernel_rfl) (by kernel_rfl) (by kernel_rfl) (by kernel_rfl) (by kernel_rfl) (by kernel_rfl) (by kernel_rfl) (by kernel_rfl) (.inr rfl) (fun _ => rfl) (fun _ => rfl) hg5 ?_
              refine LAt.fin (by kernel_rfl) (And.intro (And.intro (by kernel_rfl) (by kernel_rfl)) ?_)
              refine AT.big1 tOk 11 (by kernel_rfl) (by kernel_rfl) ?_
              refine LAt.appCU tOk (t := 38) (ty := 38) (e := 81) (x := (.tmp 30)) (y := (.tmp 35)) (d := 36) (g := none) ⟨.st [(0, 1, 3), (1, 1, 3), (2, 1, 3)], 3, 24, [.lit (.int .i64 0), .lit (.int .i64 0), .lit (.int .i64 0)]⟩ Vrow.row (([] : List Vrow) ++ ((x0.Rows.drop ((0 : Int)).toNat).take (((r1 : Int)).toNat - ((0 : Int)).toNat))) ((x0.Rows.drop (((IntKind.wrap .i64 (r1 + 1)) : Int)).toNat).take ((((x0.Rows.length : Int) : Int)).toNat - (((IntKind.wrap .i64 (r1 + 1)) : Int)).toNat)) ⟨(.slot 35), [], 0, false, 3, (CV.frzEs (((x0.Rows.drop (((IntKind.wrap .i64 (r1 + 1)) : Int)).toNat).take ((((x0.Rows.length : Int) : Int)).toNat - (((IntKind.wrap .i64 (r1 + 1)) : Int)).toNat)).map Vrow.row))⟩ (by kernel_rfl) (by kernel_rfl) (by kernel_rfl) (by kernel_rfl) (by kernel_rfl) (by kernel_rfl) (by kernel_rfl) (by kernel_rfl) (by kernel_rfl) (by kernel_rfl) (by kernel_rfl) (.inr rfl) (fun _ => rfl) (fun _ => rfl) hg7 ?_
              refine LAt.fin (by kernel_rfl) (And.intro (And.intro (by kernel_rfl) (by kernel_rfl)) ?_)
              refine AT.runU tOk [(12, [])] 1 [⟨[10, 11, 13], 38, 31, 32⟩, ⟨[4, 5, 11, 13], 38, 26, 27⟩] [12, 11, 5, 10, 0, 4, 9, 8, 7, 6, 3, 2, 1] rfl (by kernel_rfl) (fun cx => ?_)
              refine AT.big1 tOk 13 (by kernel_rfl) (by kernel_rfl) ?_
              refine LAt.runU tOk 1 (by kernel_rfl) ?_
              refine LAt.fin (by kernel_rfl) (And.intro (And.intro (by kernel_rfl) (by kernel_rfl)) ?_)
              exact AT.done [7, 5, 4, 2] [7, 4, 2] _ (by kernel_rfl) (by kernel_rfl) rfl
          · refine LAt.cutG tOk (t := 38) (ty := 38) (e := 81) (x := (.tmp 32)) (lo := (some (.tmp 34))) (hi := none) (d := 35) (g := none) ⟨.st [(0, 1, 3), (1, 1, 3), (2, 1, 3)], 3, 24, [.lit (.int .i64 0), .lit (.int .i64 0), .lit (.int .i64 0)]⟩ Vrow.row x0.Rows ⟨(.box 2), [(0, 0)], 0, false, 3, (CV.frzEs (x0.Rows.map Vrow.row))⟩ (IntKind.wrap .i64 (r1 + 1)) (x0.Rows.length : Int) (by kernel_rfl) (by kernel_rfl) (by kernel_rfl) (by kernel_rfl) (by kernel_rfl) (by kernel_rfl) rfl (by kernel_rfl) rfl (by kernel_rfl) (by kernel_rfl) hg6 ?_
            refine LAt.fin (by kernel_rfl) (And.intro (And.intro (by kernel_rfl) (by kernel_rfl)) ?_)
            refine AT.big1 tOk 0 (by kernel_rfl) (by kernel_rfl) ?_
            refine LAt.runU tOk 1 (by kernel_rfl) ?_
            refine LAt.fin (by kernel_rfl) (And.intro (And.intro (by kernel_rfl) (by kernel_rfl)) ?_)
            refine AT.big1 tOk 5 (by kernel_rfl) (by kernel_rfl) ?_
            refine LAt.appCU tOk (t := 38) (ty := 38) (e := 81) (x := (.tmp 25)) (y := (.tmp 29)) (d := 30) (g := none) ⟨.st [(0, 1, 3), (1, 1, 3), (2, 1, 3)], 3, 24, [.lit (.int .i64 0), .lit (.int .i64 0), .lit (.int .i64 0)]⟩ Vrow.row ([] : List Vrow) ((x0.Rows.drop ((0 : Int)).toNat).take (((r1 : Int)).toNat - ((0 : Int)).toNat)) ⟨(.slot 29), [], 0, false, 3, (CV.frzEs (((x0.Rows.drop ((0 : Int)).toNat).take (((r1 : Int)).toNat - ((0 : Int)).toNat)).map Vrow.row))⟩ (by kernel_rfl) (by kernel_rfl) (by kernel_rfl) (by kernel_rfl) (by kernel_rfl) (by kernel_rfl) (by kernel_rfl) (by kernel_rfl) (by kernel_rfl) (by kernel_rfl) (by kernel_rfl) (.inr rfl) (fun _ => rfl) (fun _ => rfl) hg5 ?_
            refine LAt.fin (by kernel_rfl) (And.intro (And.intro (by kernel_rfl) (by kernel_rfl)) ?_)
            refine AT.big1 tOk 11 (by kernel_rfl) (by kernel_rfl) ?_
            refine LAt.appCU tOk (t := 38) (ty := 38) (e := 81) (x := (.tmp 30)) (y := (.tmp 35)) (d := 36) (g := none) ⟨.st [(0, 1, 3), (1, 1, 3), (2, 1, 3)], 3, 24, [.lit (.int .i64 0), .lit (.int .i64 0), .lit (.int .i64 0)]⟩ Vrow.row (([] : List Vrow) ++ ((x0.Rows.drop ((0 : Int)).toNat).take (((r1 : Int)).toNat - ((0 : Int)).toNat))) ((x0.Rows.drop (((IntKind.wrap .i64 (r1 + 1)) : Int)).toNat).take ((((x0.Rows.length : Int) : Int)).toNat - (((IntKind.wrap .i64 (r1 + 1)) : Int)).toNat)) ⟨(.slot 35), [], 0, false, 3, (CV.frzEs (((x0.Rows.drop (((IntKind.wrap .i64 (r1 + 1)) : Int)).toNat).take ((((x0.Rows.length : Int) : Int)).toNat - (((IntKind.wrap .i64 (r1 + 1)) : Int)).toNat)).map Vrow.row))⟩ (by kernel_rfl) (by kernel_rfl) (by kernel_rfl) (by kernel_rfl) (by kernel_rfl) (by kernel_rfl) (by kernel_rfl) (by kernel_rfl) (by kernel_rfl) (by kernel_rfl) (by kernel_rfl) (.inr rfl) (fun _ => rfl) (fun _ => rfl) hg7 ?_
            refine LAt.fin (by kernel_rfl) (And.intro (And.intro (by kernel_rfl) (by kernel_rfl)) ?_)
            refine AT.runU tOk [(12, [])] 1 [⟨[10, 11, 13], 38, 31, 32⟩, ⟨[4, 5, 11, 13], 38, 26, 27⟩] [12, 11, 5, 0, 10, 4, 9, 8, 7, 6, 3, 2, 1] rfl (by kernel_rfl) (fun cx => ?_)
            refine AT.big1 tOk 13 (by kernel_rfl) (by kernel_rfl) ?_
            refine LAt.runU tOk 1 (by kernel_rfl) ?_
            refine LAt.fin (by kernel_rfl) (And.intro (And.intro (by kernel_rfl) (by kernel_rfl)) ?_)
            exact AT.done [7, 5, 4, 2] [7, 4, 2] _ (by kernel_rfl) (by kernel_rfl) rfl
        · refine LAt.cutG tOk (t := 38) (ty := 38) (e := 81) (x := (.tmp 32)) (lo := (some (.tmp 34))) (hi := none) (d := 35) (g := none) ⟨.st [(0, 1, 3), (1, 1, 3), (2, 1, 3)], 3, 24, [.lit (.int .i64 0), .lit (.int .i64 0), .lit (.int .i64 0)]⟩ Vrow.row x0.Rows ⟨(.box 2), [(0, 0)], 0, false, 3, (CV.frzEs (x0.Rows.map Vrow.row))⟩ (IntKind.wrap .i64 (r1 + 1)) (x0.Rows.length : Int) (by kernel_rfl) (by kernel_rfl) (by kernel_rfl) (by kernel_rfl) (by kernel_rfl) (by kernel_rfl) rfl (by kernel_rfl) rfl (by kernel_rfl) (by kernel_rfl) hg6 ?_
          refine LAt.fin (by kernel_rfl) (And.intro (And.intro (by kernel_rfl) (by kernel_rfl)) ?_)
          refine AT.big2 tOk 0 4 (by kernel_rfl) (And.intro (by kernel_rfl) ?_) (And.intro (by kernel_rfl) ?_)
          · refine LAt.runU tOk 1 (by kernel_rfl) ?_
            refine LAt.fin (by kernel_rfl) (And.intro (And.intro (by kernel_rfl) (by kernel_rfl)) ?_)
            refine AT.big1 tOk 4 (by kernel_rfl) (by kernel_rfl) ?_
            refine LAt.cutG tOk (t := 38) (ty := 38) (e := 81) (x := (.tmp 27)) (lo := none) (hi := (some (.tmp 28))) (d := 29) (g := none) ⟨.st [(0, 1, 3), (1, 1, 3), (2, 1, 3)], 3, 24, [.lit (.int .i64 0), .lit (.int .i64 0), .lit (.int .i64 0)]⟩ Vrow.row x0.Rows ⟨(.box 2), [(0, 0)], 0, false, 3, (CV.frzEs (x0.Rows.map Vrow.row))⟩ 0 r1 (by kernel_rfl) (by kernel_rfl) (by kernel_rfl) (by kernel_rfl) (by kernel_rfl) (by kernel_rfl) rfl (by kernel_rfl) rfl (by kernel_rfl) (by kernel_rfl) hg4 ?_
            refine LAt.fin (by kernel_rfl) (And.intro (And.intro (by kernel_rfl) (by kernel_rfl)) ?_)
            refine AT.big1 tOk 5 (by kernel_rfl) (by kernel_rfl) ?_
            refine LAt.appCU tOk (t := 38) (ty := 38) (e := 81) (x := (.tmp 25)) (y := (.tmp 29)) (d := 30) (g := none) ⟨.st [(0, 1, 3), (1, 1, 3), (2, 1, 3)], 3, 24, [.lit (.int .i64 0), .lit (.int .i64 0), .lit (.int .i64 0)]⟩ Vrow.row ([] : List Vrow) ((x0.Rows.drop ((0 : Int)).toNat).take (((r1 : Int)).toNat - ((0 : Int)).toNat)) ⟨(.slot 29), [], 0, false, 3, (CV.frzEs (((x0.Rows.drop ((0 : Int)).toNat).take (((r1 : Int)).toNat - ((0 : Int)).toNat)).map Vrow.row))⟩ (by kernel_rfl) (by kernel_rfl) (by kernel_rfl) (by kernel_rfl) (by kernel_rfl) (by kernel_rfl) (by kernel_rfl) (by kernel_rfl) (by kernel_rfl) (by kernel_rfl) (by kernel_rfl) (.inr rfl) (fun _ => rfl) (fun _ => rfl) hg5 ?_
            refine LAt.fin (by kernel_rfl) (And.intro (And.intro (by kernel_rfl) (by kernel_rfl)) ?_)
            refine AT.big1 tOk 11 (by kernel_rfl) (by kernel_rfl) ?_
            refine LAt.appCU tOk (t := 38) (ty := 38) (e := 81) (x := (.tmp 30)) (y := (.tmp 35)) (d := 36) (g := none) ⟨.st [(0, 1, 3), (1, 1, 3), (2, 1, 3)], 3, 24, [.lit (.int .i64 0), .lit (.int .i64 0), .lit (.int .i64 0)]⟩ Vrow.row (([] : List Vrow) ++ ((x0.Rows.drop ((0 : Int)).toNat).take (((r1 : Int)).toNat - ((0 : Int)).toNat))) ((x0.Rows.drop (((IntKind.wrap .i64 (r1 + 1)) : Int)).toNat).take ((((x0.Rows.length : Int) : Int)).toNat - (((IntKind.wrap .i64 (r1 + 1)) : Int)).toNat)) ⟨(.slot 35), [], 0, false, 3, (CV.frzEs (((x0.Rows.drop (((IntKind.wrap .i64 (r1 + 1)) : Int)).toNat).take ((((x0.Rows.length : Int) : Int)).toNat - (((IntKind.wrap .i64 (r1 + 1)) : Int)).toNat)).map Vrow.row))⟩ (by kernel_rfl) (by kernel_rfl) (by kernel_rfl) (by kernel_rfl) (by kernel_rfl) (by kernel_rfl) (by kernel_rfl) (by kernel_rfl) (by kernel_rfl) (by kernel_rfl) (by kernel_rfl) (.inr rfl) (fun _ => rfl) (fun _ => rfl) hg7 ?_
            refine LAt.fin (by kernel_rfl) (And.intro (And.intro (by kernel_rfl) (by kernel_rfl)) ?_)
            refine AT.runU tOk [(12, [])] 1 [⟨[10, 11, 13], 38, 31, 32⟩, ⟨[4, 5, 11, 13], 38, 26, 27⟩] [12, 11, 5, 4, 0, 10, 9, 8, 7, 6, 3, 2, 1] rfl (by kernel_rfl) (fun cx => ?_)
            refine AT.big1 tOk 13 (by kernel_rfl) (by kernel_rfl) ?_
            refine LAt.runU tOk 1 (by kernel_rfl) ?_
            refine LAt.fin (by kernel_rfl) (And.intro (And.intro (by kernel_rfl) (by kernel_rfl)) ?_)
            exact AT.done [7, 5, 4, 2] [7, 4, 2] _ (by kernel_rfl) (by kernel_rfl) rfl
          · refine LAt.cutG tOk (t := 38) (ty := 38) (e := 81) (x := (.tmp 27)) (lo := none) (hi := (some (.tmp 28))) (d := 29) (g := none) ⟨.st [(0, 1, 3), (1, 1, 3), (2, 1, 3)], 3, 24, [.lit (.int .i64 0), .lit (.int .i64 0), .lit (.int .i64 0)]⟩ Vrow.row x0.Rows ⟨(.box 2), [(0, 0)], 0, false, 3, (CV.frzEs (x0.Rows.map Vrow.row))⟩ 0 r1 (by kernel_rfl) (by kernel_rfl) (by kernel_rfl) (by kernel_rfl) (by kernel_rfl) (by kernel_rfl) rfl (by kernel_rfl) rfl (by kernel_rfl) (by kernel_rfl) hg4 ?_
            refine LAt.fin (by kernel_rfl) (And.intro (And.intro (by kernel_rfl) (by kernel_rfl)) ?_)
            refine AT.big1 tOk 0 (by kernel_rfl) (by kernel_rfl) ?_
            refine LAt.runU tOk 1 (by kernel_rfl) ?_
            refine LAt.fin (by kernel_rfl) (And.intro (And.intro (by kernel_rfl) (by kernel_rfl)) ?_)
            refine AT.big1 tOk 5 (by kernel_rfl) (by kernel_rfl) ?_
            refine LAt.appCU tOk (t := 38) (ty := 38) (e := 81) (x := (.tmp 25)) (y := (.tmp 29)) (d := 30) (g := none) ⟨.st [(0, 1, 3), (1, 1, 3), (2, 1, 3)], 3, 24, [.lit (.int .i64 0), .lit (.int .i64 0), .lit (.int .i64 0)]⟩ Vrow.row ([] : List Vrow) ((x0.Rows.drop ((0 : Int)).toNat).take (((r1 : Int)).toNat - ((0 : Int)).toNat)) ⟨(.slot 29), [], 0, false, 3, (CV.frzEs (((x0.Rows.drop ((0 : Int)).toNat).take (((r1 : Int)).toNat - ((0 : Int)).toNat)).map Vrow.row))⟩ (by kernel_rfl) (by kernel_rfl) (by kernel_rfl) (by kernel_rfl) (by kernel_rfl) (by kernel_rfl) (by kernel_rfl) (by kernel_rfl) (by kernel_rfl) (by kernel_rfl) (by kernel_rfl) (.inr rfl) (fun _ => rfl) (fun _ => rfl) hg5 ?_
            refine LAt.fin (by kernel_rfl) (And.intro (And.intro (by kernel_rfl) (by kernel_rfl)) ?_)
            refine AT.big1 tOk 11 (by kernel_rfl) (by kernel_rfl) ?_
            refine LAt.appCU tOk (t := 38) (ty := 38) (e := 81) (x := (.tmp 30)) (y := (.tmp 35)) (d := 36) (g := none) ⟨.st [(0, 1, 3), (1, 1, 3), (2, 1, 3)], 3, 24, [.lit (.int .i64 0), .lit (.int .i64 0), .lit (.int .i64 0)]⟩ Vrow.row (([] : List Vrow) ++ ((x0.Rows.drop ((0 : Int)).toNat).take (((r1 : Int)).toNat - ((0 : Int)).toNat))) ((x0.Rows.drop (((IntKind.wrap .i64 (r1 + 1)) : Int)).toNat).take ((((x0.Rows.length : Int) : Int)).toNat - (((IntKind.wrap .i64 (r1 + 1)) : Int)).toNat)) ⟨(.slot 35), [], 0, false, 3, (CV.frzEs (((x0.Rows.drop (((IntKind.wrap .i64 (r1 + 1)) : Int)).toNat).take ((((x0.Rows.length : Int) : Int)).toNat - (((IntKind.wrap .i64 (r1 + 1)) : Int)).toNat)).map Vrow.row))⟩ (by kernel_rfl) (by kernel_rfl) (by kernel_rfl) (by kernel_rfl) (by kernel_rfl) (by kernel_rfl) (by kernel_rfl) (by kernel_rfl) (by kernel_rfl) (by kernel_rfl) (by kernel_rfl) (.inr rfl) (fun _ => rfl) (fun _ => rfl) hg7 ?_
            refine LAt.fin (by kernel_rfl) (And.intro (And.intro (by kernel_rfl) (by kernel_rfl)) ?_)
            refine AT.runU tOk [(12, [])] 1 [⟨[10, 11, 13], 38, 31, 32⟩, ⟨[4, 5, 11, 13], 38, 26, 27⟩] [12, 11, 5, 0, 4, 10, 9, 8, 7, 6, 3, 2, 1] rfl (by kernel_rfl) (fun cx => ?_)
            refine AT.big1 tOk 13 (by kernel_rfl) (by kernel_rfl) ?_
            refine LAt.runU tOk 1 (by kernel_rfl) ?_
            refine LAt.fin (by kernel_rfl) (And.intro (And.intro (by kernel_rfl) (by kernel_rfl)) ?_)
            exact AT.done [7, 5, 4, 2] [7, 4, 2] _ (by kernel_rfl) (by kernel_rfl) rfl
      · refine Tr.rs ?_
        refine LAt.runU tOk 2 (by kernel_rfl) ?_
        obtain ⟨r8, er8, H⟩ := bind_some H
        refine LAt.callU tOk [.own, .rd] (f := 94) (av := #[.tmp 38, .tmp 39]) (ats := #[40, 40]) (d := (some 40)) (ty := 107) (g := none) (by kernel_rfl) (by kernel_rfl) (by kernel_rfl) [] (spec_l9Or n (⟨((([] : List Vrow) ++ ((x0.Rows.drop ((0 : Int)).toNat).take (((r1 : Int)).toNat - ((0 : Int)).toNat))) ++ ((x0.Rows.drop (((IntKind.wrap .i64 (r1 + 1)) : Int)).toNat).take ((((x0.Rows.length : Int) : Int)).toNat - (((IntKind.wrap .i64 (r1 + 1)) : Int)).toNat))), r3.Pvid⟩ : Vtab) x0 r8 er8) (by kernel_rfl) (.inl rfl) ?_
        refine LAt.runU tOk 4 (by kernel_rfl) ?_
        refine LAt.doneU [5, 4] [4] (by kernel_rfl) ?_
        refine Tr.ret ?_
        have H := Option.some.inj H
        subst H
        exact Fin.of _ [(true, (Vtab.row r8.1)), (false, [.lit (.bool r8.2)])] (by kernel_rfl) rfl rfl
    · have H := bifT h2 H
      refine Tr.cond (b := true) (by kernel_rfl) (fun _ => ?_) (fun h => nomatch h)
      refine Tr.rs ?_
      refine LAt.runU tOk 1 (by kernel_rfl) ?_
      obtain ⟨r9, er9, H⟩ := bind_some H
      refine LAt.callU tOk [.rd] (f := 93) (av := #[.tmp 21]) (ats := #[40]) (d := (some 22)) (ty := 40) (g := none) (by kernel_rfl) (by kernel_rfl) (by kernel_rfl) [] (spec_l9Copy n x0 r9 er9) (by kernel_rfl) (.inl rfl) ?_
      refine LAt.runU tOk 2 (by kernel_rfl) ?_
      refine LAt.doneU [5, 6, 4, 2] [4, 2] (by kernel_rfl) ?_
      refine Tr.ret ?_
      have H := Option.some.inj H
      subst H
      exact Fin.of _ [(true, (Vtab.row r9)), (false, [.lit (.bool false)])] (by kernel_rfl) rfl rfl
  · have H := bifT h1 H
    refine LAt.runU tOk 3 (by kernel_rfl) ?_
    refine LAt.doneU [20, 6, 5, 4, 2] [4, 2] (by kernel_rfl) ?_
    refine Tr.cond (b := true) (by kernel_rfl) (fun _ => ?_) (fun h => nomatch h)
    refine Tr.rs ?_
    refine LAt.runU tOk 1 (by kernel_rfl) ?_
    obtain ⟨r10, er10, H⟩ := bind_some H
    refine LAt.callU tOk [.rd] (f := 93) (av := #[.tmp 21]) (ats := #[40]) (d := (some 22)) (ty := 40) (g := none) (by kernel_rfl) (by kernel_rfl) (by kernel_rfl) [] (spec_l9Copy n x0 r10 er10) (by kernel_rfl) (.inl rfl) ?_
    refine LAt.runU tOk 2 (by kernel_rfl) ?_
    refine LAt.doneU [5, 6, 4, 2] [4, 2] (by kernel_rfl) ?_
    refine Tr.ret ?_
    have H := Option.some.inj H
    subst H
    exact Fin.of _ [(true, (Vtab.row r10)), (false, [.lit (.bool false)])] (by kernel_rfl) rfl rfl

def spec_l1IntF (n : Nat) (x0 : Src) (x1 : (List Int)) : Option (Int × Src) :=
  ((spec_l1BelowF n x0 (x1.length : Int)).bind fun r1 => ((idx x1 r1.1).bind fun v2 => (some (v2, r1.2))))
/-- loop.example/g00326/spec.l1Int -/
theorem spec_l1Int (n : Nat) (x0 : Src) (x1 : (List Int)) (r : Int × Src) (H : spec_l1IntF n x0 x1 = some r) : LCall Try.prog 79 [.ptr (CV.frzRow (Src.row x0)), .val false [.sl false 1 (CV.frzEs (x1.map intRow))]] [.val false [.lit (.int .i64 r.1)]] [(0, (CV.frzRow (Src.row r.2)))] := by
  refine LCall.of_body tOk Try.func79 rfl (c := (.seq (.region 0 (rg Try.f79 0) false) (.seq (.region 1 (rg Try.f79 1) false) .ret))) (by kernel_rfl) (Nat.le_of_ble_eq_true (by kernel_rfl)) 1 (rs := [.tmp 4]) rfl [] .nil [(false, [.lit (.int .i64 r.1)])] [] [(0, (CV.frzRow (Src.row r.2)))] fun cx => ?_
  show Tr _ _ _ ⟨12, 1, [(0, .adr (.box 0) [(0, 0)] 3 0), (1, .val false [.sl false 1 (CV.frzEs (x1.map intRow))])], [(0, (CV.frzRow (Src.row x0)))]⟩ _
  unfold spec_l1IntF at H
  refine Tr.rs ?_
  refine LAt.runU tOk 1 (by kernel_rfl) ?_
  refine LAt.doneU [4, 0, 1] [0] (by kernel_rfl) ?_
  refine Tr.rs ?_
  refine LAt.runU tOk 3 (by kernel_rfl) ?_
  refine LAt.lenE tOk (t := 33) (ty := 3) (e := 3) (x := (.tmp 7)) (d := 8) (g := none) ⟨(.slot 7), [], 0, false, 1, (CV.frzEs (x1.map intRow))⟩ (x1).length _ (by kernel_rfl) (by kernel_rfl) (by kernel_rfl) (by kernel_rfl) (by kernel_rfl) (frz_len _ _) rfl ?_
  obtain ⟨r1, er1, H⟩ := bind_some H
  refine LAt.callL tOk [.lend, .rd] (f := 76) (av := #[.tmp 6, .tmp 8]) (ats := #[90, 3]) (d := (some 9)) (ty := 3) (g := none) (by kernel_rfl) (by kernel_rfl) (by kernel_rfl) [] (spec_l1Below n x0 (x1.length : Int) r1 er1) (by kernel_rfl) (.inl rfl) ?_
  obtain ⟨v2, ev2, H⟩ := bind_some H
  refine LAt.indexF tOk (t := 33) (ty := 0) (x := (.tmp 5)) (y := (.tmp 9)) (d := 10) (g := none) ⟨(.slot 5), [], 0, false, 1, (CV.frzEs (x1.map intRow))⟩ r1.1 [.lit (.int .i64 v2)] _ (by kernel_rfl) (by kernel_rfl) (by kernel_rfl) (by kernel_rfl) rfl (idx_isF ev2) rfl ?_
  refine LAt.runU tOk 2 (by kernel_rfl) ?_
  refine LAt.doneU [4, 0] [0] (by kernel_rfl) ?_
  refine Tr.ret ?_
  have H := Option.some.inj H
  subst H
  exact Fin.ofY _ [(false, [.lit (.int .i64 v2)])] [] _ [] _ [(0, (CV.frzRow (Src.row r1.2)))] (by kernel_rfl) rfl rfl rfl (by kernel_rfl) (by kernel_rfl) (by kernel_rfl) (by kernel_rfl) rfl rfl rfl

def spec_l9Row2F (n : Nat) (x0 : Src) (x1 : Int) : Option (Vrow × Src) :=
  (bif (decide ((0 : Int) ≤ (IntKind.wrap .u64 x1))) then ((spec_l1BelowF n x0 (IntKind.wrap .i64 ((IntKind.wrap .i64 ((IntKind.wrap .i64 (1 * 2 ^ min (((IntKind.wrap .u64 x1) : Int)).toNat (IntKind.bits .i64))) - 1)) + 1))).bind fun r2 => ((spec_l1IntF n r2.2 [1, 2, 3, 2]).bind fun r3 => ((spec_l1BelowF n r3.2 (IntKind.wrap .i64 ((IntKind.wrap .i64 ((IntKind.wrap .i64 (1 * 2 ^ min (((IntKind.wrap .u64 x1) : Int)).toNat (IntKind.bits .i64))) - 1)) + 1))).bind fun r4 => (some ((⟨r3.1, r2.1, (IntKind.wrap .i64 (BitVec.ofInt (IntKind.bits .i64) r2.1 &&& BitVec.ofInt (IntKind.bits .i64) r4.1).toNat)⟩ : Vrow), r4.2))))) else none)
/-- loop.example/g00326/spec.l9Row2 -/
theorem spec_l9Row2 (n : Nat) (x0 : Src) (x1 : Int) (r : Vrow × Src) (H : spec_l9Row2F n x0 x1 = some r) : LCall Try.prog 92 [.ptr (CV.frzRow (Src.row x0)), .val false [.lit (.int .i64 x1)]] [.val true (Vrow.row r.1)] [(0, (CV.frzRow (Src.row r.2)))] := by
  refine LCall.of_body tOk Try.func92 rfl (c := (.seq (.region 0 (rg Try.f92 0) false) (.seq (.region 1 (rg Try.f92 1) false) (.seq (.region 2 (rg Try.f92 2) false) (.seq (.region 3 (rg Try.f92 3) false) .ret))))) (by kernel_rfl) (Nat.le_of_ble_eq_true (by kernel_rfl)) 1 (rs := [.cell 4 81]) rfl [] .nil [(true, (Vrow.row r.1))] [] [(0, (CV.frzRow (Src.row r.2)))] fun cx => ?_
  show Tr _ _ _ ⟨26, 1, [(0, .adr (.box 0) [(0, 0)] 3 0), (1, .val false [.lit (.int .i64 x1)])], [(0, (CV.frzRow (Src.row x0)))]⟩ _
  unfold spec_l9Row2F at H
  refine Tr.rs ?_
  refine LAt.runU tOk 1 (by kernel_rfl) ?_
  refine LAt.doneU [4, 0, 1] [4, 0] (by kernel_rfl) ?_
  refine Tr.rs ?_
  refine LAt.runU tOk 2 (by kernel_rfl) ?_
  obtain ⟨hg1, H⟩ := guard_some H
  refine LAt.binC tOk (op := .shl) (t := 3) (ty := 86) (ty' := 3) (x := (.const (.int .i64 1))) (y := (.tmp 8)) (d := 9) (g := none) (.int .i64 1) (.int .u64 (IntKind.wrap .u64 x1)) (.int .i64 (IntKind.wrap .i64 (1 * 2 ^ min (((IntKind.wrap .u64 x1) : Int)).toNat (IntKind.bits .i64)))) _ (by kernel_rfl) (by kernel_rfl) (by kernel_rfl) (by kernel_rfl) (by kernel_rfl) (φ := (0 : Int) ≤ (IntKind.wrap .u64 x1)) (by kernel_rfl) (of_decide_eq_true hg1) rfl ?_
  refine LAt.runU tOk 2 (by kernel_rfl) ?_
  refine LAt.doneU [5, 4, 0] [4, 0] (by kernel_rfl) ?_
  refine Tr.rs ?_
  refine LAt.runU tOk 3 (by kernel_rfl) ?_
  obtain ⟨r2, er2, H⟩ := bind_some H
  refine LAt.callL tOk [.lend, .rd] (f := 76) (av := #[.tmp 11, .tmp 13]) (ats := #[90, 3]) (d := (some 14)) (ty := 3) (g := none) (by kernel_rfl) (by kernel_rfl) (by kernel_rfl) [] (spec_l1Below n x0 (IntKind.wrap .i64 ((IntKind.wrap .i64 ((IntKind.wrap .i64 (1 * 2 ^ min (((IntKind.wrap .u64 x1) : Int)).toNat (IntKind.bits .i64))) - 1)) + 1)) r2 er2) (by kernel_rfl) (.inl rfl) ?_
  refine LAt.runU tOk 1 (by kernel_rfl) ?_
  refine LAt.doneU [6, 5, 4, 0] [0, 4] (by kernel_rfl) ?_
  refine Tr.rs ?_
  refine LAt.runU tOk 2 (by kernel_rfl) ?_
  obtain ⟨r3, er3, H⟩ := bind_some H
  refine LAt.callL tOk [.lend, .rd] (f := 79) (av := #[.tmp 15, .tmp 16]) (ats := #[90, 33]) (d := (some 17)) (ty := 3) (g := none) (by kernel_rfl) (by kernel_rfl) (by kernel_rfl) [] (spec_l1Int n r2.2 [1, 2, 3, 2] r3 er3) (by kernel_rfl) (.inl rfl) ?_
  refine LAt.runU tOk 5 (by kernel_rfl) ?_
  obtain ⟨r4, er4, H⟩ := bind_some H
  refine LAt.callL tOk [.lend, .rd] (f := 76) (av := #[.tmp 20, .tmp 22]) (ats := #[90, 3]) (d := (some 23)) (ty := 3) (g := none) (by kernel_rfl) (by kernel_rfl) (by kernel_rfl) [] (spec_l1Below n r3.2 (IntKind.wrap .i64 ((IntKind.wrap .i64 ((IntKind.wrap .i64 (1 * 2 ^ min (((IntKind.wrap .u64 x1) : Int)).toNat (IntKind.bits .i64))) - 1)) + 1)) r4 er4) (by kernel_rfl) (.inl rfl) ?_
  refine LAt.runU tOk 3 (by kernel_rfl) ?_
  refine LAt.doneU [4, 0] [4, 0] (by kernel_rfl) ?_
  refine Tr.ret ?_
  have H := Option.some.inj H
  subst H
  exact Fin.ofY _ [(true, [.lit (.int .i64 r3.1), .lit (.int .i64 r2.1), .lit (.int .i64 (IntKind.wrap .i64 (BitVec.ofInt (IntKind.bits .i64) r2.1 &&& BitVec.ofInt (IntKind.bits .i64) r4.1).toNat))])] [] _ [] _ [(0, (CV.frzRow (Src.row r4.2)))] (by kernel_rfl) rfl rfl rfl (by kernel_rfl) (by kernel_rfl) (by kernel_rfl) (by kernel_rfl) rfl rfl rfl
end Go.Proofs.Ytnhmckiejhbmcaa.Tw
