/- Functions of the program, over trees. -/
import Derived.Test.YtgpcfaiacggoiaaProg
import Derived.Test.YtgpcfaiacggoiaaTlRule
import Derived.Test.YtgpcfaiacggoiaaTlU7
import Derived.WalkKit
set_option linter.unusedVariables false
set_option linter.unusedSimpArgs false
set_option maxRecDepth 100000
set_option maxHeartbeats 1000000
namespace Go.Proofs.Ytgpcfaiacggoiaa.Tw
open Go Go.TL Go.Proofs
def tab : List (Nat × TI) := [(2, ⟨.int .i64, 1, 8, [.lit (.int .i64 0)]⟩),
  (3, ⟨.int .i64, 1, 8, [.lit (.int .i64 0)]⟩),
  (4, ⟨.bool, 1, 1, [.lit (.bool false)]⟩),
  (5, ⟨.int .u8, 1, 1, [.lit (.int .u8 0)]⟩),
  (23, ⟨.sl 3, 1, 24, [.sl true 1 []]⟩),
  (27, ⟨.sl 56, 1, 24, [.sl true 3 []]⟩),
  (29, ⟨.st [(0, 1, 27), (1, 1, 23)], 2, 48, [.sl true 3 [], .sl true 1 []]⟩),
  (36, ⟨.sl 5, 1, 24, [.sl true 1 []]⟩),
  (56, ⟨.st [(0, 1, 3), (1, 1, 3), (2, 1, 3)], 3, 24, [.lit (.int .i64 0), .lit (.int .i64 0), .lit (.int .i64 0)]⟩),
  (136, ⟨.int .u64, 1, 8, [.lit (.int .u64 0)]⟩),
  (176, ⟨.st [(0, 1, 36), (1, 1, 3), (2, 1, 3)], 3, 40, [.sl true 1 [], .lit (.int .i64 0), .lit (.int .i64 0)]⟩)]
theorem mixed : Try.prog.follows .mixedOrders = true := by kernel_rfl
theorem tOk : TOk Try.prog (lk tab) := tok_of (by kernel_rfl)

structure Src where
  b : (List Int)
  i : Int
  h : Int
def Src.row (v : Src) : List CV := [.sl true 1 (v.b.map byteRow), .lit (.int .i64 v.i), .lit (.int .i64 v.h)]
def Src.wf (v : Src) : Prop := listWf byteWf v.b ∧ intWf v.i ∧ intWf v.h ∧ True
theorem Src.enc : Enc Src [.sl 1 [.int .u8], .int .i64, .int .i64] Src.row Src.wf := fun cs h => by
  obtain ⟨c0, r0, rfl, k0, h⟩ := fitR_cons h
  obtain ⟨c1, r1, rfl, k1, h⟩ := fitR_cons h
  obtain ⟨c2, r2, rfl, k2, h⟩ := fitR_cons h
  obtain rfl := fitR_nil h
  obtain ⟨x0, rfl, w0⟩ := Enc.sl encByte k0
  obtain ⟨x1, rfl, w1⟩ := fitC_int k1
  obtain ⟨x2, rfl, w2⟩ := fitC_int k2
  exact ⟨⟨x0, x1, x2⟩, rfl, ⟨w0, w1, w2, trivial⟩⟩
theorem Src.row_mine (v : Src) : CV.mineRow (Src.row v) := mine_cons (mine_sl (mine_map byteRow_mine _)) (mine_cons mine_lit (mine_cons mine_lit (mine_nil)))

structure Vrow where
  Id : Int
  Members : Int
  Bare : Int
def Vrow.row (v : Vrow) : List CV := [.lit (.int .i64 v.Id), .lit (.int .i64 v.Members), .lit (.int .i64 v.Bare)]
def Vrow.wf (v : Vrow) : Prop := intWf v.Id ∧ intWf v.Members ∧ intWf v.Bare ∧ True
theorem Vrow.enc : Enc Vrow [.int .i64, .int .i64, .int .i64] Vrow.row Vrow.wf := fun cs h => by
  obtain ⟨c0, r0, rfl, k0, h⟩ := fitR_cons h
  obtain ⟨c1, r1, rfl, k1, h⟩ := fitR_cons h
  obtain ⟨c2, r2, rfl, k2, h⟩ := fitR_cons h
  obtain rfl := fitR_nil h
  obtain ⟨x0, rfl, w0⟩ := fitC_int k0
  obtain ⟨x1, rfl, w1⟩ := fitC_int k1
  obtain ⟨x2, rfl, w2⟩ := fitC_int k2
  exact ⟨⟨x0, x1, x2⟩, rfl, ⟨w0, w1, w2, trivial⟩⟩
theorem Vrow.row_mine (v : Vrow) : CV.mineRow (Vrow.row v) := mine_cons mine_lit (mine_cons mine_lit (mine_cons mine_lit (mine_nil)))

structure Vtab where
  Rows : (List Vrow)
  Pvid : (List Int)
def Vtab.row (v : Vtab) : List CV := [.sl true 3 (v.Rows.map Vrow.row), .sl true 1 (v.Pvid.map intRow)]
def Vtab.wf (v : Vtab) : Prop := listWf Vrow.wf v.Rows ∧ listWf intWf v.Pvid ∧ True
theorem Vtab.enc : Enc Vtab [.sl 3 [.int .i64, .int .i64, .int .i64], .sl 1 [.int .i64]] Vtab.row Vtab.wf := fun cs h => by
  obtain ⟨c0, r0, rfl, k0, h⟩ := fitR_cons h
  obtain ⟨c1, r1, rfl, k1, h⟩ := fitR_cons h
  obtain rfl := fitR_nil h
  obtain ⟨x0, rfl, w0⟩ := Enc.sl Vrow.enc k0
  obtain ⟨x1, rfl, w1⟩ := Enc.sl encInt k1
  exact ⟨⟨x0, x1⟩, rfl, ⟨w0, w1, trivial⟩⟩
theorem Vtab.row_mine (v : Vtab) : CV.mineRow (Vtab.row v) := mine_cons (mine_sl (mine_map Vrow.row_mine _)) (mine_cons (mine_sl (mine_map intRow_mine _)) (mine_nil))

def laws_bigF (n : Nat) (x0 : (List Int)) : Option (Bool) :=
  (some (decide ((x0.length : Int) > 1048576)))
/-- loop.example/g00326/laws.big -/
theorem laws_big (n : Nat) (x0 : (List Int)) (r : Bool) (H : laws_bigF n x0 = some r) : LCall Try.prog 22 [.val false [.sl false 1 (CV.frzEs (x0.map byteRow))]] [.val false [.lit (.bool r)]] [] := by
  refine LCall.of_body tOk Try.func22 rfl (c := (.seq (Rg Try.f22 0) (.seq (Rg Try.f22 1) .ret))) kr (Nat.le_of_ble_eq_true kr) 0 (rs := [.tmp 2]) rfl [] .nil [(false, [.lit (.bool r)])] [] [] fun cx => ?_
  show Tr _ _ _ ⟨6, 0, [sC 0 (cF 1 x0 byteRow)], []⟩ _
  unfold laws_bigF at H
  refine Tr.rgn tOk 1 5 0 kr kr ?_
  refine Tr.rs ?_
  refine LAt.runU tOk 1 kr ?_
  refine LAt.lenE tOk (t := 36) (ty := 3) (e := 5) (x := (.tmp 3)) (d := 4) (g := none) ⟨(.slot 3), [], 0, false, 1, (CV.frzEs (x0.map byteRow))⟩ (x0).length _ kr kr kr kr kr (frz_len _ _) rfl ?_
  refine LAt.runU tOk 2 kr ?_
  refine LAt.doneM 4 0 kr ?_
  refine Tr.ret ?_
  have H := Option.some.inj H
  subst H
  exact Fin.of _ [(false, [cB (decide ((x0.length : Int) > 1048576))])] kr rfl rfl

def spec_l1New_J1 (n : Nat) (x0 : (List Int)) (y3 : Int) : Option (Src) :=
  (some (⟨x0, 0, y3⟩ : Src))
def spec_l1New_L2 (n : Nat) : Nat → (List Int) → Int → Int → Option ((Int) ⊕ (Src))
  | 0, _, _, _ => none
  | mo4 + 1, x0, y1, y2 => (bif (decide (y1 < (x0.length : Int))) then (bif (decide (y1 < 4000)) then ((idx x0 y1).bind fun v5 => (spec_l1New_L2 n mo4 x0 (IntKind.wrap .i64 (y1 + 1)) (IntKind.wrap .i64 (BitVec.ofInt (IntKind.bits .i64) (IntKind.wrap .i64 ((IntKind.wrap .i64 ((IntKind.wrap .i64 (y2 * 137)) + (IntKind.wrap .i64 v5))) + 11)) &&& BitVec.ofInt (IntKind.bits .i64) 1073741823).toNat))) else (some (Sum.inl y2))) else (some (Sum.inl y2)))
def spec_l1NewF (n : Nat) (x0 : (List Int)) : Option (Src) :=
  ((spec_l1New_L2 n n x0 0 (IntKind.wrap .i64 (762762 + (x0.length : Int)))).bind fun o => match o with | .inl y3 => (spec_l1New_J1 n x0 y3) | .inr r => some r)
/-- loop.example/g00326/spec.l1New -/
theorem spec_l1New (n : Nat) (x0 : (List Int)) (r : Src) (H : spec_l1NewF n x0 = some r) : LCall Try.prog 90 [.val false [.sl false 1 (CV.frzEs (x0.map byteRow))]] [.ptr (CV.frzRow (Src.row r))] [] := by
  refine LCall.of_body_ptr tOk Try.func90 rfl (c := (.seq (Rg Try.f90 0) (.seq (Rg Try.f90 1) (.seq (.seq (Rg Try.f90 2) (.block 0 (.loop (.seq (.seq (Rg Try.f90 3) (.cond (.tmp 15) .skip (.exit 0))) (.seq (.block 1 (Rg Try.f90 5)) (Rg Try.f90 4)))))) (.seq (Rg Try.f90 6) .ret))))) kr (Nat.le_of_ble_eq_true kr) 2 31 rfl (CV.frzRow (Src.row r)) fun cx => ?_
  show Tr _ _ _ ⟨32, 0, [sC 0 (cF 1 x0 byteRow)], []⟩ _
  unfold spec_l1NewF at H
  refine Tr.rgn tOk 1 5 0 kr kr ?_
  refine Tr.rs ?_
  refine LAt.runU tOk 1 kr ?_
  refine LAt.lenE tOk (t := 36) (ty := 3) (e := 5) (x := (.tmp 5)) (d := 6) (g := none) ⟨(.slot 5), [], 0, false, 1, (CV.frzEs (x0.map byteRow))⟩ (x0).length _ kr kr kr kr kr (frz_len _ _) rfl ?_
  refine LAt.runU tOk 2 kr ?_
  refine LAt.doneM 13 0 kr ?_
  refine Tr.seq ?_
  refine Tr.rgn tOk 1 29 0 kr kr ?_
  obtain ⟨o4, eo4, Ho4⟩ := bind_some H
  clear H
  refine Tr.mid (ι := Int) (fun v => ⟨32, 0, [sI 3 v, sC 2 (.lit (.pointer none)), sC 0 (cF 1 x0 byteRow)], []⟩) (fun v => spec_l1New_J1 n x0 v = some r) ?_ ?_
  · refine Tr.block ?_
    refine Tr.loop (ι := Nat × (Int × Int)) (fun v => ⟨32, 0, [sI 4 v.2.1, sI 3 v.2.2, sC 2 (.lit (.pointer none)), sC 0 (cF 1 x0 byteRow)], []⟩) (fun v => spec_l1New_L2 n v.1 x0 v.2.1 v.2.2 = some o4) (fun v => v.1) (n, (0, (IntKind.wrap .i64 (762762 + (x0.length : Int))))) eo4 (St.sub_of [4, 3, 2, 0] [] kr) ?_
    rintro ⟨mo4, y1, y2⟩ H
    have H : spec_l1New_L2 n mo4 x0 y1 y2 = some o4 := H
    obtain _ | mo4 := mo4
    · cases (show (none : Option _) = some o4 from H)
    rw [spec_l1New_L2] at H
    refine Tr.seq ?_
    refine Tr.rs ?_
    refine LAt.runU tOk 2 kr ?_
    refine LAt.lenE tOk (t := 36) (ty := 3) (e := 5) (x := (.tmp 9)) (d := 10) (g := none) ⟨(.slot 9), [], 0, false, 1, (CV.frzEs (x0.map byteRow))⟩ (x0).length _ kr kr kr kr kr (frz_len _ _) rfl ?_
    refine LAt.runU tOk 2 kr ?_
    refine LAt.to ⟨32, 0, [sB 12 (decide (y1 < (x0.length : Int))), sB 11 (decide (y1 < (x0.length : Int))), sI 10 (x0.length : Int), sC 9 (cF 1 x0 byteRow), sI 8 y1, sI 4 y1, sI 3 y2, sC 2 (.lit (.pointer none)), sC 0 (cF 1 x0 byteRow)], []⟩ kr ?_
    cases h1 : (decide (y1 < (x0.length : Int)))
    · have H := bifF h1 H
      refine LAt.runU tOk 3 kr ?_
      refine LAt.doneM 65309 0 kr ?_
      refine Tr.cf kr ?_
      refine Tr.exit ?_
      refine And.intro (fun _ => ?_) (fun h => absurd rfl h)
      have H := Option.some.inj H
      subst H
      have H := Ho4
      dsimp only at H
      exact Exists.intro y2 (And.intro H (St.sub_of [3, 2, 0] [] kr))
    have H := bifT h1 H
    refine LAt.runU tOk 3 kr ?_
    refine LAt.doneM 65309 0 kr ?_
    refine Tr.to ⟨32, 0, [sB 15 (decide (y1 < 4000)), sB 14 (decide (y1 < 4000)), sI 13 y1, sB 12 true, sB 11 true, sI 10 (x0.length : Int), sC 9 (cF 1 x0 byteRow), sI 8 y1, sI 4 y1, sI 3 y2, sC 2 (.lit (.pointer none)), sC 0 (cF 1 x0 byteRow)], []⟩ kr ?_
    cases h2 : (decide (y1 < 4000))
    · have H := bifF h2 H
      refine Tr.cf kr ?_
      refine Tr.exit ?_
      refine And.intro (fun _ => ?_) (fun h => absurd rfl h)
      have H := Option.some.inj H
      subst H
      have H := Ho4
      dsimp only at H
      exact Exists.intro y2 (And.intro H (St.sub_of [3, 2, 0] [] kr))
    have H := bifT h2 H
    refine Tr.ct kr ?_
    refine Tr.skip ?_
    show Tr _ _ _ _ _
    refine Tr.seq ?_
    refine Tr.block ?_
    refine Tr.at ?_
    refine LAt.runU tOk 4 kr ?_
    obtain ⟨v5, ev5, H⟩ := bind_some H
    refine LAt.indexF tOk (t := 36) (ty := 0) (x := (.tmp 20)) (y := (.tmp 21)) (d := 22) (g := none) ⟨(.slot 20), [], 0, false, 1, (CV.frzEs (x0.map byteRow))⟩ y1 [.lit (.int .u8 v5)] _ kr kr kr kr rfl (idx_isF ev5) rfl ?_
    refine LAt.runU tOk 6 kr ?_
    refine LAt.doneM 268238621 0 kr ?_
    show Tr _ _ _ _ _
    refine Tr.rgE tOk 3 268435229 0 kr kr ?_
    exact Exists.intro (mo4, ((IntKind.wrap .i64 (y1 + 1)), (IntKind.wrap .i64 (BitVec.ofInt (IntKind.bits .i64) (IntKind.wrap .i64 ((IntKind.wrap .i64 ((IntKind.wrap .i64 (y2 * 137)) + (IntKind.wrap .i64 v5))) + 11)) &&& BitVec.ofInt (IntKind.bits .i64) 1073741823).toNat))) (And.intro H (And.intro (Nat.lt_succ_self mo4) (St.sub_of [4, 3, 2, 0] [] kr)))
  rintro y3 H
  have H : (spec_l1New_J1 n x0 y3) = some r := H
  unfold spec_l1New_J1 at H
  show Tr _ _ _ _ _
  refine Tr.rgn tOk 5 4 2147483648 kr kr ?_
  refine Tr.ret ?_
  have H := Option.some.inj H
  subst H
  exact And.intro kr kr

def spec_l1ByteF (n : Nat) (x0 : Src) : Option (Int × Src) :=
  (bif (decide ((0 : Int) ≤ 33)) then (bif (decide ((0 : Int) ≤ 47)) then (bif (decide (x0.i < (x0.b.length : Int))) then ((idx x0.b x0.i).bind fun v3 => (some ((IntKind.wrap .i64 (BitVec.ofInt (IntKind.bits .i64) (IntKind.wrap .i64 ((IntKind.wrap .i64 (BitVec.ofInt (IntKind.bits .i64) (IntKind.wrap .i64 (BitVec.ofInt (IntKind.bits .i64) (Int.fdiv (IntKind.wrap .i64 ((IntKind.wrap .i64 (x0.h * 6364136223846793005)) + 1442695040888963407)) (2 ^ min ((33 : Int)).toNat (IntKind.bits .i64))) ^^^ BitVec.ofInt (IntKind.bits .i64) (Int.fdiv (IntKind.wrap .i64 ((IntKind.wrap .i64 (x0.h * 6364136223846793005)) + 1442695040888963407)) (2 ^ min ((47 : Int)).toNat (IntKind.bits .i64)))).toNat) &&& BitVec.ofInt (IntKind.bits .i64) 255).toNat) + (IntKind.wrap .i64 v3))) &&& BitVec.ofInt (IntKind.bits .i64) 255).toNat), (⟨x0.b, (IntKind.wrap .i64 (x0.i + 1)), (IntKind.wrap .i64 ((IntKind.wrap .i64 (x0.h * 6364136223846793005)) + 1442695040888963407))⟩ : Src)))) else (some ((IntKind.wrap .i64 (BitVec.ofInt (IntKind.bits .i64) (IntKind.wrap .i64 (BitVec.ofInt (IntKind.bits .i64) (Int.fdiv (IntKind.wrap .i64 ((IntKind.wrap .i64 (x0.h * 6364136223846793005)) + 1442695040888963407)) (2 ^ min ((33 : Int)).toNat (IntKind.bits .i64))) ^^^ BitVec.ofInt (IntKind.bits .i64) (Int.fdiv (IntKind.wrap .i64 ((IntKind.wrap .i64 (x0.h * 6364136223846793005)) + 1442695040888963407)) (2 ^ min ((47 : Int)).toNat (IntKind.bits .i64)))).toNat) &&& BitVec.ofInt (IntKind.bits .i64) 255).toNat), (⟨x0.b, x0.i, (IntKind.wrap .i64 ((IntKind.wrap .i64 (x0.h * 6364136223846793005)) + 1442695040888963407))⟩ : Src)))) else none) else none)
/-- loop.example/g00326/spec.l1Byte -/
theorem spec_l1Byte (n : Nat) (x0 : Src) (r : Int × Src) (H : spec_l1ByteF n x0 = some r) : LCall Try.prog 150 [.ptr (CV.frzRow (Src.row x0))] [.val false [.lit (.int .i64 r.1)]] [(0, (CV.frzRow (Src.row r.2)))] := by
  refine LCall.of_body tOk Try.func150 rfl (c := (.seq (Rg Try.f150 0) (.seq (Rg Try.f150 1) (.seq (Rd Try.f150 2) (.seq (.seq (Rd Try.f150 3) (.cond (.tmp 34) (.seq (Rd Try.f150 4) (Rg Try.f150 5)) .skip)) (.seq (Rg Try.f150 6) .ret)))))) kr (Nat.le_of_ble_eq_true kr) 1 (rs := [.tmp 2]) rfl [] .nil [(false, [.lit (.int .i64 r.1)])] [] [(0, (CV.frzRow (Src.row r.2)))] fun cx => ?_
  show Tr _ _ _ ⟨58, 1, [sA 0 0 3 0], [(0, (CV.frzRow (Src.row x0)))]⟩ _
  unfold spec_l1ByteF at H
  refine Tr.rgn tOk 1 5 1 kr kr ?_
  refine Tr.rgn tOk 10 5 1 kr kr ?_
  obtain ⟨hg1, H⟩ := guard_some H
  obtain ⟨hg2, H⟩ := guard_some H
  refine Tr.draws mixed 13 kr ⟨58, 1, [sI 3 (IntKind.wrap .i64 (BitVec.ofInt (IntKind.bits .i64) (IntKind.wrap .i64 (BitVec.ofInt (IntKind.bits .i64) (Int.fdiv (IntKind.wrap .i64 ((IntKind.wrap .i64 (x0.h * 6364136223846793005)) + 1442695040888963407)) (2 ^ min ((33 : Int)).toNat (IntKind.bits .i64))) ^^^ BitVec.ofInt (IntKind.bits .i64) (Int.fdiv (IntKind.wrap .i64 ((IntKind.wrap .i64 (x0.h * 6364136223846793005)) + 1442695040888963407)) (2 ^ min ((47 : Int)).toNat (IntKind.bits .i64)))).toNat) &&& BitVec.ofInt (IntKind.bits .i64) 255).toNat), sI 2 0, sA 0 0 3 0], [(0, [cF 1 x0.b byteRow, cI x0.i, cI (IntKind.wrap .i64 ((IntKind.wrap .i64 (x0.h * 6364136223846793005)) + 1442695040888963407))])]⟩ (fun cx => ?_) ?_
  · refine AT.runU tOk [(0, []), (1, []), (2, []), (3, [4]), (5, []), (6, []), (7, []), (8, [9])] 5 [⟨[9], 3, 20, 21⟩, ⟨[4], 3, 15, 16⟩] [8, 7, 6, 5, 3, 2, 1, 0] rfl kr (fun cx => ?_)
    refine AT.big2 tOk 4 9 kr (And.intro kr ?_) (And.intro kr ?_)
    · refine LAt.binC tOk (op := .shr) (t := 3) (ty := 136) (ty' := 3) (x := (.tmp 16)) (y := (.const (.int .u64 33))) (d := 17) (g := none) (.int .i64 (IntKind.wrap .i64 ((IntKind.wrap .i64 (x0.h * 6364136223846793005)) + 1442695040888963407))) (.int .u64 33) (.int .i64 (Int.fdiv (IntKind.wrap .i64 ((IntKind.wrap .i64 (x0.h * 6364136223846793005)) + 1442695040888963407)) (2 ^ min ((33 : Int)).toNat (IntKind.bits .i64)))) _ kr kr kr kr kr (φ := (0 : Int) ≤ 33) kr (of_decide_eq_true hg1) rfl ?_
      refine LAt.fin kr (And.intro (And.intro kr kr) ?_)
      refine AT.big1 tOk 9 kr kr ?_
      refine LAt.binC tOk (op := .shr) (t := 3) (ty := 136) (ty' := 3) (x := (.tmp 21)) (y := (.const (.int .u64 47))) (d := 22) (g := none) (.int .i64 (IntKind.wrap .i64 ((IntKind.wrap .i64 (x0.h * 6364136223846793005)) + 1442695040888963407))) (.int .u64 47) (.int .i64 (Int.fdiv (IntKind.wrap .i64 ((IntKind.wrap .i64 (x0.h * 6364136223846793005)) + 1442695040888963407)) (2 ^ min ((47 : Int)).toNat (IntKind.bits .i64)))) _ kr kr kr kr kr (φ := (0 : Int) ≤ 47) kr (of_decide_eq_true hg2) rfl ?_
      refine LAt.fin kr (And.intro (And.intro kr kr) ?_)
      refine AT.runU tOk [(10, []), (11, []), (12, [])] 0 [⟨[9], 3, 20, 21⟩, ⟨[4], 3, 15, 16⟩] [12, 11, 10, 9, 4, 8, 7, 6, 5, 3, 2, 1, 0] rfl kr (fun cx => ?_)
      exact AT.done [3, 2, 0] [0] _ kr kr rfl
    · refine LAt.binC tOk (op := .shr) (t := 3) (ty := 136) (ty' := 3) (x := (.tmp 21)) (y := (.const (.int .u64 47))) (d := 22) (g := none) (.int .i64 (IntKind.wrap .i64 ((IntKind.wrap .i64 (x0.h * 6364136223846793005)) + 1442695040888963407))) (.int .u64 47) (.int .i64 (Int.fdiv (IntKind.wrap .i64 ((IntKind.wrap .i64 (x0.h * 6364136223846793005)) + 1442695040888963407)) (2 ^ min ((47 : Int)).toNat (IntKind.bits .i64)))) _ kr kr kr kr kr (φ := (0 : Int) ≤ 47) kr (of_decide_eq_true hg2) rfl ?_
      refine LAt.fin kr (And.intro (And.intro kr kr) ?_)
      refine AT.big1 tOk 4 kr kr ?_
      refine LAt.binC tOk (op := .shr) (t := 3) (ty := 136) (ty' := 3) (x := (.tmp 16)) (y := (.const (.int .u64 33))) (d := 17) (g := none) (.int .i64 (IntKind.wrap .i64 ((IntKind.wrap .i64 (x0.h * 6364136223846793005)) + 1442695040888963407))) (.int .u64 33) (.int .i64 (Int.fdiv (IntKind.wrap .i64 ((IntKind.wrap .i64 (x0.h * 6364136223846793005)) + 1442695040888963407)) (2 ^ min ((33 : Int)).toNat (IntKind.bits .i64)))) _ kr kr kr kr kr (φ := (0 : Int) ≤ 33) kr (of_decide_eq_true hg1) rfl ?_
      refine LAt.fin kr (And.intro (And.intro kr kr) ?_)
      refine AT.runU tOk [(10, []), (11, []), (12, [])] 0 [⟨[9], 3, 20, 21⟩, ⟨[4], 3, 15, 16⟩] [12, 11, 10, 4, 9, 8, 7, 6, 5, 3, 2, 1, 0] rfl kr (fun cx => ?_)
      exact AT.done [3, 2, 0] [0] _ kr kr rfl
  refine Tr.seq ?_
  refine Tr.draws mixed 10 kr ⟨58, 1, [sB 34 (decide (x0.i < (x0.b.length : Int))), sI 3 (IntKind.wrap .i64 (BitVec.ofInt (IntKind.bits .i64) (IntKind.wrap .i64 (BitVec.ofInt (IntKind.bits .i64) (Int.fdiv (IntKind.wrap .i64 ((IntKind.wrap .i64 (x0.h * 6364136223846793005)) + 1442695040888963407)) (2 ^ min ((33 : Int)).toNat (IntKind.bits .i64))) ^^^ BitVec.ofInt (IntKind.bits .i64) (Int.fdiv (IntKind.wrap .i64 ((IntKind.wrap .i64 (x0.h * 6364136223846793005)) + 1442695040888963407)) (2 ^ min ((47 : Int)).toNat (IntKind.bits .i64)))).toNat) &&& BitVec.ofInt (IntKind.bits .i64) 255).toNat), sI 2 0, sA 0 0 3 0], [(0, [cF 1 x0.b byteRow, cI x0.i, cI (IntKind.wrap .i64 ((IntKind.wrap .i64 (x0.h * 6364136223846793005)) + 1442695040888963407))])]⟩ (fun cx => ?_) ?_
  · refine AT.runU tOk [(0, []), (1, []), (2, []), (3, []), (4, []), (5, []), (6, []), (7, [])] 2 [⟨[], 36, 31, 32⟩, ⟨[], 3, 27, 28⟩] [7, 6, 5, 4, 3, 2, 1, 0] rfl kr (fun cx => ?_)
    refine AT.lenE tOk 8 (t := 36) (ty := 3) (e := 5) (x := (.tmp 32)) (d := 33) (g := none) ⟨(.box 0), [(0, 0)], 0, false, 1, (CV.frzEs (x0.b.map byteRow))⟩ (x0.b).length _ kr kr kr kr kr kr kr (frz_len _ _) rfl (fun cx => ?_)
    refine AT.runU tOk [(9, [])] 0 [⟨[], 36, 31, 32⟩, ⟨[], 3, 27, 28⟩] [9, 8, 7, 6, 5, 4, 3, 2, 1, 0] rfl kr (fun cx => ?_)
    exact AT.done [34, 3, 2, 0] [0] _ kr kr rfl
  refine Tr.to ⟨58, 1, [sB 34 (decide (x0.i < (x0.b.length : Int))), sI 3 (IntKind.wrap .i64 (BitVec.ofInt (IntKind.bits .i64) (IntKind.wrap .i64 (BitVec.ofInt (IntKind.bits .i64) (Int.fdiv (IntKind.wrap .i64 ((IntKind.wrap .i64 (x0.h * 6364136223846793005)) + 1442695040888963407)) (2 ^ min ((33 : Int)).toNat (IntKind.bits .i64))) ^^^ BitVec.ofInt (IntKind.bits .i64) (Int.fdiv (IntKind.wrap .i64 ((IntKind.wrap .i64 (x0.h * 6364136223846793005)) + 1442695040888963407)) (2 ^ min ((47 : Int)).toNat (IntKind.bits .i64)))).toNat) &&& BitVec.ofInt (IntKind.bits .i64) 255).toNat), sI 2 0, sA 0 0 3 0], [(0, [cF 1 x0.b byteRow, cI x0.i, cI (IntKind.wrap .i64 ((IntKind.wrap .i64 (x0.h * 6364136223846793005)) + 1442695040888963407))])]⟩ kr ?_
  cases h1 : (decide (x0.i < (x0.b.length : Int)))
  · have H := bifF h1 H
    refine Tr.cf kr ?_
    refine Tr.skip ?_
    show Tr _ _ _ _ _
    refine Tr.rgn tOk 2 5 1 kr kr ?_
    refine Tr.ret ?_
    have H := Option.some.inj H
    subst H
    exact Fin.ofY _ [(false, [cI (IntKind.wrap .i64 (BitVec.ofInt (IntKind.bits .i64) (IntKind.wrap .i64 (BitVec.ofInt (IntKind.bits .i64) (Int.fdiv (IntKind.wrap .i64 ((IntKind.wrap .i64 (x0.h * 6364136223846793005)) + 1442695040888963407)) (2 ^ min ((33 : Int)).toNat (IntKind.bits .i64))) ^^^ BitVec.ofInt (IntKind.bits .i64) (Int.fdiv (IntKind.wrap .i64 ((IntKind.wrap .i64 (x0.h * 6364136223846793005)) + 1442695040888963407)) (2 ^ min ((47 : Int)).toNat (IntKind.bits .i64)))).toNat) &&& BitVec.ofInt (IntKind.bits .i64) 255).toNat)])] [] _ [] _ [(0, [cF 1 x0.b byteRow, cI x0.i, cI (IntKind.wrap .i64 ((IntKind.wrap .i64 (x0.h * 6364136223846793005)) + 1442695040888963407))])] kr rfl rfl rfl kr kr kr kr rfl rfl rfl
  have H := bifT h1 H
  refine Tr.ct kr ?_
  obtain ⟨v3, ev3, H⟩ := bind_some H
  refine Tr.draws mixed 15 kr ⟨58, 1, [sI 3 (IntKind.wrap .i64 (BitVec.ofInt (IntKind.bits .i64) (IntKind.wrap .i64 ((IntKind.wrap .i64 (BitVec.ofInt (IntKind.bits .i64) (IntKind.wrap .i64 (BitVec.ofInt (IntKind.bits .i64) (Int.fdiv (IntKind.wrap .i64 ((IntKind.wrap .i64 (x0.h * 6364136223846793005)) + 1442695040888963407)) (2 ^ min ((33 : Int)).toNat (IntKind.bits .i64))) ^^^ BitVec.ofInt (IntKind.bits .i64) (Int.fdiv (IntKind.wrap .i64 ((IntKind.wrap .i64 (x0.h * 6364136223846793005)) + 1442695040888963407)) (2 ^ min ((47 : Int)).toNat (IntKind.bits .i64)))).toNat) &&& BitVec.ofInt (IntKind.bits .i64) 255).toNat) + (IntKind.wrap .i64 v3))) &&& BitVec.ofInt (IntKind.bits .i64) 255).toNat), sI 2 0, sA 0 0 3 0], [(0, [cF 1 x0.b byteRow, cI x0.i, cI (IntKind.wrap .i64 ((IntKind.wrap .i64 (x0.h * 6364136223846793005)) + 1442695040888963407))])]⟩ (fun cx => ?_) ?_
  · refine AT.runU tOk [(0, []), (1, []), (2, []), (3, []), (4, []), (5, []), (6, []), (7, []), (8, [])] 6 [⟨[], 3, 42, 43⟩, ⟨[], 36, 38, 39⟩] [8, 7, 6, 5, 4, 3, 2, 1, 0] rfl kr (fun cx => ?_)
    refine AT.indexF tOk 9 (t := 36) (ty := 0) (x := (.tmp 39)) (y := (.tmp 43)) (d := 44) (g := none) ⟨(.box 0), [(0, 0)], 0, false, 1, (CV.frzEs (x0.b.map byteRow))⟩ x0.i [.lit (.int .u8 v3)] _ kr kr kr kr kr kr rfl (idx_isF ev3) rfl (fun cx => ?_)
    refine AT.runU tOk [(10, []), (11, []), (12, []), (13, []), (14, [])] 0 [⟨[], 3, 42, 43⟩, ⟨[], 36, 38, 39⟩] [14, 13, 12, 11, 10, 9, 8, 7, 6, 5, 4, 3, 2, 1, 0] rfl kr (fun cx => ?_)
    exact AT.done [3, 2, 0] [0] _ kr kr rfl
  refine Tr.rgE tOk 9 13 1 kr kr ?_
  show Tr _ _ _ _ _
  refine Tr.rgn tOk 2 5 1 kr kr ?_
  refine Tr.ret ?_
  have H := Option.some.inj H
  subst H
  exact Fin.ofY _ [(false, [cI (IntKind.wrap .i64 (BitVec.ofInt (IntKind.bits .i64) (IntKind.wrap .i64 ((IntKind.wrap .i64 (BitVec.ofInt (IntKind.bits .i64) (IntKind.wrap .i64 (BitVec.ofInt (IntKind.bits .i64) (Int.fdiv (IntKind.wrap .i64 ((IntKind.wrap .i64 (x0.h * 6364136223846793005)) + 1442695040888963407)) (2 ^ min ((33 : Int)).toNat (IntKind.bits .i64))) ^^^ BitVec.ofInt (IntKind.bits .i64) (Int.fdiv (IntKind.wrap .i64 ((IntKind.wrap .i64 (x0.h * 6364136223846793005)) + 1442695040888963407)) (2 ^ min ((47 : Int)).toNat (IntKind.bits .i64)))).toNat) &&& BitVec.ofInt (IntKind.bits .i64) 255).toNat) + (IntKind.wrap .i64 v3))) &&& BitVec.ofInt (IntKind.bits .i64) 255).toNat)])] [] _ [] _ [(0, [cF 1 x0.b byteRow, cI (IntKind.wrap .i64 (x0.i + 1)), cI (IntKind.wrap .i64 ((IntKind.wrap .i64 (x0.h * 6364136223846793005)) + 1442695040888963407))])] kr rfl rfl rfl kr kr kr kr rfl rfl rfl

def spec_l1BelowF (n : Nat) (x0 : Src) (x1 : Int) : Option (Int × Src) :=
  (bif (decide (x1 ≤ 0)) then (some (0, x0)) else (bif (decide (x1 ≤ 256)) then ((spec_l1ByteF n x0).bind fun r5 => (bif (decide ((x1 : Int) ≠ 0)) then (some ((Int.tmod r5.1 x1), r5.2)) else none)) else ((spec_l1ByteF n x0).bind fun r1 => ((spec_l1ByteF n r1.2).bind fun r2 => ((spec_l1ByteF n r2.2).bind fun r3 => (bif (decide ((x1 : Int) ≠ 0)) then (some ((Int.tmod (IntKind.wrap .i64 ((IntKind.wrap .i64 ((IntKind.wrap .i64 (r1.1 * 65536)) + (IntKind.wrap .i64 (r2.1 * 256)))) + r3.1)) x1), r3.2)) else none))))))
/-- loop.example/g00326/spec.l1Below -/
theorem spec_l1Below (n : Nat) (x0 : Src) (x1 : Int) (r : Int × Src) (H : spec_l1BelowF n x0 x1 = some r) : LCall Try.prog 97 [.ptr (CV.frzRow (Src.row x0)), .val false [.lit (.int .i64 x1)]] [.val false [.lit (.int .i64 r.1)]] [(0, (CV.frzRow (Src.row r.2)))] := by
  refine LCall.of_body tOk Try.func97 rfl (c := (.seq (Rg Try.f97 0) (.seq (.seq (Rg Try.f97 1) (.cond (.tmp 9) (.seq (Rg Try.f97 2) .ret) .skip)) (.seq (.seq (Rg Try.f97 3) (.cond (.tmp 11) (.seq (Rg Try.f97 4) .ret) .skip)) (.seq (Rg Try.f97 5) (.seq (Rg Try.f97 6) (.seq (Rg Try.f97 7) (.seq (Rg Try.f97 8) .ret)))))))) kr (Nat.le_of_ble_eq_true kr) 1 (rs := [.tmp 4]) rfl [] .nil [(false, [.lit (.int .i64 r.1)])] [] [(0, (CV.frzRow (Src.row r.2)))] fun cx => ?_
  show Tr _ _ _ ⟨31, 1, [sA 0 0 3 0, sI 1 x1], [(0, (CV.frzRow (Src.row x0)))]⟩ _
  unfold spec_l1BelowF at H
  refine Tr.rgn tOk 1 19 1 kr kr ?_
  refine Tr.seq ?_
  refine Tr.rgn tOk 2 531 1 kr kr ?_
  cases h1 : (decide (x1 ≤ 0))
  · have H := bifF h1 H
    refine Tr.cF h1 kr ?_
    refine Tr.skip ?_
    show Tr _ _ _ _ _
    refine Tr.seq ?_
    refine Tr.rgn tOk 2 2067 1 kr kr ?_
    cases h2 : (decide (x1 ≤ 256))
    · have H := bifF h2 H
      refine Tr.cF h2 kr ?_
      refine Tr.skip ?_
      show Tr _ _ _ _ _
      refine Tr.rs ?_
      refine LAt.runU tOk 1 kr ?_
      obtain ⟨r1, er1, H⟩ := bind_some H
      refine LAt.callL tOk [.lend] (f := 150) (av := #[.tmp 16]) (ats := #[126]) (d := (some 17)) (ty := 3) (g := none) kr kr kr [] (spec_l1Byte n x0 r1 er1) kr (.inl rfl) ?_
      refine LAt.runU tOk 1 kr ?_
      refine LAt.doneM 51 1 kr ?_
      refine Tr.rs ?_
      refine LAt.runU tOk 1 kr ?_
      obtain ⟨r2, er2, H⟩ := bind_some H
      refine LAt.callL tOk [.lend] (f := 150) (av := #[.tmp 18]) (ats := #[126]) (d := (some 19)) (ty := 3) (g := none) kr kr kr [] (spec_l1Byte n r1.2 r2 er2) kr (.inl rfl) ?_
      refine LAt.runU tOk 1 kr ?_
      refine LAt.doneM 115 1 kr ?_
      refine Tr.rs ?_
      refine LAt.runU tOk 1 kr ?_
      obtain ⟨r3, er3, H⟩ := bind_some H
      refine LAt.callL tOk [.lend] (f := 150) (av := #[.tmp 20]) (ats := #[126]) (d := (some 21)) (ty := 3) (g := none) kr kr kr [] (spec_l1Byte n r2.2 r3 er3) kr (.inl rfl) ?_
      refine LAt.runU tOk 1 kr ?_
      refine LAt.doneM 243 1 kr ?_
      refine Tr.rs ?_
      refine LAt.runU tOk 8 kr ?_
      obtain ⟨hg4, H⟩ := guard_some H
      refine LAt.binC tOk (op := .rem) (t := 3) (ty := 3) (ty' := 3) (x := (.tmp 28)) (y := (.tmp 29)) (d := 30) (g := none) (.int .i64 (IntKind.wrap .i64 ((IntKind.wrap .i64 ((IntKind.wrap .i64 (r1.1 * 65536)) + (IntKind.wrap .i64 (r2.1 * 256)))) + r3.1))) (.int .i64 x1) (.int .i64 (Int.tmod (IntKind.wrap .i64 ((IntKind.wrap .i64 ((IntKind.wrap .i64 (r1.1 * 65536)) + (IntKind.wrap .i64 (r2.1 * 256)))) + r3.1)) x1)) _ kr kr kr kr kr (φ := (IntKind.i64 = IntKind.i64 ∧ (x1 : Int) ≠ 0)) kr (⟨rfl, of_decide_eq_true hg4⟩) rfl ?_
      refine LAt.runU tOk 1 kr ?_
      refine LAt.doneM 17 1 kr ?_
      refine Tr.ret ?_
      have H := Option.some.inj H
      subst H
      exact Fin.ofY _ [(false, [cI (Int.tmod (IntKind.wrap .i64 ((IntKind.wrap .i64 ((IntKind.wrap .i64 (r1.1 * 65536)) + (IntKind.wrap .i64 (r2.1 * 256)))) + r3.1)) x1)])] [] _ [] _ [(0, (CV.frzRow (Src.row r3.2)))] kr rfl rfl rfl kr kr kr kr rfl rfl rfl
    have H := bifT h2 H
    refine Tr.cT h2 kr ?_
    refine Tr.rs ?_
    refine LAt.runU tOk 1 kr ?_
    obtain ⟨r5, er5, H⟩ := bind_some H
    refine LAt.callL tOk [.lend] (f := 150) (av := #[.tmp 12]) (ats := #[126]) (d := (some 13)) (ty := 3) (g := none) kr kr kr [] (spec_l1Byte n x0 r5 er5) kr (.inl rfl) ?_
    refine LAt.runU tOk 1 kr ?_
    obtain ⟨hg6, H⟩ := guard_some H
    refine LAt.binC tOk (op := .rem) (t := 3) (ty := 3) (ty' := 3) (x := (.tmp 13)) (y := (.tmp 14)) (d := 15) (g := none) (.int .i64 r5.1) (.int .i64 x1) (.int .i64 (Int.tmod r5.1 x1)) _ kr kr kr kr kr (φ := (IntKind.i64 = IntKind.i64 ∧ (x1 : Int) ≠ 0)) kr (⟨rfl, of_decide_eq_true hg6⟩) rfl ?_
    refine LAt.runU tOk 1 kr ?_
    refine LAt.doneM 19 1 kr ?_
    refine Tr.ret ?_
    have H := Option.some.inj H
    subst H
    exact Fin.ofY _ [(false, [cI (Int.tmod r5.1 x1)])] [] _ [] _ [(0, (CV.frzRow (Src.row r5.2)))] kr rfl rfl rfl kr kr kr kr rfl rfl rfl
  have H := bifT h1 H
  refine Tr.cT h1 kr ?_
  refine Tr.rgn tOk 1 19 1 kr kr ?_
  refine Tr.ret ?_
  have H := Option.some.inj H
  subst H
  exact Fin.ofY _ [(false, [cI 0])] [] _ [] _ [(0, (CV.frzRow (Src.row x0)))] kr rfl rfl rfl kr kr kr kr rfl rfl rfl

def spec_l1InF (n : Nat) (x0 : Int) (x1 : Int) (x2 : Int) : Option (Bool) :=
  (bif (decide (x0 ≥ x1)) then (some (decide (x0 ≤ x2))) else (some false))
/-- loop.example/g00326/spec.l1In -/
theorem spec_l1In (n : Nat) (x0 : Int) (x1 : Int) (x2 : Int) (r : Bool) (H : spec_l1InF n x0 x1 x2 = some r) : LCall Try.prog 76 [.val false [.lit (.int .i64 x0)], .val false [.lit (.int .i64 x1)], .val false [.lit (.int .i64 x2)]] [.val false [.lit (.bool r)]] [] := by
  refine LCall.of_body tOk Try.func76 rfl (c := (.seq (Rg Try.f76 0) (.seq (Rg Try.f76 1) .ret))) kr (Nat.le_of_ble_eq_true kr) 0 (rs := [.tmp 6]) rfl [] .nil [(false, [.lit (.bool r)])] [] [] fun cx => ?_
  show Tr _ _ _ ⟨15, 0, [sI 0 x0, sI 1 x1, sI 2 x2], []⟩ _
  unfold spec_l1InF at H
  refine Tr.rgn tOk 1 71 0 kr kr ?_
  refine Tr.rs ?_
  refine LAt.runU tOk 4 kr ?_
  refine LAt.to ⟨15, 0, [sB 10 (decide (x0 ≥ x1)), sB 9 (decide (x0 ≥ x1)), sI 8 x1, sI 7 x0, sB 6 false, sI 0 x0, sI 1 x1, sI 2 x2], []⟩ kr ?_
  cases h1 : (decide (x0 ≥ x1))
  · have H := bifF h1 H
    refine LAt.runU tOk 5 kr ?_
    refine LAt.doneM 64 0 kr ?_
    refine Tr.ret ?_
    have H := Option.some.inj H
    subst H
    exact Fin.of _ [(false, [cB false])] kr rfl rfl
  have H := bifT h1 H
  refine LAt.runU tOk 5 kr ?_
  refine LAt.doneM 64 0 kr ?_
  refine Tr.ret ?_
  have H := Option.some.inj H
  subst H
  exact Fin.of _ [(false, [cB (decide (x0 ≤ x2))])] kr rfl rfl

def spec_VtabNew_J1 (n : Nat) (x0 : Int) (y5 : (List Int)) : Option (Vtab) :=
  (some (⟨[(⟨1, (IntKind.wrap .i64 ((IntKind.wrap .i64 (1 * 2 ^ min (((IntKind.wrap .u64 x0) : Int)).toNat (IntKind.bits .i64))) - 1)), (IntKind.wrap .i64 ((IntKind.wrap .i64 (1 * 2 ^ min (((IntKind.wrap .u64 x0) : Int)).toNat (IntKind.bits .i64))) - 1))⟩ : Vrow)], y5⟩ : Vtab))
def spec_VtabNew_L2 (n : Nat) : Nat → Int → Int → (List Int) → Option (((List Int)) ⊕ (Vtab))
  | 0, _, _, _ => none
  | mo6 + 1, x0, y3, y4 => (bif (decide (y3 < x0)) then (bif (decide (y4.length + [1].length ≤ 268435456)) then (spec_VtabNew_L2 n mo6 x0 (IntKind.wrap .i64 (y3 + 1)) (y4 ++ [1])) else none) else (some (Sum.inl y4)))
def spec_VtabNewF (n : Nat) (x0 : Int) : Option (Vtab) :=
  ((spec_l1InF n x0 1 6).bind fun r1 => (bif (!r1) then (some (⟨([] : List Vrow), ([] : List Int)⟩ : Vtab)) else (bif (decide ((0 : Int) ≤ (IntKind.wrap .u64 x0))) then ((spec_VtabNew_L2 n n x0 0 ([] : List Int)).bind fun o => match o with | .inl y5 => (spec_VtabNew_J1 n x0 y5) | .inr r => some r) else none)))
/-- loop.example/g00326/spec.VtabNew -/
theorem spec_VtabNew (n : Nat) (x0 : Int) (r : Vtab) (H : spec_VtabNewF n x0 = some r) : LCall Try.prog 50 [.val false [.lit (.int .i64 x0)]] [.val true (Vtab.row r)] [] := by
  refine LCall.of_body tOk Try.func50 rfl (c := (.seq (Rg Try.f50 0) (.seq (.seq (Rg Try.f50 1) (.cond (.tmp 8) (.seq (Rg Try.f50 2) .ret) .skip)) (.seq (Rg Try.f50 3) (.seq (Rg Try.f50 4) (.seq (.seq (Rg Try.f50 5) (.block 0 (.loop (.seq (.seq (Rg Try.f50 6) (.cond (.tmp 21) .skip (.exit 0))) (.seq (.block 1 (Rg Try.f50 8)) (Rg Try.f50 7)))))) (.seq (Rg Try.f50 9) .ret))))))) kr (Nat.le_of_ble_eq_true kr) 0 (rs := [.cell 2 29]) rfl [] .nil [(true, (Vtab.row r))] [] [] fun cx => ?_
  show Tr _ _ _ ⟨30, 0, [sI 0 x0], []⟩ _
  unfold spec_VtabNewF at H
  refine Tr.rgn tOk 1 5 4 kr kr ?_
  refine Tr.seq ?_
  refine Tr.rs ?_
  refine LAt.runU tOk 1 kr ?_
  obtain ⟨r1, er1, H⟩ := bind_some H
  refine LAt.callV tOk [.rd, .rd, .rd] [] (spec_l1In n x0 1 6 r1 er1) kr kr kr kr (.inl rfl) ?_
  refine LAt.runU tOk 1 kr ?_
  refine LAt.doneM 261 4 kr ?_
  cases h1 : (!r1)
  · have H := bifF h1 H
    refine Tr.cF h1 kr ?_
    refine Tr.skip ?_
    show Tr _ _ _ _ _
    refine Tr.rs ?_
    refine LAt.runU tOk 2 kr ?_
    obtain ⟨hg2, H⟩ := guard_some H
    refine LAt.binC tOk (op := .shl) (t := 3) (ty := 136) (ty' := 3) (x := (.const (.int .i64 1))) (y := (.tmp 11)) (d := 12) (g := none) (.int .i64 1) (.int .u64 (IntKind.wrap .u64 x0)) (.int .i64 (IntKind.wrap .i64 (1 * 2 ^ min (((IntKind.wrap .u64 x0) : Int)).toNat (IntKind.bits .i64)))) _ kr kr kr kr kr (φ := (0 : Int) ≤ (IntKind.wrap .u64 x0)) kr (of_decide_eq_true hg2) rfl ?_
    refine LAt.runU tOk 2 kr ?_
    refine LAt.doneM 13 4 kr ?_
    refine Tr.rgn tOk 7 21 20 kr kr ?_
    refine Tr.seq ?_
    refine Tr.rgn tOk 1 53 20 kr kr ?_
    obtain ⟨o6, eo6, Ho6⟩ := bind_some H
    clear H
    refine Tr.mid (ι := (List Int)) (fun v => ⟨30, 0, [sA 4 4 2 0, sA 2 2 2 0], [(4, [cL 3 [(⟨1, (IntKind.wrap .i64 ((IntKind.wrap .i64 (1 * 2 ^ min (((IntKind.wrap .u64 x0) : Int)).toNat (IntKind.bits .i64))) - 1)), (IntKind.wrap .i64 ((IntKind.wrap .i64 (1 * 2 ^ min (((IntKind.wrap .u64 x0) : Int)).toNat (IntKind.bits .i64))) - 1))⟩ : Vrow)] Vrow.row, cL 1 v intRow]), (2, [cL 3 ([] : List Vrow) Vrow.row, cL 1 ([] : List Int) intRow])]⟩) (fun v => spec_VtabNew_J1 n x0 v = some r) ?_ ?_
    · refine Tr.block ?_
      refine Tr.loop (ι := Nat × (Int × (List Int))) (fun v => ⟨30, 0, [sI 5 v.2.1, sA 4 4 2 0, sA 2 2 2 0, sI 0 x0], [(4, [cL 3 [(⟨1, (IntKind.wrap .i64 ((IntKind.wrap .i64 (1 * 2 ^ min (((IntKind.wrap .u64 x0) : Int)).toNat (IntKind.bits .i64))) - 1)), (IntKind.wrap .i64 ((IntKind.wrap .i64 (1 * 2 ^ min (((IntKind.wrap .u64 x0) : Int)).toNat (IntKind.bits .i64))) - 1))⟩ : Vrow)] Vrow.row, cL 1 v.2.2 intRow]), (2, [cL 3 ([] : List Vrow) Vrow.row, cL 1 ([] : List Int) intRow])]⟩) (fun v => spec_VtabNew_L2 n v.1 x0 v.2.1 v.2.2 = some o6) (fun v => v.1) (n, (0, ([] : List Int))) eo6 (St.sub_of [5, 4, 2, 0] [4, 2] kr) ?_
      rintro ⟨mo6, y3, y4⟩ H
      have H : spec_VtabNew_L2 n mo6 x0 y3 y4 = some o6 := H
      obtain _ | mo6 := mo6
      · cases (show (none : Option _) = some o6 from H)
      rw [spec_VtabNew_L2] at H
      refine Tr.seq ?_
      refine Tr.rgn tOk 3 3670069 20 kr kr ?_
      cases h2 : (decide (y3 < x0))
      · have H := bifF h2 H
        refine Tr.cF h2 kr ?_
        refine Tr.exit ?_
        refine And.intro (fun _ => ?_) (fun h => absurd rfl h)
        have H := Option.some.inj H
        subst H
        have H := Ho6
        dsimp only at H
        exact Exists.intro y4 (And.intro H (St.sub_of [4, 2] [4, 2] kr))
      have H := bifT h2 H
      refine Tr.cT h2 kr ?_
      refine Tr.skip ?_
      show Tr _ _ _ _ _
      refine Tr.seq ?_
      refine Tr.block ?_
      refine Tr.at ?_
      refine LAt.runU tOk 3 kr ?_
      obtain ⟨hg7, H⟩ := guard_some H
      refine LAt.appMU tOk (t := 23) (ty := 23) (e := 3) (x := (.tmp 25)) (y := (.tmp 26)) (d := 27) (g := none) ⟨.int .i64, 1, 8, [.lit (.int .i64 0)]⟩ intRow y4 [1] kr kr kr kr kr kr kr kr kr kr hg7 ?_
      refine LAt.runU tOk 2 kr ?_
      refine LAt.doneM 288882741 20 kr ?_
      show Tr _ _ _ _ _
      refine Tr.rgE tOk 3 301465653 20 kr kr ?_
      exact Exists.intro (mo6, ((IntKind.wrap .i64 (y3 + 1)), (y4 ++ [1]))) (And.intro H (And.intro (Nat.lt_succ_self mo6) (St.sub_of [5, 4, 2, 0] [4, 2] kr)))
    rintro y5 H
    have H : (spec_VtabNew_J1 n x0 y5) = some r := H
    unfold spec_VtabNew_J1 at H
    show Tr _ _ _ _ _
    refine Tr.rgn tOk 2 4 4 kr kr ?_
    refine Tr.ret ?_
    have H := Option.some.inj H
    subst H
    exact Fin.of _ [(true, [cL 3 [(⟨1, (IntKind.wrap .i64 ((IntKind.wrap .i64 (1 * 2 ^ min (((IntKind.wrap .u64 x0) : Int)).toNat (IntKind.bits .i64))) - 1)), (IntKind.wrap .i64 ((IntKind.wrap .i64 (1 * 2 ^ min (((IntKind.wrap .u64 x0) : Int)).toNat (IntKind.bits .i64))) - 1))⟩ : Vrow)] Vrow.row, cL 1 y5 intRow])] kr rfl rfl
  have H := bifT h1 H
  refine Tr.cT h1 kr ?_
  refine Tr.rgn tOk 2 5 4 kr kr ?_
  refine Tr.ret ?_
  have H := Option.some.inj H
  subst H
  exact Fin.of _ [(true, [cL 3 ([] : List Vrow) Vrow.row, cL 1 ([] : List Int) intRow])] kr rfl rfl

def spec_RowAt_J1 (n : Nat) : Option (Int) :=
  (some (-1))
def spec_RowAt_L2 (n : Nat) : Nat → Vtab → Int → Int → Option ((Unit) ⊕ (Int))
  | 0, _, _, _ => none
  | mo2 + 1, x0, x1, y1 => (bif (decide (y1 < (x0.Rows.length : Int))) then ((idx x0.Rows y1).bind fun v3 => (bif (v3.Id == x1) then (some (Sum.inr y1)) else (spec_RowAt_L2 n mo2 x0 x1 (IntKind.wrap .i64 (y1 + 1))))) else (some (Sum.inl ())))
def spec_RowAtF (n : Nat) (x0 : Vtab) (x1 : Int) : Option (Int) :=
  ((spec_RowAt_L2 n n x0 x1 0).bind fun o => match o with | .inl _ => (spec_RowAt_J1 n) | .inr r => some r)
/-- loop.example/g00326/spec.RowAt -/
theorem spec_RowAt (n : Nat) (x0 : Vtab) (x1 : Int) (r : Int) (H : spec_RowAtF n x0 x1 = some r) : LCall Try.prog 102 [.val true (CV.frzRow (Vtab.row x0)), .val false [.lit (.int .i64 x1)]] [.val false [.lit (.int .i64 r)]] [] := by
  refine LCall.of_body tOk Try.func102 rfl (c := (.seq (Rg Try.f102 0) (.seq (.seq (Rg Try.f102 1) (.block 0 (.loop (.seq (.seq (Rg Try.f102 2) (.cond (.tmp 10) .skip (.exit 0))) (.seq (.block 1 (.seq (Rg Try.f102 4) (.cond (.tmp 20) (.seq (Rg Try.f102 5) .ret) .skip))) (Rg Try.f102 3)))))) (.seq (Rg Try.f102 6) .ret)))) kr (Nat.le_of_ble_eq_true kr) 0 (rs := [.tmp 4]) rfl [] .nil [(false, [.lit (.int .i64 r)])] [] [] fun cx => ?_
  show Tr _ _ _ ⟨22, 0, [sV 0 (CV.frzRow (Vtab.row x0)), sI 1 x1], []⟩ _
  unfold spec_RowAtF at H
  refine Tr.rgn tOk 2 22 4 kr kr ?_
  refine Tr.seq ?_
  refine Tr.rgn tOk 1 54 4 kr kr ?_
  obtain ⟨o2, eo2, Ho2⟩ := bind_some H
  clear H
  refine Tr.mid (ι := Unit) (fun v => ⟨22, 0, [sI 4 0], []⟩) (fun v => spec_RowAt_J1 n = some r) ?_ ?_
  · refine Tr.block ?_
    refine Tr.loop (ι := Nat × (Int)) (fun v => ⟨22, 0, [sI 5 v.2, sI 4 0, sA 2 2 2 0, sI 1 x1], [(2, (CV.frzRow (Vtab.row x0)))]⟩) (fun v => spec_RowAt_L2 n v.1 x0 x1 v.2 = some o2) (fun v => v.1) (n, 0) eo2 (St.sub_of [5, 4, 2, 1] [2] kr) ?_
    rintro ⟨mo2, y1⟩ H
    have H : spec_RowAt_L2 n mo2 x0 x1 y1 = some o2 := H
    obtain _ | mo2 := mo2
    · cases (show (none : Option _) = some o2 from H)
    rw [spec_RowAt_L2] at H
    refine Tr.seq ?_
    refine Tr.rs ?_
    refine LAt.runU tOk 3 kr ?_
    refine LAt.lenE tOk (t := 27) (ty := 3) (e := 56) (x := (.tmp 8)) (d := 9) (g := none) ⟨(.slot 8), [], 0, false, 3, (CV.frzEs (x0.Rows.map Vrow.row))⟩ (x0.Rows).length _ kr kr kr kr kr (frz_len _ _) rfl ?_
    refine LAt.runU tOk 1 kr ?_
    refine LAt.doneM 2038 4 kr ?_
    cases h1 : (decide (y1 < (x0.Rows.length : Int)))
    · have H := bifF h1 H
      refine Tr.cF h1 kr ?_
      refine Tr.exit ?_
      refine And.intro (fun _ => ?_) (fun h => absurd rfl h)
      have H := Option.some.inj H
      subst H
      have H := Ho2
      dsimp only at H
      exact Exists.intro () (And.intro H (St.sub_of [4] [] kr))
    have H := bifT h1 H
    refine Tr.cT h1 kr ?_
    refine Tr.skip ?_
    show Tr _ _ _ _ _
    refine Tr.seq ?_
    refine Tr.block ?_
    refine Tr.rs ?_
    refine LAt.runU tOk 3 kr ?_
    obtain ⟨v3, ev3, H⟩ := bind_some H
    refine LAt.indexF tOk (t := 27) (ty := 0) (x := (.tmp 14)) (y := (.tmp 15)) (d := 16) (g := none) ⟨(.slot 14), [], 0, false, 3, (CV.frzEs (x0.Rows.map Vrow.row))⟩ y1 (Vrow.row v3) _ kr kr kr kr rfl (idx_isF ev3) rfl ?_
    refine LAt.runU tOk 4 kr ?_
    refine LAt.doneM 2090998 4 kr ?_
    cases h2 : (v3.Id == x1)
    · have H := bifF h2 H
      refine Tr.cF h2 kr ?_
      refine Tr.skip ?_
      show Tr _ _ _ _ _
      refine Tr.rgE tOk 3 2097142 4 kr kr ?_
      exact Exists.intro (mo2, (IntKind.wrap .i64 (y1 + 1))) (And.intro H (And.intro (Nat.lt_succ_self mo2) (St.sub_of [5, 4, 2, 1] [2] kr)))
    have H := bifT h2 H
    refine Tr.cT h2 kr ?_
    refine Tr.rgn tOk 2 4188150 4 kr kr ?_
    refine Tr.ret ?_
    have H := Option.some.inj H
    subst H
    have H := Ho2
    dsimp only at H
    have H := Option.some.inj H
    subst H
    exact Fin.of _ [(false, [cI y1])] kr rfl rfl
  rintro _ H
  have H : (spec_RowAt_J1 n) = some r := H
  unfold spec_RowAt_J1 at H
  show Tr _ _ _ _ _
  refine Tr.rgn tOk 1 16 0 kr kr ?_
  refine Tr.ret ?_
  have H := Option.some.inj H
  subst H
  exact Fin.of _ [(false, [cI (-1)])] kr rfl rfl

def spec_VtabOk_J2 (n : Nat) : Option (Bool) :=
  (some true)
def spec_VtabOk_L3 (n : Nat) : Nat → Vtab → Int → Option ((Unit) ⊕ (Bool))
  | 0, _, _ => none
  | mo5 + 1, x0, y4 => (bif (decide (y4 < (x0.Pvid.length : Int))) then ((idx x0.Pvid y4).bind fun v6 => ((spec_RowAtF n x0 v6).bind fun r7 => (bif (decide (r7 < 0)) then (some (Sum.inr false)) else (spec_VtabOk_L3 n mo5 x0 (IntKind.wrap .i64 (y4 + 1)))))) else (some (Sum.inl ())))
def spec_VtabOk_J1 (n : Nat) (x0 : Vtab) : Option (Bool) :=
  ((spec_VtabOk_L3 n n x0 0).bind fun o => match o with | .inl _ => (spec_VtabOk_J2 n) | .inr r => some r)
def spec_VtabOk_L4 (n : Nat) : Nat → Vtab → Int → Int → Option ((Unit) ⊕ (Bool))
  | 0, _, _, _ => none
  | mo8 + 1, x0, x1, y3 => (bif (decide (y3 < (x0.Rows.length : Int))) then ((idx x0.Rows y3).bind fun v9 => ((spec_l1InF n v9.Id 1 99).bind fun r10 => (bif (!r10) then (some (Sum.inr false)) else ((spec_l1InF n v9.Members 0 (IntKind.wrap .i64 ((IntKind.wrap .i64 (1 * 2 ^ min (((IntKind.wrap .u64 x1) : Int)).toNat (IntKind.bits .i64))) - 1))).bind fun r11 => (bif (!r11) then (some (Sum.inr false)) else ((spec_l1InF n v9.Bare 0 (IntKind.wrap .i64 ((IntKind.wrap .i64 (1 * 2 ^ min (((IntKind.wrap .u64 x1) : Int)).toNat (IntKind.bits .i64))) - 1))).bind fun r12 => (bif (!r12) then (some (Sum.inr false)) else (bif ((IntKind.wrap .i64 (BitVec.ofInt (IntKind.bits .i64) v9.Bare &&& BitVec.ofInt (IntKind.bits .i64) v9.Members).toNat) != v9.Bare) then (some (Sum.inr false)) else (bif (decide (y3 > 0)) then ((idx x0.Rows (IntKind.wrap .i64 (y3 - 1))).bind fun v13 => (bif (decide (v13.Id ≥ v9.Id)) then (some (Sum.inr false)) else (spec_VtabOk_L4 n mo8 x0 x1 (IntKind.wrap .i64 (y3 + 1))))) else (spec_VtabOk_L4 n mo8 x0 x1 (IntKind.wrap .i64 (y3 + 1)))))))))))) else (some (Sum.inl ())))
def spec_VtabOkF (n : Nat) (x0 : Vtab) (x1 : Int) : Option (Bool) :=
  ((spec_l1InF n x1 1 6).bind fun r1 => (bif (!r1) then (some false) else (bif ((x0.Pvid.length : Int) != x1) then (some false) else (bif (decide ((x0.Rows.length : Int) > 6)) then (some false) else (bif (decide ((0 : Int) ≤ (IntKind.wrap .u64 x1))) then ((spec_VtabOk_L4 n n x0 x1 0).bind fun o => match o with | .inl _ => (spec_VtabOk_J1 n x0) | .inr r => some r) else none)))))
/-- loop.example/g00326/spec.VtabOk -/
theorem spec_VtabOk (n : Nat) (x0 : Vtab) (x1 : Int) (r : Bool) (H : spec_VtabOkF n x0 x1 = some r) : LCall Try.prog 49 [.val true (CV.frzRow (Vtab.row x0)), .val false [.lit (.int .i64 x1)]] [.val false [.lit (.bool r)]] [] := by
  refine LCall.of_body tOk Try.func49 rfl (c := (.seq (Rg Try.f49 0) (.seq (.seq (Rg Try.f49 1) (.cond (.tmp 24) (.seq (Rg Try.f49 2) .ret) .skip)) (.seq (Rg Try.f49 3) (.seq (.seq (Rg Try.f49 4) (.block 0 (.loop (.seq (.seq (Rg Try.f49 5) (.cond (.tmp 33) .skip (.exit 0))) (.seq (.block 1 (.seq (Rg Try.f49 7) (.seq (Rd Try.f49 8) (.cond (.tmp 84) (.seq (Rg Try.f49 9) .ret) .skip)))) (Rg Try.f49 6)))))) (.seq (.seq (Rg Try.f49 10) (.block 2 (.loop (.seq (.seq (Rg Try.f49 11) (.cond (.tmp 89) .skip (.exit 2))) (.seq (.block 3 (.seq (Rd Try.f49 13) (.cond (.tmp 99) (.seq (Rg Try.f49 14) .ret) .skip))) (Rg Try.f49 12)))))) (.seq (Rg Try.f49 15) .ret))))))) kr (Nat.le_of_ble_eq_true kr) 0 (rs := [.tmp 4]) rfl [] .nil [(false, [.lit (.bool r)])] [] [] fun cx => ?_
  show Tr _ _ _ ⟨100, 0, [sV 0 (CV.frzRow (Vtab.row x0)), sI 1 x1], []⟩ _
  unfold spec_VtabOkF at H
  refine Tr.rgn tOk 2 22 4 kr kr ?_
  refine Tr.seq ?_
  refine Tr.rs ?_
  refine LAt.runU tOk 1 kr ?_
  obtain ⟨r1, er1, H⟩ := bind_some H
  refine LAt.callV tOk [.rd, .rd, .rd] [] (spec_l1In n x1 1 6 r1 er1) kr kr kr kr (.inl rfl) ?_
  refine LAt.runU tOk 2 kr ?_
  refine LAt.to ⟨100, 0, [sB 12 (!r1), sB 11 (!r1), sB 10 r1, sI 9 x1, sB 4 false, sA 2 2 2 0, sI 1 x1], [(2, (CV.frzRow (Vtab.row x0)))]⟩ kr ?_
  cases h1 : (!r1)
  · have H := bifF h1 H
    refine LAt.runU tOk 2 kr ?_
    refine LAt.lenE tOk (t := 23) (ty := 3) (e := 3) (x := (.tmp 14)) (d := 15) (g := (some (3, false))) ⟨(.slot 14), [], 0, false, 1, (CV.frzEs (x0.Pvid.map intRow))⟩ (x0.Pvid).length _ kr kr kr kr kr (frz_len _ _) rfl ?_
    refine LAt.runU tOk 4 kr ?_
    refine LAt.to ⟨100, 0, [sB 19 ((x0.Pvid.length : Int) != x1), sB 18 ((x0.Pvid.length : Int) != x1), sB 17 ((x0.Pvid.length : Int) != x1), sI 16 x1, sI 15 (x0.Pvid.length : Int), sC 14 (cF 1 x0.Pvid intRow), sA 13 2 2 1, sB 12 false, sB 11 false, sB 10 r1, sI 9 x1, sB 4 false, sA 2 2 2 0, sI 1 x1], [(2, (CV.frzRow (Vtab.row x0)))]⟩ kr ?_
    cases h2 : ((x0.Pvid.length : Int) != x1)
    · have H := bifF h2 H
      refine LAt.runU tOk 2 kr ?_
      refine LAt.lenE tOk (t := 27) (ty := 3) (e := 56) (x := (.tmp 21)) (d := 22) (g := (some (10, false))) ⟨(.slot 21), [], 0, false, 3, (CV.frzEs (x0.Rows.map Vrow.row))⟩ (x0.Rows).length _ kr kr kr kr kr (frz_len _ _) rfl ?_
      refine LAt.runU tOk 2 kr ?_
      refine LAt.doneM 16777238 4 kr ?_
      cases h3 : (decide ((x0.Rows.length : Int) > 6))
      · have H := bifF h3 H
        refine Tr.cF h3 kr ?_
        refine Tr.skip ?_
        show Tr _ _ _ _ _
        refine Tr.rs ?_
        refine LAt.runU tOk 2 kr ?_
        obtain ⟨hg2, H⟩ := guard_some H
        refine LAt.binC tOk (op := .shl) (t := 3) (ty := 136) (ty' := 3) (x := (.const (.int .i64 1))) (y := (.tmp 26)) (d := 27) (g := none) (.int .i64 1) (.int .u64 (IntKind.wrap .u64 x1)) (.int .i64 (IntKind.wrap .i64 (1 * 2 ^ min (((IntKind.wrap .u64 x1) : Int)).toNat (IntKind.bits .i64)))) _ kr kr kr kr kr (φ := (0 : Int) ≤ (IntKind.wrap .u64 x1)) kr (of_decide_eq_true hg2) rfl ?_
        refine LAt.runU tOk 2 kr ?_
        refine LAt.doneM 52 4 kr ?_
        refine Tr.seq ?_
        refine Tr.rgn tOk 1 116 4 kr kr ?_
        obtain ⟨o8, eo8, Ho8⟩ := bind_some H
        clear H
        refine Tr.mid (ι := Unit) (fun v => ⟨100, 0, [sB 4 false, sA 2 2 2 0], [(2, (CV.frzRow (Vtab.row x0)))]⟩) (fun v => spec_VtabOk_J1 n x0 = some r) ?_ ?_
        · refine Tr.block ?_
          refine Tr.loop (ι := Nat × (Int)) (fun v => ⟨100, 0, [sI 6 v.2, sI 5 (IntKind.wrap .i64 ((IntKind.wrap .i64 (1 * 2 ^ min (((IntKind.wrap .u64 x1) : Int)).toNat (IntKind.bits .i64))) - 1)), sB 4 false, sA 2 2 2 0], [(2, (CV.frzRow (Vtab.row x0)))]⟩) (fun v => spec_VtabOk_L4 n v.1 x0 x1 v.2 = some o8) (fun v => v.1) (n, 0) eo8 (St.sub_of [6, 5, 4, 2] [2] kr) ?_
          rintro ⟨mo8, y3⟩ H
          have H : spec_VtabOk_L4 n mo8 x0 x1 y3 = some o8 := H
          obtain _ | mo8 := mo8
          · cases (show (none : Option _) = some o8 from H)
          rw [spec_VtabOk_L4] at H
          refine Tr.seq ?_
          refine Tr.rs ?_
          refine LAt.runU tOk 3 kr ?_
          refine LAt.lenE tOk (t := 27) (ty := 3) (e := 56) (x := (.tmp 31)) (d := 32) (g := none) ⟨(.slot 31), [], 0, false, 3, (CV.frzEs (x0.Rows.map Vrow.row))⟩ (x0.Rows).length _ kr kr kr kr kr (frz_len _ _) rfl ?_
          refine LAt.runU tOk 1 kr ?_
          refine LAt.doneM 16642998388 4 kr ?_
          cases h6 : (decide (y3 < (x0.Rows.length : Int)))
          · have H := bifF h6 H
            refine Tr.cF h6 kr ?_
            refine Tr.exit ?_
            refine And.intro (fun _ => ?_) (fun h => absurd rfl h)
            have H := Option.some.inj H
            subst H
            have H := Ho8
            dsimp only at H
            exact Exists.intro () (And.intro H (St.sub_of [4, 2] [2] kr))
          have H := bifT h6 H
          refine Tr.cT h6 kr ?_
          refine Tr.skip ?_
          show Tr _ _ _ _ _
          refine Tr.seq ?_
          refine Tr.block ?_
          refine Tr.rs ?_
          refine LAt.runU tOk 3 kr ?_
          obtain ⟨v9, ev9, H⟩ := bind_some H
          refine LAt.indexF tOk (t := 27) (ty := 0) (x := (.tmp 37)) (y := (.tmp 38)) (d := 39) (g := none) ⟨(.slot 37), [], 0, false, 3, (CV.frzEs (x0.Rows.map Vrow.row))⟩ y3 (Vrow.row v9) _ kr kr kr kr rfl (idx_isF ev9) rfl ?_
          refine LAt.runU tOk 3 kr ?_
          refine LAt.doneM 2146946777332 132 kr ?_
          obtain ⟨r10, er10, H⟩ := bind_some H
          refine Tr.to ⟨100, 0, [sA 7 7 3 0, sV 40 (Vrow.row v9), (39, .fad ((Vrow.row v9))), sI 38 y3, sC 37 (cF 3 x0.Rows Vrow.row), sA 36 2 2 0, sB 33 (decide (y3 < (x0.Rows.length : Int))), sI 32 (x0.Rows.length : Int), sC 31 (cF 3 x0.Rows Vrow.row), sA 30 2 2 0, sI 29 y3, sI 6 y3, sI 5 (IntKind.wrap .i64 ((IntKind.wrap .i64 (1 * 2 ^ min (((IntKind.wrap .u64 x1) : Int)).toNat (IntKind.bits .i64))) - 1)), sB 4 false, sA 2 2 2 0], [(7, (Vrow.row v9)), (2, (CV.frzRow (Vtab.row x0)))]⟩ kr ?_
          cases h7 : (!r10)
          · have H := bifF h7 H
            obtain ⟨r11, er11, H⟩ := bind_some H
            refine Tr.to ⟨100, 0, [sA 7 7 3 0, sV 40 (Vrow.row v9), (39, .fad ((Vrow.row v9))), sI 38 y3, sC 37 (cF 3 x0.Rows Vrow.row), sA 36 2 2 0, sB 33 (decide (y3 < (x0.Rows.length : Int))), sI 32 (x0.Rows.length : Int), sC 31 (cF 3 x0.Rows Vrow.row), sA 30 2 2 0, sI 29 y3, sI 6 y3, sI 5 (IntKind.wrap .i64 ((IntKind.wrap .i64 (1 * 2 ^ min (((IntKind.wrap .u64 x1) : Int)).toNat (IntKind.bits .i64))) - 1)), sB 4 false, sA 2 2 2 0], [(7, (Vrow.row v9)), (2, (CV.frzRow (Vtab.row x0)))]⟩ kr ?_
            cases h8 : (!r11)
            · have H := bifF h8 H
              obtain ⟨r12, er12, H⟩ := bind_some H
              refine Tr.to ⟨100, 0, [sA 7 7 3 0, sV 40 (Vrow.row v9), (39, .fad ((Vrow.row v9))), sI 38 y3, sC 37 (cF 3 x0.Rows Vrow.row), sA 36 2 2 0, sB 33 (decide (y3 < (x0.Rows.length : Int))), sI 32 (x0.Rows.length : Int), sC 31 (cF 3 x0.Rows Vrow.row), sA 30 2 2 0, sI 29 y3, sI 6 y3, sI 5 (IntKind.wrap .i64 ((IntKind.wrap .i64 (1 * 2 ^ min (((IntKind.wrap .u64 x1) : Int)).toNat (IntKind.bits .i64))) - 1)), sB 4 false, sA 2 2 2 0], [(7, (Vrow.row v9)), (2, (CV.frzRow (Vtab.row x0)))]⟩ kr ?_
              cases h9 : (!r12)
              · have H := bifF h9 H
                refine Tr.to ⟨100, 0, [sA 7 7 3 0, sV 40 (Vrow.row v9), (39, .fad ((Vrow.row v9))), sI 38 y3, sC 37 (cF 3 x0.Rows Vrow.row), sA 36 2 2 0, sB 33 (decide (y3 < (x0.Rows.length : Int))), sI 32 (x0.Rows.length : Int), sC 31 (cF 3 x0.Rows Vrow.row), sA 30 2 2 0, sI 29 y3, sI 6 y3, sI 5 (IntKind.wrap .i64 ((IntKind.wrap .i64 (1 * 2 ^ min (((IntKind.wrap .u64 x1) : Int)).toNat (IntKind.bits .i64))) - 1)), sB 4 false, sA 2 2 2 0], [(7, (Vrow.row v9)), (2, (CV.frzRow (Vtab.row x0)))]⟩ kr ?_
                cases h10 : ((IntKind.wrap .i64 (BitVec.ofInt (IntKind.bits .i64) v9.Bare &&& BitVec.ofInt (IntKind.bits .i64) v9.Members).toNat) != v9.Bare)
                · have H := bifF h10 H
                  refine Tr.to ⟨100, 0, [sA 7 7 3 0, sV 40 (Vrow.row v9), (39, .fad ((Vrow.row v9))), sI 38 y3, sC 37 (cF 3 x0.Rows Vrow.row), sA 36 2 2 0, sB 33 (decide (y3 < (x0.Rows.length : Int))), sI 32 (x0.Rows.length : Int), sC 31 (cF 3 x0.Rows Vrow.row), sA 30 2 2 0, sI 29 y3, sI 6 y3, sI 5 (IntKind.wrap .i64 ((IntKind.wrap .i64 (1 * 2 ^ min (((IntKind.wrap .u64 x1) : Int)).toNat (IntKind.bits .i64))) - 1)), sB 4 false, sA 2 2 2 0], [(7, (Vrow.row v9)), (2, (CV.frzRow (Vtab.row x0)))]⟩ kr ?_
                  cases h11 : (decide (y3 > 0))
                  · have H := bifF h11 H
                    refine Tr.draws mixed 44 kr ⟨100, 0, [sB 84 false, sB 83 false, (82, .tup []), (81, .tup []), (80, .tup []), (79, .tup []), (78, .tup []), (77, .tup []), (76, .tup []), (75, .tup []), (74, .tup []), (73, .tup []), sB 72 false, sB 71 false, sI 70 y3, sB 69 false, sB 68 false, sB 67 false, sI 66 v9.Bare, sA 65 7 3 2, sI 64 (IntKind.wrap .i64 (BitVec.ofInt (IntKind.bits .i64) v9.Bare &&& BitVec.ofInt (IntKind.bits .i64) v9.Members).toNat), sI 63 v9.Members, sA 62 7 3 1, sI 61 v9.Bare, sA 60 7 3 2, sB 59 false, sB 58 false, sB 57 false, sB 56 r12, sI 55 (IntKind.wrap .i64 ((IntKind.wrap .i64 (1 * 2 ^ min (((IntKind.wrap .u64 x1) : Int)).toNat (IntKind.bits .i64))) - 1)), sI 54 v9.Bare, sA 53 7 3 2, sB 52 false, sB 51 false, sB 50 false, sB 49 r11, sI 48 (IntKind.wrap .i64 ((IntKind.wrap .i64 (1 * 2 ^ min (((IntKind.wrap .u64 x1) : Int)).toNat (IntKind.bits .i64))) - 1)), sI 47 v9.Members, sA 46 7 3 1, sB 45 false, sB 44 false, sB 43 r10, sI 42 v9.Id, sA 41 7 3 0, sA 7 7 3 0, sV 40 (Vrow.row v9), (39, .fad ((Vrow.row v9))), sI 38 y3, sC 37 (cF 3 x0.Rows Vrow.row), sA 36 2 2 0, sB 33 (decide (y3 < (x0.Rows.length : Int))), sI 32 (x0.Rows.length : Int), sC 31 (cF 3 x0.Rows Vrow.row), sA 30 2 2 0, sI 29 y3, sI 6 y3, sI 5 (IntKind.wrap .i64 ((IntKind.wrap .i64 (1 * 2 ^ min (((IntKind.wrap .u64 x1) : Int)).toNat (IntKind.bits .i64))) - 1)), sB 4 false, sA 2 2 2 0], [(7, (Vrow.row v9)), (2, (CV.frzRow (Vtab.row x0)))]⟩ (fun cx => ?_) ?_
                    · refine AT.runU tOk [(0, []), (1, [2, 8, 15])] 42 [⟨[2, 8, 15], 3, 41, 42⟩] [1, 0] rfl kr (fun cx => ?_)
                      refine AT.big1 tOk 2 kr kr ?_
                      refine LAt.callV tOk [.rd, .rd, .rd] [] (spec_l1In n v9.Id 1 99 r10 er10) kr kr kr kr (.inl rfl) ?_
                      refine LAt.fin kr (And.intro (And.intro kr kr) ?_)
                      refine AT.runU tOk [(3, []), (4, [])] 39 [⟨[2, 8, 15], 3, 41, 42⟩] [4, 3, 2, 1, 0] rfl kr (fun cx => ?_)
                      refine AT.to ⟨100, 0, [sB 45 (!r10), sB 44 (!r10), sB 43 r10, sI 42 v9.Id, sA 41 7 3 0, sA 7 7 3 0, sV 40 (Vrow.row v9), (39, .fad ((Vrow.row v9))), sI 38 y3, sC 37 (cF 3 x0.Rows Vrow.row), sA 36 2 2 0, sB 33 (decide (y3 < (x0.Rows.length : Int))), sI 32 (x0.Rows.length : Int), sC 31 (cF 3 x0.Rows Vrow.row), sA 30 2 2 0, sI 29 y3, sI 6 y3, sI 5 (IntKind.wrap .i64 ((IntKind.wrap .i64 (1 * 2 ^ min (((IntKind.wrap .u64 x1) : Int)).toNat (IntKind.bits .i64))) - 1)), sB 4 false, sA 2 2 2 0], [(7, (Vrow.row v9)), (2, (CV.frzRow (Vtab.row x0)))]⟩ kr ?_
                      rw [h7]
                      refine AT.runU tOk [(5, []), (6, [8, 15]), (7, [])] 36 [⟨[8, 15], 3, 46, 47⟩, ⟨[2, 8, 15], 3, 41, 42⟩] [7, 6, 5, 4, 3, 2, 1, 0] rfl kr (fun cx => ?_)
                      refine AT.big1 tOk 8 kr kr ?_
                      refine LAt.callV tOk [.rd, .rd, .rd] [] (spec_l1In n v9.Members 0 (IntKind.wrap .i64 ((IntKind.wrap .i64 (1 * 2 ^ min (((IntKind.wrap .u64 x1) : Int)).toNat (IntKind.bits .i64))) - 1)) r11 er11) kr kr kr kr (.inl rfl) ?_
                      refine LAt.fin kr (And.intro (And.intro kr kr) ?_)
                      refine AT.runU tOk [(9, []), (10, []), (11, [])] 32 [⟨[8, 15], 3, 46, 47⟩, ⟨[2, 8, 15], 3, 41, 42⟩] [11, 10, 9, 8, 7, 6, 5, 4, 3, 2, 1, 0] rfl kr (fun cx => ?_)
                      refine AT.to ⟨100, 0, [sB 52 (!r11), sB 51 (!r11), sB 50 (!r11), sB 49 r11, sI 48 (IntKind.wrap .i64 ((IntKind.wrap .i64 (1 * 2 ^ min (((IntKind.wrap .u64 x1) : Int)).toNat (IntKind.bits .i64))) - 1)), sI 47 v9.Members, sA 46 7 3 1, sB 45 false, sB 44 false, sB 43 r10, sI 42 v9.Id, sA 41 7 3 0, sA 7 7 3 0, sV 40 (Vrow.row v9), (39, .fad ((Vrow.row v9))), sI 38 y3, sC 37 (cF 3 x0.Rows Vrow.row), sA 36 2 2 0, sB 33 (decide (y3 < (x0.Rows.length : Int))), sI 32 (x0.Rows.length : Int), sC 31 (cF 3 x0.Rows Vrow.row), sA 30 2 2 0, sI 29 y3, sI 6 y3, sI 5 (IntKind.wrap .i64 ((IntKind.wrap .i64 (1 * 2 ^ min (((IntKind.wrap .u64 x1) : Int)).toNat (IntKind.bits .i64))) - 1)), sB 4 false, sA 2 2 2 0], [(7, (Vrow.row v9)), (2, (CV.frzRow (Vtab.row x0)))]⟩ kr ?_
                      rw [h8]
                      refine AT.runU tOk [(12, []), (13, [15]), (14, [])] 29 [⟨[15], 3, 53, 54⟩, ⟨[8, 15], 3, 46, 47⟩, ⟨[2, 8, 15], 3, 41, 42⟩] [14, 13, 12, 11, 10, 9, 8, 7, 6, 5, 4, 3, 2, 1, 0] rfl kr (fun cx => ?_)
                      refine AT.big1 tOk 15 kr kr ?_
                      refine LAt.callV tOk [.rd, .rd, .rd] [] (spec_l1In n v9.Bare 0 (IntKind.wrap .i64 ((IntKind.wrap .i64 (1 * 2 ^ min (((IntKind.wrap .u64 x1) : Int)).toNat (IntKind.bits .i64))) - 1)) r12 er12) kr kr kr kr (.inl rfl) ?_
                      refine LAt.fin kr (And.intro (And.intro kr kr) ?_)
                      refine AT.runU tOk [(16, []), (17, []), (18, [])] 25 [⟨[15], 3, 53, 54⟩, ⟨[8, 15], 3, 46, 47⟩, ⟨[2, 8, 15], 3, 41, 42⟩] [18, 17, 16, 15, 14, 13, 12, 11, 10, 9, 8, 7, 6, 5, 4, 3, 2, 1, 0] rfl kr (fun cx => ?_)
                      refine AT.to ⟨100, 0, [sB 59 (!r12), sB 58 (!r12), sB 57 (!r12), sB 56 r12, sI 55 (IntKind.wrap .i64 ((IntKind.wrap .i64 (1 * 2 ^ min (((IntKind.wrap .u64 x1) : Int)).toNat (IntKind.bits .i64))) - 1)), sI 54 v9.Bare, sA 53 7 3 2, sB 52 false, sB 51 false, sB 50 false, sB 49 r11, sI 48 (IntKind.wrap .i64 ((IntKind.wrap .i64 (1 * 2 ^ min (((IntKind.wrap .u64 x1) : Int)).toNat (IntKind.bits .i64))) - 1)), sI 47 v9.Members, sA 46 7 3 1, sB 45 false, sB 44 false, sB 43 r10, sI 42 v9.Id, sA 41 7 3 0, sA 7 7 3 0, sV 40 (Vrow.row v9), (39, .fad ((Vrow.row v9))), sI 38 y3, sC 37 (cF 3 x0.Rows Vrow.row), sA 36 2 2 0, sB 33 (decide (y3 < (x0.Rows.length : Int))), sI 32 (x0.Rows.length : Int), sC 31 (cF 3 x0.Rows Vrow.row), sA 30 2 2 0, sI 29 y3, sI 6 y3, sI 5 (IntKind.wrap .i64 ((IntKind.wrap .i64 (1 * 2 ^ min (((IntKind.wrap .u64 x1) : Int)).toNat (IntKind.bits .i64))) - 1)), sB 4 false, sA 2 2 2 0], [(7, (Vrow.row v9)), (2, (CV.frzRow (Vtab.row x0)))]⟩ kr ?_
                      rw [h9]
                      refine AT.runU tOk [(19, []), (20, []), (21, []), (22, []), (23, []), (24, []), (25, []), (26, []), (27, []), (28, [])] 15 [⟨[], 3, 65, 66⟩, ⟨[], 3, 62, 63⟩, ⟨[], 3, 60, 61⟩, ⟨[15], 3, 53, 54⟩, ⟨[8, 15], 3, 46, 47⟩, ⟨[2, 8, 15], 3, 41, 42⟩] [28, 27, 26, 25, 24, 23, 22, 21, 20, 19, 18, 17, 16, 15, 14, 13, 12, 11, 10, 9, 8, 7, 6, 5, 4, 3, 2, 1, 0] rfl kr (fun cx => ?_)
                      refine AT.to ⟨100, 0, [sB 69 ((IntKind.wrap .i64 (BitVec.ofInt (IntKind.bits .i64) v9.Bare &&& BitVec.ofInt (IntKind.bits .i64) v9.Members).toNat) != v9.Bare), sB 68 ((IntKind.wrap .i64 (BitVec.ofInt (IntKind.bits .i64) v9.Bare &&& BitVec.ofInt (IntKind.bits .i64) v9.Members).toNat) != v9.Bare), sB 67 ((IntKind.wrap .i64 (BitVec.ofInt (IntKind.bits .i64) v9.Bare &&& BitVec.ofInt (IntKind.bits .i64) v9.Members).toNat) != v9.Bare), sI 66 v9.Bare, sA 65 7 3 2, sI 64 (IntKind.wrap .i64 (BitVec.ofInt (IntKind.bits .i64) v9.Bare &&& BitVec.ofInt (IntKind.bits .i64) v9.Members).toNat), sI 63 v9.Members, sA 62 7 3 1, sI 61 v9.Bare, sA 60 7 3 2, sB 59 false, sB 58 false, sB 57 false, sB 56 r12, sI 55 (IntKind.wrap .i64 ((IntKind.wrap .i64 (1 * 2 ^ min (((IntKind.wrap .u64 x1) : Int)).toNat (IntKind.bits .i64))) - 1)), sI 54 v9.Bare, sA 53 7 3 2, sB 52 false, sB 51 false, sB 50 false, sB 49 r11, sI 48 (IntKind.wrap .i64 ((IntKind.wrap .i64 (1 * 2 ^ min (((IntKind.wrap .u64 x1) : Int)).toNat (IntKind.bits .i64))) - 1)), sI 47 v9.Members, sA 46 7 3 1, sB 45 false, sB 44 false, sB 43 r10, sI 42 v9.Id, sA 41 7 3 0, sA 7 7 3 0, sV 40 (Vrow.row v9), (39, .fad ((Vrow.row v9))), sI 38 y3, sC 37 (cF 3 x0.Rows Vrow.row), sA 36 2 2 0, sB 33 (decide (y3 < (x0.Rows.length : Int))), sI 32 (x0.Rows.length : Int), sC 31 (cF 3 x0.Rows Vrow.row), sA 30 2 2 0, sI 29 y3, sI 6 y3, sI 5 (IntKind.wrap .i64 ((IntKind.wrap .i64 (1 * 2 ^ min (((IntKind.wrap .u64 x1) : Int)).toNat (IntKind.bits .i64))) - 1)), sB 4 false, sA 2 2 2 0], [(7, (Vrow.row v9)), (2, (CV.frzRow (Vtab.row x0)))]⟩ kr ?_
                      rw [h10]
                      refine AT.runU tOk [(29, []), (30, []), (31, [])] 12 [⟨[], 3, 65, 66⟩, ⟨[], 3, 62, 63⟩, ⟨[], 3, 60, 61⟩, ⟨[15], 3, 53, 54⟩, ⟨[8, 15], 3, 46, 47⟩, ⟨[2, 8, 15], 3, 41, 42⟩] [31, 30, 29, 28, 27, 26, 25, 24, 23, 22, 21, 20, 19, 18, 17, 16, 15, 14, 13, 12, 11, 10, 9, 8, 7, 6, 5, 4, 3, 2, 1, 0] rfl kr (fun cx => ?_)
                      refine AT.to ⟨100, 0, [sB 72 (decide (y3 > 0)), sB 71 (decide (y3 > 0)), sI 70 y3, sB 69 false, sB 68 false, sB 67 false, sI 66 v9.Bare, sA 65 7 3 2, sI 64 (IntKind.wrap .i64 (BitVec.ofInt (IntKind.bits .i64) v9.Bare &&& BitVec.ofInt (IntKind.bits .i64) v9.Members).toNat), sI 63 v9.Members, sA 62 7 3 1, sI 61 v9.Bare, sA 60 7 3 2, sB 59 false, sB 58 false, sB 57 false, sB 56 r12, sI 55 (IntKind.wrap .i64 ((IntKind.wrap .i64 (1 * 2 ^ min (((IntKind.wrap .u64 x1) : Int)).toNat (IntKind.bits .i64))) - 1)), sI 54 v9.Bare, sA 53 7 3 2, sB 52 false, sB 51 false, sB 50 false, sB 49 r11, sI 48 (IntKind.wrap .i64 ((IntKind.wrap .i64 (1 * 2 ^ min (((IntKind.wrap .u64 x1) : Int)).toNat (IntKind.bits .i64))) - 1)), sI 47 v9.Members, sA 46 7 3 1, sB 45 false, sB 44 false, sB 43 r10, sI 42 v9.Id, sA 41 7 3 0, sA 7 7 3 0, sV 40 (Vrow.row v9), (39, .fad ((Vrow.row v9))), sI 38 y3, sC 37 (cF 3 x0.Rows Vrow.row), sA 36 2 2 0, sB 33 (decide (y3 < (x0.Rows.length : Int))), sI 32 (x0.Rows.length : Int), sC 31 (cF 3 x0.Rows Vrow.row), sA 30 2 2 0, sI 29 y3, sI 6 y3, sI 5 (IntKind.wrap .i64 ((IntKind.wrap .i64 (1 * 2 ^ min (((IntKind.wrap .u64 x1) : Int)).toNat (IntKind.bits .i64))) - 1)), sB 4 false, sA 2 2 2 0], [(7, (Vrow.row v9)), (2, (CV.frzRow (Vtab.row x0)))]⟩ kr ?_
                      rw [h11]
                      refine AT.runU tOk [(32, []), (33, []), (34, []), (35, []), (36, []), (37, []), (38, []), (39, []), (40, []), (41, []), (42, []), (43, [])] 0 [⟨[], 3, 65, 66⟩, ⟨[], 3, 62, 63⟩, ⟨[], 3, 60, 61⟩, ⟨[15], 3, 53, 54⟩, ⟨[8, 15], 3, 46, 47⟩, ⟨[2, 8, 15], 3, 41, 42⟩] [43, 42, 41, 40, 39, 38, 37, 36, 35, 34, 33, 32, 31, 30, 29, 28, 27, 26, 25, 24, 23, 22, 21, 20, 19, 18, 17, 16, 15, 14, 13, 12, 11, 10, 9, 8, 7, 6, 5, 4, 3, 2, 1, 0] rfl kr (fun cx => ?_)
                      exact AT.done [84, 83, 82, 81, 80, 79, 78, 77, 76, 75, 74, 73, 72, 71, 70, 69, 68, 67, 66, 65, 64, 63, 62, 61, 60, 59, 58, 57, 56, 55, 54, 53, 52, 51, 50, 49, 48, 47, 46, 45, 44, 43, 42, 41, 7, 40, 39, 38, 37, 36, 33, 32, 31, 30, 29, 6, 5, 4, 2] [7, 2] _ kr kr rfl
                    refine Tr.cf kr ?_
                    refine Tr.skip ?_
                    show Tr _ _ _ _ _
                    refine Tr.rgE tOk 3 38685626227668133053726964 132 kr kr ?_
                    exact Exists.intro (mo8, (IntKind.wrap .i64 (y3 + 1))) (And.intro H (And.intro (Nat.lt_succ_self mo8) (St.sub_of [6, 5, 4, 2] [2] kr)))
                  have H := bifT h11 H
                  obtain ⟨v13, ev13, H⟩ := bind_some H
                  refine Tr.draws mixed 44 kr ⟨100, 0, [sB 84 (decide (v13.Id ≥ v9.Id)), sB 83 (decide (v13.Id ≥ v9.Id)), sB 82 (decide (v13.Id ≥ v9.Id)), sI 81 v9.Id, sA 80 7 3 0, sI 79 v13.Id, (78, .fad ((Vrow.row v13))), (77, .fad ((Vrow.row v13))), sI 76 (IntKind.wrap .i64 (y3 - 1)), sI 75 y3, sR 74 2 2 0 1 false, sA 73 2 2 0, sB 72 true, sB 71 true, sI 70 y3, sB 69 false, sB 68 false, sB 67 false, sI 66 v9.Bare, sA 65 7 3 2, sI 64 (IntKind.wrap .i64 (BitVec.ofInt (IntKind.bits .i64) v9.Bare &&& BitVec.ofInt (IntKind.bits .i64) v9.Members).toNat), sI 63 v9.Members, sA 62 7 3 1, sI 61 v9.Bare, sA 60 7 3 2, sB 59 false, sB 58 false, sB 57 false, sB 56 r12, sI 55 (IntKind.wrap .i64 ((IntKind.wrap .i64 (1 * 2 ^ min (((IntKind.wrap .u64 x1) : Int)).toNat (IntKind.bits .i64))) - 1)), sI 54 v9.Bare, sA 53 7 3 2, sB 52 false, sB 51 false, sB 50 false, sB 49 r11, sI 48 (IntKind.wrap .i64 ((IntKind.wrap .i64 (1 * 2 ^ min (((IntKind.wrap .u64 x1) : Int)).toNat (IntKind.bits .i64))) - 1)), sI 47 v9.Members, sA 46 7 3 1, sB 45 false, sB 44 false, sB 43 r10, sI 42 v9.Id, sA 41 7 3 0, sA 7 7 3 0, sV 40 (Vrow.row v9), (39, .fad ((Vrow.row v9))), sI 38 y3, sC 37 (cF 3 x0.Rows Vrow.row), sA 36 2 2 0, sB 33 (decide (y3 < (x0.Rows.length : Int))), sI 32 (x0.Rows.length : Int), sC 31 (cF 3 x0.Rows Vrow.row), sA 30 2 2 0, sI 29 y3, sI 6 y3, sI 5 (IntKind.wrap .i64 ((IntKind.wrap .i64 (1 * 2 ^ min (((IntKind.wrap .u64 x1) : Int)).toNat (IntKind.bits .i64))) - 1)), sB 4 false, sA 2 2 2 0], [(7, (Vrow.row v9)), (2, (CV.frzRow (Vtab.row x0)))]⟩ (fun cx => ?_) ?_
                  · refine AT.runU tOk [(0, []), (1, [2, 8, 15])] 42 [⟨[2, 8, 15], 3, 41, 42⟩] [1, 0] rfl kr (fun cx => ?_)
                    refine AT.big1 tOk 2 kr kr ?_
                    refine LAt.callV tOk [.rd, .rd, .rd] [] (spec_l1In n v9.Id 1 99 r10 er10) kr kr kr kr (.inl rfl) ?_
                    refine LAt.fin kr (And.intro (And.intro kr kr) ?_)
                    refine AT.runU tOk [(3, []), (4, [])] 39 [⟨[2, 8, 15], 3, 41, 42⟩] [4, 3, 2, 1, 0] rfl kr (fun cx => ?_)
                    refine AT.to ⟨100, 0, [sB 45 (!r10), sB 44 (!r10), sB 43 r10, sI 42 v9.Id, sA 41 7 3 0, sA 7 7 3 0, sV 40 (Vrow.row v9), (39, .fad ((Vrow.row v9))), sI 38 y3, sC 37 (cF 3 x0.Rows Vrow.row), sA 36 2 2 0, sB 33 (decide (y3 < (x0.Rows.length : Int))), sI 32 (x0.Rows.length : Int), sC 31 (cF 3 x0.Rows Vrow.row), sA 30 2 2 0, sI 29 y3, sI 6 y3, sI 5 (IntKind.wrap .i64 ((IntKind.wrap .i64 (1 * 2 ^ min (((IntKind.wrap .u64 x1) : Int)).toNat (IntKind.bits .i64))) - 1)), sB 4 false, sA 2 2 2 0], [(7, (Vrow.row v9)), (2, (CV.frzRow (Vtab.row x0)))]⟩ kr ?_
                    rw [h7]
                    refine AT.runU tOk [(5, []), (6, [8, 15]), (7, [])] 36 [⟨[8, 15], 3, 46, 47⟩, ⟨[2, 8, 15], 3, 41, 42⟩] [7, 6, 5, 4, 3, 2, 1, 0] rfl kr (fun cx => ?_)
                    refine AT.big1 tOk 8 kr kr ?_
                    refine LAt.callV tOk [.rd, .rd, .rd] [] (spec_l1In n v9.Members 0 (IntKind.wrap .i64 ((IntKind.wrap .i64 (1 * 2 ^ min (((IntKind.wrap .u64 x1) : Int)).toNat (IntKind.bits .i64))) - 1)) r11 er11) kr kr kr kr (.inl rfl) ?_
                    refine LAt.fin kr (And.intro (And.intro kr kr) ?_)
                    refine AT.runU tOk [(9, []), (10, []), (11, [])] 32 [⟨[8, 15], 3, 46, 47⟩, ⟨[2, 8, 15], 3, 41, 42⟩] [11, 10, 9, 8, 7, 6, 5, 4, 3, 2, 1, 0] rfl kr (fun cx => ?_)
                    refine AT.to ⟨100, 0, [sB 52 (!r11), sB 51 (!r11), sB 50 (!r11), sB 49 r11, sI 48 (IntKind.wrap .i64 ((IntKind.wrap .i64 (1 * 2 ^ min (((IntKind.wrap .u64 x1) : Int)).toNat (IntKind.bits .i64))) - 1)), sI 47 v9.Members, sA 46 7 3 1, sB 45 false, sB 44 false, sB 43 r10, sI 42 v9.Id, sA 41 7 3 0, sA 7 7 3 0, sV 40 (Vrow.row v9), (39, .fad ((Vrow.row v9))), sI 38 y3, sC 37 (cF 3 x0.Rows Vrow.row), sA 36 2 2 0, sB 33 (decide (y3 < (x0.Rows.length : Int))), sI 32 (x0.Rows.length : Int), sC 31 (cF 3 x0.Rows Vrow.row), sA 30 2 2 0, sI 29 y3, sI 6 y3, sI 5 (IntKind.wrap .i64 ((IntKind.wrap .i64 (1 * 2 ^ min (((IntKind.wrap .u64 x1) : Int)).toNat (IntKind.bits .i64))) - 1)), sB 4 false, sA 2 2 2 0], [(7, (Vrow.row v9)), (2, (CV.frzRow (Vtab.row x0)))]⟩ kr ?_
                    rw [h8]
                    refine AT.runU tOk [(12, []), (13, [15]), (14, [])] 29 [⟨[15], 3, 53, 54⟩, ⟨[8, 15], 3, 46, 47⟩, ⟨[2, 8, 15], 3, 41, 42⟩] [14, 13, 12, 11, 10, 9, 8, 7, 6, 5, 4, 3, 2, 1, 0] rfl kr (fun cx => ?_)
                    refine AT.big1 tOk 15 kr kr ?_
                    refine LAt.callV tOk [.rd, .rd, .rd] [] (spec_l1In n v9.Bare 0 (IntKind.wrap .i64 ((IntKind.wrap .i64 (1 * 2 ^ min (((IntKind.wrap .u64 x1) : Int)).toNat (IntKind.bits .i64))) - 1)) r12 er12) kr kr kr kr (.inl rfl) ?_
                    refine LAt.fin kr (And.intro (And.intro kr kr) ?_)
                    refine AT.runU tOk [(16, []), (17, []), (18, [])] 25 [⟨[15], 3, 53, 54⟩, ⟨[8, 15], 3, 46, 47⟩, ⟨[2, 8, 15], 3, 41, 42⟩] [18, 17, 16, 15, 14, 13, 12, 11, 10, 9, 8, 7, 6, 5, 4, 3, 2, 1, 0] rfl kr (fun cx => ?_)
                    refine AT.to ⟨100, 0, [sB 59 (!r12), sB 58 (!r12), sB 57 (!r12), sB 56 r12, sI 55 (IntKind.wrap .i64 ((IntKind.wrap .i64 (1 * 2 ^ min (((IntKind.wrap .u64 x1) : Int)).toNat (IntKind.bits .i64))) - 1)), sI 54 v9.Bare, sA 53 7 3 2, sB 52 false, sB 51 false, sB 50 false, sB 49 r11, sI 48 (IntKind.wrap .i64 ((IntKind.wrap .i64 (1 * 2 ^ min (((IntKind.wrap .u64 x1) : Int)).toNat (IntKind.bits .i64))) - 1)), sI 47 v9.Members, sA 46 7 3 1, sB 45 false, sB 44 false, sB 43 r10, sI 42 v9.Id, sA 41 7 3 0, sA 7 7 3 0, sV 40 (Vrow.row v9), (39, .fad ((Vrow.row v9))), sI 38 y3, sC 37 (cF 3 x0.Rows Vrow.row), sA 36 2 2 0, sB 33 (decide (y3 < (x0.Rows.length : Int))), sI 32 (x0.Rows.length : Int), sC 31 (cF 3 x0.Rows Vrow.row), sA 30 2 2 0, sI 29 y3, sI 6 y3, sI 5 (IntKind.wrap .i64 ((IntKind.wrap .i64 (1 * 2 ^ min (((IntKind.wrap .u64 x1) : Int)).toNat (IntKind.bits .i64))) - 1)), sB 4 false, sA 2 2 2 0], [(7, (Vrow.row v9)), (2, (CV.frzRow (Vtab.row x0)))]⟩ kr ?_
                    rw [h9]
                    refine AT.runU tOk [(19, []), (20, []), (21, []), (22, []), (23, []), (24, []), (25, []), (26, []), (27, []), (28, [])] 15 [⟨[], 3, 65, 66⟩, ⟨[], 3, 62, 63⟩, ⟨[], 3, 60, 61⟩, ⟨[15], 3, 53, 54⟩, ⟨[8, 15], 3, 46, 47⟩, ⟨[2, 8, 15], 3, 41, 42⟩] [28, 27, 26, 25, 24, 23, 22, 21, 20, 19, 18, 17, 16, 15, 14, 13, 12, 11, 10, 9, 8, 7, 6, 5, 4, 3, 2, 1, 0] rfl kr (fun cx => ?_)
                    refine AT.to ⟨100, 0, [sB 69 ((IntKind.wrap .i64 (BitVec.ofInt (IntKind.bits .i64) v9.Bare &&& BitVec.ofInt (IntKind.bits .i64) v9.Members).toNat) != v9.Bare), sB 68 ((IntKind.wrap .i64 (BitVec.ofInt (IntKind.bits .i64) v9.Bare &&& BitVec.ofInt (IntKind.bits .i64) v9.Members).toNat) != v9.Bare), sB 67 ((IntKind.wrap .i64 (BitVec.ofInt (IntKind.bits .i64) v9.Bare &&& BitVec.ofInt (IntKind.bits .i64) v9.Members).toNat) != v9.Bare), sI 66 v9.Bare, sA 65 7 3 2, sI 64 (IntKind.wrap .i64 (BitVec.ofInt (IntKind.bits .i64) v9.Bare &&& BitVec.ofInt (IntKind.bits .i64) v9.Members).toNat), sI 63 v9.Members, sA 62 7 3 1, sI 61 v9.Bare, sA 60 7 3 2, sB 59 false, sB 58 false, sB 57 false, sB 56 r12, sI 55 (IntKind.wrap .i64 ((IntKind.wrap .i64 (1 * 2 ^ min (((IntKind.wrap .u64 x1) : Int)).toNat (IntKind.bits .i64))) - 1)), sI 54 v9.Bare, sA 53 7 3 2, sB 52 false, sB 51 false, sB 50 false, sB 49 r11, sI 48 (IntKind.wrap .i64 ((IntKind.wrap .i64 (1 * 2 ^ min (((IntKind.wrap .u64 x1) : Int)).toNat (IntKind.bits .i64))) - 1)), sI 47 v9.Members, sA 46 7 3 1, sB 45 false, sB 44 false, sB 43 r10, sI 42 v9.Id, sA 41 7 3 0, sA 7 7 3 0, sV 40 (Vrow.row v9), (39, .fad ((Vrow.row v9))), sI 38 y3, sC 37 (cF 3 x0.Rows Vrow.row), sA 36 2 2 0, sB 33 (decide (y3 < (x0.Rows.length : Int))), sI 32 (x0.Rows.length : Int), sC 31 (cF 3 x0.Rows Vrow.row), sA 30 2 2 0, sI 29 y3, sI 6 y3, sI 5 (IntKind.wrap .i64 ((IntKind.wrap .i64 (1 * 2 ^ min (((IntKind.wrap .u64 x1) : Int)).toNat (IntKind.bits .i64))) - 1)), sB 4 false, sA 2 2 2 0], [(7, (Vrow.row v9)), (2, (CV.frzRow (Vtab.row x0)))]⟩ kr ?_
                    rw [h10]
                    refine AT.runU tOk [(29, []), (30, []), (31, [])] 12 [⟨[], 3, 65, 66⟩, ⟨[], 3, 62, 63⟩, ⟨[], 3, 60, 61⟩, ⟨[15], 3, 53, 54⟩, ⟨[8, 15], 3, 46, 47⟩, ⟨[2, 8, 15], 3, 41, 42⟩] [31, 30, 29, 28, 27, 26, 25, 24, 23, 22, 21, 20, 19, 18, 17, 16, 15, 14, 13, 12, 11, 10, 9, 8, 7, 6, 5, 4, 3, 2, 1, 0] rfl kr (fun cx => ?_)
                    refine AT.to ⟨100, 0, [sB 72 (decide (y3 > 0)), sB 71 (decide (y3 > 0)), sI 70 y3, sB 69 false, sB 68 false, sB 67 false, sI 66 v9.Bare, sA 65 7 3 2, sI 64 (IntKind.wrap .i64 (BitVec.ofInt (IntKind.bits .i64) v9.Bare &&& BitVec.ofInt (IntKind.bits .i64) v9.Members).toNat), sI 63 v9.Members, sA 62 7 3 1, sI 61 v9.Bare, sA 60 7 3 2, sB 59 false, sB 58 false, sB 57 false, sB 56 r12, sI 55 (IntKind.wrap .i64 ((IntKind.wrap .i64 (1 * 2 ^ min (((IntKind.wrap .u64 x1) : Int)).toNat (IntKind.bits .i64))) - 1)), sI 54 v9.Bare, sA 53 7 3 2, sB 52 false, sB 51 false, sB 50 false, sB 49 r11, sI 48 (IntKind.wrap .i64 ((IntKind.wrap .i64 (1 * 2 ^ min (((IntKind.wrap .u64 x1) : Int)).toNat (IntKind.bits .i64))) - 1)), sI 47 v9.Members, sA 46 7 3 1, sB 45 false, sB 44 false, sB 43 r10, sI 42 v9.Id, sA 41 7 3 0, sA 7 7 3 0, sV 40 (Vrow.row v9), (39, .fad ((Vrow.row v9))), sI 38 y3, sC 37 (cF 3 x0.Rows Vrow.row), sA 36 2 2 0, sB 33 (decide (y3 < (x0.Rows.length : Int))), sI 32 (x0.Rows.length : Int), sC 31 (cF 3 x0.Rows Vrow.row), sA 30 2 2 0, sI 29 y3, sI 6 y3, sI 5 (IntKind.wrap .i64 ((IntKind.wrap .i64 (1 * 2 ^ min (((IntKind.wrap .u64 x1) : Int)).toNat (IntKind.bits .i64))) - 1)), sB 4 false, sA 2 2 2 0], [(7, (Vrow.row v9)), (2, (CV.frzRow (Vtab.row x0)))]⟩ kr ?_
                    rw [h11]
                    refine AT.runU tOk [(32, []), (33, []), (34, []), (35, [])] 8 [⟨[], 27, 73, 74⟩, ⟨[], 3, 65, 66⟩, ⟨[], 3, 62, 63⟩, ⟨[], 3, 60, 61⟩, ⟨[15], 3, 53, 54⟩, ⟨[8, 15], 3, 46, 47⟩, ⟨[2, 8, 15], 3, 41, 42⟩] [35, 34, 33, 32, 31, 30, 29, 28, 27, 26, 25, 24, 23, 22, 21, 20, 19, 18, 17, 16, 15, 14, 13, 12, 11, 10, 9, 8, 7, 6, 5, 4, 3, 2, 1, 0] rfl kr (fun cx => ?_)
                    refine AT.indexF tOk 36 (t := 27) (ty := 0) (x := (.tmp 74)) (y := (.tmp 76)) (d := 77) (g := (some (31, true))) ⟨(.box 2), [(0, 0)], 0, false, 3, (CV.frzEs (x0.Rows.map Vrow.row))⟩ (IntKind.wrap .i64 (y3 - 1)) (Vrow.row v13) _ kr kr kr kr kr kr rfl (idx_isF ev13) rfl (fun cx => ?_)
                    refine AT.runU tOk [(37, []), (38, []), (39, []), (40, []), (41, []), (42, []), (43, [])] 0 [⟨[], 3, 80, 81⟩, ⟨[], 27, 73, 74⟩, ⟨[], 3, 65, 66⟩, ⟨[], 3, 62, 63⟩, ⟨[], 3, 60, 61⟩, ⟨[15], 3, 53, 54⟩, ⟨[8, 15], 3, 46, 47⟩, ⟨[2, 8, 15], 3, 41, 42⟩] [43, 42, 41, 40, 39, 38, 37, 36, 35, 34, 33, 32, 31, 30, 29, 28, 27, 26, 25, 24, 23, 22, 21, 20, 19, 18, 17, 16, 15, 14, 13, 12, 11, 10, 9, 8, 7, 6, 5, 4, 3, 2, 1, 0] rfl kr (fun cx => ?_)
                    exact AT.done [84, 83, 82, 81, 80, 79, 78, 77, 76, 75, 74, 73, 72, 71, 70, 69, 68, 67, 66, 65, 64, 63, 62, 61, 60, 59, 58, 57, 56, 55, 54, 53, 52, 51, 50, 49, 48, 47, 46, 45, 44, 43, 42, 41, 7, 40, 39, 38, 37, 36, 33, 32, 31, 30, 29, 6, 5, 4, 2] [7, 2] _ kr kr rfl
                  refine Tr.to ⟨100, 0, [sB 84 (decide (v13.Id ≥ v9.Id)), sB 83 (decide (v13.Id ≥ v9.Id)), sB 82 (decide (v13.Id ≥ v9.Id)), sI 81 v9.Id, sA 80 7 3 0, sI 79 v13.Id, (78, .fad ((Vrow.row v13))), (77, .fad ((Vrow.row v13))), sI 76 (IntKind.wrap .i64 (y3 - 1)), sI 75 y3, sR 74 2 2 0 1 false, sA 73 2 2 0, sB 72 true, sB 71 true, sI 70 y3, sB 69 false, sB 68 false, sB 67 false, sI 66 v9.Bare, sA 65 7 3 2, sI 64 (IntKind.wrap .i64 (BitVec.ofInt (IntKind.bits .i64) v9.Bare &&& BitVec.ofInt (IntKind.bits .i64) v9.Members).toNat), sI 63 v9.Members, sA 62 7 3 1, sI 61 v9.Bare, sA 60 7 3 2, sB 59 false, sB 58 false, sB 57 false, sB 56 r12, sI 55 (IntKind.wrap .i64 ((IntKind.wrap .i64 (1 * 2 ^ min (((IntKind.wrap .u64 x1) : Int)).toNat (IntKind.bits .i64))) - 1)), sI 54 v9.Bare, sA 53 7 3 2, sB 52 false, sB 51 false, sB 50 false, sB 49 r11, sI 48 (IntKind.wrap .i64 ((IntKind.wrap .i64 (1 * 2 ^ min (((IntKind.wrap .u64 x1) : Int)).toNat (IntKind.bits .i64))) - 1)), sI 47 v9.Members, sA 46 7 3 1, sB 45 false, sB 44 false, sB 43 r10, sI 42 v9.Id, sA 41 7 3 0, sA 7 7 3 0, sV 40 (Vrow.row v9), (39, .fad ((Vrow.row v9))), sI 38 y3, sC 37 (cF 3 x0.Rows Vrow.row), sA 36 2 2 0, sB 33 (decide (y3 < (x0.Rows.length : Int))), sI 32 (x0.Rows.length : Int), sC 31 (cF 3 x0.Rows Vrow.row), sA 30 2 2 0, sI 29 y3, sI 6 y3, sI 5 (IntKind.wrap .i64 ((IntKind.wrap .i64 (1 * 2 ^ min (((IntKind.wrap .u64 x1) : Int)).toNat (IntKind.bits .i64))) - 1)), sB 4 false, sA 2 2 2 0], [(7, (Vrow.row v9)), (2, (CV.frzRow (Vtab.row x0)))]⟩ kr ?_
                  cases h12 : (decide (v13.Id ≥ v9.Id))
                  · have H := bifF h12 H
                    refine Tr.cf kr ?_
                    refine Tr.skip ?_
                    show Tr _ _ _ _ _
                    refine Tr.rgE tOk 3 38685626227668133053726964 132 kr kr ?_
                    exact Exists.intro (mo8, (IntKind.wrap .i64 (y3 + 1))) (And.intro H (And.intro (Nat.lt_succ_self mo8) (St.sub_of [6, 5, 4, 2] [2] kr)))
                  have H := bifT h12 H
                  refine Tr.ct kr ?_
                  refine Tr.rgn tOk 1 38685626227668081514119412 132 kr kr ?_
                  refine Tr.ret ?_
                  have H := Option.some.inj H
                  subst H
                  have H := Ho8
                  dsimp only at H
                  have H := Option.some.inj H
                  subst H
                  exact Fin.of _ [(false, [cB false])] kr rfl rfl
                have H := bifT h10 H
                refine Tr.draws mixed 44 kr ⟨100, 0, [sB 84 true, (83, .tup []), (82, .tup []), (81, .tup []), (80, .tup []), (79, .tup []), (78, .tup []), (77, .tup []), (76, .tup []), (75, .tup []), (74, .tup []), (73, .tup []), (72, .tup []), (71, .tup []), (70, .tup []), sB 69 true, sB 68 true, sB 67 true, sI 66 v9.Bare, sA 65 7 3 2, sI 64 (IntKind.wrap .i64 (BitVec.ofInt (IntKind.bits .i64) v9.Bare &&& BitVec.ofInt (IntKind.bits .i64) v9.Members).toNat), sI 63 v9.Members, sA 62 7 3 1, sI 61 v9.Bare, sA 60 7 3 2, sB 59 false, sB 58 false, sB 57 false, sB 56 r12, sI 55 (IntKind.wrap .i64 ((IntKind.wrap .i64 (1 * 2 ^ min (((IntKind.wrap .u64 x1) : Int)).toNat (IntKind.bits .i64))) - 1)), sI 54 v9.Bare, sA 53 7 3 2, sB 52 false, sB 51 false, sB 50 false, sB 49 r11, sI 48 (IntKind.wrap .i64 ((IntKind.wrap .i64 (1 * 2 ^ min (((IntKind.wrap .u64 x1) : Int)).toNat (IntKind.bits .i64))) - 1)), sI 47 v9.Members, sA 46 7 3 1, sB 45 false, sB 44 false, sB 43 r10, sI 42 v9.Id, sA 41 7 3 0, sA 7 7 3 0, sV 40 (Vrow.row v9), (39, .fad ((Vrow.row v9))), sI 38 y3, sC 37 (cF 3 x0.Rows Vrow.row), sA 36 2 2 0, sB 33 (decide (y3 < (x0.Rows.length : Int))), sI 32 (x0.Rows.length : Int), sC 31 (cF 3 x0.Rows Vrow.row), sA 30 2 2 0, sI 29 y3, sI 6 y3, sI 5 (IntKind.wrap .i64 ((IntKind.wrap .i64 (1 * 2 ^ min (((IntKind.wrap .u64 x1) : Int)).toNat (IntKind.bits .i64))) - 1)), sB 4 false, sA 2 2 2 0], [(7, (Vrow.row v9)), (2, (CV.frzRow (Vtab.row x0)))]⟩ (fun cx => ?_) ?_
                · refine AT.runU tOk [(0, []), (1, [2, 8, 15])] 42 [⟨[2, 8, 15], 3, 41, 42⟩] [1, 0] rfl kr (fun cx => ?_)
                  refine AT.big1 tOk 2 kr kr ?_
                  refine LAt.callV tOk [.rd, .rd, .rd] [] (spec_l1In n v9.Id 1 99 r10 er10) kr kr kr kr (.inl rfl) ?_
                  refine LAt.fin kr (And.intro (And.intro kr kr) ?_)
                  refine AT.runU tOk [(3, []), (4, [])] 39 [⟨[2, 8, 15], 3, 41, 42⟩] [4, 3, 2, 1, 0] rfl kr (fun cx => ?_)
                  refine AT.to ⟨100, 0, [sB 45 (!r10), sB 44 (!r10), sB 43 r10, sI 42 v9.Id, sA 41 7 3 0, sA 7 7 3 0, sV 40 (Vrow.row v9), (39, .fad ((Vrow.row v9))), sI 38 y3, sC 37 (cF 3 x0.Rows Vrow.row), sA 36 2 2 0, sB 33 (decide (y3 < (x0.Rows.length : Int))), sI 32 (x0.Rows.length : Int), sC 31 (cF 3 x0.Rows Vrow.row), sA 30 2 2 0, sI 29 y3, sI 6 y3, sI 5 (IntKind.wrap .i64 ((IntKind.wrap .i64 (1 * 2 ^ min (((IntKind.wrap .u64 x1) : Int)).toNat (IntKind.bits .i64))) - 1)), sB 4 false, sA 2 2 2 0], [(7, (Vrow.row v9)), (2, (CV.frzRow (Vtab.row x0)))]⟩ kr ?_
                  rw [h7]
                  refine AT.runU tOk [(5, []), (6, [8, 15]), (7, [])] 36 [⟨[8, 15], 3, 46, 47⟩, ⟨[2, 8, 15], 3, 41, 42⟩] [7, 6, 5, 4, 3, 2, 1, 0] rfl kr (fun cx => ?_)
                  refine AT.big1 tOk 8 kr kr ?_
                  refine LAt.callV tOk [.rd, .rd, .rd] [] (spec_l1In n v9.Members 0 (IntKind.wrap .i64 ((IntKind.wrap .i64 (1 * 2 ^ min (((IntKind.wrap .u64 x1) : Int)).toNat (IntKind.bits .i64))) - 1)) r11 er11) kr kr kr kr (.inl rfl) ?_
                  refine LAt.fin kr (And.intro (And.intro kr kr) ?_)
                  refine AT.runU tOk [(9, []), (10, []), (11, [])] 32 [⟨[8, 15], 3, 46, 47⟩, ⟨[2, 8, 15], 3, 41, 42⟩] [11, 10, 9, 8, 7, 6, 5, 4, 3, 2, 1, 0] rfl kr (fun cx => ?_)
                  refine AT.to ⟨100, 0, [sB 52 (!r11), sB 51 (!r11), sB 50 (!r11), sB 49 r11, sI 48 (IntKind.wrap .i64 ((IntKind.wrap .i64 (1 * 2 ^ min (((IntKind.wrap .u64 x1) : Int)).toNat (IntKind.bits .i64))) - 1)), sI 47 v9.Members, sA 46 7 3 1, sB 45 false, sB 44 false, sB 43 r10, sI 42 v9.Id, sA 41 7 3 0, sA 7 7 3 0, sV 40 (Vrow.row v9), (39, .fad ((Vrow.row v9))), sI 38 y3, sC 37 (cF 3 x0.Rows Vrow.row), sA 36 2 2 0, sB 33 (decide (y3 < (x0.Rows.length : Int))), sI 32 (x0.Rows.length : Int), sC 31 (cF 3 x0.Rows Vrow.row), sA 30 2 2 0, sI 29 y3, sI 6 y3, sI 5 (IntKind.wrap .i64 ((IntKind.wrap .i64 (1 * 2 ^ min (((IntKind.wrap .u64 x1) : Int)).toNat (IntKind.bits .i64))) - 1)), sB 4 false, sA 2 2 2 0], [(7, (Vrow.row v9)), (2, (CV.frzRow (Vtab.row x0)))]⟩ kr ?_
                  rw [h8]
                  refine AT.runU tOk [(12, []), (13, [15]), (14, [])] 29 [⟨[15], 3, 53, 54⟩, ⟨[8, 15], 3, 46, 47⟩, ⟨[2, 8, 15], 3, 41, 42⟩] [14, 13, 12, 11, 10, 9, 8, 7, 6, 5, 4, 3, 2, 1, 0] rfl kr (fun cx => ?_)
                  refine AT.big1 tOk 15 kr kr ?_
                  refine LAt.callV tOk [.rd, .rd, .rd] [] (spec_l1In n v9.Bare 0 (IntKind.wrap .i64 ((IntKind.wrap .i64 (1 * 2 ^ min (((IntKind.wrap .u64 x1) : Int)).toNat (IntKind.bits .i64))) - 1)) r12 er12) kr kr kr kr (.inl rfl) ?_
                  refine LAt.fin kr (And.intro (And.intro kr kr) ?_)
                  refine AT.runU tOk [(16, []), (17, []), (18, [])] 25 [⟨[15], 3, 53, 54⟩, ⟨[8, 15], 3, 46, 47⟩, ⟨[2, 8, 15], 3, 41, 42⟩] [18, 17, 16, 15, 14, 13, 12, 11, 10, 9, 8, 7, 6, 5, 4, 3, 2, 1, 0] rfl kr (fun cx => ?_)
                  refine AT.to ⟨100, 0, [sB 59 (!r12), sB 58 (!r12), sB 57 (!r12), sB 56 r12, sI 55 (IntKind.wrap .i64 ((IntKind.wrap .i64 (1 * 2 ^ min (((IntKind.wrap .u64 x1) : Int)).toNat (IntKind.bits .i64))) - 1)), sI 54 v9.Bare, sA 53 7 3 2, sB 52 false, sB 51 false, sB 50 false, sB 49 r11, sI 48 (IntKind.wrap .i64 ((IntKind.wrap .i64 (1 * 2 ^ min (((IntKind.wrap .u64 x1) : Int)).toNat (IntKind.bits .i64))) - 1)), sI 47 v9.Members, sA 46 7 3 1, sB 45 false, sB 44 false, sB 43 r10, sI 42 v9.Id, sA 41 7 3 0, sA 7 7 3 0, sV 40 (Vrow.row v9), (39, .fad ((Vrow.row v9))), sI 38 y3, sC 37 (cF 3 x0.Rows Vrow.row), sA 36 2 2 0, sB 33 (decide (y3 < (x0.Rows.length : Int))), sI 32 (x0.Rows.length : Int), sC 31 (cF 3 x0.Rows Vrow.row), sA 30 2 2 0, sI 29 y3, sI 6 y3, sI 5 (IntKind.wrap .i64 ((IntKind.wrap .i64 (1 * 2 ^ min (((IntKind.wrap .u64 x1) : Int)).toNat (IntKind.bits .i64))) - 1)), sB 4 false, sA 2 2 2 0], [(7, (Vrow.row v9)), (2, (CV.frzRow (Vtab.row x0)))]⟩ kr ?_
                  rw [h9]
                  refine AT.runU tOk [(19, []), (20, []), (21, []), (22, []), (23, []), (24, []), (25, []), (26, []), (27, []), (28, [])] 15 [⟨[], 3, 65, 66⟩, ⟨[], 3, 62, 63⟩, ⟨[], 3, 60, 61⟩, ⟨[15], 3, 53, 54⟩, ⟨[8, 15], 3, 46, 47⟩, ⟨[2, 8, 15], 3, 41, 42⟩] [28, 27, 26, 25, 24, 23, 22, 21, 20, 19, 18, 17, 16, 15, 14, 13, 12, 11, 10, 9, 8, 7, 6, 5, 4, 3, 2, 1, 0] rfl kr (fun cx => ?_)
                  refine AT.to ⟨100, 0, [sB 69 ((IntKind.wrap .i64 (BitVec.ofInt (IntKind.bits .i64) v9.Bare &&& BitVec.ofInt (IntKind.bits .i64) v9.Members).toNat) != v9.Bare), sB 68 ((IntKind.wrap .i64 (BitVec.ofInt (IntKind.bits .i64) v9.Bare &&& BitVec.ofInt (IntKind.bits .i64) v9.Members).toNat) != v9.Bare), sB 67 ((IntKind.wrap .i64 (BitVec.ofInt (IntKind.bits .i64) v9.Bare &&& BitVec.ofInt (IntKind.bits .i64) v9.Members).toNat) != v9.Bare), sI 66 v9.Bare, sA 65 7 3 2, sI 64 (IntKind.wrap .i64 (BitVec.ofInt (IntKind.bits .i64) v9.Bare &&& BitVec.ofInt (IntKind.bits .i64) v9.Members).toNat), sI 63 v9.Members, sA 62 7 3 1, sI 61 v9.Bare, sA 60 7 3 2, sB 59 false, sB 58 false, sB 57 false, sB 56 r12, sI 55 (IntKind.wrap .i64 ((IntKind.wrap .i64 (1 * 2 ^ min (((IntKind.wrap .u64 x1) : Int)).toNat (IntKind.bits .i64))) - 1)), sI 54 v9.Bare, sA 53 7 3 2, sB 52 false, sB 51 false, sB 50 false, sB 49 r11, sI 48 (IntKind.wrap .i64 ((IntKind.wrap .i64 (1 * 2 ^ min (((IntKind.wrap .u64 x1) : Int)).toNat (IntKind.bits .i64))) - 1)), sI 47 v9.Members, sA 46 7 3 1, sB 45 false, sB 44 false, sB 43 r10, sI 42 v9.Id, sA 41 7 3 0, sA 7 7 3 0, sV 40 (Vrow.row v9), (39, .fad ((Vrow.row v9))), sI 38 y3, sC 37 (cF 3 x0.Rows Vrow.row), sA 36 2 2 0, sB 33 (decide (y3 < (x0.Rows.length : Int))), sI 32 (x0.Rows.length : Int), sC 31 (cF 3 x0.Rows Vrow.row), sA 30 2 2 0, sI 29 y3, sI 6 y3, sI 5 (IntKind.wrap .i64 ((IntKind.wrap .i64 (1 * 2 ^ min (((IntKind.wrap .u64 x1) : Int)).toNat (IntKind.bits .i64))) - 1)), sB 4 false, sA 2 2 2 0], [(7, (Vrow.row v9)), (2, (CV.frzRow (Vtab.row x0)))]⟩ kr ?_
                  rw [h10]
                  refine AT.runU tOk [(29, []), (30, []), (31, []), (32, []), (33, []), (34, []), (35, []), (36, []), (37, []), (38, []), (39, []), (40, []), (41, []), (42, []), (43, [])] 0 [⟨[], 3, 65, 66⟩, ⟨[], 3, 62, 63⟩, ⟨[], 3, 60, 61⟩, ⟨[15], 3, 53, 54⟩, ⟨[8, 15], 3, 46, 47⟩, ⟨[2, 8, 15], 3, 41, 42⟩] [43, 42, 41, 40, 39, 38, 37, 36, 35, 34, 33, 32, 31, 30, 29, 28, 27, 26, 25, 24, 23, 22, 21, 20, 19, 18, 17, 16, 15, 14, 13, 12, 11, 10, 9, 8, 7, 6, 5, 4, 3, 2, 1, 0] rfl kr (fun cx => ?_)
                  exact AT.done [84, 83, 82, 81, 80, 79, 78, 77, 76, 75, 74, 73, 72, 71, 70, 69, 68, 67, 66, 65, 64, 63, 62, 61, 60, 59, 58, 57, 56, 55, 54, 53, 52, 51, 50, 49, 48, 47, 46, 45, 44, 43, 42, 41, 7, 40, 39, 38, 37, 36, 33, 32, 31, 30, 29, 6, 5, 4, 2] [7, 2] _ kr kr rfl
                refine Tr.ct kr ?_
                refine Tr.rgn tOk 1 38685626227668081514119412 132 kr kr ?_
                refine Tr.ret ?_
                have H := Option.some.inj H
                subst H
                have H := Ho8
                dsimp only at H
                have H := Option.some.inj H
                subst H
                exact Fin.of _ [(false, [cB false])] kr rfl rfl
              have H := bifT h9 H
              refine Tr.draws mixed 44 kr ⟨100, 0, [sB 84 true, (83, .tup []), (82, .tup []), (81, .tup []), (80, .tup []), (79, .tup []), (78, .tup []), (77, .tup []), (76, .tup []), (75, .tup []), (74, .tup []), (73, .tup []), (72, .tup []), (71, .tup []), (70, .tup []), sB 69 true, sB 68 true, (67, .tup []), (66, .tup []), (65, .tup []), (64, .tup []), (63, .tup []), (62, .tup []), (61, .tup []), (60, .tup []), sB 59 true, sB 58 true, sB 57 true, sB 56 r12, sI 55 (IntKind.wrap .i64 ((IntKind.wrap .i64 (1 * 2 ^ min (((IntKind.wrap .u64 x1) : Int)).toNat (IntKind.bits .i64))) - 1)), sI 54 v9.Bare, sA 53 7 3 2, sB 52 false, sB 51 false, sB 50 false, sB 49 r11, sI 48 (IntKind.wrap .i64 ((IntKind.wrap .i64 (1 * 2 ^ min (((IntKind.wrap .u64 x1) : Int)).toNat (IntKind.bits .i64))) - 1)), sI 47 v9.Members, sA 46 7 3 1, sB 45 false, sB 44 false, sB 43 r10, sI 42 v9.Id, sA 41 7 3 0, sA 7 7 3 0, sV 40 (Vrow.row v9), (39, .fad ((Vrow.row v9))), sI 38 y3, sC 37 (cF 3 x0.Rows Vrow.row), sA 36 2 2 0, sB 33 (decide (y3 < (x0.Rows.length : Int))), sI 32 (x0.Rows.length : Int), sC 31 (cF 3 x0.Rows Vrow.row), sA 30 2 2 0, sI 29 y3, sI 6 y3, sI 5 (IntKind.wrap .i64 ((IntKind.wrap .i64 (1 * 2 ^ min (((IntKind.wrap .u64 x1) : Int)).toNat (IntKind.bits .i64))) - 1)), sB 4 false, sA 2 2 2 0], [(7, (Vrow.row v9)), (2, (CV.frzRow (Vtab.row x0)))]⟩ (fun cx => ?_) ?_
              · refine AT.runU tOk [(0, []), (1, [2, 8, 15])] 42 [⟨[2, 8, 15], 3, 41, 42⟩] [1, 0] rfl kr (fun cx => ?_)
                refine AT.big1 tOk 2 kr kr ?_
                refine LAt.callV tOk [.rd, .rd, .rd] [] (spec_l1In n v9.Id 1 99 r10 er10) kr kr kr kr (.inl rfl) ?_
                refine LAt.fin kr (And.intro (And.intro kr kr) ?_)
                refine AT.runU tOk [(3, []), (4, [])] 39 [⟨[2, 8, 15], 3, 41, 42⟩] [4, 3, 2, 1, 0] rfl kr (fun cx => ?_)
                refine AT.to ⟨100, 0, [sB 45 (!r10), sB 44 (!r10), sB 43 r10, sI 42 v9.Id, sA 41 7 3 0, sA 7 7 3 0, sV 40 (Vrow.row v9), (39, .fad ((Vrow.row v9))), sI 38 y3, sC 37 (cF 3 x0.Rows Vrow.row), sA 36 2 2 0, sB 33 (decide (y3 < (x0.Rows.length : Int))), sI 32 (x0.Rows.length : Int), sC 31 (cF 3 x0.Rows Vrow.row), sA 30 2 2 0, sI 29 y3, sI 6 y3, sI 5 (IntKind.wrap .i64 ((IntKind.wrap .i64 (1 * 2 ^ min (((IntKind.wrap .u64 x1) : Int)).toNat (IntKind.bits .i64))) - 1)), sB 4 false, sA 2 2 2 0], [(7, (Vrow.row v9)), (2, (CV.frzRow (Vtab.row x0)))]⟩ kr ?_
                rw [h7]
                refine AT.runU tOk [(5, []), (6, [8, 15]), (7, [])] 36 [⟨[8, 15], 3, 46, 47⟩, ⟨[2, 8, 15], 3, 41, 42⟩] [7, 6, 5, 4, 3, 2, 1, 0] rfl kr (fun cx => ?_)
                refine AT.big1 tOk 8 kr kr ?_
                refine LAt.callV tOk [.rd, .rd, .rd] [] (spec_l1In n v9.Members 0 (IntKind.wrap .i64 ((IntKind.wrap .i64 (1 * 2 ^ min (((IntKind.wrap .u64 x1) : Int)).toNat (IntKind.bits .i64))) - 1)) r11 er11) kr kr kr kr (.inl rfl) ?_
                refine LAt.fin kr (And.intro (And.intro kr kr) ?_)
                refine AT.runU tOk [(9, []), (10, []), (11, [])] 32 [⟨[8, 15], 3, 46, 47⟩, ⟨[2, 8, 15], 3, 41, 42⟩] [11, 10, 9, 8, 7, 6, 5, 4, 3, 2, 1, 0] rfl kr (fun cx => ?_)
                refine AT.to ⟨100, 0, [sB 52 (!r11), sB 51 (!r11), sB 50 (!r11), sB 49 r11, sI 48 (IntKind.wrap .i64 ((IntKind.wrap .i64 (1 * 2 ^ min (((IntKind.wrap .u64 x1) : Int)).toNat (IntKind.bits .i64))) - 1)), sI 47 v9.Members, sA 46 7 3 1, sB 45 false, sB 44 false, sB 43 r10, sI 42 v9.Id, sA 41 7 3 0, sA 7 7 3 0, sV 40 (Vrow.row v9), (39, .fad ((Vrow.row v9))), sI 38 y3, sC 37 (cF 3 x0.Rows Vrow.row), sA 36 2 2 0, sB 33 (decide (y3 < (x0.Rows.length : Int))), sI 32 (x0.Rows.length : Int), sC 31 (cF 3 x0.Rows Vrow.row), sA 30 2 2 0, sI 29 y3, sI 6 y3, sI 5 (IntKind.wrap .i64 ((IntKind.wrap .i64 (1 * 2 ^ min (((IntKind.wrap .u64 x1) : Int)).toNat (IntKind.bits .i64))) - 1)), sB 4 false, sA 2 2 2 0], [(7, (Vrow.row v9)), (2, (CV.frzRow (Vtab.row x0)))]⟩ kr ?_
                rw [h8]
                refine AT.runU tOk [(12, []), (13, [15]), (14, [])] 29 [⟨[15], 3, 53, 54⟩, ⟨[8, 15], 3, 46, 47⟩, ⟨[2, 8, 15], 3, 41, 42⟩] [14, 13, 12, 11, 10, 9, 8, 7, 6, 5, 4, 3, 2, 1, 0] rfl kr (fun cx => ?_)
                refine AT.big1 tOk 15 kr kr ?_
                refine LAt.callV tOk [.rd, .rd, .rd] [] (spec_l1In n v9.Bare 0 (IntKind.wrap .i64 ((IntKind.wrap .i64 (1 * 2 ^ min (((IntKind.wrap .u64 x1) : Int)).toNat (IntKind.bits .i64))) - 1)) r12 er12) kr kr kr kr (.inl rfl) ?_
                refine LAt.fin kr (And.intro (And.intro kr kr) ?_)
                refine AT.runU tOk [(16, []), (17, []), (18, [])] 25 [⟨[15], 3, 53, 54⟩, ⟨[8, 15], 3, 46, 47⟩, ⟨[2, 8, 15], 3, 41, 42⟩] [18, 17, 16, 15, 14, 13, 12, 11, 10, 9, 8, 7, 6, 5, 4, 3, 2, 1, 0] rfl kr (fun cx => ?_)
                refine AT.to ⟨100, 0, [sB 59 (!r12), sB 58 (!r12), sB 57 (!r12), sB 56 r12, sI 55 (IntKind.wrap .i64 ((IntKind.wrap .i64 (1 * 2 ^ min (((IntKind.wrap .u64 x1) : Int)).toNat (IntKind.bits .i64))) - 1)), sI 54 v9.Bare, sA 53 7 3 2, sB 52 false, sB 51 false, sB 50 false, sB 49 r11, sI 48 (IntKind.wrap .i64 ((IntKind.wrap .i64 (1 * 2 ^ min (((IntKind.wrap .u64 x1) : Int)).toNat (IntKind.bits .i64))) - 1)), sI 47 v9.Members, sA 46 7 3 1, sB 45 false, sB 44 false, sB 43 r10, sI 42 v9.Id, sA 41 7 3 0, sA 7 7 3 0, sV 40 (Vrow.row v9), (39, .fad ((Vrow.row v9))), sI 38 y3, sC 37 (cF 3 x0.Rows Vrow.row), sA 36 2 2 0, sB 33 (decide (y3 < (x0.Rows.length : Int))), sI 32 (x0.Rows.length : Int), sC 31 (cF 3 x0.Rows Vrow.row), sA 30 2 2 0, sI 29 y3, sI 6 y3, sI 5 (IntKind.wrap .i64 ((IntKind.wrap .i64 (1 * 2 ^ min (((IntKind.wrap .u64 x1) : Int)).toNat (IntKind.bits .i64))) - 1)), sB 4 false, sA 2 2 2 0], [(7, (Vrow.row v9)), (2, (CV.frzRow (Vtab.row x0)))]⟩ kr ?_
                rw [h9]
                refine AT.runU tOk [(19, []), (20, []), (21, []), (22, []), (23, []), (24, []), (25, []), (26, []), (27, []), (28, []), (29, []), (30, []), (31, []), (32, []), (33, []), (34, []), (35, []), (36, []), (37, []), (38, []), (39, []), (40, []), (41, []), (42, []), (43, [])] 0 [⟨[15], 3, 53, 54⟩, ⟨[8, 15], 3, 46, 47⟩, ⟨[2, 8, 15], 3, 41, 42⟩] [43, 42, 41, 40, 39, 38, 37, 36, 35, 34, 33, 32, 31, 30, 29, 28, 27, 26, 25, 24, 23, 22, 21, 20, 19, 18, 17, 16, 15, 14, 13, 12, 11, 10, 9, 8, 7, 6, 5, 4, 3, 2, 1, 0] rfl kr (fun cx => ?_)
                exact AT.done [84, 83, 82, 81, 80, 79, 78, 77, 76, 75, 74, 73, 72, 71, 70, 69, 68, 67, 66, 65, 64, 63, 62, 61, 60, 59, 58, 57, 56, 55, 54, 53, 52, 51, 50, 49, 48, 47, 46, 45, 44, 43, 42, 41, 7, 40, 39, 38, 37, 36, 33, 32, 31, 30, 29, 6, 5, 4, 2] [7, 2] _ kr kr rfl
              refine Tr.ct kr ?_
              refine Tr.rgn tOk 1 38685626227668081514119412 132 kr kr ?_
              refine Tr.ret ?_
              have H := Option.some.inj H
              subst H
              have H := Ho8
              dsimp only at H
              have H := Option.some.inj H
              subst H
              exact Fin.of _ [(false, [cB false])] kr rfl rfl
            have H := bifT h8 H
            refine Tr.draws mixed 44 kr ⟨100, 0, [sB 84 true, (83, .tup []), (82, .tup []), (81, .tup []), (80, .tup []), (79, .tup []), (78, .tup []), (77, .tup []), (76, .tup []), (75, .tup []), (74, .tup []), (73, .tup []), (72, .tup []), (71, .tup []), (70, .tup []), sB 69 true, sB 68 true, (67, .tup []), (66, .tup []), (65, .tup []), (64, .tup []), (63, .tup []), (62, .tup []), (61, .tup []), (60, .tup []), sB 59 true, sB 58 true, (57, .tup []), (56, .tup []), (55, .tup []), (54, .tup []), (53, .tup []), sB 52 true, sB 51 true, sB 50 true, sB 49 r11, sI 48 (IntKind.wrap .i64 ((IntKind.wrap .i64 (1 * 2 ^ min (((IntKind.wrap .u64 x1) : Int)).toNat (IntKind.bits .i64))) - 1)), sI 47 v9.Members, sA 46 7 3 1, sB 45 false, sB 44 false, sB 43 r10, sI 42 v9.Id, sA 41 7 3 0, sA 7 7 3 0, sV 40 (Vrow.row v9), (39, .fad ((Vrow.row v9))), sI 38 y3, sC 37 (cF 3 x0.Rows Vrow.row), sA 36 2 2 0, sB 33 (decide (y3 < (x0.Rows.length : Int))), sI 32 (x0.Rows.length : Int), sC 31 (cF 3 x0.Rows Vrow.row), sA 30 2 2 0, sI 29 y3, sI 6 y3, sI 5 (IntKind.wrap .i64 ((IntKind.wrap .i64 (1 * 2 ^ min (((IntKind.wrap .u64 x1) : Int)).toNat (IntKind.bits .i64))) - 1)), sB 4 false, sA 2 2 2 0], [(7, (Vrow.row v9)), (2, (CV.frzRow (Vtab.row x0)))]⟩ (fun cx => ?_) ?_
            · refine AT.runU tOk [(0, []), (1, [2, 8])] 42 [⟨[2, 8], 3, 41, 42⟩] [1, 0] rfl kr (fun cx => ?_)
              refine AT.big1 tOk 2 kr kr ?_
              refine LAt.callV tOk [.rd, .rd, .rd] [] (spec_l1In n v9.Id 1 99 r10 er10) kr kr kr kr (.inl rfl) ?_
              refine LAt.fin kr (And.intro (And.intro kr kr) ?_)
              refine AT.runU tOk [(3, []), (4, [])] 39 [⟨[2, 8], 3, 41, 42⟩] [4, 3, 2, 1, 0] rfl kr (fun cx => ?_)
              refine AT.to ⟨100, 0, [sB 45 (!r10), sB 44 (!r10), sB 43 r10, sI 42 v9.Id, sA 41 7 3 0, sA 7 7 3 0, sV 40 (Vrow.row v9), (39, .fad ((Vrow.row v9))), sI 38 y3, sC 37 (cF 3 x0.Rows Vrow.row), sA 36 2 2 0, sB 33 (decide (y3 < (x0.Rows.length : Int))), sI 32 (x0.Rows.length : Int), sC 31 (cF 3 x0.Rows Vrow.row), sA 30 2 2 0, sI 29 y3, sI 6 y3, sI 5 (IntKind.wrap .i64 ((IntKind.wrap .i64 (1 * 2 ^ min (((IntKind.wrap .u64 x1) : Int)).toNat (IntKind.bits .i64))) - 1)), sB 4 false, sA 2 2 2 0], [(7, (Vrow.row v9)), (2, (CV.frzRow (Vtab.row x0)))]⟩ kr ?_
              rw [h7]
              refine AT.runU tOk [(5, []), (6, [8]), (7, [])] 36 [⟨[8], 3, 46, 47⟩, ⟨[2, 8], 3, 41, 42⟩] [7, 6, 5, 4, 3, 2, 1, 0] rfl kr (fun cx => ?_)
              refine AT.big1 tOk 8 kr kr ?_
              refine LAt.callV tOk [.rd, .rd, .rd] [] (spec_l1In n v9.Members 0 (IntKind.wrap .i64 ((IntKind.wrap .i64 (1 * 2 ^ min (((IntKind.wrap .u64 x1) : Int)).toNat (IntKind.bits .i64))) - 1)) r11 er11) kr kr kr kr (.inl rfl) ?_
              refine LAt.fin kr (And.intro (And.intro kr kr) ?_)
              refine AT.runU tOk [(9, []), (10, []), (11, [])] 32 [⟨[8], 3, 46, 47⟩, ⟨[2, 8], 3, 41, 42⟩] [11, 10, 9, 8, 7, 6, 5, 4, 3, 2, 1, 0] rfl kr (fun cx => ?_)
              refine AT.to ⟨100, 0, [sB 52 (!r11), sB 51 (!r11), sB 50 (!r11), sB 49 r11, sI 48 (IntKind.wrap .i64 ((IntKind.wrap .i64 (1 * 2 ^ min (((IntKind.wrap .u64 x1) : Int)).toNat (IntKind.bits .i64))) - 1)), sI 47 v9.Members, sA 46 7 3 1, sB 45 false, sB 44 false, sB 43 r10, sI 42 v9.Id, sA 41 7 3 0, sA 7 7 3 0, sV 40 (Vrow.row v9), (39, .fad ((Vrow.row v9))), sI 38 y3, sC 37 (cF 3 x0.Rows Vrow.row), sA 36 2 2 0, sB 33 (decide (y3 < (x0.Rows.length : Int))), sI 32 (x0.Rows.length : Int), sC 31 (cF 3 x0.Rows Vrow.row), sA 30 2 2 0, sI 29 y3, sI 6 y3, sI 5 (IntKind.wrap .i64 ((IntKind.wrap .i64 (1 * 2 ^ min (((IntKind.wrap .u64 x1) : Int)).toNat (IntKind.bits .i64))) - 1)), sB 4 false, sA 2 2 2 0], [(7, (Vrow.row v9)), (2, (CV.frzRow (Vtab.row x0)))]⟩ kr ?_
              rw [h8]
              refine AT.runU tOk [(12, []), (13, []), (14, []), (15, []), (16, []), (17, []), (18, []), (19, []), (20, []), (21, []), (22, []), (23, []), (24, []), (25, []), (26, []), (27, []), (28, []), (29, []), (30, []), (31, []), (32, []), (33, []), (34, []), (35, []), (36, []), (37, []), (38, []), (39, []), (40, []), (41, []), (42, []), (43, [])] 0 [⟨[8], 3, 46, 47⟩, ⟨[2, 8], 3, 41, 42⟩] [43, 42, 41, 40, 39, 38, 37, 36, 35, 34, 33, 32, 31, 30, 29, 28, 27, 26, 25, 24, 23, 22, 21, 20, 19, 18, 17, 16, 15, 14, 13, 12, 11, 10, 9, 8, 7, 6, 5, 4, 3, 2, 1, 0] rfl kr (fun cx => ?_)
              exact AT.done [84, 83, 82, 81, 80, 79, 78, 77, 76, 75, 74, 73, 72, 71, 70, 69, 68, 67, 66, 65, 64, 63, 62, 61, 60, 59, 58, 57, 56, 55, 54, 53, 52, 51, 50, 49, 48, 47, 46, 45, 44, 43, 42, 41, 7, 40, 39, 38, 37, 36, 33, 32, 31, 30, 29, 6, 5, 4, 2] [7, 2] _ kr kr rfl
            refine Tr.ct kr ?_
            refine Tr.rgn tOk 1 38685626227668081514119412 132 kr kr ?_
            refine Tr.ret ?_
            have H := Option.some.inj H
            subst H
            have H := Ho8
            dsimp only at H
            have H := Option.some.inj H
            subst H
            exact Fin.of _ [(false, [cB false])] kr rfl rfl
          have H := bifT h7 H
          refine Tr.draws mixed 44 kr ⟨100, 0, [sB 84 true, (83, .tup []), (82, .tup []), (81, .tup []), (80, .tup []), (79, .tup []), (78, .tup []), (77, .tup []), (76, .tup []), (75, .tup []), (74, .tup []), (73, .tup []), (72, .tup []), (71, .tup []), (70, .tup []), sB 69 true, sB 68 true, (67, .tup []), (66, .tup []), (65, .tup []), (64, .tup []), (63, .tup []), (62, .tup []), (61, .tup []), (60, .tup []), sB 59 true, sB 58 true, (57, .tup []), (56, .tup []), (55, .tup []), (54, .tup []), (53, .tup []), sB 52 true, sB 51 true, (50, .tup []), (49, .tup []), (48, .tup []), (47, .tup []), (46, .tup []), sB 45 true, sB 44 true, sB 43 r10, sI 42 v9.Id, sA 41 7 3 0, sA 7 7 3 0, sV 40 (Vrow.row v9), (39, .fad ((Vrow.row v9))), sI 38 y3, sC 37 (cF 3 x0.Rows Vrow.row), sA 36 2 2 0, sB 33 (decide (y3 < (x0.Rows.length : Int))), sI 32 (x0.Rows.length : Int), sC 31 (cF 3 x0.Rows Vrow.row), sA 30 2 2 0, sI 29 y3, sI 6 y3, sI 5 (IntKind.wrap .i64 ((IntKind.wrap .i64 (1 * 2 ^ min (((IntKind.wrap .u64 x1) : Int)).toNat (IntKind.bits .i64))) - 1)), sB 4 false, sA 2 2 2 0], [(7, (Vrow.row v9)), (2, (CV.frzRow (Vtab.row x0)))]⟩ (fun cx => ?_) ?_
          · refine AT.runU tOk [(0, []), (1, [2])] 42 [⟨[2], 3, 41, 42⟩] [1, 0] rfl kr (fun cx => ?_)
            refine AT.big1 tOk 2 kr kr ?_
            refine LAt.callV tOk [.rd, .rd, .rd] [] (spec_l1In n v9.Id 1 99 r10 er10) kr kr kr kr (.inl rfl) ?_
            refine LAt.fin kr (And.intro (And.intro kr kr) ?_)
            refine AT.runU tOk [(3, []), (4, [])] 39 [⟨[2], 3, 41, 42⟩] [4, 3, 2, 1, 0] rfl kr (fun cx => ?_)
            refine AT.to ⟨100, 0, [sB 45 (!r10), sB 44 (!r10), sB 43 r10, sI 42 v9.Id, sA 41 7 3 0, sA 7 7 3 0, sV 40 (Vrow.row v9), (39, .fad ((Vrow.row v9))), sI 38 y3, sC 37 (cF 3 x0.Rows Vrow.row), sA 36 2 2 0, sB 33 (decide (y3 < (x0.Rows.length : Int))), sI 32 (x0.Rows.length : Int), sC 31 (cF 3 x0.Rows Vrow.row), sA 30 2 2 0, sI 29 y3, sI 6 y3, sI 5 (IntKind.wrap .i64 ((IntKind.wrap .i64 (1 * 2 ^ min (((IntKind.wrap .u64 x1) : Int)).toNat (IntKind.bits .i64))) - 1)), sB 4 false, sA 2 2 2 0], [(7, (Vrow.row v9)), (2, (CV.frzRow (Vtab.row x0)))]⟩ kr ?_
            rw [h7]
            refine AT.runU tOk [(5, []), (6, []), (7, []), (8, []), (9, []), (10, []), (11, []), (12, []), (13, []), (14, []), (15, []), (16, []), (17, []), (18, []), (19, []), (20, []), (21, []), (22, []), (23, []), (24, []), (25, []), (26, []), (27, []), (28, []), (29, []), (30, []), (31, []), (32, []), (33, []), (34, []), (35, []), (36, []), (37, []), (38, []), (39, []), (40, []), (41, []), (42, []), (43, [])] 0 [⟨[2], 3, 41, 42⟩] [43, 42, 41, 40, 39, 38, 37, 36, 35, 34, 33, 32, 31, 30, 29, 28, 27, 26, 25, 24, 23, 22, 21, 20, 19, 18, 17, 16, 15, 14, 13, 12, 11, 10, 9, 8, 7, 6, 5, 4, 3, 2, 1, 0] rfl kr (fun cx => ?_)
            exact AT.done [84, 83, 82, 81, 80, 79, 78, 77, 76, 75, 74, 73, 72, 71, 70, 69, 68, 67, 66, 65, 64, 63, 62, 61, 60, 59, 58, 57, 56, 55, 54, 53, 52, 51, 50, 49, 48, 47, 46, 45, 44, 43, 42, 41, 7, 40, 39, 38, 37, 36, 33, 32, 31, 30, 29, 6, 5, 4, 2] [7, 2] _ kr kr rfl
          refine Tr.ct kr ?_
          refine Tr.rgn tOk 1 38685626227668081514119412 132 kr kr ?_
          refine Tr.ret ?_
          have H := Option.some.inj H
          subst H
          have H := Ho8
          dsimp only at H
          have H := Option.some.inj H
          subst H
          exact Fin.of _ [(false, [cB false])] kr rfl rfl
        rintro _ H
        have H : (spec_VtabOk_J1 n x0) = some r := H
        unfold spec_VtabOk_J1 at H
        show Tr _ _ _ _ _
        refine Tr.seq ?_
        refine Tr.rgn tOk 1 276 4 kr kr ?_
        obtain ⟨o5, eo5, Ho5⟩ := bind_some H
        clear H
        refine Tr.mid (ι := Unit) (fun v => ⟨100, 0, [sB 4 false], []⟩) (fun v => spec_VtabOk_J2 n = some r) ?_ ?_
        · refine Tr.block ?_
          refine Tr.loop (ι := Nat × (Int)) (fun v => ⟨100, 0, [sI 8 v.2, sB 4 false, sA 2 2 2 0], [(2, (CV.frzRow (Vtab.row x0)))]⟩) (fun v => spec_VtabOk_L3 n v.1 x0 v.2 = some o5) (fun v => v.1) (n, 0) eo5 (St.sub_of [8, 4, 2] [2] kr) ?_
          rintro ⟨mo5, y4⟩ H
          have H : spec_VtabOk_L3 n mo5 x0 y4 = some o5 := H
          obtain _ | mo5 := mo5
          · cases (show (none : Option _) = some o5 from H)
          rw [spec_VtabOk_L3] at H
          refine Tr.seq ?_
          refine Tr.rs ?_
          refine LAt.runU tOk 3 kr ?_
          refine LAt.lenE tOk (t := 23) (ty := 3) (e := 3) (x := (.tmp 87)) (d := 88) (g := none) ⟨(.slot 87), [], 0, false, 1, (CV.frzEs (x0.Pvid.map intRow))⟩ (x0.Pvid).length _ kr kr kr kr kr (frz_len _ _) rfl ?_
          refine LAt.runU tOk 1 kr ?_
          refine LAt.doneM 1199254413057712141308526868 4 kr ?_
          cases h4 : (decide (y4 < (x0.Pvid.length : Int)))
          · have H := bifF h4 H
            refine Tr.cF h4 kr ?_
            refine Tr.exit ?_
            refine And.intro (fun _ => ?_) (fun h => absurd rfl h)
            have H := Option.some.inj H
            subst H
            have H := Ho5
            dsimp only at H
            exact Exists.intro () (And.intro H (St.sub_of [4] [] kr))
          have H := bifT h4 H
          refine Tr.cT h4 kr ?_
          refine Tr.skip ?_
          show Tr _ _ _ _ _
          refine Tr.seq ?_
          refine Tr.block ?_
          obtain ⟨v6, ev6, H⟩ := bind_some H
          obtain ⟨r7, er7, H⟩ := bind_some H
          refine Tr.draws mixed 8 kr ⟨100, 0, [sB 99 (decide (r7 < 0)), sI 98 r7, sI 97 v6, (96, .fad ([cI v6])), sI 95 y4, sR 94 2 2 1 1 false, sA 93 2 2 1, sR 92 2 2 0 2 true, sB 89 (decide (y4 < (x0.Pvid.length : Int))), sI 88 (x0.Pvid.length : Int), sC 87 (cF 1 x0.Pvid intRow), sA 86 2 2 1, sI 85 y4, sI 8 y4, sB 4 false, sA 2 2 2 0], [(2, (CV.frzRow (Vtab.row x0)))]⟩ (fun cx => ?_) ?_
          · refine AT.runU tOk [(0, [6]), (1, []), (2, [6]), (3, [])] 4 [⟨[6], 23, 93, 94⟩, ⟨[6], 29, 2, 92⟩] [3, 2, 1, 0] rfl kr (fun cx => ?_)
            refine AT.indexF tOk 4 (t := 23) (ty := 0) (x := (.tmp 94)) (y := (.tmp 95)) (d := 96) (g := none) ⟨(.box 2), [(0, 0)], 1, false, 1, (CV.frzEs (x0.Pvid.map intRow))⟩ y4 [cI v6] _ kr kr kr kr kr kr rfl (idx_isF ev6) rfl (fun cx => ?_)
            refine AT.runU tOk [(5, [])] 2 [⟨[6], 23, 93, 94⟩, ⟨[6], 29, 2, 92⟩] [5, 4, 3, 2, 1, 0] rfl kr (fun cx => ?_)
            refine AT.big1 tOk 6 kr kr ?_
            refine LAt.callV tOk [.rd, .rd] [] (spec_RowAt n x0 v6 r7 er7) kr kr kr kr (.inl rfl) ?_
            refine LAt.fin kr (And.intro (And.intro kr kr) ?_)
            refine AT.runU tOk [(7, [])] 0 [⟨[6], 23, 93, 94⟩, ⟨[6], 29, 2, 92⟩] [7, 6, 5, 4, 3, 2, 1, 0] rfl kr (fun cx => ?_)
            exact AT.done [99, 98, 97, 96, 95, 94, 93, 92, 89, 88, 87, 86, 85, 8, 4, 2] [2] _ kr kr rfl
          refine Tr.to ⟨100, 0, [sB 99 (decide (r7 < 0)), sI 98 r7, sI 97 v6, (96, .fad ([cI v6])), sI 95 y4, sR 94 2 2 1 1 false, sA 93 2 2 1, sR 92 2 2 0 2 true, sB 89 (decide (y4 < (x0.Pvid.length : Int))), sI 88 (x0.Pvid.length : Int), sC 87 (cF 1 x0.Pvid intRow), sA 86 2 2 1, sI 85 y4, sI 8 y4, sB 4 false, sA 2 2 2 0], [(2, (CV.frzRow (Vtab.row x0)))]⟩ kr ?_
          cases h5 : (decide (r7 < 0))
          · have H := bifF h5 H
            refine Tr.cf kr ?_
            refine Tr.skip ?_
            show Tr _ _ _ _ _
            refine Tr.rgE tOk 3 1267611914602001733363112608020 4 kr kr ?_
            exact Exists.intro (mo5, (IntKind.wrap .i64 (y4 + 1))) (And.intro H (And.intro (Nat.lt_succ_self mo5) (St.sub_of [8, 4, 2] [2] kr)))
          have H := bifT h5 H
          refine Tr.ct kr ?_
          refine Tr.rgn tOk 1 1263898094484145592538415235348 4 kr kr ?_
          refine Tr.ret ?_
          have H := Option.some.inj H
          subst H
          have H := Ho5
          dsimp only at H
          have H := Option.some.inj H
          subst H
          exact Fin.of _ [(false, [cB false])] kr rfl rfl
        rintro _ H
        have H : (spec_VtabOk_J2 n) = some r := H
        unfold spec_VtabOk_J2 at H
        show Tr _ _ _ _ _
        refine Tr.rgn tOk 1 16 0 kr kr ?_
        refine Tr.ret ?_
        have H := Option.some.inj H
        subst H
        exact Fin.of _ [(false, [cB true])] kr rfl rfl
      have H := bifT h3 H
      refine Tr.cT h3 kr ?_
      refine Tr.rgn tOk 1 22 4 kr kr ?_
      refine Tr.ret ?_
      have H := Option.some.inj H
      subst H
      exact Fin.of _ [(false, [cB false])] kr rfl rfl
    have H := bifT h2 H
    refine LAt.runU tOk 5 kr ?_
    refine LAt.doneM 16777238 4 kr ?_
    refine Tr.ct kr ?_
    refine Tr.rgn tOk 1 22 4 kr kr ?_
    refine Tr.ret ?_
    have H := Option.some.inj H
    subst H
    exact Fin.of _ [(false, [cB false])] kr rfl rfl
  have H := bifT h1 H
  refine LAt.runU tOk 12 kr ?_
  refine LAt.doneM 16777238 4 kr ?_
  refine Tr.ct kr ?_
  refine Tr.rgn tOk 1 22 4 kr kr ?_
  refine Tr.ret ?_
  have H := Option.some.inj H
  subst H
  exact Fin.of _ [(false, [cB false])] kr rfl rfl

def spec_l9CopyF (n : Nat) (x0 : Vtab) : Option (Vtab) :=
  (bif (decide (([] : List Vrow).length + x0.Rows.length ≤ 268435456)) then (bif (decide (([] : List Int).length + x0.Pvid.length ≤ 268435456)) then (some (⟨(([] : List Vrow) ++ x0.Rows), (([] : List Int) ++ x0.Pvid)⟩ : Vtab)) else none) else none)
/-- loop.example/g00326/spec.l9Copy -/
theorem spec_l9Copy (n : Nat) (x0 : Vtab) (r : Vtab) (H : spec_l9CopyF n x0 = some r) : LCall Try.prog 77 [.val true (CV.frzRow (Vtab.row x0))] [.val true (Vtab.row r)] [] := by
  refine LCall.of_body tOk Try.func77 rfl (c := (.seq (Rg Try.f77 0) (.seq (Rd Try.f77 1) .ret))) kr (Nat.le_of_ble_eq_true kr) 0 (rs := [.cell 2 29]) rfl [] .nil [(true, (Vtab.row r))] [] [] fun cx => ?_
  show Tr _ _ _ ⟨12, 0, [sV 0 (CV.frzRow (Vtab.row x0))], []⟩ _
  unfold spec_l9CopyF at H
  refine Tr.rgn tOk 2 6 6 kr kr ?_
  obtain ⟨hg1, H⟩ := guard_some H
  obtain ⟨hg2, H⟩ := guard_some H
  refine Tr.draws mixed 10 kr ⟨12, 0, [sA 2 2 2 0], [(2, [cL 3 (([] : List Vrow) ++ x0.Rows) Vrow.row, cL 1 (([] : List Int) ++ x0.Pvid) intRow])]⟩ (fun cx => ?_) ?_
  · refine AT.runU tOk [(1, []), (2, [3, 7, 8, 9]), (5, []), (6, [7, 8, 9])] 6 [⟨[7, 8, 9], 23, 8, 9⟩, ⟨[3, 7, 8, 9], 27, 4, 5⟩] [6, 5, 2, 1] rfl kr (fun cx => ?_)
    refine AT.big2 tOk 0 4 kr (And.intro kr ?_) (And.intro kr ?_)
    · refine LAt.runU tOk 1 kr ?_
      refine LAt.fin kr (And.intro (And.intro kr kr) ?_)
      refine AT.big2 tOk 3 4 kr (And.intro kr ?_) (And.intro kr ?_)
      · refine LAt.appCU tOk (t := 27) (ty := 27) (e := 56) (x := (.tmp 3)) (y := (.tmp 5)) (d := 6) (g := none) ⟨.st [(0, 1, 3), (1, 1, 3), (2, 1, 3)], 3, 24, [.lit (.int .i64 0), .lit (.int .i64 0), .lit (.int .i64 0)]⟩ Vrow.row ([] : List Vrow) x0.Rows ⟨(.box 1), [(0, 0)], 0, false, 3, (CV.frzEs (x0.Rows.map Vrow.row))⟩ kr kr kr kr kr kr kr kr kr kr kr (.inr rfl) (fun _ => rfl) (fun _ => rfl) hg1 ?_
        refine LAt.fin kr (And.intro (And.intro kr kr) ?_)
        refine AT.big1 tOk 4 kr kr ?_
        refine LAt.runU tOk 1 kr ?_
        refine LAt.fin kr (And.intro (And.intro kr kr) ?_)
        refine AT.big1 tOk 7 kr kr ?_
        refine LAt.appCU tOk (t := 23) (ty := 23) (e := 3) (x := (.tmp 7)) (y := (.tmp 9)) (d := 10) (g := none) ⟨.int .i64, 1, 8, [.lit (.int .i64 0)]⟩ intRow ([] : List Int) x0.Pvid ⟨(.box 1), [(0, 0)], 1, false, 1, (CV.frzEs (x0.Pvid.map intRow))⟩ kr kr kr kr kr kr kr kr kr kr kr (.inr rfl) (fun _ => rfl) (fun _ => rfl) hg2 ?_
        refine LAt.fin kr (And.intro (And.intro kr kr) ?_)
        refine AT.big1 tOk 8 kr kr ?_
        refine LAt.runU tOk 1 kr ?_
        refine LAt.fin kr (And.intro (And.intro kr kr) ?_)
        refine AT.big1 tOk 9 kr kr ?_
        refine LAt.runU tOk 1 kr ?_
        refine LAt.fin kr (And.intro (And.intro kr kr) ?_)
        exact AT.done [2] [2] _ kr kr rfl
      · refine LAt.runU tOk 1 kr ?_
        refine LAt.fin kr (And.intro (And.intro kr kr) ?_)
        refine AT.big1 tOk 3 kr kr ?_
        refine LAt.appCU tOk (t := 27) (ty := 27) (e := 56) (x := (.tmp 3)) (y := (.tmp 5)) (d := 6) (g := none) ⟨.st [(0, 1, 3), (1, 1, 3), (2, 1, 3)], 3, 24, [.lit (.int .i64 0), .lit (.int .i64 0), .lit (.int .i64 0)]⟩ Vrow.row ([] : List Vrow) x0.Rows ⟨(.box 1), [(0, 0)], 0, false, 3, (CV.frzEs (x0.Rows.map Vrow.row))⟩ kr kr kr kr kr kr kr kr kr kr kr (.inr rfl) (fun _ => rfl) (fun _ => rfl) hg1 ?_
        refine LAt.fin kr (And.intro (And.intro kr kr) ?_)
        refine AT.big1 tOk 7 kr kr ?_
        refine LAt.appCU tOk (t := 23) (ty := 23) (e := 3) (x := (.tmp 7)) (y := (.tmp 9)) (d := 10) (g := none) ⟨.int .i64, 1, 8, [.lit (.int .i64 0)]⟩ intRow ([] : List Int) x0.Pvid ⟨(.box 1), [(0, 0)], 1, false, 1, (CV.frzEs (x0.Pvid.map intRow))⟩ kr kr kr kr kr kr kr kr kr kr kr (.inr rfl) (fun _ => rfl) (fun _ => rfl) hg2 ?_
        refine LAt.fin kr (And.intro (And.intro kr kr) ?_)
        refine AT.big1 tOk 8 kr kr ?_
        refine LAt.runU tOk 1 kr ?_
        refine LAt.fin kr (And.intro (And.intro kr kr) ?_)
        refine AT.big1 tOk 9 kr kr ?_
        refine LAt.runU tOk 1 kr ?_
        refine LAt.fin kr (And.intro (And.intro kr kr) ?_)
        exact AT.done [2] [2] _ kr kr rfl
    · refine LAt.runU tOk 1 kr ?_
      refine LAt.fin kr (And.intro (And.intro kr kr) ?_)
      refine AT.big1 tOk 0 kr kr ?_
      refine LAt.runU tOk 1 kr ?_
      refine LAt.fin kr (And.intro (And.intro kr kr) ?_)
      refine AT.big1 tOk 3 kr kr ?_
      refine LAt.appCU tOk (t := 27) (ty := 27) (e := 56) (x := (.tmp 3)) (y := (.tmp 5)) (d := 6) (g := none) ⟨.st [(0, 1, 3), (1, 1, 3), (2, 1, 3)], 3, 24, [.lit (.int .i64 0), .lit (.int .i64 0), .lit (.int .i64 0)]⟩ Vrow.row ([] : List Vrow) x0.Rows ⟨(.box 1), [(0, 0)], 0, false, 3, (CV.frzEs (x0.Rows.map Vrow.row))⟩ kr kr kr kr kr kr kr kr kr kr kr (.inr rfl) (fun _ => rfl) (fun _ => rfl) hg1 ?_
      refine LAt.fin kr (And.intro (And.intro kr kr) ?_)
      refine AT.big1 tOk 7 kr kr ?_
      refine LAt.appCU tOk (t := 23) (ty := 23) (e := 3) (x := (.tmp 7)) (y := (.tmp 9)) (d := 10) (g := none) ⟨.int .i64, 1, 8, [.lit (.int .i64 0)]⟩ intRow ([] : List Int) x0.Pvid ⟨(.box 1), [(0, 0)], 1, false, 1, (CV.frzEs (x0.Pvid.map intRow))⟩ kr kr kr kr kr kr kr kr kr kr kr (.inr rfl) (fun _ => rfl) (fun _ => rfl) hg2 ?_
      refine LAt.fin kr (And.intro (And.intro kr kr) ?_)
      refine AT.big1 tOk 8 kr kr ?_
      refine LAt.runU tOk 1 kr ?_
      refine LAt.fin kr (And.intro (And.intro kr kr) ?_)
      refine AT.big1 tOk 9 kr kr ?_
      refine LAt.runU tOk 1 kr ?_
      refine LAt.fin kr (And.intro (And.intro kr kr) ?_)
      exact AT.done [2] [2] _ kr kr rfl
  refine Tr.ret ?_
  have H := Option.some.inj H
  subst H
  exact Fin.of _ [(true, [cL 3 (([] : List Vrow) ++ x0.Rows) Vrow.row, cL 1 (([] : List Int) ++ x0.Pvid) intRow])] kr rfl rfl

def spec_l9OrF (n : Nat) (x0 : Vtab) (x1 : Vtab) : Option (Vtab × Bool) :=
  ((spec_VtabOkF n x0 (x1.Pvid.length : Int)).bind fun r1 => (bif (!r1) then ((spec_l9CopyF n x1).bind fun r2 => (some (r2, false))) else (some (x0, true))))
/-- loop.example/g00326/spec.l9Or -/
theorem spec_l9Or (n : Nat) (x0 : Vtab) (x1 : Vtab) (r : Vtab × Bool) (H : spec_l9OrF n x0 x1 = some r) : LCall Try.prog 78 [.own true (Vtab.row x0), .val true (CV.frzRow (Vtab.row x1))] [.val true (Vtab.row r.1), .val false [.lit (.bool r.2)]] [] := by
  refine LCall.of_body tOk Try.func78 rfl (c := (.seq (Rg Try.f78 0) (.seq (.seq (Rg Try.f78 1) (.cond (.tmp 11) (.seq (Rg Try.f78 2) .ret) .skip)) (.seq (Rg Try.f78 3) .ret)))) kr (Nat.le_of_ble_eq_true kr) 0 (rs := [.cell 4 29, .tmp 5]) rfl [] .nil [(true, (Vtab.row r.1)), (false, [.lit (.bool r.2)])] [] [] fun cx => ?_
  show Tr _ _ _ ⟨15, 0, [sV 0 (Vtab.row x0), sV 1 (CV.frzRow (Vtab.row x1))], []⟩ _
  unfold spec_l9OrF at H
  refine Tr.rgn tOk 4 60 28 kr kr ?_
  refine Tr.seq ?_
  refine Tr.rs ?_
  refine LAt.runU tOk 3 kr ?_
  refine LAt.lenE tOk (t := 23) (ty := 3) (e := 3) (x := (.tmp 8)) (d := 9) (g := none) ⟨(.slot 8), [], 0, false, 1, (CV.frzEs (x1.Pvid.map intRow))⟩ (x1.Pvid).length _ kr kr kr kr kr (frz_len _ _) rfl ?_
  obtain ⟨r1, er1, H⟩ := bind_some H
  refine LAt.callV tOk [.rd, .rd] [.box 2] (spec_VtabOk n x0 (x1.Pvid.length : Int) r1 er1) kr kr kr kr (.inr (rets_cons (mine_cons mine_lit mine_nil) rets_nil)) ?_
  refine LAt.runU tOk 1 kr ?_
  refine LAt.doneM 2108 28 kr ?_
  cases h1 : (!r1)
  · have H := bifF h1 H
    refine Tr.cF h1 kr ?_
    refine Tr.skip ?_
    show Tr _ _ _ _ _
    refine Tr.rgn tOk 3 48 16 kr kr ?_
    refine Tr.ret ?_
    have H := Option.some.inj H
    subst H
    exact Fin.of _ [(true, (Vtab.row x0)), (false, [cB true])] kr rfl rfl
  have H := bifT h1 H
  refine Tr.cT h1 kr ?_
  refine Tr.rs ?_
  refine LAt.runU tOk 1 kr ?_
  obtain ⟨r2, er2, H⟩ := bind_some H
  refine LAt.callV tOk [.rd] [] (spec_l9Copy n x1 r2 er2) kr kr kr kr (.inl rfl) ?_
  refine LAt.runU tOk 2 kr ?_
  refine LAt.doneM 52 20 kr ?_
  refine Tr.ret ?_
  have H := Option.some.inj H
  subst H
  exact Fin.of _ [(true, (Vtab.row r2)), (false, [cB false])] kr rfl rfl

def spec_SetPvidF (n : Nat) (x0 : Vtab) (x1 : Int) (x2 : Int) : Option (Vtab × Bool) :=
  ((spec_VtabOkF n x0 (x0.Pvid.length : Int)).bind fun r1 => (bif (!r1) then ((spec_l9CopyF n x0).bind fun r7 => (some (r7, false))) else ((spec_l1InF n x1 0 (IntKind.wrap .i64 ((x0.Pvid.length : Int) - 1))).bind fun r2 => (bif (!r2) then ((spec_l9CopyF n x0).bind fun r6 => (some (r6, false))) else ((spec_l9CopyF n x0).bind fun r3 => ((idx r3.Pvid x1).bind fun v4 => ((spec_l9OrF n (⟨r3.Rows, (r3.Pvid.set (x1.toNat) x2)⟩ : Vtab) x0).bind fun r5 => (some (r5.1, r5.2)))))))))
/-- loop.example/g00326/spec.SetPvid -/
theorem spec_SetPvid (n : Nat) (x0 : Vtab) (x1 : Int) (x2 : Int) (r : Vtab × Bool) (H : spec_SetPvidF n x0 x1 x2 = some r) : LCall Try.prog 16 [.val true (CV.frzRow (Vtab.row x0)), .val false [.lit (.int .i64 x1)], .val false [.lit (.int .i64 x2)]] [.val true (Vtab.row r.1), .val false [.lit (.bool r.2)]] [] := by
  refine LCall.of_body tOk Try.func16 rfl (c := (.seq (Rg Try.f16 0) (.seq (.seq (Rg Try.f16 1) (.cond (.tmp 23) (.seq (Rg Try.f16 2) .ret) .skip)) (.seq (Rg Try.f16 3) (.seq (Rg Try.f16 4) (.seq (Rg Try.f16 5) .ret)))))) kr (Nat.le_of_ble_eq_true kr) 0 (rs := [.cell 6 29, .tmp 7]) rfl [] .nil [(true, (Vtab.row r.1)), (false, [.lit (.bool r.2)])] [] [] fun cx => ?_
  show Tr _ _ _ ⟨38, 0, [sV 0 (CV.frzRow (Vtab.row x0)), sI 1 x1, sI 2 x2], []⟩ _
  unfold spec_SetPvidF at H
  refine Tr.rgn tOk 3 206 72 kr kr ?_
  refine Tr.seq ?_
  refine Tr.rs ?_
  refine LAt.runU tOk 3 kr ?_
  refine LAt.lenE tOk (t := 23) (ty := 3) (e := 3) (x := (.tmp 11)) (d := 12) (g := none) ⟨(.slot 11), [], 0, false, 1, (CV.frzEs (x0.Pvid.map intRow))⟩ (x0.Pvid).length _ kr kr kr kr kr (frz_len _ _) rfl ?_
  obtain ⟨r1, er1, H⟩ := bind_some H
  refine LAt.callV tOk [.rd, .rd] [] (spec_VtabOk n x0 (x0.Pvid.length : Int) r1 er1) kr kr kr kr (.inl rfl) ?_
  refine LAt.runU tOk 2 kr ?_
  refine LAt.to ⟨38, 0, [sB 15 (!r1), sB 14 (!r1), sB 13 r1, sI 12 (x0.Pvid.length : Int), sC 11 (cF 1 x0.Pvid intRow), sA 10 3 2 1, sV 9 (CV.frzRow (Vtab.row x0)), sB 7 false, sA 6 6 2 0, sA 3 3 2 0, sI 1 x1, sI 2 x2], [(6, [cL 3 ([] : List Vrow) Vrow.row, cL 1 ([] : List Int) intRow]), (3, (CV.frzRow (Vtab.row x0)))]⟩ kr ?_
  cases h1 : (!r1)
  · have H := bifF h1 H
    refine LAt.runU tOk 3 kr ?_
    refine LAt.lenE tOk (t := 23) (ty := 3) (e := 3) (x := (.tmp 18)) (d := 19) (g := (some (6, false))) ⟨(.slot 18), [], 0, false, 1, (CV.frzEs (x0.Pvid.map intRow))⟩ (x0.Pvid).length _ kr kr kr kr kr (frz_len _ _) rfl ?_
    refine LAt.runU tOk 1 kr ?_
    obtain ⟨r2, er2, H⟩ := bind_some H
    refine LAt.callV tOk [.rd, .rd, .rd] [] (spec_l1In n x1 0 (IntKind.wrap .i64 ((x0.Pvid.length : Int) - 1)) r2 er2) kr kr kr kr (.inl rfl) ?_
    refine LAt.runU tOk 2 kr ?_
    refine LAt.doneM 8388814 72 kr ?_
    cases h2 : (!r2)
    · have H := bifF h2 H
      refine Tr.cF h2 kr ?_
      refine Tr.skip ?_
      show Tr _ _ _ _ _
      refine Tr.rs ?_
      refine LAt.runU tOk 1 kr ?_
      obtain ⟨r3, er3, H⟩ := bind_some H
      refine LAt.callV tOk [.rd] [] (spec_l9Copy n x0 r3 er3) kr kr kr kr (.inl rfl) ?_
      refine LAt.runU tOk 2 kr ?_
      refine LAt.doneM 462 328 kr ?_
      refine Tr.rs ?_
      refine LAt.runU tOk 4 kr ?_
      obtain ⟨v4, ev4, H⟩ := bind_some H
      refine LAt.indexO tOk (t := 23) (ty := 0) (x := (.tmp 29)) (y := (.tmp 30)) (d := 32) (g := none) ⟨(.box 8), [(0, 0)], 1, true, 1, (r3.Pvid.map intRow)⟩ x1 (x1.toNat) (intRow v4) _ kr kr kr kr rfl kr (idx_isE ev4) rfl rfl ?_
      refine LAt.storeB tOk (t := 3) (ty := 0) (ad := (.tmp 32)) (x := (.tmp 31)) (g := none) ⟨.int .i64, 1, 8, [.lit (.int .i64 0)]⟩ false [cI x2] 8 1 (x1.toNat) 1 0 1 r3.Pvid intRow v4 x2 kr kr kr kr kr kr kr kr (idx_get ev4).2 kr kr kr kr ?_
      refine LAt.doneM 456 328 kr ?_
      refine Tr.rs ?_
      refine LAt.runU tOk 2 kr ?_
      obtain ⟨r5, er5, H⟩ := bind_some H
      refine LAt.callV tOk [.own, .rd] [] (spec_l9Or n (⟨r3.Rows, (r3.Pvid.set (x1.toNat) x2)⟩ : Vtab) x0 r5 er5) kr kr kr kr (.inl rfl) ?_
      refine LAt.runU tOk 4 kr ?_
      refine LAt.doneM 192 64 kr ?_
      refine Tr.ret ?_
      have H := Option.some.inj H
      subst H
      exact Fin.of _ [(true, (Vtab.row r5.1)), (false, [cB r5.2])] kr rfl rfl
    have H := bifT h2 H
    refine Tr.cT h2 kr ?_
    refine Tr.rs ?_
    refine LAt.runU tOk 1 kr ?_
    obtain ⟨r6, er6, H⟩ := bind_some H
    refine LAt.callV tOk [.rd] [] (spec_l9Copy n x0 r6 er6) kr kr kr kr (.inl rfl) ?_
    refine LAt.runU tOk 2 kr ?_
    refine LAt.doneM 206 72 kr ?_
    refine Tr.ret ?_
    have H := Option.some.inj H
    subst H
    exact Fin.of _ [(true, (Vtab.row r6)), (false, [cB false])] kr rfl rfl
  have H := bifT h1 H
  refine LAt.runU tOk 8 kr ?_
  refine LAt.doneM 8388814 72 kr ?_
  refine Tr.ct kr ?_
  refine Tr.rs ?_
  refine LAt.runU tOk 1 kr ?_
  obtain ⟨r7, er7, H⟩ := bind_some H
  refine LAt.callV tOk [.rd] [] (spec_l9Copy n x0 r7 er7) kr kr kr kr (.inl rfl) ?_
  refine LAt.runU tOk 2 kr ?_
  refine LAt.doneM 206 72 kr ?_
  refine Tr.ret ?_
  have H := Option.some.inj H
  subst H
  exact Fin.of _ [(true, (Vtab.row r7)), (false, [cB false])] kr rfl rfl

def spec_DropRowF (n : Nat) (x0 : Vtab) (x1 : Int) : Option (Vtab × Bool) :=
  ((spec_RowAtF n x0 x1).bind fun r1 => ((spec_VtabOkF n x0 (x0.Pvid.length : Int)).bind fun r2 => (bif (!r2) then ((spec_l9CopyF n x0).bind fun r10 => (some (r10, false))) else (bif (decide (r1 < 0)) then ((spec_l9CopyF n x0).bind fun r9 => (some (r9, false))) else ((spec_l9CopyF n x0).bind fun r3 => (bif (decide ((0 : Int) ≤ 0) && (decide ((0 : Int) ≤ r1) && decide ((r1 : Int) ≤ (x0.Rows.length : Int)))) then (bif (decide (([] : List Vrow).length + ((x0.Rows.drop ((0 : Int)).toNat).take (((r1 : Int)).toNat - ((0 : Int)).toNat)).length ≤ 268435456)) then (bif (decide ((0 : Int) ≤ (IntKind.wrap .i64 (r1 + 1))) && (decide (((IntKind.wrap .i64 (r1 + 1)) : Int) ≤ (x0.Rows.length : Int)) && decide (((x0.Rows.length : Int) : Int) ≤ (x0.Rows.length : Int)))) then (bif (decide ((([] : List Vrow) ++ ((x0.Rows.drop ((0 : Int)).toNat).take (((r1 : Int)).toNat - ((0 : Int)).toNat))).length + ((x0.Rows.drop (((IntKind.wrap .i64 (r1 + 1)) : Int)).toNat).take ((((x0.Rows.length : Int) : Int)).toNat - (((IntKind.wrap .i64 (r1 + 1)) : Int)).toNat)).length ≤ 268435456)) then ((spec_l9OrF n (⟨((([] : List Vrow) ++ ((x0.Rows.drop ((0 : Int)).toNat).take (((r1 : Int)).toNat - ((0 : Int)).toNat))) ++ ((x0.Rows.drop (((IntKind.wrap .i64 (r1 + 1)) : Int)).toNat).take ((((x0.Rows.length : Int) : Int)).toNat - (((IntKind.wrap .i64 (r1 + 1)) : Int)).toNat))), r3.Pvid⟩ : Vtab) x0).bind fun r8 => (some (r8.1, r8.2))) else none) else none) else none) else none))))))
/-- loop.example/g00326/spec.DropRow -/
theorem spec_DropRow (n : Nat) (x0 : Vtab) (x1 : Int) (r : Vtab × Bool) (H : spec_DropRowF n x0 x1 = some r) : LCall Try.prog 34 [.val true (CV.frzRow (Vtab.row x0)), .val false [.lit (.int .i64 x1)]] [.val true (Vtab.row r.1), .val false [.lit (.bool r.2)]] [] := by
  refine LCall.of_body tOk Try.func34 rfl (c := (.seq (Rg Try.f34 0) (.seq (Rg Try.f34 1) (.seq (.seq (Rg Try.f34 2) (.cond (.tmp 20) (.seq (Rg Try.f34 3) .ret) .skip)) (.seq (Rg Try.f34 4) (.seq (Rd Try.f34 5) (.seq (Rg Try.f34 6) .ret))))))) kr (Nat.le_of_ble_eq_true kr) 0 (rs := [.cell 4 29, .tmp 5]) rfl [] .nil [(true, (Vtab.row r.1)), (false, [.lit (.bool r.2)])] [] [] fun cx => ?_
  show Tr _ _ _ ⟨43, 0, [sV 0 (CV.frzRow (Vtab.row x0)), sI 1 x1], []⟩ _
  unfold spec_DropRowF at H
  refine Tr.rgn tOk 3 54 20 kr kr ?_
  refine Tr.rs ?_
  refine LAt.runU tOk 2 kr ?_
  obtain ⟨r1, er1, H⟩ := bind_some H
  refine LAt.callV tOk [.rd, .rd] [] (spec_RowAt n x0 x1 r1 er1) kr kr kr kr (.inl rfl) ?_
  refine LAt.runU tOk 1 kr ?_
  refine LAt.doneM 116 20 kr ?_
  refine Tr.seq ?_
  refine Tr.rs ?_
  refine LAt.runU tOk 3 kr ?_
  refine LAt.lenE tOk (t := 23) (ty := 3) (e := 3) (x := (.tmp 13)) (d := 14) (g := none) ⟨(.slot 13), [], 0, false, 1, (CV.frzEs (x0.Pvid.map intRow))⟩ (x0.Pvid).length _ kr kr kr kr kr (frz_len _ _) rfl ?_
  obtain ⟨r2, er2, H⟩ := bind_some H
  refine LAt.callV tOk [.rd, .rd] [] (spec_VtabOk n x0 (x0.Pvid.length : Int) r2 er2) kr kr kr kr (.inl rfl) ?_
  refine LAt.runU tOk 2 kr ?_
  refine LAt.to ⟨43, 0, [sB 17 (!r2), sB 16 (!r2), sB 15 r2, sI 14 (x0.Pvid.length : Int), sC 13 (cF 1 x0.Pvid intRow), sA 12 2 2 1, sV 11 (CV.frzRow (Vtab.row x0)), sI 6 r1, sB 5 false, sA 4 4 2 0, sA 2 2 2 0], [(4, [cL 3 ([] : List Vrow) Vrow.row, cL 1 ([] : List Int) intRow]), (2, (CV.frzRow (Vtab.row x0)))]⟩ kr ?_
  cases h1 : (!r2)
  · have H := bifF h1 H
    refine LAt.runU tOk 3 kr ?_
    refine LAt.doneM 1048692 20 kr ?_
    cases h2 : (decide (r1 < 0))
    · have H := bifF h2 H
      refine Tr.cF h2 kr ?_
      refine Tr.skip ?_
      show Tr _ _ _ _ _
      refine Tr.rs ?_
      refine LAt.runU tOk 1 kr ?_
      obtain ⟨r3, er3, H⟩ := bind_some H
      refine LAt.callV tOk [.rd] [] (spec_l9Copy n x0 r3 er3) kr kr kr kr (.inl rfl) ?_
      refine LAt.runU tOk 2 kr ?_
      refine LAt.doneM 244 148 kr ?_
      obtain ⟨hg4, H⟩ := guard_some H
      obtain ⟨hg5, H⟩ := guard_some H
      obtain ⟨hg6, H⟩ := guard_some H
      obtain ⟨hg7, H⟩ := guard_some H
      refine Tr.draws mixed 14 kr ⟨43, 0, [sA 7 7 2 0, sB 5 false, sA 4 4 2 0, sA 2 2 2 0], [(7, [cL 3 ((([] : List Vrow) ++ ((x0.Rows.drop ((0 : Int)).toNat).take (((r1 : Int)).toNat - ((0 : Int)).toNat))) ++ ((x0.Rows.drop (((IntKind.wrap .i64 (r1 + 1)) : Int)).toNat).take ((((x0.Rows.length : Int) : Int)).toNat - (((IntKind.wrap .i64 (r1 + 1)) : Int)).toNat))) Vrow.row, cL 1 r3.Pvid intRow]), (4, [cL 3 ([] : List Vrow) Vrow.row, cL 1 ([] : List Int) intRow]), (2, (CV.frzRow (Vtab.row x0)))]⟩ (fun cx => ?_) ?_
      · refine AT.runU tOk [(1, []), (2, [4, 5, 11, 13]), (3, []), (6, []), (7, [10, 11, 13]), (8, []), (9, [])] 7 [⟨[10, 11, 13], 27, 31, 32⟩, ⟨[4, 5, 11, 13], 27, 26, 27⟩] [9, 8, 7, 6, 3, 2, 1] rfl kr (fun cx => ?_)
        refine AT.big3 tOk 0 4 10 kr (And.intro kr ?_) (And.intro kr ?_) (And.intro kr ?_)
        · refine LAt.runU tOk 1 kr ?_
          refine LAt.fin kr (And.intro (And.intro kr kr) ?_)
          refine AT.big2 tOk 4 10 kr (And.intro kr ?_) (And.intro kr ?_)
          · refine LAt.cutG tOk (t := 27) (ty := 27) (e := 56) (x := (.tmp 27)) (lo := none) (hi := (some (.tmp 28))) (d := 29) (g := none) ⟨.st [(0, 1, 3), (1, 1, 3), (2, 1, 3)], 3, 24, [.lit (.int .i64 0), .lit (.int .i64 0), .lit (.int .i64 0)]⟩ Vrow.row x0.Rows ⟨(.box 2), [(0, 0)], 0, false, 3, (CV.frzEs (x0.Rows.map Vrow.row))⟩ 0 r1 kr kr kr kr kr kr rfl kr rfl kr kr hg4 ?_
            refine LAt.fin kr (And.intro (And.intro kr kr) ?_)
            refine AT.big2 tOk 5 10 kr (And.intro kr ?_) (And.intro kr ?_)
            · refine LAt.appCU tOk (t := 27) (ty := 27) (e := 56) (x := (.tmp 25)) (y := (.tmp 29)) (d := 30) (g := none) ⟨.st [(0, 1, 3), (1, 1, 3), (2, 1, 3)], 3, 24, [.lit (.int .i64 0), .lit (.int .i64 0), .lit (.int .i64 0)]⟩ Vrow.row ([] : List Vrow) ((x0.Rows.drop ((0 : Int)).toNat).take (((r1 : Int)).toNat - ((0 : Int)).toNat)) ⟨(.slot 29), [], 0, false, 3, (CV.frzEs (((x0.Rows.drop ((0 : Int)).toNat).take (((r1 : Int)).toNat - ((0 : Int)).toNat)).map Vrow.row))⟩ kr kr kr kr kr kr kr kr kr kr kr (.inr rfl) (fun _ => rfl) (fun _ => rfl) hg5 ?_
              refine LAt.fin kr (And.intro (And.intro kr kr) ?_)
              refine AT.big1 tOk 10 kr kr ?_
              refine LAt.cutG tOk (t := 27) (ty := 27) (e := 56) (x := (.tmp 32)) (lo := (some (.tmp 34))) (hi := none) (d := 35) (g := none) ⟨.st [(0, 1, 3), (1, 1, 3), (2, 1, 3)], 3, 24, [.lit (.int .i64 0), .lit (.int .i64 0), .lit (.int .i64 0)]⟩ Vrow.row x0.Rows ⟨(.box 2), [(0, 0)], 0, false, 3, (CV.frzEs (x0.Rows.map Vrow.row))⟩ (IntKind.wrap .i64 (r1 + 1)) (x0.Rows.length : Int) kr kr kr kr kr kr rfl kr rfl kr kr hg6 ?_
              refine LAt.fin kr (And.intro (And.intro kr kr) ?_)
              refine AT.big1 tOk 11 kr kr ?_
              refine LAt.appCU tOk (t := 27) (ty := 27) (e := 56) (x := (.tmp 30)) (y := (.tmp 35)) (d := 36) (g := none) ⟨.st [(0, 1, 3), (1, 1, 3), (2, 1, 3)], 3, 24, [.lit (.int .i64 0), .lit (.int .i64 0), .lit (.int .i64 0)]⟩ Vrow.row (([] : List Vrow) ++ ((x0.Rows.drop ((0 : Int)).toNat).take (((r1 : Int)).toNat - ((0 : Int)).toNat))) ((x0.Rows.drop (((IntKind.wrap .i64 (r1 + 1)) : Int)).toNat).take ((((x0.Rows.length : Int) : Int)).toNat - (((IntKind.wrap .i64 (r1 + 1)) : Int)).toNat)) ⟨(.slot 35), [], 0, false, 3, (CV.frzEs (((x0.Rows.drop (((IntKind.wrap .i64 (r1 + 1)) : Int)).toNat).take ((((x0.Rows.length : Int) : Int)).toNat - (((IntKind.wrap .i64 (r1 + 1)) : Int)).toNat)).map Vrow.row))⟩ kr kr kr kr kr kr kr kr kr kr kr (.inr rfl) (fun _ => rfl) (fun _ => rfl) hg7 ?_
              refine LAt.fin kr (And.intro (And.intro kr kr) ?_)
              refine AT.runU tOk [(12, [])] 1 [⟨[10, 11, 13], 27, 31, 32⟩, ⟨[4, 5, 11, 13], 27, 26, 27⟩] [12, 11, 10, 5, 4, 0, 9, 8, 7, 6, 3, 2, 1] rfl kr (fun cx => ?_)
              refine AT.big1 tOk 13 kr kr ?_
              refine LAt.runU tOk 1 kr ?_
              refine LAt.fin kr (And.intro (And.intro kr kr) ?_)
              exact AT.done [7, 5, 4, 2] [7, 4, 2] _ kr kr rfl
            · refine LAt.cutG tOk (t := 27) (ty := 27) (e := 56) (x := (.tmp 32)) (lo := (some (.tmp 34))) (hi := none) (d := 35) (g := none) ⟨.st [(0, 1, 3), (1, 1, 3), (2, 1, 3)], 3, 24, [.lit (.int .i64 0), .lit (.int .i64 0), .lit (.int .i64 0)]⟩ Vrow.row x0.Rows ⟨(.box 2), [(0, 0)], 0, false, 3, (CV.frzEs (x0.Rows.map Vrow.row))⟩ (IntKind.wrap .i64 (r1 + 1)) (x0.Rows.length : Int) kr kr kr kr kr kr rfl kr rfl kr kr hg6 ?_
              refine LAt.fin kr (And.intro (And.intro kr kr) ?_)
              refine AT.big1 tOk 5 kr kr ?_
              refine LAt.appCU tOk (t := 27) (ty := 27) (e := 56) (x := (.tmp 25)) (y := (.tmp 29)) (d := 30) (g := none) ⟨.st [(0, 1, 3), (1, 1, 3), (2, 1, 3)], 3, 24, [.lit (.int .i64 0), .lit (.int .i64 0), .lit (.int .i64 0)]⟩ Vrow.row ([] : List Vrow) ((x0.Rows.drop ((0 : Int)).toNat).take (((r1 : Int)).toNat - ((0 : Int)).toNat)) ⟨(.slot 29), [], 0, false, 3, (CV.frzEs (((x0.Rows.drop ((0 : Int)).toNat).take (((r1 : Int)).toNat - ((0 : Int)).toNat)).map Vrow.row))⟩ kr kr kr kr kr kr kr kr kr kr kr (.inr rfl) (fun _ => rfl) (fun _ => rfl) hg5 ?_
              refine LAt.fin kr (And.intro (And.intro kr kr) ?_)
              refine AT.big1 tOk 11 kr kr ?_
              refine LAt.appCU tOk (t := 27) (ty := 27) (e := 56) (x := (.tmp 30)) (y := (.tmp 35)) (d := 36) (g := none) ⟨.st [(0, 1, 3), (1, 1, 3), (2, 1, 3)], 3, 24, [.lit (.int .i64 0), .lit (.int .i64 0), .lit (.int .i64 0)]⟩ Vrow.row (([] : List Vrow) ++ ((x0.Rows.drop ((0 : Int)).toNat).take (((r1 : Int)).toNat - ((0 : Int)).toNat))) ((x0.Rows.drop (((IntKind.wrap .i64 (r1 + 1)) : Int)).toNat).take ((((x0.Rows.length : Int) : Int)).toNat - (((IntKind.wrap .i64 (r1 + 1)) : Int)).toNat)) ⟨(.slot 35), [], 0, false, 3, (CV.frzEs (((x0.Rows.drop (((IntKind.wrap .i64 (r1 + 1)) : Int)).toNat).take ((((x0.Rows.length : Int) : Int)).toNat - (((IntKind.wrap .i64 (r1 + 1)) : Int)).toNat)).map Vrow.row))⟩ kr kr kr kr kr kr kr kr kr kr kr (.inr rfl) (fun _ => rfl) (fun _ => rfl) hg7 ?_
              refine LAt.fin kr (And.intro (And.intro kr kr) ?_)
              refine AT.runU tOk [(12, [])] 1 [⟨[10, 11, 13], 27, 31, 32⟩, ⟨[4, 5, 11, 13], 27, 26, 27⟩] [12, 11, 5, 10, 4, 0, 9, 8, 7, 6, 3, 2, 1] rfl kr (fun cx => ?_)
              refine AT.big1 tOk 13 kr kr ?_
              refine LAt.runU tOk 1 kr ?_
              refine LAt.fin kr (And.intro (And.intro kr kr) ?_)
              exact AT.done [7, 5, 4, 2] [7, 4, 2] _ kr kr rfl
          · refine LAt.cutG tOk (t := 27) (ty := 27) (e := 56) (x := (.tmp 32)) (lo := (some (.tmp 34))) (hi := none) (d := 35) (g := none) ⟨.st [(0, 1, 3), (1, 1, 3), (2, 1, 3)], 3, 24, [.lit (.int .i64 0), .lit (.int .i64 0), .lit (.int .i64 0)]⟩ Vrow.row x0.Rows ⟨(.box 2), [(0, 0)], 0, false, 3, (CV.frzEs (x0.Rows.map Vrow.row))⟩ (IntKind.wrap .i64 (r1 + 1)) (x0.Rows.length : Int) kr kr kr kr kr kr rfl kr rfl kr kr hg6 ?_
            refine LAt.fin kr (And.intro (And.intro kr kr) ?_)
            refine AT.big1 tOk 4 kr kr ?_
            refine LAt.cutG tOk (t := 27) (ty := 27) (e := 56) (x := (.tmp 27)) (lo := none) (hi := (some (.tmp 28))) (d := 29) (g := none) ⟨.st [(0, 1, 3), (1, 1, 3), (2, 1, 3)], 3, 24, [.lit (.int .i64 0), .lit (.int .i64 0), .lit (.int .i64 0)]⟩ Vrow.row x0.Rows ⟨(.box 2), [(0, 0)], 0, false, 3, (CV.frzEs (x0.Rows.map Vrow.row))⟩ 0 r1 kr kr kr kr kr kr rfl kr rfl kr kr hg4 ?_
            refine LAt.fin kr (And.intro (And.intro kr kr) ?_)
            refine AT.big1 tOk 5 kr kr ?_
            refine LAt.appCU tOk (t := 27) (ty := 27) (e := 56) (x := (.tmp 25)) (y := (.tmp 29)) (d := 30) (g := none) ⟨.st [(0, 1, 3), (1, 1, 3), (2, 1, 3)], 3, 24, [.lit (.int .i64 0), .lit (.int .i64 0), .lit (.int .i64 0)]⟩ Vrow.row ([] : List Vrow) ((x0.Rows.drop ((0 : Int)).toNat).take (((r1 : Int)).toNat - ((0 : Int)).toNat)) ⟨(.slot 29), [], 0, false, 3, (CV.frzEs (((x0.Rows.drop ((0 : Int)).toNat).take (((r1 : Int)).toNat - ((0 : Int)).toNat)).map Vrow.row))⟩ kr kr kr kr kr kr kr kr kr kr kr (.inr rfl) (fun _ => rfl) (fun _ => rfl) hg5 ?_
            refine LAt.fin kr (And.intro (And.intro kr kr) ?_)
            refine AT.big1 tOk 11 kr kr ?_
            refine LAt.appCU tOk (t := 27) (ty := 27) (e := 56) (x := (.tmp 30)) (y := (.tmp 35)) (d := 36) (g := none) ⟨.st [(0, 1, 3), (1, 1, 3), (2, 1, 3)], 3, 24, [.lit (.int .i64 0), .lit (.int .i64 0), .lit (.int .i64 0)]⟩ Vrow.row (([] : List Vrow) ++ ((x0.Rows.drop ((0 : Int)).toNat).take (((r1 : Int)).toNat - ((0 : Int)).toNat))) ((x0.Rows.drop (((IntKind.wrap .i64 (r1 + 1)) : Int)).toNat).take ((((x0.Rows.length : Int) : Int)).toNat - (((IntKind.wrap .i64 (r1 + 1)) : Int)).toNat)) ⟨(.slot 35), [], 0, false, 3, (CV.frzEs (((x0.Rows.drop (((IntKind.wrap .i64 (r1 + 1)) : Int)).toNat).take ((((x0.Rows.length : Int) : Int)).toNat - (((IntKind.wrap .i64 (r1 + 1)) : Int)).toNat)).map Vrow.row))⟩ kr kr kr kr kr kr kr kr kr kr kr (.inr rfl) (fun _ => rfl) (fun _ => rfl) hg7 ?_
            refine LAt.fin kr (And.intro (And.intro kr kr) ?_)
            refine AT.runU tOk [(12, [])] 1 [⟨[10, 11, 13], 27, 31, 32⟩, ⟨[4, 5, 11, 13], 27, 26, 27⟩] [12, 11, 5, 4, 10, 0, 9, 8, 7, 6, 3, 2, 1] rfl kr (fun cx => ?_)
            refine AT.big1 tOk 13 kr kr ?_
            refine LAt.runU tOk 1 kr ?_
            refine LAt.fin kr (And.intro (And.intro kr kr) ?_)
            exact AT.done [7, 5, 4, 2] [7, 4, 2] _ kr kr rfl
        · refine LAt.cutG tOk (t := 27) (ty := 27) (e := 56) (x := (.tmp 27)) (lo := none) (hi := (some (.tmp 28))) (d := 29) (g := none) ⟨.st [(0, 1, 3), (1, 1, 3), (2, 1, 3)], 3, 24, [.lit (.int .i64 0), .lit (.int .i64 0), .lit (.int .i64 0)]⟩ Vrow.row x0.Rows ⟨(.box 2), [(0, 0)], 0, false, 3, (CV.frzEs (x0.Rows.map Vrow.row))⟩ 0 r1 kr kr kr kr kr kr rfl kr rfl kr kr hg4 ?_
          refine LAt.fin kr (And.intro (And.intro kr kr) ?_)
          refine AT.big2 tOk 0 10 kr (And.intro kr ?_) (And.intro kr ?_)
          · refine LAt.runU tOk 1 kr ?_
            refine LAt.fin kr (And.intro (And.intro kr kr) ?_)
            refine AT.big2 tOk 5 10 kr (And.intro kr ?_) (And.intro kr ?_)
            · refine LAt.appCU tOk (t := 27) (ty := 27) (e := 56) (x := (.tmp 25)) (y := (.tmp 29)) (d := 30) (g := none) ⟨.st [(0, 1, 3), (1, 1, 3), (2, 1, 3)], 3, 24, [.lit (.int .i64 0), .lit (.int .i64 0), .lit (.int .i64 0)]⟩ Vrow.row ([] : List Vrow) ((x0.Rows.drop ((0 : Int)).toNat).take (((r1 : Int)).toNat - ((0 : Int)).toNat)) ⟨(.slot 29), [], 0, false, 3, (CV.frzEs (((x0.Rows.drop ((0 : Int)).toNat).take (((r1 : Int)).toNat - ((0 : Int)).toNat)).map Vrow.row))⟩ kr kr kr kr kr kr kr kr kr kr kr (.inr rfl) (fun _ => rfl) (fun _ => rfl) hg5 ?_
              refine LAt.fin kr (And.intro (And.intro kr kr) ?_)
              refine AT.big1 tOk 10 kr kr ?_
              refine LAt.cutG tOk (t := 27) (ty := 27) (e := 56) (x := (.tmp 32)) (lo := (some (.tmp 34))) (hi := none) (d := 35) (g := none) ⟨.st [(0, 1, 3), (1, 1, 3), (2, 1, 3)], 3, 24, [.lit (.int .i64 0), .lit (.int .i64 0), .lit (.int .i64 0)]⟩ Vrow.row x0.Rows ⟨(.box 2), [(0, 0)], 0, false, 3, (CV.frzEs (x0.Rows.map Vrow.row))⟩ (IntKind.wrap .i64 (r1 + 1)) (x0.Rows.length : Int) kr kr kr kr kr kr rfl kr rfl kr kr hg6 ?_
              refine LAt.fin kr (And.intro (And.intro kr kr) ?_)
              refine AT.big1 tOk 11 kr kr ?_
              refine LAt.appCU tOk (t := 27) (ty := 27) (e := 56) (x := (.tmp 30)) (y := (.tmp 35)) (d := 36) (g := none) ⟨.st [(0, 1, 3), (1, 1, 3), (2, 1, 3)], 3, 24, [.lit (.int .i64 0), .lit (.int .i64 0), .lit (.int .i64 0)]⟩ Vrow.row (([] : List Vrow) ++ ((x0.Rows.drop ((0 : Int)).toNat).take (((r1 : Int)).toNat - ((0 : Int)).toNat))) ((x0.Rows.drop (((IntKind.wrap .i64 (r1 + 1)) : Int)).toNat).take ((((x0.Rows.length : Int) : Int)).toNat - (((IntKind.wrap .i64 (r1 + 1)) : Int)).toNat)) ⟨(.slot 35), [], 0, false, 3, (CV.frzEs (((x0.Rows.drop (((IntKind.wrap .i64 (r1 + 1)) : Int)).toNat).take ((((x0.Rows.length : Int) : Int)).toNat - (((IntKind.wrap .i64 (r1 + 1)) : Int)).toNat)).map Vrow.row))⟩ kr kr kr kr kr kr kr kr kr kr kr (.inr rfl) (fun _ => rfl) (fun _ => rfl) hg7 ?_
              refine LAt.fin kr (And.intro (And.intro kr kr) ?_)
              refine AT.runU tOk [(12, [])] 1 [⟨[10, 11, 13], 27, 31, 32⟩, ⟨[4, 5, 11, 13], 27, 26, 27⟩] [12, 11, 10, 5, 0, 4, 9, 8, 7, 6, 3, 2, 1] rfl kr (fun cx => ?_)
              refine AT.big1 tOk 13 kr kr ?_
              refine LAt.runU tOk 1 kr ?_
              refine LAt.fin kr (And.intro (And.intro kr kr) ?_)
              exact AT.done [7, 5, 4, 2] [7, 4, 2] _ kr kr rfl
            · refine LAt.cutG tOk (t := 27) (ty := 27) (e := 56) (x := (.tmp 32)) (lo := (some (.tmp 34))) (hi := none) (d := 35) (g := none) ⟨.st [(0, 1, 3), (1, 1, 3), (2, 1, 3)], 3, 24, [.lit (.int .i64 0), .lit (.int .i64 0), .lit (.int .i64 0)]⟩ Vrow.row x0.Rows ⟨(.box 2), [(0, 0)], 0, false, 3, (CV.frzEs (x0.Rows.map Vrow.row))⟩ (IntKind.wrap .i64 (r1 + 1)) (x0.Rows.length : Int) kr kr kr kr kr kr rfl kr rfl kr kr hg6 ?_
              refine LAt.fin kr (And.intro (And.intro kr kr) ?_)
              refine AT.big1 tOk 5 kr kr ?_
              refine LAt.appCU tOk (t := 27) (ty := 27) (e := 56) (x := (.tmp 25)) (y := (.tmp 29)) (d := 30) (g := none) ⟨.st [(0, 1, 3), (1, 1, 3), (2, 1, 3)], 3, 24, [.lit (.int .i64 0), .lit (.int .i64 0), .lit (.int .i64 0)]⟩ Vrow.row ([] : List Vrow) ((x0.Rows.drop ((0 : Int)).toNat).take (((r1 : Int)).toNat - ((0 : Int)).toNat)) ⟨(.slot 29), [], 0, false, 3, (CV.frzEs (((x0.Rows.drop ((0 : Int)).toNat).take (((r1 : Int)).toNat - ((0 : Int)).toNat)).map Vrow.row))⟩ kr kr kr kr kr kr kr kr kr kr kr (.inr rfl) (fun _ => rfl) (fun _ => rfl) hg5 ?_
              refine LAt.fin kr (And.intro (And.intro kr kr) ?_)
              refine AT.big1 tOk 11 kr kr ?_
              refine LAt.appCU tOk (t := 27) (ty := 27) (e := 56) (x := (.tmp 30)) (y := (.tmp 35)) (d := 36) (g := none) ⟨.st [(0, 1, 3), (1, 1, 3), (2, 1, 3)], 3, 24, [.lit (.int .i64 0), .lit (.int .i64 0), .lit (.int .i64 0)]⟩ Vrow.row (([] : List Vrow) ++ ((x0.Rows.drop ((0 : Int)).toNat).take (((r1 : Int)).toNat - ((0 : Int)).toNat))) ((x0.Rows.drop (((IntKind.wrap .i64 (r1 + 1)) : Int)).toNat).take ((((x0.Rows.length : Int) : Int)).toNat - (((IntKind.wrap .i64 (r1 + 1)) : Int)).toNat)) ⟨(.slot 35), [], 0, false, 3, (CV.frzEs (((x0.Rows.drop (((IntKind.wrap .i64 (r1 + 1)) : Int)).toNat).take ((((x0.Rows.length : Int) : Int)).toNat - (((IntKind.wrap .i64 (r1 + 1)) : Int)).toNat)).map Vrow.row))⟩ kr kr kr kr kr kr kr kr kr kr kr (.inr rfl) (fun _ => rfl) (fun _ => rfl) hg7 ?_
              refine LAt.fin kr (And.intro (And.intro kr kr) ?_)
              refine AT.runU tOk [(12, [])] 1 [⟨[10, 11, 13], 27, 31, 32⟩, ⟨[4, 5, 11, 13], 27, 26, 27⟩] [12, 11, 5, 10, 0, 4, 9, 8, 7, 6, 3, 2, 1] rfl kr (fun cx => ?_)
              refine AT.big1 tOk 13 kr kr ?_
              refine LAt.runU tOk 1 kr ?_
              refine LAt.fin kr (And.intro (And.intro kr kr) ?_)
              exact AT.done [7, 5, 4, 2] [7, 4, 2] _ kr kr rfl
          · refine LAt.cutG tOk (t := 27) (ty := 27) (e := 56) (x := (.tmp 32)) (lo := (some (.tmp 34))) (hi := none) (d := 35) (g := none) ⟨.st [(0, 1, 3), (1, 1, 3), (2, 1, 3)], 3, 24, [.lit (.int .i64 0), .lit (.int .i64 0), .lit (.int .i64 0)]⟩ Vrow.row x0.Rows ⟨(.box 2), [(0, 0)], 0, false, 3, (CV.frzEs (x0.Rows.map Vrow.row))⟩ (IntKind.wrap .i64 (r1 + 1)) (x0.Rows.length : Int) kr kr kr kr kr kr rfl kr rfl kr kr hg6 ?_
            refine LAt.fin kr (And.intro (And.intro kr kr) ?_)
            refine AT.big1 tOk 0 kr kr ?_
            refine LAt.runU tOk 1 kr ?_
            refine LAt.fin kr (And.intro (And.intro kr kr) ?_)
            refine AT.big1 tOk 5 kr kr ?_
            refine LAt.appCU tOk (t := 27) (ty := 27) (e := 56) (x := (.tmp 25)) (y := (.tmp 29)) (d := 30) (g := none) ⟨.st [(0, 1, 3), (1, 1, 3), (2, 1, 3)], 3, 24, [.lit (.int .i64 0), .lit (.int .i64 0), .lit (.int .i64 0)]⟩ Vrow.row ([] : List Vrow) ((x0.Rows.drop ((0 : Int)).toNat).take (((r1 : Int)).toNat - ((0 : Int)).toNat)) ⟨(.slot 29), [], 0, false, 3, (CV.frzEs (((x0.Rows.drop ((0 : Int)).toNat).take (((r1 : Int)).toNat - ((0 : Int)).toNat)).map Vrow.row))⟩ kr kr kr kr kr kr kr kr kr kr kr (.inr rfl) (fun _ => rfl) (fun _ => rfl) hg5 ?_
            refine LAt.fin kr (And.intro (And.intro kr kr) ?_)
            refine AT.big1 tOk 11 kr kr ?_
            refine LAt.appCU tOk (t := 27) (ty := 27) (e := 56) (x := (.tmp 30)) (y := (.tmp 35)) (d := 36) (g := none) ⟨.st [(0, 1, 3), (1, 1, 3), (2, 1, 3)], 3, 24, [.lit (.int .i64 0), .lit (.int .i64 0), .lit (.int .i64 0)]⟩ Vrow.row (([] : List Vrow) ++ ((x0.Rows.drop ((0 : Int)).toNat).take (((r1 : Int)).toNat - ((0 : Int)).toNat))) ((x0.Rows.drop (((IntKind.wrap .i64 (r1 + 1)) : Int)).toNat).take ((((x0.Rows.length : Int) : Int)).toNat - (((IntKind.wrap .i64 (r1 + 1)) : Int)).toNat)) ⟨(.slot 35), [], 0, false, 3, (CV.frzEs (((x0.Rows.drop (((IntKind.wrap .i64 (r1 + 1)) : Int)).toNat).take ((((x0.Rows.length : Int) : Int)).toNat - (((IntKind.wrap .i64 (r1 + 1)) : Int)).toNat)).map Vrow.row))⟩ kr kr kr kr kr kr kr kr kr kr kr (.inr rfl) (fun _ => rfl) (fun _ => rfl) hg7 ?_
            refine LAt.fin kr (And.intro (And.intro kr kr) ?_)
            refine AT.runU tOk [(12, [])] 1 [⟨[10, 11, 13], 27, 31, 32⟩, ⟨[4, 5, 11, 13], 27, 26, 27⟩] [12, 11, 5, 0, 10, 4, 9, 8, 7, 6, 3, 2, 1] rfl kr (fun cx => ?_)
            refine AT.big1 tOk 13 kr kr ?_
            refine LAt.runU tOk 1 kr ?_
            refine LAt.fin kr (And.intro (And.intro kr kr) ?_)
            exact AT.done [7, 5, 4, 2] [7, 4, 2] _ kr kr rfl
        · refine LAt.cutG tOk (t := 27) (ty := 27) (e := 56) (x := (.tmp 32)) (lo := (some (.tmp 34))) (hi := none) (d := 35) (g := none) ⟨.st [(0, 1, 3), (1, 1, 3), (2, 1, 3)], 3, 24, [.lit (.int .i64 0), .lit (.int .i64 0), .lit (.int .i64 0)]⟩ Vrow.row x0.Rows ⟨(.box 2), [(0, 0)], 0, false, 3, (CV.frzEs (x0.Rows.map Vrow.row))⟩ (IntKind.wrap .i64 (r1 + 1)) (x0.Rows.length : Int) kr kr kr kr kr kr rfl kr rfl kr kr hg6 ?_
          refine LAt.fin kr (And.intro (And.intro kr kr) ?_)
          refine AT.big2 tOk 0 4 kr (And.intro kr ?_) (And.intro kr ?_)
          · refine LAt.runU tOk 1 kr ?_
            refine LAt.fin kr (And.intro (And.intro kr kr) ?_)
            refine AT.big1 tOk 4 kr kr ?_
            refine LAt.cutG tOk (t := 27) (ty := 27) (e := 56) (x := (.tmp 27)) (lo := none) (hi := (some (.tmp 28))) (d := 29) (g := none) ⟨.st [(0, 1, 3), (1, 1, 3), (2, 1, 3)], 3, 24, [.lit (.int .i64 0), .lit (.int .i64 0), .lit (.int .i64 0)]⟩ Vrow.row x0.Rows ⟨(.box 2), [(0, 0)], 0, false, 3, (CV.frzEs (x0.Rows.map Vrow.row))⟩ 0 r1 kr kr kr kr kr kr rfl kr rfl kr kr hg4 ?_
            refine LAt.fin kr (And.intro (And.intro kr kr) ?_)
            refine AT.big1 tOk 5 kr kr ?_
            refine LAt.appCU tOk (t := 27) (ty := 27) (e := 56) (x := (.tmp 25)) (y := (.tmp 29)) (d := 30) (g := none) ⟨.st [(0, 1, 3), (1, 1, 3), (2, 1, 3)], 3, 24, [.lit (.int .i64 0), .lit (.int .i64 0), .lit (.int .i64 0)]⟩ Vrow.row ([] : List Vrow) ((x0.Rows.drop ((0 : Int)).toNat).take (((r1 : Int)).toNat - ((0 : Int)).toNat)) ⟨(.slot 29), [], 0, false, 3, (CV.frzEs (((x0.Rows.drop ((0 : Int)).toNat).take (((r1 : Int)).toNat - ((0 : Int)).toNat)).map Vrow.row))⟩ kr kr kr kr kr kr kr kr kr kr kr (.inr rfl) (fun _ => rfl) (fun _ => rfl) hg5 ?_
            refine LAt.fin kr (And.intro (And.intro kr kr) ?_)
            refine AT.big1 tOk 11 kr kr ?_
            refine LAt.appCU tOk (t := 27) (ty := 27) (e := 56) (x := (.tmp 30)) (y := (.tmp 35)) (d := 36) (g := none) ⟨.st [(0, 1, 3), (1, 1, 3), (2, 1, 3)], 3, 24, [.lit (.int .i64 0), .lit (.int .i64 0), .lit (.int .i64 0)]⟩ Vrow.row (([] : List Vrow) ++ ((x0.Rows.drop ((0 : Int)).toNat).take (((r1 : Int)).toNat - ((0 : Int)).toNat))) ((x0.Rows.drop (((IntKind.wrap .i64 (r1 + 1)) : Int)).toNat).take ((((x0.Rows.length : Int) : Int)).toNat - (((IntKind.wrap .i64 (r1 + 1)) : Int)).toNat)) ⟨(.slot 35), [], 0, false, 3, (CV.frzEs (((x0.Rows.drop (((IntKind.wrap .i64 (r1 + 1)) : Int)).toNat).take ((((x0.Rows.length : Int) : Int)).toNat - (((IntKind.wrap .i64 (r1 + 1)) : Int)).toNat)).map Vrow.row))⟩ kr kr kr kr kr kr kr kr kr kr kr (.inr rfl) (fun _ => rfl) (fun _ => rfl) hg7 ?_
            refine LAt.fin kr (And.intro (And.intro kr kr) ?_)
            refine AT.runU tOk [(12, [])] 1 [⟨[10, 11, 13], 27, 31, 32⟩, ⟨[4, 5, 11, 13], 27, 26, 27⟩] [12, 11, 5, 4, 0, 10, 9, 8, 7, 6, 3, 2, 1] rfl kr (fun cx => ?_)
            refine AT.big1 tOk 13 kr kr ?_
            refine LAt.runU tOk 1 kr ?_
            refine LAt.fin kr (And.intro (And.intro kr kr) ?_)
            exact AT.done [7, 5, 4, 2] [7, 4, 2] _ kr kr rfl
          · refine LAt.cutG tOk (t := 27) (ty := 27) (e := 56) (x := (.tmp 27)) (lo := none) (hi := (some (.tmp 28))) (d := 29) (g := none) ⟨.st [(0, 1, 3), (1, 1, 3), (2, 1, 3)], 3, 24, [.lit (.int .i64 0), .lit (.int .i64 0), .lit (.int .i64 0)]⟩ Vrow.row x0.Rows ⟨(.box 2), [(0, 0)], 0, false, 3, (CV.frzEs (x0.Rows.map Vrow.row))⟩ 0 r1 kr kr kr kr kr kr rfl kr rfl kr kr hg4 ?_
            refine LAt.fin kr (And.intro (And.intro kr kr) ?_)
            refine AT.big1 tOk 0 kr kr ?_
            refine LAt.runU tOk 1 kr ?_
            refine LAt.fin kr (And.intro (And.intro kr kr) ?_)
            refine AT.big1 tOk 5 kr kr ?_
            refine LAt.appCU tOk (t := 27) (ty := 27) (e := 56) (x := (.tmp 25)) (y := (.tmp 29)) (d := 30) (g := none) ⟨.st [(0, 1, 3), (1, 1, 3), (2, 1, 3)], 3, 24, [.lit (.int .i64 0), .lit (.int .i64 0), .lit (.int .i64 0)]⟩ Vrow.row ([] : List Vrow) ((x0.Rows.drop ((0 : Int)).toNat).take (((r1 : Int)).toNat - ((0 : Int)).toNat)) ⟨(.slot 29), [], 0, false, 3, (CV.frzEs (((x0.Rows.drop ((0 : Int)).toNat).take (((r1 : Int)).toNat - ((0 : Int)).toNat)).map Vrow.row))⟩ kr kr kr kr kr kr kr kr kr kr kr (.inr rfl) (fun _ => rfl) (fun _ => rfl) hg5 ?_
            refine LAt.fin kr (And.intro (And.intro kr kr) ?_)
            refine AT.big1 tOk 11 kr kr ?_
            refine LAt.appCU tOk (t := 27) (ty := 27) (e := 56) (x := (.tmp 30)) (y := (.tmp 35)) (d := 36) (g := none) ⟨.st [(0, 1, 3), (1, 1, 3), (2, 1, 3)], 3, 24, [.lit (.int .i64 0), .lit (.int .i64 0), .lit (.int .i64 0)]⟩ Vrow.row (([] : List Vrow) ++ ((x0.Rows.drop ((0 : Int)).toNat).take (((r1 : Int)).toNat - ((0 : Int)).toNat))) ((x0.Rows.drop (((IntKind.wrap .i64 (r1 + 1)) : Int)).toNat).take ((((x0.Rows.length : Int) : Int)).toNat - (((IntKind.wrap .i64 (r1 + 1)) : Int)).toNat)) ⟨(.slot 35), [], 0, false, 3, (CV.frzEs (((x0.Rows.drop (((IntKind.wrap .i64 (r1 + 1)) : Int)).toNat).take ((((x0.Rows.length : Int) : Int)).toNat - (((IntKind.wrap .i64 (r1 + 1)) : Int)).toNat)).map Vrow.row))⟩ kr kr kr kr kr kr kr kr kr kr kr (.inr rfl) (fun _ => rfl) (fun _ => rfl) hg7 ?_
            refine LAt.fin kr (And.intro (And.intro kr kr) ?_)
            refine AT.runU tOk [(12, [])] 1 [⟨[10, 11, 13], 27, 31, 32⟩, ⟨[4, 5, 11, 13], 27, 26, 27⟩] [12, 11, 5, 0, 4, 10, 9, 8, 7, 6, 3, 2, 1] rfl kr (fun cx => ?_)
            refine AT.big1 tOk 13 kr kr ?_
            refine LAt.runU tOk 1 kr ?_
            refine LAt.fin kr (And.intro (And.intro kr kr) ?_)
            exact AT.done [7, 5, 4, 2] [7, 4, 2] _ kr kr rfl
      refine Tr.rs ?_
      refine LAt.runU tOk 2 kr ?_
      obtain ⟨r8, er8, H⟩ := bind_some H
      refine LAt.callV tOk [.own, .rd] [] (spec_l9Or n (⟨((([] : List Vrow) ++ ((x0.Rows.drop ((0 : Int)).toNat).take (((r1 : Int)).toNat - ((0 : Int)).toNat))) ++ ((x0.Rows.drop (((IntKind.wrap .i64 (r1 + 1)) : Int)).toNat).take ((((x0.Rows.length : Int) : Int)).toNat - (((IntKind.wrap .i64 (r1 + 1)) : Int)).toNat))), r3.Pvid⟩ : Vtab) x0 r8 er8) kr kr kr kr (.inl rfl) ?_
      refine LAt.runU tOk 4 kr ?_
      refine LAt.doneM 48 16 kr ?_
      refine Tr.ret ?_
      have H := Option.some.inj H
      subst H
      exact Fin.of _ [(true, (Vtab.row r8.1)), (false, [cB r8.2])] kr rfl rfl
    have H := bifT h2 H
    refine Tr.cT h2 kr ?_
    refine Tr.rs ?_
    refine LAt.runU tOk 1 kr ?_
    obtain ⟨r9, er9, H⟩ := bind_some H
    refine LAt.callV tOk [.rd] [] (spec_l9Copy n x0 r9 er9) kr kr kr kr (.inl rfl) ?_
    refine LAt.runU tOk 2 kr ?_
    refine LAt.doneM 116 20 kr ?_
    refine Tr.ret ?_
    have H := Option.some.inj H
    subst H
    exact Fin.of _ [(true, (Vtab.row r9)), (false, [cB false])] kr rfl rfl
  have H := bifT h1 H
  refine LAt.runU tOk 3 kr ?_
  refine LAt.doneM 1048692 20 kr ?_
  refine Tr.ct kr ?_
  refine Tr.rs ?_
  refine LAt.runU tOk 1 kr ?_
  obtain ⟨r10, er10, H⟩ := bind_some H
  refine LAt.callV tOk [.rd] [] (spec_l9Copy n x0 r10 er10) kr kr kr kr (.inl rfl) ?_
  refine LAt.runU tOk 2 kr ?_
  refine LAt.doneM 116 20 kr ?_
  refine Tr.ret ?_
  have H := Option.some.inj H
  subst H
  exact Fin.of _ [(true, (Vtab.row r10)), (false, [cB false])] kr rfl rfl

def spec_l1IntF (n : Nat) (x0 : Src) (x1 : (List Int)) : Option (Int × Src) :=
  ((spec_l1BelowF n x0 (x1.length : Int)).bind fun r1 => ((idx x1 r1.1).bind fun v2 => (some (v2, r1.2))))
/-- loop.example/g00326/spec.l1Int -/
theorem spec_l1Int (n : Nat) (x0 : Src) (x1 : (List Int)) (r : Int × Src) (H : spec_l1IntF n x0 x1 = some r) : LCall Try.prog 92 [.ptr (CV.frzRow (Src.row x0)), .val false [.sl false 1 (CV.frzEs (x1.map intRow))]] [.val false [.lit (.int .i64 r.1)]] [(0, (CV.frzRow (Src.row r.2)))] := by
  refine LCall.of_body tOk Try.func92 rfl (c := (.seq (Rg Try.f92 0) (.seq (Rg Try.f92 1) .ret))) kr (Nat.le_of_ble_eq_true kr) 1 (rs := [.tmp 4]) rfl [] .nil [(false, [.lit (.int .i64 r.1)])] [] [(0, (CV.frzRow (Src.row r.2)))] fun cx => ?_
  show Tr _ _ _ ⟨12, 1, [sA 0 0 3 0, sC 1 (cF 1 x1 intRow)], [(0, (CV.frzRow (Src.row x0)))]⟩ _
  unfold spec_l1IntF at H
  refine Tr.rgn tOk 1 19 1 kr kr ?_
  refine Tr.rs ?_
  refine LAt.runU tOk 3 kr ?_
  refine LAt.lenE tOk (t := 23) (ty := 3) (e := 3) (x := (.tmp 7)) (d := 8) (g := none) ⟨(.slot 7), [], 0, false, 1, (CV.frzEs (x1.map intRow))⟩ (x1).length _ kr kr kr kr kr (frz_len _ _) rfl ?_
  obtain ⟨r1, er1, H⟩ := bind_some H
  refine LAt.callL tOk [.lend, .rd] (f := 97) (av := #[.tmp 6, .tmp 8]) (ats := #[126, 3]) (d := (some 9)) (ty := 3) (g := none) kr kr kr [] (spec_l1Below n x0 (x1.length : Int) r1 er1) kr (.inl rfl) ?_
  obtain ⟨v2, ev2, H⟩ := bind_some H
  refine LAt.indexF tOk (t := 23) (ty := 0) (x := (.tmp 5)) (y := (.tmp 9)) (d := 10) (g := none) ⟨(.slot 5), [], 0, false, 1, (CV.frzEs (x1.map intRow))⟩ r1.1 [cI v2] _ kr kr kr kr rfl (idx_isF ev2) rfl ?_
  refine LAt.runU tOk 2 kr ?_
  refine LAt.doneM 17 1 kr ?_
  refine Tr.ret ?_
  have H := Option.some.inj H
  subst H
  exact Fin.ofY _ [(false, [cI v2])] [] _ [] _ [(0, (CV.frzRow (Src.row r1.2)))] kr rfl rfl rfl kr kr kr kr rfl rfl rfl

def spec_l9Row2F (n : Nat) (x0 : Src) (x1 : Int) : Option (Vrow × Src) :=
  (bif (decide ((0 : Int) ≤ (IntKind.wrap .u64 x1))) then ((spec_l1BelowF n x0 (IntKind.wrap .i64 ((IntKind.wrap .i64 ((IntKind.wrap .i64 (1 * 2 ^ min (((IntKind.wrap .u64 x1) : Int)).toNat (IntKind.bits .i64))) - 1)) + 1))).bind fun r2 => ((spec_l1IntF n r2.2 [1, 2, 3, 2]).bind fun r3 => ((spec_l1BelowF n r3.2 (IntKind.wrap .i64 ((IntKind.wrap .i64 ((IntKind.wrap .i64 (1 * 2 ^ min (((IntKind.wrap .u64 x1) : Int)).toNat (IntKind.bits .i64))) - 1)) + 1))).bind fun r4 => (some ((⟨r3.1, r2.1, (IntKind.wrap .i64 (BitVec.ofInt (IntKind.bits .i64) r2.1 &&& BitVec.ofInt (IntKind.bits .i64) r4.1).toNat)⟩ : Vrow), r4.2))))) else none)
/-- loop.example/g00326/spec.l9Row2 -/
theorem spec_l9Row2 (n : Nat) (x0 : Src) (x1 : Int) (r : Vrow × Src) (H : spec_l9Row2F n x0 x1 = some r) : LCall Try.prog 105 [.ptr (CV.frzRow (Src.row x0)), .val false [.lit (.int .i64 x1)]] [.val true (Vrow.row r.1)] [(0, (CV.frzRow (Src.row r.2)))] := by
  refine LCall.of_body tOk Try.func105 rfl (c := (.seq (Rg Try.f105 0) (.seq (Rg Try.f105 1) (.seq (Rg Try.f105 2) (.seq (Rg Try.f105 3) .ret))))) kr (Nat.le_of_ble_eq_true kr) 1 (rs := [.cell 4 56]) rfl [] .nil [(true, (Vrow.row r.1))] [] [(0, (CV.frzRow (Src.row r.2)))] fun cx => ?_
  show Tr _ _ _ ⟨26, 1, [sA 0 0 3 0, sI 1 x1], [(0, (CV.frzRow (Src.row x0)))]⟩ _
  unfold spec_l9Row2F at H
  refine Tr.rgn tOk 1 19 17 kr kr ?_
  refine Tr.rs ?_
  refine LAt.runU tOk 2 kr ?_
  obtain ⟨hg1, H⟩ := guard_some H
  refine LAt.binC tOk (op := .shl) (t := 3) (ty := 136) (ty' := 3) (x := (.const (.int .i64 1))) (y := (.tmp 8)) (d := 9) (g := none) (.int .i64 1) (.int .u64 (IntKind.wrap .u64 x1)) (.int .i64 (IntKind.wrap .i64 (1 * 2 ^ min (((IntKind.wrap .u64 x1) : Int)).toNat (IntKind.bits .i64)))) _ kr kr kr kr kr (φ := (0 : Int) ≤ (IntKind.wrap .u64 x1)) kr (of_decide_eq_true hg1) rfl ?_
  refine LAt.runU tOk 2 kr ?_
  refine LAt.doneM 49 17 kr ?_
  refine Tr.rs ?_
  refine LAt.runU tOk 3 kr ?_
  obtain ⟨r2, er2, H⟩ := bind_some H
  refine LAt.callL tOk [.lend, .rd] (f := 97) (av := #[.tmp 11, .tmp 13]) (ats := #[126, 3]) (d := (some 14)) (ty := 3) (g := none) kr kr kr [] (spec_l1Below n x0 (IntKind.wrap .i64 ((IntKind.wrap .i64 ((IntKind.wrap .i64 (1 * 2 ^ min (((IntKind.wrap .u64 x1) : Int)).toNat (IntKind.bits .i64))) - 1)) + 1)) r2 er2) kr (.inl rfl) ?_
  refine LAt.runU tOk 1 kr ?_
  refine LAt.doneM 113 17 kr ?_
  refine Tr.rs ?_
  refine LAt.runU tOk 2 kr ?_
  obtain ⟨r3, er3, H⟩ := bind_some H
  refine LAt.callL tOk [.lend, .rd] (f := 92) (av := #[.tmp 15, .tmp 16]) (ats := #[126, 23]) (d := (some 17)) (ty := 3) (g := none) kr kr kr [] (spec_l1Int n r2.2 [1, 2, 3, 2] r3 er3) kr (.inl rfl) ?_
  refine LAt.runU tOk 5 kr ?_
  obtain ⟨r4, er4, H⟩ := bind_some H
  refine LAt.callL tOk [.lend, .rd] (f := 97) (av := #[.tmp 20, .tmp 22]) (ats := #[126, 3]) (d := (some 23)) (ty := 3) (g := none) kr kr kr [] (spec_l1Below n r3.2 (IntKind.wrap .i64 ((IntKind.wrap .i64 ((IntKind.wrap .i64 (1 * 2 ^ min (((IntKind.wrap .u64 x1) : Int)).toNat (IntKind.bits .i64))) - 1)) + 1)) r4 er4) kr (.inl rfl) ?_
  refine LAt.runU tOk 3 kr ?_
  refine LAt.doneM 17 17 kr ?_
  refine Tr.ret ?_
  have H := Option.some.inj H
  subst H
  exact Fin.ofY _ [(true, [cI r3.1, cI r2.1, cI (IntKind.wrap .i64 (BitVec.ofInt (IntKind.bits .i64) r2.1 &&& BitVec.ofInt (IntKind.bits .i64) r4.1).toNat)])] [] _ [] _ [(0, (CV.frzRow (Src.row r4.2)))] kr rfl rfl rfl kr kr kr kr rfl rfl rfl

def spec_l9Row_J1 (n : Nat) (x0 : Vtab) (x1 : Vrow) (y5 : Bool) (y6 : (List Vrow)) : Option (Vtab) :=
  (bif (!y5) then (bif (decide (y6.length + [x1].length ≤ 268435456)) then (some (⟨(y6 ++ [x1]), (([] : List Int) ++ x0.Pvid)⟩ : Vtab)) else none) else (some (⟨y6, (([] : List Int) ++ x0.Pvid)⟩ : Vtab)))
def spec_l9Row_J3 (n : Nat) (k : (Int × Bool × (List Vrow) → Option ((Bool × (List Vrow)) ⊕ (Vtab)))) (x0 : Vtab) (x1 : Vrow) (y2 : Int) (y9 : Bool) (y10 : Bool) (y11 : Bool) (y12 : Bool) (y13 : (List Vrow)) : Option ((Bool × (List Vrow)) ⊕ (Vtab)) :=
  ((idx x0.Rows y2).bind fun v14 => (bif (v14.Id != x1.Id) then ((idx x0.Rows y2).bind fun v15 => (bif (decide (y13.length + [v15].length ≤ 268435456)) then (k ((IntKind.wrap .i64 (y2 + 1)), y12, (y13 ++ [v15]))) else none)) else (k ((IntKind.wrap .i64 (y2 + 1)), y12, y13))))
def spec_l9Row_L2 (n : Nat) : Nat → Vtab → Vrow → Int → Bool → (List Vrow) → Option ((Bool × (List Vrow)) ⊕ (Vtab))
  | 0, _, _, _, _, _ => none
  | mo8 + 1, x0, x1, y2, y3, y4 => (bif (decide (y2 < (x0.Rows.length : Int))) then (bif (!y3) then ((idx x0.Rows y2).bind fun v17 => (bif (decide (v17.Id ≥ x1.Id)) then (bif (decide (y4.length + [x1].length ≤ 268435456)) then (spec_l9Row_J3 n (fun v => spec_l9Row_L2 n mo8 x0 x1 v.1 v.2.1 v.2.2) x0 x1 y2 true true true true (y4 ++ [x1])) else none) else (spec_l9Row_J3 n (fun v => spec_l9Row_L2 n mo8 x0 x1 v.1 v.2.1 v.2.2) x0 x1 y2 false true true y3 y4))) else (spec_l9Row_J3 n (fun v => spec_l9Row_L2 n mo8 x0 x1 v.1 v.2.1 v.2.2) x0 x1 y2 false false false y3 y4)) else (some (Sum.inl (y3, y4))))
def spec_l9RowF (n : Nat) (x0 : Vtab) (x1 : Vrow) : Option (Vtab) :=
  (bif (decide (([] : List Int).length + x0.Pvid.length ≤ 268435456)) then ((spec_l9Row_L2 n n x0 x1 0 false ([] : List Vrow)).bind fun o => match o with | .inl (y5, y6) => (spec_l9Row_J1 n x0 x1 y5 y6) | .inr r => some r) else none)
/-- loop.example/g00326/spec.l9Row -/
theorem spec_l9Row (n : Nat) (x0 : Vtab) (x1 : Vrow) (r : Vtab) (H : spec_l9RowF n x0 x1 = some r) : LCall Try.prog 108 [.val true (CV.frzRow (Vtab.row x0)), .val true (CV.frzRow (Vrow.row x1))] [.val true (Vtab.row r)] [] := by
  refine LCall.of_body tOk Try.func108 rfl (c := (.seq (Rg Try.f108 0) (.seq (Rg Try.f108 1) (.seq (Rg Try.f108 2) (.seq (.seq (Rg Try.f108 3) (.block 0 (.loop (.seq (.seq (Rg Try.f108 4) (.cond (.tmp 17) .skip (.exit 0))) (.seq (.block 1 (.seq (.seq (Rd Try.f108 6) (.cond (.tmp 32) (.seq (Rg Try.f108 7) (Rg Try.f108 8)) .skip)) (.seq (Rd Try.f108 9) (.cond (.tmp 47) (Rd Try.f108 10) .skip)))) (Rg Try.f108 5)))))) (.seq (.seq (Rg Try.f108 11) (.cond (.tmp 59) (Rg Try.f108 12) .skip)) (.seq (Rg Try.f108 13) .ret))))))) kr (Nat.le_of_ble_eq_true kr) 0 (rs := [.cell 4 29]) rfl [] .nil [(true, (Vtab.row r))] [] [] fun cx => ?_
  show Tr _ _ _ ⟨67, 0, [sV 0 (CV.frzRow (Vtab.row x0)), sV 1 (Vrow.row x1)], []⟩ _
  unfold spec_l9RowF at H
  refine Tr.rgn tOk 3 28 28 kr kr ?_
  refine Tr.rs ?_
  refine LAt.runU tOk 3 kr ?_
  obtain ⟨hg1, H⟩ := guard_some H
  refine LAt.appCU tOk (t := 23) (ty := 23) (e := 3) (x := (.tmp 8)) (y := (.tmp 10)) (d := 11) (g := none) ⟨.int .i64, 1, 8, [.lit (.int .i64 0)]⟩ intRow ([] : List Int) x0.Pvid ⟨(.slot 10), [], 0, false, 1, (CV.frzEs (x0.Pvid.map intRow))⟩ kr kr kr kr kr kr kr kr kr kr kr (.inr rfl) (fun _ => rfl) (fun _ => rfl) hg1 ?_
  refine LAt.runU tOk 3 kr ?_
  refine LAt.doneM 60 60 kr ?_
  refine Tr.rgn tOk 1 124 60 kr kr ?_
  refine Tr.seq ?_
  refine Tr.rgn tOk 1 252 60 kr kr ?_
  obtain ⟨o8, eo8, Ho8⟩ := bind_some H
  clear H
  refine Tr.mid (ι := Bool × (List Vrow)) (fun v => ⟨67, 0, [sB 6 v.1, sA 5 5 2 0, sA 4 4 2 0, sA 3 3 3 0], [(5, [cL 3 v.2 Vrow.row, cL 1 (([] : List Int) ++ x0.Pvid) intRow]), (4, [cL 3 ([] : List Vrow) Vrow.row, cL 1 ([] : List Int) intRow]), (3, (Vrow.row x1))]⟩) (fun v => spec_l9Row_J1 n x0 x1 v.1 v.2 = some r) ?_ ?_
  · refine Tr.block ?_
    refine Tr.loop (ι := Nat × (Int × Bool × (List Vrow))) (fun v => ⟨67, 0, [sI 7 v.2.1, sB 6 v.2.2.1, sA 5 5 2 0, sA 4 4 2 0, sA 3 3 3 0, sA 2 2 2 0], [(5, [cL 3 v.2.2.2 Vrow.row, cL 1 (([] : List Int) ++ x0.Pvid) intRow]), (4, [cL 3 ([] : List Vrow) Vrow.row, cL 1 ([] : List Int) intRow]), (3, (Vrow.row x1)), (2, (CV.frzRow (Vtab.row x0)))]⟩) (fun v => spec_l9Row_L2 n v.1 x0 x1 v.2.1 v.2.2.1 v.2.2.2 = some o8) (fun v => v.1) (n, (0, false, ([] : List Vrow))) eo8 (St.sub_of [7, 6, 5, 4, 3, 2] [5, 4, 3, 2] kr) ?_
    rintro ⟨mo8, y2, y3, y4⟩ H
    have H : spec_l9Row_L2 n mo8 x0 x1 y2 y3 y4 = some o8 := H
    obtain _ | mo8 := mo8
    · cases (show (none : Option _) = some o8 from H)
    rw [spec_l9Row_L2] at H
    refine Tr.seq ?_
    refine Tr.rs ?_
    refine LAt.runU tOk 3 kr ?_
    refine LAt.lenE tOk (t := 27) (ty := 3) (e := 56) (x := (.tmp 15)) (d := 16) (g := none) ⟨(.slot 15), [], 0, false, 3, (CV.frzEs (x0.Rows.map Vrow.row))⟩ (x0.Rows).length _ kr kr kr kr kr (frz_len _ _) rfl ?_
    refine LAt.runU tOk 1 kr ?_
    refine LAt.doneM 254204 60 kr ?_
    cases h2 : (decide (y2 < (x0.Rows.length : Int)))
    · have H := bifF h2 H
      refine Tr.cF h2 kr ?_
      refine Tr.exit ?_
      refine And.intro (fun _ => ?_) (fun h => absurd rfl h)
      have H := Option.some.inj H
      subst H
      have H := Ho8
      dsimp only at H
      exact Exists.intro (y3, y4) (And.intro H (St.sub_of [6, 5, 4, 3] [5, 4, 3] kr))
    have H := bifT h2 H
    refine Tr.cT h2 kr ?_
    refine Tr.skip ?_
    show Tr _ _ _ _ _
    refine Tr.seq ?_
    refine Tr.block ?_
    refine Tr.seq ?_
    refine Tr.mid (ι := Bool × Bool × Bool × Bool × (List Vrow)) (fun v => ⟨67, 0, [sB 32 v.1, sB 22 v.2.1, sB 21 v.2.2.1, sB 20 y3, sB 17 true, sI 16 (x0.Rows.length : Int), sC 15 (cF 3 x0.Rows Vrow.row), sA 14 2 2 0, sI 13 y2, sI 7 y2, sB 6 v.2.2.2.1, sA 5 5 2 0, sA 4 4 2 0, sA 3 3 3 0, sA 2 2 2 0], [(5, [cL 3 v.2.2.2.2 Vrow.row, cL 1 (([] : List Int) ++ x0.Pvid) intRow]), (4, [cL 3 ([] : List Vrow) Vrow.row, cL 1 ([] : List Int) intRow]), (3, (Vrow.row x1)), (2, (CV.frzRow (Vtab.row x0)))]⟩) (fun v => spec_l9Row_J3 n (fun v => spec_l9Row_L2 n mo8 x0 x1 v.1 v.2.1 v.2.2) x0 x1 y2 v.1 v.2.1 v.2.2.1 v.2.2.2.1 v.2.2.2.2 = some o8) ?_ ?_
    · refine Tr.seq ?_
      refine Tr.to ⟨67, 0, [sB 17 (decide (y2 < (x0.Rows.length : Int))), sI 16 (x0.Rows.length : Int), sC 15 (cF 3 x0.Rows Vrow.row), sA 14 2 2 0, sI 13 y2, sI 7 y2, sB 6 y3, sA 5 5 2 0, sA 4 4 2 0, sA 3 3 3 0, sA 2 2 2 0], [(5, [cL 3 y4 Vrow.row, cL 1 (([] : List Int) ++ x0.Pvid) intRow]), (4, [cL 3 ([] : List Vrow) Vrow.row, cL 1 ([] : List Int) intRow]), (3, (Vrow.row x1)), (2, (CV.frzRow (Vtab.row x0)))]⟩ kr ?_
      cases h4 : (!y3)
      · have H := bifF h4 H
        refine Tr.draw mixed 13 kr ⟨67, 0, [sB 32 false, (31, .tup []), (30, .tup []), (29, .tup []), (28, .tup []), (27, .tup []), (26, .tup []), (25, .tup []), (24, .tup []), (23, .tup []), sB 22 false, sB 21 false, sB 20 y3, sB 17 (decide (y2 < (x0.Rows.length : Int))), sI 16 (x0.Rows.length : Int), sC 15 (cF 3 x0.Rows Vrow.row), sA 14 2 2 0, sI 13 y2, sI 7 y2, sB 6 y3, sA 5 5 2 0, sA 4 4 2 0, sA 3 3 3 0, sA 2 2 2 0], [(5, [cL 3 y4 Vrow.row, cL 1 (([] : List Int) ++ x0.Pvid) intRow]), (4, [cL 3 ([] : List Vrow) Vrow.row, cL 1 ([] : List Int) intRow]), (3, (Vrow.row x1)), (2, (CV.frzRow (Vtab.row x0)))]⟩ (fun cx => ?_) ?_
        · refine AT.runU tOk [(0, []), (1, []), (2, [])] 10 [] [2, 1, 0] rfl kr (fun cx => ?_)
          refine AT.to ⟨67, 0, [sB 22 (!y3), sB 21 (!y3), sB 20 y3, sB 17 (decide (y2 < (x0.Rows.length : Int))), sI 16 (x0.Rows.length : Int), sC 15 (cF 3 x0.Rows Vrow.row), sA 14 2 2 0, sI 13 y2, sI 7 y2, sB 6 y3, sA 5 5 2 0, sA 4 4 2 0, sA 3 3 3 0, sA 2 2 2 0], [(5, [cL 3 y4 Vrow.row, cL 1 (([] : List Int) ++ x0.Pvid) intRow]), (4, [cL 3 ([] : List Vrow) Vrow.row, cL 1 ([] : List Int) intRow]), (3, (Vrow.row x1)), (2, (CV.frzRow (Vtab.row x0)))]⟩ kr ?_
          rw [h4]
          refine AT.runU tOk [(3, []), (4, []), (5, []), (6, []), (7, []), (8, []), (9, []), (10, []), (11, []), (12, [])] 0 [] [12, 11, 10, 9, 8, 7, 6, 5, 4, 3, 2, 1, 0] rfl kr (fun cx => ?_)
          exact AT.done [32, 31, 30, 29, 28, 27, 26, 25, 24, 23, 22, 21, 20, 17, 16, 15, 14, 13, 7, 6, 5, 4, 3, 2] [5, 4, 3, 2] _ kr kr rfl
        show Tr _ _ _ _ _
        refine Tr.cf kr ?_
        refine Tr.skip ?_
        refine Sb.to ⟨67, 0, [sB 32 false, (31, .tup []), (30, .tup []), (29, .tup []), (28, .tup []), (27, .tup []), (26, .tup []), (25, .tup []), (24, .tup []), (23, .tup []), sB 22 false, sB 21 false, sB 20 y3, sB 17 (decide (y2 < (x0.Rows.length : Int))), sI 16 (x0.Rows.length : Int), sC 15 (cF 3 x0.Rows Vrow.row), sA 14 2 2 0, sI 13 y2, sI 7 y2, sB 6 y3, sA 5 5 2 0, sA 4 4 2 0, sA 3 3 3 0, sA 2 2 2 0], [(5, [cL 3 y4 Vrow.row, cL 1 (([] : List Int) ++ x0.Pvid) intRow]), (4, [cL 3 ([] : List Vrow) Vrow.row, cL 1 ([] : List Int) intRow]), (3, (Vrow.row x1)), (2, (CV.frzRow (Vtab.row x0)))]⟩ kr ?_
        rw [h2]
        exact Exists.intro (false, false, false, y3, y4) (And.intro H (St.sub_of [32, 22, 21, 20, 17, 16, 15, 14, 13, 7, 6, 5, 4, 3, 2] [5, 4, 3, 2] kr))
      have H := bifT h4 H
      obtain ⟨v17, ev17, H⟩ := bind_some H
      refine Tr.draw mixed 13 kr ⟨67, 0, [sB 32 (decide (v17.Id ≥ x1.Id)), sB 31 (decide (v17.Id ≥ x1.Id)), sI 30 x1.Id, sA 29 3 3 0, sI 28 v17.Id, (27, .fad ((Vrow.row v17))), (26, .fad ((Vrow.row v17))), sI 25 y2, sR 24 2 2 0 1 false, sA 23 2 2 0, sB 22 true, sB 21 true, sB 20 y3, sB 17 (decide (y2 < (x0.Rows.length : Int))), sI 16 (x0.Rows.length : Int), sC 15 (cF 3 x0.Rows Vrow.row), sA 14 2 2 0, sI 13 y2, sI 7 y2, sB 6 y3, sA 5 5 2 0, sA 4 4 2 0, sA 3 3 3 0, sA 2 2 2 0], [(5, [cL 3 y4 Vrow.row, cL 1 (([] : List Int) ++ x0.Pvid) intRow]), (4, [cL 3 ([] : List Vrow) Vrow.row, cL 1 ([] : List Int) intRow]), (3, (Vrow.row x1)), (2, (CV.frzRow (Vtab.row x0)))]⟩ (fun cx => ?_) ?_
      · refine AT.runU tOk [(0, []), (1, []), (2, [])] 10 [] [2, 1, 0] rfl kr (fun cx => ?_)
        refine AT.to ⟨67, 0, [sB 22 (!y3), sB 21 (!y3), sB 20 y3, sB 17 (decide (y2 < (x0.Rows.length : Int))), sI 16 (x0.Rows.length : Int), sC 15 (cF 3 x0.Rows Vrow.row), sA 14 2 2 0, sI 13 y2, sI 7 y2, sB 6 y3, sA 5 5 2 0, sA 4 4 2 0, sA 3 3 3 0, sA 2 2 2 0], [(5, [cL 3 y4 Vrow.row, cL 1 (([] : List Int) ++ x0.Pvid) intRow]), (4, [cL 3 ([] : List Vrow) Vrow.row, cL 1 ([] : List Int) intRow]), (3, (Vrow.row x1)), (2, (CV.frzRow (Vtab.row x0)))]⟩ kr ?_
        rw [h4]
        refine AT.runU tOk [(3, []), (4, []), (5, [])] 7 [⟨[], 27, 23, 24⟩] [5, 4, 3, 2, 1, 0] rfl kr (fun cx => ?_)
        refine AT.indexF tOk 6 (t := 27) (ty := 0) (x := (.tmp 24)) (y := (.tmp 25)) (d := 26) (g := (some (2, true))) ⟨(.box 2), [(0, 0)], 0, false, 3, (CV.frzEs (x0.Rows.map Vrow.row))⟩ y2 (Vrow.row v17) _ kr kr kr kr kr kr rfl (idx_isF ev17) rfl (fun cx => ?_)
        refine AT.runU tOk [(7, []), (8, []), (9, []), (10, []), (11, []), (12, [])] 0 [⟨[], 3, 29, 30⟩, ⟨[], 27, 23, 24⟩] [12, 11, 10, 9, 8, 7, 6, 5, 4, 3, 2, 1, 0] rfl kr (fun cx => ?_)
        exact AT.done [32, 31, 30, 29, 28, 27, 26, 25, 24, 23, 22, 21, 20, 17, 16, 15, 14, 13, 7, 6, 5, 4, 3, 2] [5, 4, 3, 2] _ kr kr rfl
      show Tr _ _ _ _ _
      refine Tr.to ⟨67, 0, [sB 32 (decide (v17.Id ≥ x1.Id)), sB 31 (decide (v17.Id ≥ x1.Id)), sI 30 x1.Id, sA 29 3 3 0, sI 28 v17.Id, (27, .fad ((Vrow.row v17))), (26, .fad ((Vrow.row v17))), sI 25 y2, sR 24 2 2 0 1 false, sA 23 2 2 0, sB 22 true, sB 21 true, sB 20 y3, sB 17 (decide (y2 < (x0.Rows.length : Int))), sI 16 (x0.Rows.length : Int), sC 15 (cF 3 x0.Rows Vrow.row), sA 14 2 2 0, sI 13 y2, sI 7 y2, sB 6 y3, sA 5 5 2 0, sA 4 4 2 0, sA 3 3 3 0, sA 2 2 2 0], [(5, [cL 3 y4 Vrow.row, cL 1 (([] : List Int) ++ x0.Pvid) intRow]), (4, [cL 3 ([] : List Vrow) Vrow.row, cL 1 ([] : List Int) intRow]), (3, (Vrow.row x1)), (2, (CV.frzRow (Vtab.row x0)))]⟩ kr ?_
      cases h5 : (decide (v17.Id ≥ x1.Id))
      · have H := bifF h5 H
        refine Tr.cf kr ?_
        refine Tr.skip ?_
        refine Sb.to ⟨67, 0, [sB 32 false, sB 31 false, sI 30 x1.Id, sA 29 3 3 0, sI 28 v17.Id, (27, .fad ((Vrow.row v17))), (26, .fad ((Vrow.row v17))), sI 25 y2, sR 24 2 2 0 1 false, sA 23 2 2 0, sB 22 true, sB 21 true, sB 20 y3, sB 17 (decide (y2 < (x0.Rows.length : Int))), sI 16 (x0.Rows.length : Int), sC 15 (cF 3 x0.Rows Vrow.row), sA 14 2 2 0, sI 13 y2, sI 7 y2, sB 6 y3, sA 5 5 2 0, sA 4 4 2 0, sA 3 3 3 0, sA 2 2 2 0], [(5, [cL 3 y4 Vrow.row, cL 1 (([] : List Int) ++ x0.Pvid) intRow]), (4, [cL 3 ([] : List Vrow) Vrow.row, cL 1 ([] : List Int) intRow]), (3, (Vrow.row x1)), (2, (CV.frzRow (Vtab.row x0)))]⟩ kr ?_
        rw [h2]
        exact Exists.intro (false, true, true, y3, y4) (And.intro H (St.sub_of [32, 22, 21, 20, 17, 16, 15, 14, 13, 7, 6, 5, 4, 3, 2] [5, 4, 3, 2] kr))
      have H := bifT h5 H
      refine Tr.ct kr ?_
      refine Tr.rs ?_
      refine LAt.runU tOk 4 kr ?_
      obtain ⟨hg18, H⟩ := guard_some H
      refine LAt.appMU tOk (t := 27) (ty := 27) (e := 56) (x := (.tmp 34)) (y := (.tmp 36)) (d := 37) (g := none) ⟨.st [(0, 1, 3), (1, 1, 3), (2, 1, 3)], 3, 24, [.lit (.int .i64 0), .lit (.int .i64 0), .lit (.int .i64 0)]⟩ Vrow.row y4 [x1] kr kr kr kr kr kr kr kr kr kr hg18 ?_
      refine LAt.runU tOk 2 kr ?_
      refine LAt.doneM 326416720124 60 kr ?_
      refine Tr.rgE tOk 1 326416720124 60 kr kr ?_
      refine Sb.to ⟨67, 0, [sB 6 true, sA 38 5 2 0, sV 35 (Vrow.row x1), sA 33 5 2 0, sB 32 true, sB 31 true, sI 30 x1.Id, sA 29 3 3 0, sI 28 v17.Id, (27, .fad ((Vrow.row v17))), (26, .fad ((Vrow.row v17))), sI 25 y2, sR 24 2 2 0 1 false, sA 23 2 2 0, sB 22 true, sB 21 true, sB 20 y3, sB 17 (decide (y2 < (x0.Rows.length : Int))), sI 16 (x0.Rows.length : Int), sC 15 (cF 3 x0.Rows Vrow.row), sA 14 2 2 0, sI 13 y2, sI 7 y2, sA 5 5 2 0, sA 4 4 2 0, sA 3 3 3 0, sA 2 2 2 0], [(5, [cL 3 (y4 ++ [x1]) Vrow.row, cL 1 (([] : List Int) ++ x0.Pvid) intRow]), (4, [cL 3 ([] : List Vrow) Vrow.row, cL 1 ([] : List Int) intRow]), (3, (Vrow.row x1)), (2, (CV.frzRow (Vtab.row x0)))]⟩ kr ?_
      rw [h2]
      exact Exists.intro (true, true, true, true, (y4 ++ [x1])) (And.intro H (St.sub_of [32, 22, 21, 20, 17, 16, 15, 14, 13, 7, 6, 5, 4, 3, 2] [5, 4, 3, 2] kr))
    rintro ⟨y9, y10, y11, y12, y13⟩ H
    have H : (spec_l9Row_J3 n (fun v => spec_l9Row_L2 n mo8 x0 x1 v.1 v.2.1 v.2.2) x0 x1 y2 y9 y10 y11 y12 y13) = some o8 := H
    unfold spec_l9Row_J3 at H
    show Tr _ _ _ _ _
    obtain ⟨v14, ev14, H⟩ := bind_some H
    refine Tr.draws mixed 9 kr ⟨67, 0, [sB 47 (v14.Id != x1.Id), sI 46 x1.Id, sA 45 3 3 0, sI 44 v14.Id, (43, .fad ((Vrow.row v14))), (42, .fad ((Vrow.row v14))), sI 41 y2, sR 40 2 2 0 1 false, sA 39 2 2 0, sB 32 y9, sB 22 y10, sB 21 y11, sB 20 y3, sB 17 true, sI 16 (x0.Rows.length : Int), sC 15 (cF 3 x0.Rows Vrow.row), sA 14 2 2 0, sI 13 y2, sI 7 y2, sB 6 y12, sA 5 5 2 0, sA 4 4 2 0, sA 3 3 3 0, sA 2 2 2 0], [(5, [cL 3 y13 Vrow.row, cL 1 (([] : List Int) ++ x0.Pvid) intRow]), (4, [cL 3 ([] : List Vrow) Vrow.row, cL 1 ([] : List Int) intRow]), (3, (Vrow.row x1)), (2, (CV.frzRow (Vtab.row x0)))]⟩ (fun cx => ?_) ?_
    · refine AT.runU tOk [(0, []), (1, []), (2, [])] 6 [⟨[], 27, 39, 40⟩] [2, 1, 0] rfl kr (fun cx => ?_)
      refine AT.indexF tOk 3 (t := 27) (ty := 0) (x := (.tmp 40)) (y := (.tmp 41)) (d := 42) (g := none) ⟨(.box 2), [(0, 0)], 0, false, 3, (CV.frzEs (x0.Rows.map Vrow.row))⟩ y2 (Vrow.row v14) _ kr kr kr kr kr kr rfl (idx_isF ev14) rfl (fun cx => ?_)
      refine AT.runU tOk [(4, []), (5, []), (6, []), (7, []), (8, [])] 0 [⟨[], 3, 45, 46⟩, ⟨[], 27, 39, 40⟩] [8, 7, 6, 5, 4, 3, 2, 1, 0] rfl kr (fun cx => ?_)
      exact AT.done [47, 46, 45, 44, 43, 42, 41, 40, 39, 32, 22, 21, 20, 17, 16, 15, 14, 13, 7, 6, 5, 4, 3, 2] [5, 4, 3, 2] _ kr kr rfl
    refine Tr.to ⟨67, 0, [sB 47 (v14.Id != x1.Id), sI 46 x1.Id, sA 45 3 3 0, sI 44 v14.Id, (43, .fad ((Vrow.row v14))), (42, .fad ((Vrow.row v14))), sI 41 y2, sR 40 2 2 0 1 false, sA 39 2 2 0, sB 32 y9, sB 22 y10, sB 21 y11, sB 20 y3, sB 17 true, sI 16 (x0.Rows.length : Int), sC 15 (cF 3 x0.Rows Vrow.row), sA 14 2 2 0, sI 13 y2, sI 7 y2, sB 6 y12, sA 5 5 2 0, sA 4 4 2 0, sA 3 3 3 0, sA 2 2 2 0], [(5, [cL 3 y13 Vrow.row, cL 1 (([] : List Int) ++ x0.Pvid) intRow]), (4, [cL 3 ([] : List Vrow) Vrow.row, cL 1 ([] : List Int) intRow]), (3, (Vrow.row x1)), (2, (CV.frzRow (Vtab.row x0)))]⟩ kr ?_
    cases h3 : (v14.Id != x1.Id)
    · have H := bifF h3 H
      refine Tr.cf kr ?_
      refine Tr.skip ?_
      show Tr _ _ _ _ _
      refine Tr.rgE tOk 3 280929524244732 60 kr kr ?_
      exact Exists.intro (mo8, ((IntKind.wrap .i64 (y2 + 1)), y12, y13)) (And.intro H (And.intro (Nat.lt_succ_self mo8) (St.sub_of [7, 6, 5, 4, 3, 2] [5, 4, 3, 2] kr)))
    have H := bifT h3 H
    refine Tr.ct kr ?_
    obtain ⟨v15, ev15, H⟩ := bind_some H
    obtain ⟨hg16, H⟩ := guard_some H
    refine Tr.draw mixed 11 kr ⟨67, 0, [sA 57 5 2 0, sV 54 (Vrow.row v15), (53, .fad ((Vrow.row v15))), sI 52 y2, sR 51 2 2 0 1 false, sA 50 2 2 0, sA 48 5 2 0, sB 47 true, sI 46 x1.Id, sA 45 3 3 0, sI 44 v14.Id, (43, .fad ((Vrow.row v14))), (42, .fad ((Vrow.row v14))), sI 41 y2, sR 40 2 2 0 1 false, sA 39 2 2 0, sB 32 y9, sB 22 y10, sB 21 y11, sB 20 y3, sB 17 true, sI 16 (x0.Rows.length : Int), sC 15 (cF 3 x0.Rows Vrow.row), sA 14 2 2 0, sI 13 y2, sI 7 y2, sB 6 y12, sA 5 5 2 0, sA 4 4 2 0, sA 3 3 3 0, sA 2 2 2 0], [(5, [cL 3 (y13 ++ [v15]) Vrow.row, cL 1 (([] : List Int) ++ x0.Pvid) intRow]), (4, [cL 3 ([] : List Vrow) Vrow.row, cL 1 ([] : List Int) intRow]), (3, (Vrow.row x1)), (2, (CV.frzRow (Vtab.row x0)))]⟩ (fun cx => ?_) ?_
    · refine AT.runU tOk [(0, []), (1, [8, 10]), (2, []), (3, [7, 8, 10]), (4, [])] 6 [⟨[7, 8, 10], 27, 50, 51⟩, ⟨[8, 10], 27, 48, 49⟩] [4, 3, 2, 1, 0] rfl kr (fun cx => ?_)
      refine AT.indexF tOk 5 (t := 27) (ty := 0) (x := (.tmp 51)) (y := (.tmp 52)) (d := 53) (g := none) ⟨(.box 2), [(0, 0)], 0, false, 3, (CV.frzEs (x0.Rows.map Vrow.row))⟩ y2 (Vrow.row v15) _ kr kr kr kr kr kr rfl (idx_isF ev15) rfl (fun cx => ?_)
      refine AT.runU tOk [(6, [])] 4 [⟨[7, 8, 10], 27, 50, 51⟩, ⟨[8, 10], 27, 48, 49⟩] [6, 5, 4, 3, 2, 1, 0] rfl kr (fun cx => ?_)
      refine AT.big1 tOk 7 kr kr ?_
      refine LAt.runU tOk 1 kr ?_
      refine LAt.fin kr (And.intro (And.intro kr kr) ?_)
      refine AT.big1 tOk 8 kr kr ?_
      refine LAt.appMU tOk (t := 27) (ty := 27) (e := 56) (x := (.tmp 49)) (y := (.tmp 55)) (d := 56) (g := none) ⟨.st [(0, 1, 3), (1, 1, 3), (2, 1, 3)], 3, 24, [.lit (.int .i64 0), .lit (.int .i64 0), .lit (.int .i64 0)]⟩ Vrow.row y13 [v15] kr kr kr kr kr kr kr kr kr kr hg16 ?_
      refine LAt.fin kr (And.intro (And.intro kr kr) ?_)
      refine AT.runU tOk [(9, [])] 1 [⟨[7, 8, 10], 27, 50, 51⟩, ⟨[8, 10], 27, 48, 49⟩] [9, 8, 7, 6, 5, 4, 3, 2, 1, 0] rfl kr (fun cx => ?_)
      refine AT.big1 tOk 10 kr kr ?_
      refine LAt.runU tOk 1 kr ?_
      refine LAt.fin kr (And.intro (And.intro kr kr) ?_)
      exact AT.done [57, 54, 53, 52, 51, 50, 48, 47, 46, 45, 44, 43, 42, 41, 40, 39, 32, 22, 21, 20, 17, 16, 15, 14, 13, 7, 6, 5, 4, 3, 2] [5, 4, 3, 2] _ kr kr rfl
    show Tr _ _ _ _ _
    refine Tr.rgE tOk 3 179580489688932604 60 kr kr ?_
    exact Exists.intro (mo8, ((IntKind.wrap .i64 (y2 + 1)), y12, (y13 ++ [v15]))) (And.intro H (And.intro (Nat.lt_succ_self mo8) (St.sub_of [7, 6, 5, 4, 3, 2] [5, 4, 3, 2] kr)))
  rintro ⟨y5, y6⟩ H
  have H : (spec_l9Row_J1 n x0 x1 y5 y6) = some r := H
  unfold spec_l9Row_J1 at H
  show Tr _ _ _ _ _
  refine Tr.seq ?_
  refine Tr.rgn tOk 2 576460752303423544 56 kr kr ?_
  cases h1 : (!y5)
  · have H := bifF h1 H
    refine Tr.cF h1 kr ?_
    refine Tr.skip ?_
    show Tr _ _ _ _ _
    refine Tr.rgn tOk 2 16 16 kr kr ?_
    refine Tr.ret ?_
    have H := Option.some.inj H
    subst H
    exact Fin.of _ [(true, [cL 3 y6 Vrow.row, cL 1 (([] : List Int) ++ x0.Pvid) intRow])] kr rfl rfl
  have H := bifT h1 H
  refine Tr.cT h1 kr ?_
  refine Tr.at ?_
  refine LAt.runU tOk 4 kr ?_
  obtain ⟨hg7, H⟩ := guard_some H
  refine LAt.appMU tOk (t := 27) (ty := 27) (e := 56) (x := (.tmp 61)) (y := (.tmp 63)) (d := 64) (g := none) ⟨.st [(0, 1, 3), (1, 1, 3), (2, 1, 3)], 3, 24, [.lit (.int .i64 0), .lit (.int .i64 0), .lit (.int .i64 0)]⟩ Vrow.row y6 [x1] kr kr kr kr kr kr kr kr kr kr hg7 ?_
  refine LAt.runU tOk 2 kr ?_
  refine LAt.doneM 48 48 kr ?_
  show Tr _ _ _ _ _
  refine Tr.rgn tOk 2 16 16 kr kr ?_
  refine Tr.ret ?_
  have H := Option.some.inj H
  subst H
  exact Fin.of _ [(true, [cL 3 (y6 ++ [x1]) Vrow.row, cL 1 (([] : List Int) ++ x0.Pvid) intRow])] kr rfl rfl

def spec_PutRowF (n : Nat) (x0 : Vtab) (x1 : Vrow) : Option (Vtab × Bool) :=
  ((spec_VtabOkF n x0 (x0.Pvid.length : Int)).bind fun r1 => (bif (!r1) then ((spec_l9CopyF n x0).bind fun r4 => (some (r4, false))) else ((spec_l9RowF n x0 x1).bind fun r2 => ((spec_l9OrF n r2 x0).bind fun r3 => (some (r3.1, r3.2))))))
/-- loop.example/g00326/spec.PutRow -/
theorem spec_PutRow (n : Nat) (x0 : Vtab) (x1 : Vrow) (r : Vtab × Bool) (H : spec_PutRowF n x0 x1 = some r) : LCall Try.prog 38 [.val true (CV.frzRow (Vtab.row x0)), .val true (CV.frzRow (Vrow.row x1))] [.val true (Vtab.row r.1), .val false [.lit (.bool r.2)]] [] := by
  refine LCall.of_body tOk Try.func38 rfl (c := (.seq (Rg Try.f38 0) (.seq (.seq (Rg Try.f38 1) (.cond (.tmp 11) (.seq (Rg Try.f38 2) .ret) .skip)) (.seq (Rd Try.f38 3) .ret)))) kr (Nat.le_of_ble_eq_true kr) 0 (rs := [.cell 4 29, .tmp 5]) rfl [] .nil [(true, (Vtab.row r.1)), (false, [.lit (.bool r.2)])] [] [] fun cx => ?_
  show Tr _ _ _ ⟨21, 0, [sV 0 (CV.frzRow (Vtab.row x0)), sV 1 (Vrow.row x1)], []⟩ _
  unfold spec_PutRowF at H
  refine Tr.rgn tOk 4 60 28 kr kr ?_
  refine Tr.seq ?_
  refine Tr.rs ?_
  refine LAt.runU tOk 3 kr ?_
  refine LAt.lenE tOk (t := 23) (ty := 3) (e := 3) (x := (.tmp 8)) (d := 9) (g := none) ⟨(.slot 8), [], 0, false, 1, (CV.frzEs (x0.Pvid.map intRow))⟩ (x0.Pvid).length _ kr kr kr kr kr (frz_len _ _) rfl ?_
  obtain ⟨r1, er1, H⟩ := bind_some H
  refine LAt.callV tOk [.rd, .rd] [] (spec_VtabOk n x0 (x0.Pvid.length : Int) r1 er1) kr kr kr kr (.inl rfl) ?_
  refine LAt.runU tOk 1 kr ?_
  refine LAt.doneM 2108 28 kr ?_
  cases h1 : (!r1)
  · have H := bifF h1 H
    refine Tr.cF h1 kr ?_
    refine Tr.skip ?_
    show Tr _ _ _ _ _
    obtain ⟨r2, er2, H⟩ := bind_some H
    obtain ⟨r3, er3, H⟩ := bind_some H
    refine Tr.draws mixed 9 kr ⟨21, 0, [sB 5 r3.2, sA 4 4 2 0], [(4, (Vtab.row r3.1))]⟩ (fun cx => ?_) ?_
    · refine AT.runU tOk [(0, [2, 4, 7]), (1, [2, 4, 7]), (3, [4, 7])] 6 [⟨[4, 7], 29, 2, 17⟩, ⟨[2, 4, 7], 56, 3, 15⟩, ⟨[2, 4, 7], 29, 2, 14⟩] [3, 1, 0] rfl kr (fun cx => ?_)
      refine AT.big1 tOk 2 kr kr ?_
      refine LAt.callV tOk [.rd, .rd] [] (spec_l9Row n x0 x1 r2 er2) kr kr kr kr (.inl rfl) ?_
      refine LAt.fin kr (And.intro (And.intro kr kr) ?_)
      refine AT.big1 tOk 4 kr kr ?_
      refine LAt.callV tOk [.own, .rd] [] (spec_l9Or n r2 x0 r3 er3) kr kr kr kr (.inl rfl) ?_
      refine LAt.fin kr (And.intro (And.intro kr kr) ?_)
      refine AT.runU tOk [(5, []), (6, [])] 2 [⟨[4, 7], 29, 2, 17⟩, ⟨[2, 4, 7], 56, 3, 15⟩, ⟨[2, 4, 7], 29, 2, 14⟩] [6, 5, 4, 2, 3, 1, 0] rfl kr (fun cx => ?_)
      refine AT.big1 tOk 7 kr kr ?_
      refine LAt.runU tOk 1 kr ?_
      refine LAt.fin kr (And.intro (And.intro kr kr) ?_)
      refine AT.runU tOk [(8, [])] 0 [⟨[4, 7], 29, 2, 17⟩, ⟨[2, 4, 7], 56, 3, 15⟩, ⟨[2, 4, 7], 29, 2, 14⟩] [8, 7, 6, 5, 4, 2, 3, 1, 0] rfl kr (fun cx => ?_)
      exact AT.done [5, 4] [4] _ kr kr rfl
    refine Tr.ret ?_
    have H := Option.some.inj H
    subst H
    exact Fin.of _ [(true, (Vtab.row r3.1)), (false, [cB r3.2])] kr rfl rfl
  have H := bifT h1 H
  refine Tr.cT h1 kr ?_
  refine Tr.rs ?_
  refine LAt.runU tOk 1 kr ?_
  obtain ⟨r4, er4, H⟩ := bind_some H
  refine LAt.callV tOk [.rd] [] (spec_l9Copy n x0 r4 er4) kr kr kr kr (.inl rfl) ?_
  refine LAt.runU tOk 2 kr ?_
  refine LAt.doneM 60 28 kr ?_
  refine Tr.ret ?_
  have H := Option.some.inj H
  subst H
  exact Fin.of _ [(true, (Vtab.row r4)), (false, [cB false])] kr rfl rfl

def spec_l9Draw_J1 (n : Nat) (y9 : (List Int)) (y10 : Int) (y11 : Int) (y12 : (List Vrow)) (y13 : (List Int)) : Option (Vtab × Src) :=
  (some ((⟨y12, y13⟩ : Vtab), (⟨y9, y10, y11⟩ : Src)))
def spec_l9Draw_L2 (n : Nat) : Nat → Int → Int → (List Int) → Int → Int → (List Vrow) → (List Int) → Option (((List Int) × Int × Int × (List Vrow) × (List Int)) ⊕ (Vtab × Src))
  | 0, _, _, _, _, _, _, _ => none
  | mo14 + 1, x1, y3, y4, y5, y6, y7, y8 => (bif (decide (y3 > 0)) then ((spec_l1BelowF n (⟨y4, y5, y6⟩ : Src) 4).bind fun r15 => (bif (r15.1 == 0) then ((spec_l1BelowF n r15.2 x1).bind fun r20 => ((spec_l1BelowF n r20.2 3).bind fun r21 => ((spec_SetPvidF n (⟨y7, y8⟩ : Vtab) r20.1 (IntKind.wrap .i64 (1 + r21.1))).bind fun r22 => (spec_l9Draw_L2 n mo14 x1 (IntKind.wrap .i64 (y3 - 1)) r21.2.b r21.2.i r21.2.h r22.1.Rows r22.1.Pvid)))) else (bif (r15.1 == 1) then ((spec_l1BelowF n r15.2 2).bind fun r18 => ((spec_DropRowF n (⟨y7, y8⟩ : Vtab) (IntKind.wrap .i64 (2 + r18.1))).bind fun r19 => (spec_l9Draw_L2 n mo14 x1 (IntKind.wrap .i64 (y3 - 1)) r18.2.b r18.2.i r18.2.h r19.1.Rows r19.1.Pvid))) else ((spec_l9Row2F n r15.2 x1).bind fun r16 => ((spec_PutRowF n (⟨y7, y8⟩ : Vtab) r16.1).bind fun r17 => (spec_l9Draw_L2 n mo14 x1 (IntKind.wrap .i64 (y3 - 1)) r16.2.b r16.2.i r16.2.h r17.1.Rows r17.1.Pvid)))))) else (some (Sum.inl (y4, y5, y6, y7, y8))))
def spec_l9DrawF (n : Nat) (x0 : Src) (x1 : Int) : Option (Vtab × Src) :=
  ((spec_VtabNewF n x1).bind fun r1 => ((spec_l1BelowF n x0 6).bind fun r2 => ((spec_l9Draw_L2 n n x1 r2.1 r2.2.b r2.2.i r2.2.h r1.Rows r1.Pvid).bind fun o => match o with | .inl (y9, y10, y11, y12, y13) => (spec_l9Draw_J1 n y9 y10 y11 y12 y13) | .inr r => some r)))
/-- loop.example/g00326/spec.l9Draw -/
theorem spec_l9Draw (n : Nat) (x0 : Src) (x1 : Int) (r : Vtab × Src) (H : spec_l9DrawF n x0 x1 = some r) : LCall Try.prog 151 [.ptr (CV.frzRow (Src.row x0)), .val false [.lit (.int .i64 x1)]] [.val true (Vtab.row r.1)] [(0, (CV.frzRow (Src.row r.2)))] := by
  refine LCall.of_body tOk Try.func151 rfl (c := (.seq (Rg Try.f151 0) (.seq (Rg Try.f151 1) (.seq (.seq (Rg Try.f151 2) (.block 0 (.loop (.seq (.seq (Rg Try.f151 3) (.cond (.tmp 12) .skip (.exit 0))) (.seq (.block 1 (.seq (Rg Try.f151 5) (.block 2 (.seq (Rg Try.f151 7) (.cond (.tmp 25) (Rd Try.f151 8) (.seq (Rg Try.f151 9) (.cond (.tmp 38) (Rd Try.f151 10) (Rd Try.f151 6)))))))) (Rg Try.f151 4)))))) (.seq (Rg Try.f151 11) .ret))))) kr (Nat.le_of_ble_eq_true kr) 1 (rs := [.cell 4 29]) rfl [] .nil [(true, (Vtab.row r.1))] [] [(0, (CV.frzRow (Src.row r.2)))] fun cx => ?_
  show Tr _ _ _ ⟨49, 1, [sA 0 0 3 0, sI 1 x1], [(0, (CV.frzRow (Src.row x0)))]⟩ _
  unfold spec_l9DrawF at H
  refine Tr.rgn tOk 1 19 17 kr kr ?_
  refine Tr.rs ?_
  refine LAt.runU tOk 1 kr ?_
  obtain ⟨r1, er1, H⟩ := bind_some H
  refine LAt.callV tOk [.rd] [] (spec_VtabNew n x1 r1 er1) kr kr kr kr (.inl rfl) ?_
  refine LAt.runU tOk 2 kr ?_
  refine LAt.doneM 51 49 kr ?_
  refine Tr.seq ?_
  refine Tr.rs ?_
  refine LAt.runU tOk 1 kr ?_
  obtain ⟨r2, er2, H⟩ := bind_some H
  refine LAt.callL tOk [.lend, .rd] (f := 97) (av := #[.tmp 9, .const (.int .i64 6)]) (ats := #[126, 3]) (d := (some 10)) (ty := 3) (g := none) kr kr kr [] (spec_l1Below n x0 6 r2 er2) kr (.inl rfl) ?_
  refine LAt.runU tOk 1 kr ?_
  refine LAt.doneM 115 49 kr ?_
  obtain ⟨o14, eo14, Ho14⟩ := bind_some H
  clear H
  refine Tr.mid (ι := (List Int) × Int × Int × (List Vrow) × (List Int)) (fun v => ⟨49, 1, [sA 5 5 2 0, sA 4 4 2 0, sA 0 0 3 0], [(0, [cF 1 v.1 byteRow, cI v.2.1, cI v.2.2.1]), (5, [cL 3 v.2.2.2.1 Vrow.row, cL 1 v.2.2.2.2 intRow]), (4, [cL 3 ([] : List Vrow) Vrow.row, cL 1 ([] : List Int) intRow])]⟩) (fun v => spec_l9Draw_J1 n v.1 v.2.1 v.2.2.1 v.2.2.2.1 v.2.2.2.2 = some r) ?_ ?_
  · refine Tr.block ?_
    refine Tr.loop (ι := Nat × (Int × (List Int) × Int × Int × (List Vrow) × (List Int))) (fun v => ⟨49, 1, [sI 6 v.2.1, sA 5 5 2 0, sA 4 4 2 0, sA 0 0 3 0, sI 1 x1], [(0, [cF 1 v.2.2.1 byteRow, cI v.2.2.2.1, cI v.2.2.2.2.1]), (5, [cL 3 v.2.2.2.2.2.1 Vrow.row, cL 1 v.2.2.2.2.2.2 intRow]), (4, [cL 3 ([] : List Vrow) Vrow.row, cL 1 ([] : List Int) intRow])]⟩) (fun v => spec_l9Draw_L2 n v.1 x1 v.2.1 v.2.2.1 v.2.2.2.1 v.2.2.2.2.1 v.2.2.2.2.2.1 v.2.2.2.2.2.2 = some o14) (fun v => v.1) (n, (r2.1, r2.2.b, r2.2.i, r2.2.h, r1.Rows, r1.Pvid)) eo14 (St.sub_of [6, 5, 4, 0, 1] [0, 5, 4] kr) ?_
    rintro ⟨mo14, y3, y4, y5, y6, y7, y8⟩ H
    have H : spec_l9Draw_L2 n mo14 x1 y3 y4 y5 y6 y7 y8 = some o14 := H
    obtain _ | mo14 := mo14
    · cases (show (none : Option _) = some o14 from H)
    rw [spec_l9Draw_L2] at H
    refine Tr.seq ?_
    refine Tr.rgn tOk 2 6259 49 kr kr ?_
    cases h1 : (decide (y3 > 0))
    · have H := bifF h1 H
      refine Tr.cF h1 kr ?_
      refine Tr.exit ?_
      refine And.intro (fun _ => ?_) (fun h => absurd rfl h)
      have H := Option.some.inj H
      subst H
      have H := Ho14
      dsimp only at H
      exact Exists.intro (y4, y5, y6, y7, y8) (And.intro H (St.sub_of [5, 4, 0] [0, 5, 4] kr))
    have H := bifT h1 H
    refine Tr.cT h1 kr ?_
    refine Tr.skip ?_
    show Tr _ _ _ _ _
    refine Tr.seq ?_
    refine Tr.block ?_
    refine Tr.rs ?_
    refine LAt.runU tOk 1 kr ?_
    obtain ⟨r15, er15, H⟩ := bind_some H
    refine LAt.callL tOk [.lend, .rd] (f := 97) (av := #[.tmp 15, .const (.int .i64 4)]) (ats := #[126, 3]) (d := (some 16)) (ty := 3) (g := none) kr kr kr [] (spec_l1Below n (⟨y4, y5, y6⟩ : Src) 4 r15 er15) kr (.inl rfl) ?_
    refine LAt.doneM 104563 49 kr ?_
    refine Tr.block ?_
    refine Tr.rgn tOk 2 100767859 49 kr kr ?_
    cases h2 : (r15.1 == 0)
    · have H := bifF h2 H
      refine Tr.cF h2 kr ?_
      refine Tr.rgn tOk 2 824734488691 49 kr kr ?_
      cases h3 : (r15.1 == 1)
      · have H := bifF h3 H
        refine Tr.cF h3 kr ?_
        obtain ⟨r16, er16, H⟩ := bind_some H
        obtain ⟨r17, er17, H⟩ := bind_some H
        refine Tr.draw mixed 9 kr ⟨49, 1, [(17, .tup [(true, [.dead, .dead]), (false, [.dead])]), sV 21 (Vrow.row r16.1), sI 20 x1, sA 19 0 3 0, sB 38 (r15.1 == 1), sB 39 (r15.1 == 1), sB 25 (r15.1 == 0), sB 26 (r15.1 == 0), sI 16 r15.1, sA 15 0 3 0, sB 12 (decide (y3 > 0)), sI 11 y3, sI 6 y3, sA 5 5 2 0, sA 4 4 2 0, sA 0 0 3 0, sI 1 x1], [(5, (Vtab.row r17.1)), (0, (CV.frzRow (Src.row r16.2))), (4, [cL 3 ([] : List Vrow) Vrow.row, cL 1 ([] : List Int) intRow])]⟩ (fun cx => ?_) ?_
        · refine AT.runU tOk [(0, [4, 8]), (1, []), (2, [])] 6 [⟨[4, 8], 29, 5, 18⟩] [2, 1, 0] rfl kr (fun cx => ?_)
          refine AT.big1 tOk 3 kr kr ?_
          refine LAt.callL tOk [.lend, .rd] (f := 105) (av := #[.tmp 19, .tmp 20]) (ats := #[126, 3]) (d := (some 21)) (ty := 56) (g := none) kr kr kr [] (spec_l9Row2 n r15.2 x1 r16 er16) kr (.inl rfl) ?_
          refine LAt.fin kr (And.intro (And.intro kr kr) ?_)
          refine AT.big1 tOk 4 kr kr ?_
          refine LAt.callV tOk [.rd, .rd] [.box 5] (spec_PutRow n (⟨y7, y8⟩ : Vtab) r16.1 r17 er17) kr kr kr kr (.inr (rets_cons (Vtab.row_mine _) (rets_cons (mine_cons mine_lit mine_nil) rets_nil))) ?_
          refine LAt.fin kr (And.intro (And.intro kr kr) ?_)
          refine AT.movT tOk 5 (ty := 30) (t := 22) (d := 17) (g := none) [(true, (Vtab.row r17.1)), (false, [cB r17.2])] _ kr kr kr (.inl rfl) kr kr kr kr rfl (fun cx => ?_)
          refine AT.runU tOk [(6, []), (7, [])] 1 [⟨[4, 8], 29, 5, 18⟩] [7, 6, 5, 4, 3, 2, 1, 0] rfl kr (fun cx => ?_)
          refine AT.big1 tOk 8 kr kr ?_
          refine LAt.runU tOk 1 kr ?_
          refine LAt.fin kr (And.intro (And.intro kr kr) ?_)
          exact AT.done [17, 21, 20, 19, 38, 39, 25, 26, 16, 15, 12, 11, 6, 5, 4, 0, 1] [5, 0, 4] _ kr kr rfl
        show Tr _ _ _ _ _
        refine Tr.rgE tOk 3 824738314355 49 kr kr ?_
        exact Exists.intro (mo14, ((IntKind.wrap .i64 (y3 - 1)), r16.2.b, r16.2.i, r16.2.h, r17.1.Rows, r17.1.Pvid)) (And.intro H (And.intro (Nat.lt_succ_self mo14) (St.sub_of [6, 5, 4, 0, 1] [0, 5, 4] kr)))
      have H := bifT h3 H
      refine Tr.cT h3 kr ?_
      obtain ⟨r18, er18, H⟩ := bind_some H
      obtain ⟨r19, er19, H⟩ := bind_some H
      refine Tr.draw mixed 9 kr ⟨49, 1, [(40, .tup [(true, [.dead, .dead]), (false, [.dead])]), sI 44 (IntKind.wrap .i64 (2 + r18.1)), sI 43 r18.1, sA 42 0 3 0, sB 38 (r15.1 == 1), sB 39 (r15.1 == 1), sB 25 (r15.1 == 0), sB 26 (r15.1 == 0), sI 16 r15.1, sA 15 0 3 0, sB 12 (decide (y3 > 0)), sI 11 y3, sI 6 y3, sA 5 5 2 0, sA 4 4 2 0, sA 0 0 3 0, sI 1 x1], [(5, (Vtab.row r19.1)), (0, (CV.frzRow (Src.row r18.2))), (4, [cL 3 ([] : List Vrow) Vrow.row, cL 1 ([] : List Int) intRow])]⟩ (fun cx => ?_) ?_
      · refine AT.runU tOk [(0, [4, 8]), (1, [])] 7 [⟨[4, 8], 29, 5, 41⟩] [1, 0] rfl kr (fun cx => ?_)
        refine AT.big1 tOk 2 kr kr ?_
        refine LAt.callL tOk [.lend, .rd] (f := 97) (av := #[.tmp 42, .const (.int .i64 2)]) (ats := #[126, 3]) (d := (some 43)) (ty := 3) (g := none) kr kr kr [] (spec_l1Below n r15.2 2 r18 er18) kr (.inl rfl) ?_
        refine LAt.fin kr (And.intro (And.intro kr kr) ?_)
        refine AT.runU tOk [(3, [])] 5 [⟨[4, 8], 29, 5, 41⟩] [3, 2, 1, 0] rfl kr (fun cx => ?_)
        refine AT.big1 tOk 4 kr kr ?_
        refine LAt.callV tOk [.rd, .rd] [.box 5] (spec_DropRow n (⟨y7, y8⟩ : Vtab) (IntKind.wrap .i64 (2 + r18.1)) r19 er19) kr kr kr kr (.inr (rets_cons (Vtab.row_mine _) (rets_cons (mine_cons mine_lit mine_nil) rets_nil))) ?_
        refine LAt.fin kr (And.intro (And.intro kr kr) ?_)
        refine AT.movT tOk 5 (ty := 30) (t := 45) (d := 40) (g := none) [(true, (Vtab.row r19.1)), (false, [cB r19.2])] _ kr kr kr (.inl rfl) kr kr kr kr rfl (fun cx => ?_)
        refine AT.runU tOk [(6, []), (7, [])] 1 [⟨[4, 8], 29, 5, 41⟩] [7, 6, 5, 4, 3, 2, 1, 0] rfl kr (fun cx => ?_)
        refine AT.big1 tOk 8 kr kr ?_
        refine LAt.runU tOk 1 kr ?_
        refine LAt.fin kr (And.intro (And.intro kr kr) ?_)
        exact AT.done [40, 44, 43, 42, 38, 39, 25, 26, 16, 15, 12, 11, 6, 5, 4, 0, 1] [5, 0, 4] _ kr kr rfl
      show Tr _ _ _ _ _
      refine Tr.rgE tOk 3 32710571718771 49 kr kr ?_
      exact Exists.intro (mo14, ((IntKind.wrap .i64 (y3 - 1)), r18.2.b, r18.2.i, r18.2.h, r19.1.Rows, r19.1.Pvid)) (And.intro H (And.intro (Nat.lt_succ_self mo14) (St.sub_of [6, 5, 4, 0, 1] [0, 5, 4] kr)))
    have H := bifT h2 H
    refine Tr.cT h2 kr ?_
    obtain ⟨r20, er20, H⟩ := bind_some H
    obtain ⟨r21, er21, H⟩ := bind_some H
    obtain ⟨r22, er22, H⟩ := bind_some H
    refine Tr.draw mixed 12 kr ⟨49, 1, [(27, .tup [(true, [.dead, .dead]), (false, [.dead])]), sI 34 (IntKind.wrap .i64 (1 + r21.1)), sI 33 r21.1, sA 32 0 3 0, sI 31 r20.1, sI 30 x1, sA 29 0 3 0, sB 25 (r15.1 == 0), sB 26 (r15.1 == 0), sI 16 r15.1, sA 15 0 3 0, sB 12 (decide (y3 > 0)), sI 11 y3, sI 6 y3, sA 5 5 2 0, sA 4 4 2 0, sA 0 0 3 0, sI 1 x1], [(5, (Vtab.row r22.1)), (0, (CV.frzRow (Src.row r21.2))), (4, [cL 3 ([] : List Vrow) Vrow.row, cL 1 ([] : List Int) intRow])]⟩ (fun cx => ?_) ?_
    · refine AT.runU tOk [(0, [7, 11]), (1, []), (2, []), (4, [])] 8 [⟨[7, 11], 29, 5, 28⟩] [4, 2, 1, 0] rfl kr (fun cx => ?_)
      refine AT.big1 tOk 3 kr kr ?_
      refine LAt.callL tOk [.lend, .rd] (f := 97) (av := #[.tmp 29, .tmp 30]) (ats := #[126, 3]) (d := (some 31)) (ty := 3) (g := none) kr kr kr [] (spec_l1Below n r15.2 x1 r20 er20) kr (.inl rfl) ?_
      refine LAt.fin kr (And.intro (And.intro kr kr) ?_)
      refine AT.big1 tOk 5 kr kr ?_
      refine LAt.callL tOk [.lend, .rd] (f := 97) (av := #[.tmp 32, .const (.int .i64 3)]) (ats := #[126, 3]) (d := (some 33)) (ty := 3) (g := none) kr kr kr [] (spec_l1Below n r20.2 3 r21 er21) kr (.inl rfl) ?_
      refine LAt.fin kr (And.intro (And.intro kr kr) ?_)
      refine AT.runU tOk [(6, [])] 5 [⟨[7, 11], 29, 5, 28⟩] [6, 5, 3, 4, 2, 1, 0] rfl kr (fun cx => ?_)
      refine AT.big1 tOk 7 kr kr ?_
      refine LAt.callV tOk [.rd, .rd, .rd] [.box 5] (spec_SetPvid n (⟨y7, y8⟩ : Vtab) r20.1 (IntKind.wrap .i64 (1 + r21.1)) r22 er22) kr kr kr kr (.inr (rets_cons (Vtab.row_mine _) (rets_cons (mine_cons mine_lit mine_nil) rets_nil))) ?_
      refine LAt.fin kr (And.intro (And.intro kr kr) ?_)
      refine AT.movT tOk 8 (ty := 30) (t := 35) (d := 27) (g := none) [(true, (Vtab.row r22.1)), (false, [cB r22.2])] _ kr kr kr (.inl rfl) kr kr kr kr rfl (fun cx => ?_)
      refine AT.runU tOk [(9, []), (10, [])] 1 [⟨[7, 11], 29, 5, 28⟩] [10, 9, 8, 7, 6, 5, 3, 4, 2, 1, 0] rfl kr (fun cx => ?_)
      refine AT.big1 tOk 11 kr kr ?_
      refine LAt.runU tOk 1 kr ?_
      refine LAt.fin kr (And.intro (And.intro kr kr) ?_)
      exact AT.done [27, 34, 33, 32, 31, 30, 29, 25, 26, 16, 15, 12, 11, 6, 5, 4, 0, 1] [5, 0, 4] _ kr kr rfl
    show Tr _ _ _ _ _
    refine Tr.rgE tOk 3 34057877619 49 kr kr ?_
    exact Exists.intro (mo14, ((IntKind.wrap .i64 (y3 - 1)), r21.2.b, r21.2.i, r21.2.h, r22.1.Rows, r22.1.Pvid)) (And.intro H (And.intro (Nat.lt_succ_self mo14) (St.sub_of [6, 5, 4, 0, 1] [0, 5, 4] kr)))
  rintro ⟨y9, y10, y11, y12, y13⟩ H
  have H : (spec_l9Draw_J1 n y9 y10 y11 y12 y13) = some r := H
  unfold spec_l9Draw_J1 at H
  show Tr _ _ _ _ _
  refine Tr.rgn tOk 2 17 17 kr kr ?_
  refine Tr.ret ?_
  have H := Option.some.inj H
  subst H
  exact Fin.ofY _ [(true, [cL 3 y12 Vrow.row, cL 1 y13 intRow])] [] _ [] _ [(0, [cF 1 y9 byteRow, cI y10, cI y11])] kr rfl rfl rfl kr kr kr kr rfl rfl rfl

def spec_l9Any_J1 (n : Nat) (r1 : Int × Src) (r3 : Int × Src) (y7 : (List Vrow)) (y8 : (List Int)) : Option (Vtab × Int × Src) :=
  (some ((⟨y7, y8⟩ : Vtab), (IntKind.wrap .i64 (1 + r1.1)), r3.2))
def spec_l9Any_L2 (n : Nat) : Nat → Int → (List Vrow) → (List Int) → Option (((List Vrow) × (List Int)) ⊕ (Vtab × Int × Src))
  | 0, _, _, _ => none
  | mo9 + 1, y4, y5, y6 => (bif (decide (y4 < 6)) then ((spec_l9RowF n (⟨y5, y6⟩ : Vtab) (⟨(IntKind.wrap .i64 (10 + y4)), 0, 0⟩ : Vrow)).bind fun r10 => (spec_l9Any_L2 n mo9 (IntKind.wrap .i64 (y4 + 1)) r10.Rows r10.Pvid)) else (some (Sum.inl (y5, y6))))
def spec_l9AnyF (n : Nat) (x0 : Src) : Option (Vtab × Int × Src) :=
  ((spec_l1BelowF n x0 4).bind fun r1 => ((spec_l9DrawF n r1.2 (IntKind.wrap .i64 (1 + r1.1))).bind fun r2 => ((spec_l1BelowF n r2.2 12).bind fun r3 => (bif (r3.1 == 0) then ((spec_l1IntF n r3.2 [0, 1, 9, 100]).bind fun r14 => ((spec_l1IntF n r14.2 [(-1), 0, 1, 64]).bind fun r15 => ((spec_l1BelowF n r15.2 3).bind fun r16 => (bif (decide (r2.1.Rows.length + [(⟨r14.1, r15.1, r16.1⟩ : Vrow)].length ≤ 268435456)) then (some ((⟨(r2.1.Rows ++ [(⟨r14.1, r15.1, r16.1⟩ : Vrow)]), r2.1.Pvid⟩ : Vtab), (IntKind.wrap .i64 (1 + r1.1)), r16.2)) else none)))) else (bif (r3.1 == 1) then ((spec_l1IntF n r3.2 [0, 7]).bind fun r12 => ((idx r2.1.Pvid 0).bind fun v13 => (some ((⟨r2.1.Rows, (r2.1.Pvid.set (((0 : Int)).toNat) r12.1)⟩ : Vtab), (IntKind.wrap .i64 (1 + r1.1)), r12.2)))) else (bif (r3.1 == 2) then ((spec_l1IntF n r3.2 [0, 6, 7]).bind fun r11 => (some (r2.1, r11.1, r11.2))) else (bif (r3.1 == 3) then ((spec_l9Any_L2 n n 0 r2.1.Rows r2.1.Pvid).bind fun o => match o with | .inl (y7, y8) => (spec_l9Any_J1 n r1 r3 y7 y8) | .inr r => some r) else (some (r2.1, (IntKind.wrap .i64 (1 + r1.1)), r3.2)))))))))
/-- loop.example/g00326/spec.l9Any -/
theorem spec_l9Any (n : Nat) (x0 : Src) (r : Vtab × Int × Src) (H : spec_l9AnyF n x0 = some r) : LCall Try.prog 111 [.ptr (CV.frzRow (Src.row x0))] [.val true (Vtab.row r.1), .val false [.lit (.int .i64 r.2.1)]] [(0, (CV.frzRow (Src.row r.2.2)))] := by
  refine LCall.of_body tOk Try.func111 rfl (c := (.seq (Rg Try.f111 0) (.seq (Rg Try.f111 1) (.seq (Rg Try.f111 2) (.seq (.seq (Rg Try.f111 3) (.block 0 (.seq (Rg Try.f111 4) (.cond (.tmp 15) (Rd Try.f111 5) (.seq (Rg Try.f111 6) (.cond (.tmp 31) (Rd Try.f111 7) (.seq (Rg Try.f111 8) (.cond (.tmp 39) (Rg Try.f111 9) (.seq (Rg Try.f111 10) (.cond (.tmp 44) (.seq (Rg Try.f111 11) (.block 1 (.loop (.seq (.seq (Rg Try.f111 12) (.cond (.tmp 47) .skip (.exit 1))) (.seq (.block 2 (Rg Try.f111 14)) (Rg Try.f111 13)))))) .skip)))))))))) (.seq (Rg Try.f111 15) .ret)))))) kr (Nat.le_of_ble_eq_true kr) 1 (rs := [.cell 2 29, .tmp 3]) rfl [] .nil [(true, (Vtab.row r.1)), (false, [.lit (.int .i64 r.2.1)])] [] [(0, (CV.frzRow (Src.row r.2.2)))] fun cx => ?_
  show Tr _ _ _ ⟨57, 1, [sA 0 0 3 0], [(0, (CV.frzRow (Src.row x0)))]⟩ _
  unfold spec_l9AnyF at H
  refine Tr.rgn tOk 2 13 5 kr kr ?_
  refine Tr.rs ?_
  refine LAt.runU tOk 1 kr ?_
  obtain ⟨r1, er1, H⟩ := bind_some H
  refine LAt.callL tOk [.lend, .rd] (f := 97) (av := #[.tmp 7, .const (.int .i64 4)]) (ats := #[126, 3]) (d := (some 8)) (ty := 3) (g := none) kr kr kr [] (spec_l1Below n x0 4 r1 er1) kr (.inl rfl) ?_
  refine LAt.runU tOk 2 kr ?_
  refine LAt.doneM 29 5 kr ?_
  refine Tr.rs ?_
  refine LAt.runU tOk 2 kr ?_
  obtain ⟨r2, er2, H⟩ := bind_some H
  refine LAt.callL tOk [.lend, .rd] (f := 151) (av := #[.tmp 10, .tmp 11]) (ats := #[126, 3]) (d := (some 12)) (ty := 29) (g := none) kr kr kr [] (spec_l9Draw n r1.2 (IntKind.wrap .i64 (1 + r1.1)) r2 er2) kr (.inl rfl) ?_
  refine LAt.runU tOk 2 kr ?_
  refine LAt.doneM 61 37 kr ?_
  refine Tr.seq ?_
  refine Tr.rs ?_
  refine LAt.runU tOk 1 kr ?_
  obtain ⟨r3, er3, H⟩ := bind_some H
  refine LAt.callL tOk [.lend, .rd] (f := 97) (av := #[.tmp 13, .const (.int .i64 12)]) (ats := #[126, 3]) (d := (some 14)) (ty := 3) (g := none) kr kr kr [] (spec_l1Below n r2.2 12 r3 er3) kr (.inl rfl) ?_
  refine LAt.doneM 16445 37 kr ?_
  refine Tr.block ?_
  refine Tr.rgn tOk 2 49213 37 kr kr ?_
  cases h1 : (r3.1 == 0)
  · have H := bifF h1 H
    refine Tr.cF h1 kr ?_
    refine Tr.rgn tOk 2 2147500093 37 kr kr ?_
    cases h2 : (r3.1 == 1)
    · have H := bifF h2 H
      refine Tr.cF h2 kr ?_
      refine Tr.rgn tOk 2 549755830333 37 kr kr ?_
      cases h3 : (r3.1 == 2)
      · have H := bifF h3 H
        refine Tr.cF h3 kr ?_
        refine Tr.rgn tOk 2 17592186044477 37 kr kr ?_
        cases h4 : (r3.1 == 3)
        · have H := bifF h4 H
          refine Tr.cF h4 kr ?_
          refine Tr.skip ?_
          show Tr _ _ _ _ _
          refine Tr.rgn tOk 4 13 5 kr kr ?_
          refine Tr.ret ?_
          have H := Option.some.inj H
          subst H
          exact Fin.ofY _ [(true, (Vtab.row r2.1)), (false, [cI (IntKind.wrap .i64 (1 + r1.1))])] [] _ [] _ [(0, (CV.frzRow (Src.row r3.2)))] kr rfl rfl rfl kr kr kr kr rfl rfl rfl
        have H := bifT h4 H
        refine Tr.cT h4 kr ?_
        refine Tr.rgn tOk 1 125 37 kr kr ?_
        obtain ⟨o9, eo9, Ho9⟩ := bind_some H
        clear H
        refine Tr.mid (ι := (List Vrow) × (List Int)) (fun v => ⟨57, 1, [sA 5 5 2 0, sI 4 (IntKind.wrap .i64 (1 + r1.1)), sI 3 0, sA 2 2 2 0, sA 0 0 3 0], [(0, (CV.frzRow (Src.row r3.2))), (5, [cL 3 v.1 Vrow.row, cL 1 v.2 intRow]), (2, [cL 3 ([] : List Vrow) Vrow.row, cL 1 ([] : List Int) intRow])]⟩) (fun v => spec_l9Any_J1 n r1 r3 v.1 v.2 = some r) ?_ ?_
        · refine Tr.block ?_
          refine Tr.loop (ι := Nat × (Int × (List Vrow) × (List Int))) (fun v => ⟨57, 1, [sI 6 v.2.1, sA 5 5 2 0, sI 4 (IntKind.wrap .i64 (1 + r1.1)), sI 3 0, sA 2 2 2 0, sA 0 0 3 0], [(0, (CV.frzRow (Src.row r3.2))), (5, [cL 3 v.2.2.1 Vrow.row, cL 1 v.2.2.2 intRow]), (2, [cL 3 ([] : List Vrow) Vrow.row, cL 1 ([] : List Int) intRow])]⟩) (fun v => spec_l9Any_L2 n v.1 v.2.1 v.2.2.1 v.2.2.2 = some o9) (fun v => v.1) (n, (0, r2.1.Rows, r2.1.Pvid)) eo9 (St.sub_of [6, 5, 4, 3, 2, 0] [0, 5, 2] kr) ?_
          rintro ⟨mo9, y4, y5, y6⟩ H
          have H : spec_l9Any_L2 n mo9 y4 y5 y6 = some o9 := H
          obtain _ | mo9 := mo9
          · cases (show (none : Option _) = some o9 from H)
          rw [spec_l9Any_L2] at H
          refine Tr.seq ?_
          refine Tr.rgn tOk 2 211106232533117 37 kr kr ?_
          cases h5 : (decide (y4 < 6))
          · have H := bifF h5 H
            refine Tr.cF h5 kr ?_
            refine Tr.exit ?_
            refine And.intro (fun _ => ?_) (fun h => absurd rfl h)
            have H := Option.some.inj H
            subst H
            have H := Ho9
            dsimp only at H
            exact Exists.intro (y5, y6) (And.intro H (St.sub_of [5, 4, 3, 2, 0] [0, 5, 2] kr))
          have H := bifT h5 H
          refine Tr.cT h5 kr ?_
          refine Tr.skip ?_
          show Tr _ _ _ _ _
          refine Tr.seq ?_
          refine Tr.block ?_
          refine Tr.at ?_
          refine LAt.runU tOk 4 kr ?_
          obtain ⟨r10, er10, H⟩ := bind_some H
          refine LAt.callV tOk [.rd, .rd] [.box 5] (spec_l9Row n (⟨y5, y6⟩ : Vtab) (⟨(IntKind.wrap .i64 (10 + y4)), 0, 0⟩ : Vrow) r10 er10) kr kr kr kr (.inr (rets_cons (Vtab.row_mine _) rets_nil)) ?_
          refine LAt.runU tOk 1 kr ?_
          refine LAt.doneM 15973704928329853 37 kr ?_
          show Tr _ _ _ _ _
          refine Tr.rgE tOk 3 16818129858461821 37 kr kr ?_
          exact Exists.intro (mo9, ((IntKind.wrap .i64 (y4 + 1)), r10.Rows, r10.Pvid)) (And.intro H (And.intro (Nat.lt_succ_self mo9) (St.sub_of [6, 5, 4, 3, 2, 0] [0, 5, 2] kr)))
        rintro ⟨y7, y8⟩ H
        have H : (spec_l9Any_J1 n r1 r3 y7 y8) = some r := H
        unfold spec_l9Any_J1 at H
        show Tr _ _ _ _ _
        refine Tr.rgn tOk 4 13 5 kr kr ?_
        refine Tr.ret ?_
        have H := Option.some.inj H
        subst H
        exact Fin.ofY _ [(true, [cL 3 y7 Vrow.row, cL 1 y8 intRow]), (false, [cI (IntKind.wrap .i64 (1 + r1.1))])] [] _ [] _ [(0, (CV.frzRow (Src.row r3.2)))] kr rfl rfl rfl kr kr kr kr rfl rfl rfl
      have H := bifT h3 H
      refine Tr.cT h3 kr ?_
      refine Tr.at ?_
      refine LAt.runU tOk 2 kr ?_
      obtain ⟨r11, er11, H⟩ := bind_some H
      refine LAt.callL tOk [.lend, .rd] (f := 92) (av := #[.tmp 41, .tmp 42]) (ats := #[126, 23]) (d := (some 43)) (ty := 3) (g := none) kr kr kr [] (spec_l1Int n r3.2 [0, 6, 7] r11 er11) kr (.inl rfl) ?_
      refine LAt.runU tOk 1 kr ?_
      refine LAt.doneM 61 37 kr ?_
      show Tr _ _ _ _ _
      refine Tr.rgn tOk 4 13 5 kr kr ?_
      refine Tr.ret ?_
      have H := Option.some.inj H
      subst H
      exact Fin.ofY _ [(true, (Vtab.row r2.1)), (false, [cI r11.1])] [] _ [] _ [(0, (CV.frzRow (Src.row r11.2)))] kr rfl rfl rfl kr kr kr kr rfl rfl rfl
    have H := bifT h2 H
    refine Tr.cT h2 kr ?_
    obtain ⟨r12, er12, H⟩ := bind_some H
    obtain ⟨v13, ev13, H⟩ := bind_some H
    refine Tr.draw mixed 7 kr ⟨57, 1, [sA 5 5 2 0, sI 4 (IntKind.wrap .i64 (1 + r1.1)), sI 3 0, sA 2 2 2 0, sA 0 0 3 0], [(5, [cL 3 r2.1.Rows Vrow.row, cL 1 (r2.1.Pvid.set (((0 : Int)).toNat) r12.1) intRow]), (0, (CV.frzRow (Src.row r12.2))), (2, [cL 3 ([] : List Vrow) Vrow.row, cL 1 ([] : List Int) intRow])]⟩ (fun cx => ?_) ?_
    · refine AT.runU tOk [(0, []), (1, [6]), (2, [])] 4 [⟨[6], 23, 33, 34⟩] [2, 1, 0] rfl kr (fun cx => ?_)
      refine AT.big1 tOk 3 kr kr ?_
      refine LAt.runU tOk 1 kr ?_
      refine LAt.fin kr (And.intro (And.intro kr kr) ?_)
      refine AT.big1 tOk 4 kr kr ?_
      refine LAt.callL tOk [.lend, .rd] (f := 92) (av := #[.tmp 35, .tmp 36]) (ats := #[126, 23]) (d := (some 37)) (ty := 3) (g := none) kr kr kr [] (spec_l1Int n r3.2 [0, 7] r12 er12) kr (.inl rfl) ?_
      refine LAt.fin kr (And.intro (And.intro kr kr) ?_)
      refine AT.indexO tOk 5 (t := 23) (ty := 0) (x := (.tmp 34)) (y := (.const (.int .i64 0))) (d := 38) (g := none) ⟨(.box 5), [(0, 0)], 1, true, 1, (r2.1.Pvid.map intRow)⟩ 0 (((0 : Int)).toNat) (intRow v13) _ kr kr kr kr kr kr rfl kr (idx_isE ev13) rfl rfl (fun cx => ?_)
      refine AT.big1 tOk 6 kr kr ?_
      refine LAt.storeB tOk (t := 3) (ty := 0) (ad := (.tmp 38)) (x := (.tmp 37)) (g := none) ⟨.int .i64, 1, 8, [.lit (.int .i64 0)]⟩ false [cI r12.1] 5 1 (((0 : Int)).toNat) 1 0 1 r2.1.Pvid intRow v13 r12.1 kr kr kr kr kr kr kr kr (idx_get ev13).2 kr kr kr kr ?_
      refine LAt.fin kr (And.intro (And.intro kr kr) ?_)
      exact AT.done [5, 4, 3, 2, 0] [5, 0, 2] _ kr kr rfl
    show Tr _ _ _ _ _
    refine Tr.rgn tOk 4 13 5 kr kr ?_
    refine Tr.ret ?_
    have H := Option.some.inj H
    subst H
    exact Fin.ofY _ [(true, [cL 3 r2.1.Rows Vrow.row, cL 1 (r2.1.Pvid.set (((0 : Int)).toNat) r12.1) intRow]), (false, [cI (IntKind.wrap .i64 (1 + r1.1))])] [] _ [] _ [(0, (CV.frzRow (Src.row r12.2)))] kr rfl rfl rfl kr kr kr kr rfl rfl rfl
  have H := bifT h1 H
  refine Tr.cT h1 kr ?_
  obtain ⟨r14, er14, H⟩ := bind_some H
  obtain ⟨r15, er15, H⟩ := bind_some H
  obtain ⟨r16, er16, H⟩ := bind_some H
  obtain ⟨hg17, H⟩ := guard_some H
  refine Tr.draw mixed 15 kr ⟨57, 1, [sA 5 5 2 0, sI 4 (IntKind.wrap .i64 (1 + r1.1)), sI 3 0, sA 2 2 2 0, sA 0 0 3 0], [(5, [cL 3 (r2.1.Rows ++ [(⟨r14.1, r15.1, r16.1⟩ : Vrow)]) Vrow.row, cL 1 r2.1.Pvid intRow]), (0, (CV.frzRow (Src.row r16.2))), (2, [cL 3 ([] : List Vrow) Vrow.row, cL 1 ([] : List Int) intRow])]⟩ (fun cx => ?_) ?_
  · refine AT.runU tOk [(0, []), (1, [12, 14]), (2, []), (5, []), (8, [])] 10 [⟨[12, 14], 27, 17, 18⟩] [8, 5, 2, 1, 0] rfl kr (fun cx => ?_)
    refine AT.big2 tOk 3 6 kr (And.intro kr ?_) (And.intro kr ?_)
    · refine LAt.runU tOk 1 kr ?_
      refine LAt.fin kr (And.intro (And.intro kr kr) ?_)
      refine AT.big2 tOk 4 6 kr (And.intro kr ?_) (And.intro kr ?_)
      · refine LAt.callL tOk [.lend, .rd] (f := 92) (av := #[.tmp 19, .tmp 20]) (ats := #[126, 23]) (d := (some 21)) (ty := 3) (g := none) kr kr kr [] (spec_l1Int n r3.2 [0, 1, 9, 100] r14 er14) kr (.inl rfl) ?_
        refine LAt.fin kr (And.intro (And.intro kr kr) ?_)
        refine AT.big1 tOk 6 kr kr ?_
        refine LAt.runU tOk 1 kr ?_
        refine LAt.fin kr (And.intro (And.intro kr kr) ?_)
        refine AT.big1 tOk 7 kr kr ?_
        refine LAt.callL tOk [.lend, .rd] (f := 92) (av := #[.tmp 22, .tmp 23]) (ats := #[126, 23]) (d := (some 24)) (ty := 3) (g := none) kr kr kr [] (spec_l1Int n r14.2 [(-1), 0, 1, 64] r15 er15) kr (.inl rfl) ?_
        refine LAt.fin kr (And.intro (And.intro kr kr) ?_)
        refine AT.big1 tOk 9 kr kr ?_
        refine LAt.callL tOk [.lend, .rd] (f := 97) (av := #[.tmp 25, .const (.int .i64 3)]) (ats := #[126, 3]) (d := (some 26)) (ty := 3) (g := none) kr kr kr [] (spec_l1Below n r15.2 3 r16 er16) kr (.inl rfl) ?_
        refine LAt.fin kr (And.intro (And.intro kr kr) ?_)
        refine AT.big1 tOk 10 kr kr ?_
        refine LAt.runU tOk 1 kr ?_
        refine LAt.fin kr (And.intro (And.intro kr kr) ?_)
        refine AT.big1 tOk 11 kr kr ?_
        refine LAt.runU tOk 1 kr ?_
        refine LAt.fin kr (And.intro (And.intro kr kr) ?_)
        refine AT.big1 tOk 12 kr kr ?_
        refine LAt.appMU tOk (t := 27) (ty := 27) (e := 56) (x := (.tmp 18)) (y := (.tmp 28)) (d := 29) (g := none) ⟨.st [(0, 1, 3), (1, 1, 3), (2, 1, 3)], 3, 24, [.lit (.int .i64 0), .lit (.int .i64 0), .lit (.int .i64 0)]⟩ Vrow.row r2.1.Rows [(⟨r14.1, r15.1, r16.1⟩ : Vrow)] kr kr kr kr kr kr kr kr kr kr hg17 ?_
        refine LAt.fin kr (And.intro (And.intro kr kr) ?_)
        refine AT.runU tOk [(13, [])] 1 [⟨[12, 14], 27, 17, 18⟩] [13, 12, 11, 10, 9, 7, 6, 4, 3, 8, 5, 2, 1, 0] rfl kr (fun cx => ?_)
        refine AT.big1 tOk 14 kr kr ?_
        refine LAt.runU tOk 1 kr ?_
        refine LAt.fin kr (And.intro (And.intro kr kr) ?_)
        exact AT.done [5, 4, 3, 2, 0] [5, 0, 2] _ kr kr rfl
      · refine LAt.runU tOk 1 kr ?_
        refine LAt.fin kr (And.intro (And.intro kr kr) ?_)
        refine AT.big1 tOk 4 kr kr ?_
        refine LAt.callL tOk [.lend, .rd] (f := 92) (av := #[.tmp 19, .tmp 20]) (ats := #[126, 23]) (d := (some 21)) (ty := 3) (g := none) kr kr kr [] (spec_l1Int n r3.2 [0, 1, 9, 100] r14 er14) kr (.inl rfl) ?_
        refine LAt.fin kr (And.intro (And.intro kr kr) ?_)
        refine AT.big1 tOk 7 kr kr ?_
        refine LAt.callL tOk [.lend, .rd] (f := 92) (av := #[.tmp 22, .tmp 23]) (ats := #[126, 23]) (d := (some 24)) (ty := 3) (g := none) kr kr kr [] (spec_l1Int n r14.2 [(-1), 0, 1, 64] r15 er15) kr (.inl rfl) ?_
        refine LAt.fin kr (And.intro (And.intro kr kr) ?_)
        refine AT.big1 tOk 9 kr kr ?_
        refine LAt.callL tOk [.lend, .rd] (f := 97) (av := #[.tmp 25, .const (.int .i64 3)]) (ats := #[126, 3]) (d := (some 26)) (ty := 3) (g := none) kr kr kr [] (spec_l1Below n r15.2 3 r16 er16) kr (.inl rfl) ?_
        refine LAt.fin kr (And.intro (And.intro kr kr) ?_)
        refine AT.big1 tOk 10 kr kr ?_
        refine LAt.runU tOk 1 kr ?_
        refine LAt.fin kr (And.intro (And.intro kr kr) ?_)
        refine AT.big1 tOk 11 kr kr ?_
        refine LAt.runU tOk 1 kr ?_
        refine LAt.fin kr (And.intro (And.intro kr kr) ?_)
        refine AT.big1 tOk 12 kr kr ?_
        refine LAt.appMU tOk (t := 27) (ty := 27) (e := 56) (x := (.tmp 18)) (y := (.tmp 28)) (d := 29) (g := none) ⟨.st [(0, 1, 3), (1, 1, 3), (2, 1, 3)], 3, 24, [.lit (.int .i64 0), .lit (.int .i64 0), .lit (.int .i64 0)]⟩ Vrow.row r2.1.Rows [(⟨r14.1, r15.1, r16.1⟩ : Vrow)] kr kr kr kr kr kr kr kr kr kr hg17 ?_
        refine LAt.fin kr (And.intro (And.intro kr kr) ?_)
        refine AT.runU tOk [(13, [])] 1 [⟨[12, 14], 27, 17, 18⟩] [13, 12, 11, 10, 9, 7, 4, 6, 3, 8, 5, 2, 1, 0] rfl kr (fun cx => ?_)
        refine AT.big1 tOk 14 kr kr ?_
        refine LAt.runU tOk 1 kr ?_
        refine LAt.fin kr (And.intro (And.intro kr kr) ?_)
        exact AT.done [5, 4, 3, 2, 0] [5, 0, 2] _ kr kr rfl
    · refine LAt.runU tOk 1 kr ?_
      refine LAt.fin kr (And.intro (And.intro kr kr) ?_)
      refine AT.big1 tOk 3 kr kr ?_
      refine LAt.runU tOk 1 kr ?_
      refine LAt.fin kr (And.intro (And.intro kr kr) ?_)
      refine AT.big1 tOk 4 kr kr ?_
      refine LAt.callL tOk [.lend, .rd] (f := 92) (av := #[.tmp 19, .tmp 20]) (ats := #[126, 23]) (d := (some 21)) (ty := 3) (g := none) kr kr kr [] (spec_l1Int n r3.2 [0, 1, 9, 100] r14 er14) kr (.inl rfl) ?_
      refine LAt.fin kr (And.intro (And.intro kr kr) ?_)
      refine AT.big1 tOk 7 kr kr ?_
      refine LAt.callL tOk [.lend, .rd] (f := 92) (av := #[.tmp 22, .tmp 23]) (ats := #[126, 23]) (d := (some 24)) (ty := 3) (g := none) kr kr kr [] (spec_l1Int n r14.2 [(-1), 0, 1, 64] r15 er15) kr (.inl rfl) ?_
      refine LAt.fin kr (And.intro (And.intro kr kr) ?_)
      refine AT.big1 tOk 9 kr kr ?_
      refine LAt.callL tOk [.lend, .rd] (f := 97) (av := #[.tmp 25, .const (.int .i64 3)]) (ats := #[126, 3]) (d := (some 26)) (ty := 3) (g := none) kr kr kr [] (spec_l1Below n r15.2 3 r16 er16) kr (.inl rfl) ?_
      refine LAt.fin kr (And.intro (And.intro kr kr) ?_)
      refine AT.big1 tOk 10 kr kr ?_
      refine LAt.runU tOk 1 kr ?_
      refine LAt.fin kr (And.intro (And.intro kr kr) ?_)
      refine AT.big1 tOk 11 kr kr ?_
      refine LAt.runU tOk 1 kr ?_
      refine LAt.fin kr (And.intro (And.intro kr kr) ?_)
      refine AT.big1 tOk 12 kr kr ?_
      refine LAt.appMU tOk (t := 27) (ty := 27) (e := 56) (x := (.tmp 18)) (y := (.tmp 28)) (d := 29) (g := none) ⟨.st [(0, 1, 3), (1, 1, 3), (2, 1, 3)], 3, 24, [.lit (.int .i64 0), .lit (.int .i64 0), .lit (.int .i64 0)]⟩ Vrow.row r2.1.Rows [(⟨r14.1, r15.1, r16.1⟩ : Vrow)] kr kr kr kr kr kr kr kr kr kr hg17 ?_
      refine LAt.fin kr (And.intro (And.intro kr kr) ?_)
      refine AT.runU tOk [(13, [])] 1 [⟨[12, 14], 27, 17, 18⟩] [13, 12, 11, 10, 9, 7, 4, 3, 6, 8, 5, 2, 1, 0] rfl kr (fun cx => ?_)
      refine AT.big1 tOk 14 kr kr ?_
      refine LAt.runU tOk 1 kr ?_
      refine LAt.fin kr (And.intro (And.intro kr kr) ?_)
      exact AT.done [5, 4, 3, 2, 0] [5, 0, 2] _ kr kr rfl
  show Tr _ _ _ _ _
  refine Tr.rgn tOk 4 13 5 kr kr ?_
  refine Tr.ret ?_
  have H := Option.some.inj H
  subst H
  exact Fin.ofY _ [(true, [cL 3 (r2.1.Rows ++ [(⟨r14.1, r15.1, r16.1⟩ : Vrow)]) Vrow.row, cL 1 r2.1.Pvid intRow]), (false, [cI (IntKind.wrap .i64 (1 + r1.1))])] [] _ [] _ [(0, (CV.frzRow (Src.row r16.2)))] kr rfl rfl rfl kr kr kr kr rfl rfl rfl

def spec_l9TabF (n : Nat) (x0 : Src) : Option (Vtab × Src) :=
  ((spec_l9AnyF n x0).bind fun r1 => (some (r1.1, r1.2.2)))
/-- loop.example/g00326/spec.l9Tab -/
theorem spec_l9Tab (n : Nat) (x0 : Src) (r : Vtab × Src) (H : spec_l9TabF n x0 = some r) : LCall Try.prog 104 [.ptr (CV.frzRow (Src.row x0))] [.val true (Vtab.row r.1)] [(0, (CV.frzRow (Src.row r.2)))] := by
  refine LCall.of_body tOk Try.func104 rfl (c := (.seq (Rg Try.f104 0) (.seq (Rg Try.f104 1) (.seq (Rg Try.f104 2) .ret)))) kr (Nat.le_of_ble_eq_true kr) 1 (rs := [.cell 2 29]) rfl [] .nil [(true, (Vtab.row r.1))] [] [(0, (CV.frzRow (Src.row r.2)))] fun cx => ?_
  show Tr _ _ _ ⟨11, 1, [sA 0 0 3 0], [(0, (CV.frzRow (Src.row x0)))]⟩ _
  unfold spec_l9TabF at H
  refine Tr.rgn tOk 1 5 5 kr kr ?_
  refine Tr.rs ?_
  refine LAt.runU tOk 1 kr ?_
  obtain ⟨r1, er1, H⟩ := bind_some H
  refine LAt.callL tOk [.lend] (f := 111) (av := #[.tmp 6]) (ats := #[126]) (d := (some 7)) (ty := 67) (g := none) kr kr kr [] (spec_l9Any n x0 r1 er1) kr (.inl rfl) ?_
  refine LAt.movT tOk (ty := 67) (t := 7) (d := 5) (g := none) [(true, (Vtab.row r1.1)), (false, [cI r1.2.1])] _ kr (.inl rfl) kr kr kr kr rfl ?_
  refine LAt.runU tOk 5 kr ?_
  refine LAt.doneM 13 13 kr ?_
  refine Tr.rgn tOk 2 5 5 kr kr ?_
  refine Tr.ret ?_
  have H := Option.some.inj H
  subst H
  exact Fin.ofY _ [(true, (Vtab.row r1.1))] [] _ [] _ [(0, (CV.frzRow (Src.row r1.2.2)))] kr rfl rfl rfl kr kr kr kr rfl rfl rfl

def spec_l1OnceF (n : Nat) (x0 : Src) (x1 : Int) : Option (Bool × Src) :=
  ((spec_l1BelowF n x0 x1).bind fun r1 => (some ((r1.1 == 0), r1.2)))
/-- loop.example/g00326/spec.l1Once -/
theorem spec_l1Once (n : Nat) (x0 : Src) (x1 : Int) (r : Bool × Src) (H : spec_l1OnceF n x0 x1 = some r) : LCall Try.prog 106 [.ptr (CV.frzRow (Src.row x0)), .val false [.lit (.int .i64 x1)]] [.val false [.lit (.bool r.1)]] [(0, (CV.frzRow (Src.row r.2)))] := by
  refine LCall.of_body tOk Try.func106 rfl (c := (.seq (Rg Try.f106 0) (.seq (Rg Try.f106 1) .ret))) kr (Nat.le_of_ble_eq_true kr) 1 (rs := [.tmp 4]) rfl [] .nil [(false, [.lit (.bool r.1)])] [] [(0, (CV.frzRow (Src.row r.2)))] fun cx => ?_
  show Tr _ _ _ ⟨9, 1, [sA 0 0 3 0, sI 1 x1], [(0, (CV.frzRow (Src.row x0)))]⟩ _
  unfold spec_l1OnceF at H
  refine Tr.rgn tOk 1 19 1 kr kr ?_
  refine Tr.rs ?_
  refine LAt.runU tOk 2 kr ?_
  obtain ⟨r1, er1, H⟩ := bind_some H
  refine LAt.callL tOk [.lend, .rd] (f := 97) (av := #[.tmp 5, .tmp 6]) (ats := #[126, 3]) (d := (some 7)) (ty := 3) (g := none) kr kr kr [] (spec_l1Below n x0 x1 r1 er1) kr (.inl rfl) ?_
  refine LAt.runU tOk 2 kr ?_
  refine LAt.doneM 17 1 kr ?_
  refine Tr.ret ?_
  have H := Option.some.inj H
  subst H
  exact Fin.ofY _ [(false, [cB (r1.1 == 0)])] [] _ [] _ [(0, (CV.frzRow (Src.row r1.2)))] kr rfl rfl rfl kr kr kr kr rfl rfl rfl

def spec_DrawPutRowF (n : Nat) (x0 : (List Int)) : Option (Vtab × Vrow) :=
  ((spec_l1NewF n x0).bind fun r1 => ((spec_l9TabF n r1).bind fun r2 => ((spec_l1BelowF n r2.2 4).bind fun r3 => ((spec_l9Row2F n r3.2 (IntKind.wrap .i64 (1 + r3.1))).bind fun r4 => ((spec_l1OnceF n r4.2 6).bind fun r5 => (bif r5.1 then ((spec_l1IntF n r5.2 [0, 99, 100]).bind fun r6 => ((spec_l1IntF n r6.2 [(-1), 1, 64]).bind fun r7 => ((spec_l1BelowF n r7.2 4).bind fun r8 => (some (r2.1, (⟨r6.1, r7.1, r8.1⟩ : Vrow)))))) else (some (r2.1, r4.1))))))))
/-- loop.example/g00326/spec.DrawPutRow -/
theorem spec_DrawPutRow (n : Nat) (x0 : (List Int)) (r : Vtab × Vrow) (H : spec_DrawPutRowF n x0 = some r) : LCall Try.prog 36 [.val false [.sl false 1 (CV.frzEs (x0.map byteRow))]] [.val true (Vtab.row r.1), .val true (Vrow.row r.2)] [] := by
  refine LCall.of_body tOk Try.func36 rfl (c := (.seq (Rg Try.f36 0) (.seq (Rg Try.f36 1) (.seq (Rg Try.f36 2) (.seq (Rg Try.f36 3) (.seq (.seq (Rg Try.f36 4) (.cond (.tmp 17) (Rg Try.f36 5) .skip)) (.seq (Rd Try.f36 6) .ret))))))) kr (Nat.le_of_ble_eq_true kr) 0 (rs := [.cell 2 29, .cell 3 56]) rfl [] .nil [(true, (Vtab.row r.1)), (true, (Vrow.row r.2))] [] [] fun cx => ?_
  show Tr _ _ _ ⟨29, 0, [sC 0 (cF 1 x0 byteRow)], []⟩ _
  unfold spec_DrawPutRowF at H
  refine Tr.rgn tOk 2 13 12 kr kr ?_
  refine Tr.rs ?_
  refine LAt.runU tOk 1 kr ?_
  obtain ⟨r1, er1, H⟩ := bind_some H
  refine LAt.callV tOk [.rd] [] (spec_l1New n x0 r1 er1) kr kr kr kr (.inl rfl) ?_
  refine LAt.runU tOk 1 kr ?_
  refine LAt.doneM 28 268 kr ?_
  refine Tr.rs ?_
  refine LAt.runU tOk 1 kr ?_
  obtain ⟨r2, er2, H⟩ := bind_some H
  refine LAt.callL tOk [.lend] (f := 104) (av := #[.tmp 9]) (ats := #[126]) (d := (some 10)) (ty := 29) (g := none) kr kr kr [] (spec_l9Tab n r1 r2 er2) kr (.inl rfl) ?_
  refine LAt.runU tOk 2 kr ?_
  refine LAt.doneM 60 300 kr ?_
  refine Tr.rs ?_
  refine LAt.runU tOk 2 kr ?_
  obtain ⟨r3, er3, H⟩ := bind_some H
  refine LAt.callL tOk [.lend, .rd] (f := 97) (av := #[.tmp 12, .const (.int .i64 4)]) (ats := #[126, 3]) (d := (some 13)) (ty := 3) (g := none) kr kr kr [] (spec_l1Below n r2.2 4 r3 er3) kr (.inl rfl) ?_
  refine LAt.runU tOk 1 kr ?_
  obtain ⟨r4, er4, H⟩ := bind_some H
  refine LAt.callL tOk [.lend, .rd] (f := 105) (av := #[.tmp 11, .tmp 14]) (ats := #[126, 3]) (d := (some 15)) (ty := 56) (g := none) kr kr kr [] (spec_l9Row2 n r3.2 (IntKind.wrap .i64 (1 + r3.1)) r4 er4) kr (.inl rfl) ?_
  refine LAt.runU tOk 2 kr ?_
  refine LAt.doneM 124 364 kr ?_
  refine Tr.seq ?_
  refine Tr.rs ?_
  refine LAt.runU tOk 1 kr ?_
  obtain ⟨r5, er5, H⟩ := bind_some H
  refine LAt.callL tOk [.lend, .rd] (f := 106) (av := #[.tmp 16, .const (.int .i64 6)]) (ats := #[126, 3]) (d := (some 17)) (ty := 4) (g := none) kr kr kr [] (spec_l1Once n r4.2 6 r5 er5) kr (.inl rfl) ?_
  refine LAt.doneM 131196 364 kr ?_
  cases h1 : r5.1
  · have H := bifF h1 H
    refine Tr.cf kr ?_
    refine Tr.skip ?_
    show Tr _ _ _ _ _
    refine Tr.draws mixed 4 kr ⟨29, 0, [sA 3 3 3 0, sA 2 2 2 0], [(3, (Vrow.row r4.1)), (2, (Vtab.row r2.1))]⟩ (fun cx => ?_) ?_
    · refine AT.runU tOk [(0, [2, 3]), (1, [3])] 2 [⟨[3], 56, 6, 28⟩, ⟨[2, 3], 29, 5, 27⟩] [1, 0] rfl kr (fun cx => ?_)
      refine AT.big1 tOk 2 kr kr ?_
      refine LAt.runU tOk 1 kr ?_
      refine LAt.fin kr (And.intro (And.intro kr kr) ?_)
      refine AT.big1 tOk 3 kr kr ?_
      refine LAt.runU tOk 1 kr ?_
      refine LAt.fin kr (And.intro (And.intro kr kr) ?_)
      exact AT.done [3, 2] [3, 2] _ kr kr rfl
    refine Tr.ret ?_
    have H := Option.some.inj H
    subst H
    exact Fin.of _ [(true, (Vtab.row r2.1)), (true, (Vrow.row r4.1))] kr rfl rfl
  have H := bifT h1 H
  refine Tr.ct kr ?_
  refine Tr.at ?_
  refine LAt.runU tOk 2 kr ?_
  obtain ⟨r6, er6, H⟩ := bind_some H
  refine LAt.callL tOk [.lend, .rd] (f := 92) (av := #[.tmp 18, .tmp 19]) (ats := #[126, 23]) (d := (some 20)) (ty := 3) (g := none) kr kr kr [] (spec_l1Int n r5.2 [0, 99, 100] r6 er6) kr (.inl rfl) ?_
  refine LAt.runU tOk 2 kr ?_
  obtain ⟨r7, er7, H⟩ := bind_some H
  refine LAt.callL tOk [.lend, .rd] (f := 92) (av := #[.tmp 21, .tmp 22]) (ats := #[126, 23]) (d := (some 23)) (ty := 3) (g := none) kr kr kr [] (spec_l1Int n r6.2 [(-1), 1, 64] r7 er7) kr (.inl rfl) ?_
  refine LAt.runU tOk 1 kr ?_
  obtain ⟨r8, er8, H⟩ := bind_some H
  refine LAt.callL tOk [.lend, .rd] (f := 97) (av := #[.tmp 24, .const (.int .i64 4)]) (ats := #[126, 3]) (d := (some 25)) (ty := 3) (g := none) kr kr kr [] (spec_l1Below n r7.2 4 r8 er8) kr (.inl rfl) ?_
  refine LAt.runU tOk 2 kr ?_
  refine LAt.doneM 108 108 kr ?_
  show Tr _ _ _ _ _
  refine Tr.draws mixed 4 kr ⟨29, 0, [sA 3 3 3 0, sA 2 2 2 0], [(3, [cI r6.1, cI r7.1, cI r8.1]), (2, (Vtab.row r2.1))]⟩ (fun cx => ?_) ?_
  · refine AT.runU tOk [(0, [2, 3]), (1, [3])] 2 [⟨[3], 56, 6, 28⟩, ⟨[2, 3], 29, 5, 27⟩] [1, 0] rfl kr (fun cx => ?_)
    refine AT.big1 tOk 2 kr kr ?_
    refine LAt.runU tOk 1 kr ?_
    refine LAt.fin kr (And.intro (And.intro kr kr) ?_)
    refine AT.big1 tOk 3 kr kr ?_
    refine LAt.runU tOk 1 kr ?_
    refine LAt.fin kr (And.intro (And.intro kr kr) ?_)
    exact AT.done [3, 2] [3, 2] _ kr kr rfl
  refine Tr.ret ?_
  have H := Option.some.inj H
  subst H
  exact Fin.of _ [(true, (Vtab.row r2.1)), (true, [cI r6.1, cI r7.1, cI r8.1])] kr rfl rfl

def impl_copyIntsF (n : Nat) (x0 : (List Int)) : Option ((List Int)) :=
  (bif (decide (([] : List Int).length + x0.length ≤ 268435456)) then (some (([] : List Int) ++ x0)) else none)
/-- loop.example/g00326/impl.copyInts -/
theorem impl_copyInts (n : Nat) (x0 : (List Int)) (r : (List Int)) (H : impl_copyIntsF n x0 = some r) : LCall Try.prog 146 [.val false [.sl false 1 (CV.frzEs (x0.map intRow))]] [.val false [.sl true 1 (r.map intRow)]] [] := by
  refine LCall.of_body tOk Try.func146 rfl (c := (.seq (Rg Try.f146 0) (.seq (Rg Try.f146 1) .ret))) kr (Nat.le_of_ble_eq_true kr) 0 (rs := [.tmp 2]) rfl [] .nil [(false, [.sl true 1 (r.map intRow)])] [] [] fun cx => ?_
  show Tr _ _ _ ⟨5, 0, [sC 0 (cF 1 x0 intRow)], []⟩ _
  unfold impl_copyIntsF at H
  refine Tr.rgn tOk 1 5 0 kr kr ?_
  refine Tr.rs ?_
  refine LAt.runU tOk 1 kr ?_
  obtain ⟨hg1, H⟩ := guard_some H
  refine LAt.appCU tOk (t := 23) (ty := 23) (e := 3) (x := (.const (.slice none 0 0))) (y := (.tmp 3)) (d := 4) (g := none) ⟨.int .i64, 1, 8, [.lit (.int .i64 0)]⟩ intRow ([] : List Int) x0 ⟨(.slot 3), [], 0, false, 1, (CV.frzEs (x0.map intRow))⟩ kr kr kr kr kr kr kr kr kr kr kr (.inr rfl) (fun _ => rfl) (fun _ => rfl) hg1 ?_
  refine LAt.moveU (T := lk tab) (ty := 23) (x := (.tmp 4)) (d := 2) (g := none) false [cL 1 (([] : List Int) ++ x0) intRow] kr kr kr kr kr ?_
  refine LAt.doneM 4 0 kr ?_
  refine Tr.ret ?_
  have H := Option.some.inj H
  subst H
  exact Fin.of _ [(false, [cL 1 (([] : List Int) ++ x0) intRow])] kr rfl rfl

def impl_copyVtabF (n : Nat) (x0 : Vtab) : Option (Vtab) :=
  (bif (decide (([] : List Vrow).length + x0.Rows.length ≤ 268435456)) then ((impl_copyIntsF n x0.Pvid).bind fun r2 => (some (⟨(([] : List Vrow) ++ x0.Rows), r2⟩ : Vtab))) else none)
/-- loop.example/g00326/impl.copyVtab -/
theorem impl_copyVtab (n : Nat) (x0 : Vtab) (r : Vtab) (H : impl_copyVtabF n x0 = some r) : LCall Try.prog 81 [.val true (CV.frzRow (Vtab.row x0))] [.val true (Vtab.row r)] [] := by
  refine LCall.of_body tOk Try.func81 rfl (c := (.seq (Rg Try.f81 0) (.seq (Rd Try.f81 1) .ret))) kr (Nat.le_of_ble_eq_true kr) 0 (rs := [.cell 2 29]) rfl [] .nil [(true, (Vtab.row r))] [] [] fun cx => ?_
  show Tr _ _ _ ⟨10, 0, [sV 0 (CV.frzRow (Vtab.row x0))], []⟩ _
  unfold impl_copyVtabF at H
  refine Tr.rgn tOk 2 6 6 kr kr ?_
  obtain ⟨hg1, H⟩ := guard_some H
  obtain ⟨r2, er2, H⟩ := bind_some H
  refine Tr.draws mixed 8 kr ⟨10, 0, [sA 2 2 2 0], [(2, [cL 3 (([] : List Vrow) ++ x0.Rows) Vrow.row, cL 1 r2 intRow])]⟩ (fun cx => ?_) ?_
  · refine AT.runU tOk [(0, []), (1, [2, 5, 6, 7]), (3, []), (4, [5, 6, 7])] 4 [⟨[5, 6, 7], 23, 6, 7⟩, ⟨[2, 5, 6, 7], 27, 3, 4⟩] [4, 3, 1, 0] rfl kr (fun cx => ?_)
    refine AT.big1 tOk 2 kr kr ?_
    refine LAt.appCU tOk (t := 27) (ty := 27) (e := 56) (x := (.const (.slice none 0 0))) (y := (.tmp 4)) (d := 5) (g := none) ⟨.st [(0, 1, 3), (1, 1, 3), (2, 1, 3)], 3, 24, [.lit (.int .i64 0), .lit (.int .i64 0), .lit (.int .i64 0)]⟩ Vrow.row ([] : List Vrow) x0.Rows ⟨(.box 1), [(0, 0)], 0, false, 3, (CV.frzEs (x0.Rows.map Vrow.row))⟩ kr kr kr kr kr kr kr kr kr kr kr (.inr rfl) (fun _ => rfl) (fun _ => rfl) hg1 ?_
    refine LAt.fin kr (And.intro (And.intro kr kr) ?_)
    refine AT.big1 tOk 5 kr kr ?_
    refine LAt.callV tOk [.rd] [] (impl_copyInts n x0.Pvid r2 er2) kr kr kr kr (.inl rfl) ?_
    refine LAt.fin kr (And.intro (And.intro kr kr) ?_)
    refine AT.big1 tOk 6 kr kr ?_
    refine LAt.runU tOk 1 kr ?_
    refine LAt.fin kr (And.intro (And.intro kr kr) ?_)
    refine AT.big1 tOk 7 kr kr ?_
    refine LAt.runU tOk 1 kr ?_
    refine LAt.fin kr (And.intro (And.intro kr kr) ?_)
    exact AT.done [2] [2] _ kr kr rfl
  refine Tr.ret ?_
  have H := Option.some.inj H
  subst H
  exact Fin.of _ [(true, [cL 3 (([] : List Vrow) ++ x0.Rows) Vrow.row, cL 1 r2 intRow])] kr rfl rfl

def impl_RowAt_J1 (n : Nat) : Option (Int) :=
  (some (-1))
def impl_RowAt_L2 (n : Nat) : Nat → Vtab → Int → Int → Option ((Unit) ⊕ (Int))
  | 0, _, _, _ => none
  | mo2 + 1, x0, x1, y1 => (bif (decide (y1 < (x0.Rows.length : Int))) then ((idx x0.Rows y1).bind fun v3 => (bif (v3.Id == x1) then (some (Sum.inr y1)) else (impl_RowAt_L2 n mo2 x0 x1 (IntKind.wrap .i64 (y1 + 1))))) else (some (Sum.inl ())))
def impl_RowAtF (n : Nat) (x0 : Vtab) (x1 : Int) : Option (Int) :=
  ((impl_RowAt_L2 n n x0 x1 0).bind fun o => match o with | .inl _ => (impl_RowAt_J1 n) | .inr r => some r)
/-- loop.example/g00326/impl.RowAt -/
theorem impl_RowAt (n : Nat) (x0 : Vtab) (x1 : Int) (r : Int) (H : impl_RowAtF n x0 x1 = some r) : LCall Try.prog 40 [.val true (CV.frzRow (Vtab.row x0)), .val false [.lit (.int .i64 x1)]] [.val false [.lit (.int .i64 r)]] [] := by
  refine LCall.of_body tOk Try.func40 rfl (c := (.seq (Rg Try.f40 0) (.seq (.seq (Rg Try.f40 1) (.block 0 (.loop (.seq (Rg Try.f40 2) (.seq (.cond (.tmp 11) .skip (.exit 0)) (.seq (.block 1 (.seq (Rg Try.f40 3) (.seq (Rg Try.f40 4) (.cond (.tmp 18) (.seq (Rg Try.f40 5) .ret) .skip)))) (Rg Try.f40 6))))))) (.seq (Rg Try.f40 7) .ret)))) kr (Nat.le_of_ble_eq_true kr) 0 (rs := [.tmp 4]) rfl [] .nil [(false, [.lit (.int .i64 r)])] [] [] fun cx => ?_
  show Tr _ _ _ ⟨21, 0, [sV 0 (CV.frzRow (Vtab.row x0)), sI 1 x1], []⟩ _
  unfold impl_RowAtF at H
  refine Tr.rgn tOk 2 22 4 kr kr ?_
  refine Tr.seq ?_
  refine Tr.rs ?_
  refine LAt.runU tOk 2 kr ?_
  refine LAt.lenE tOk (t := 27) (ty := 3) (e := 56) (x := (.tmp 8)) (d := 9) (g := none) ⟨(.slot 8), [], 0, false, 3, (CV.frzEs (x0.Rows.map Vrow.row))⟩ (x0.Rows).length _ kr kr kr kr kr (frz_len _ _) rfl ?_
  refine LAt.runU tOk 1 kr ?_
  refine LAt.doneM 1810 0 kr ?_
  obtain ⟨o2, eo2, Ho2⟩ := bind_some H
  clear H
  refine Tr.mid (ι := Unit) (fun v => ⟨21, 0, [sI 4 0], []⟩) (fun v => impl_RowAt_J1 n = some r) ?_ ?_
  · refine Tr.block ?_
    refine Tr.loop (ι := Nat × (Int)) (fun v => ⟨21, 0, [sI 10 v.2, sI 9 (x0.Rows.length : Int), sC 8 (cF 3 x0.Rows Vrow.row), sI 4 0, sI 1 x1], []⟩) (fun v => impl_RowAt_L2 n v.1 x0 x1 v.2 = some o2) (fun v => v.1) (n, 0) eo2 (St.sub_of [10, 9, 8, 4, 1] [] kr) ?_
    rintro ⟨mo2, y1⟩ H
    have H : impl_RowAt_L2 n mo2 x0 x1 y1 = some o2 := H
    obtain _ | mo2 := mo2
    · cases (show (none : Option _) = some o2 from H)
    rw [impl_RowAt_L2] at H
    refine Tr.rgn tOk 1 3858 0 kr kr ?_
    refine Tr.seq ?_
    cases h1 : (decide (y1 < (x0.Rows.length : Int)))
    · have H := bifF h1 H
      refine Tr.cF h1 kr ?_
      refine Tr.exit ?_
      refine And.intro (fun _ => ?_) (fun h => absurd rfl h)
      have H := Option.some.inj H
      subst H
      have H := Ho2
      dsimp only at H
      exact Exists.intro () (And.intro H (St.sub_of [4] [] kr))
    have H := bifT h1 H
    refine Tr.cT h1 kr ?_
    refine Tr.skip ?_
    show Tr _ _ _ _ _
    refine Tr.seq ?_
    refine Tr.block ?_
    refine Tr.rs ?_
    refine LAt.runU tOk 1 kr ?_
    obtain ⟨v3, ev3, H⟩ := bind_some H
    refine LAt.indexF tOk (t := 27) (ty := 0) (x := (.tmp 8)) (y := (.tmp 10)) (d := 13) (g := none) ⟨(.slot 8), [], 0, false, 3, (CV.frzEs (x0.Rows.map Vrow.row))⟩ y1 (Vrow.row v3) _ kr kr kr kr rfl (idx_isF ev3) rfl ?_
    refine LAt.runU tOk 4 kr ?_
    refine LAt.doneM 32626 64 kr ?_
    refine Tr.rgn tOk 4 524146 64 kr kr ?_
    cases h2 : (v3.Id == x1)
    · have H := bifF h2 H
      refine Tr.cF h2 kr ?_
      refine Tr.skip ?_
      show Tr _ _ _ _ _
      refine Tr.rgE tOk 2 1572722 64 kr kr ?_
      exact Exists.intro (mo2, (IntKind.wrap .i64 (y1 + 1))) (And.intro H (And.intro (Nat.lt_succ_self mo2) (St.sub_of [10, 9, 8, 4, 1] [] kr)))
    have H := bifT h2 H
    refine Tr.cT h2 kr ?_
    refine Tr.rgn tOk 2 1048434 64 kr kr ?_
    refine Tr.ret ?_
    have H := Option.some.inj H
    subst H
    have H := Ho2
    dsimp only at H
    have H := Option.some.inj H
    subst H
    exact Fin.of _ [(false, [cI y1])] kr rfl rfl
  rintro _ H
  have H : (impl_RowAt_J1 n) = some r := H
  unfold impl_RowAt_J1 at H
  show Tr _ _ _ _ _
  refine Tr.rgn tOk 1 16 0 kr kr ?_
  refine Tr.ret ?_
  have H := Option.some.inj H
  subst H
  exact Fin.of _ [(false, [cI (-1)])] kr rfl rfl
end Go.Proofs.Ytgpcfaiacggoiaa.Tw
