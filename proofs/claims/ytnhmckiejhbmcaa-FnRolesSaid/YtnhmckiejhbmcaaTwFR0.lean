/- Functions of the program, over trees. -/
import Derived.Test.YtnhmckiejhbmcaaProg
import Derived.Test.YtnhmckiejhbmcaaTlRule
import Derived.Test.YtnhmckiejhbmcaaTlU3
import Derived.WalkKit
set_option linter.unusedVariables false
set_option linter.unusedSimpArgs false
set_option maxRecDepth 100000
set_option maxHeartbeats 1000000
namespace Go.Proofs.Ytnhmckiejhbmcaa.Tw
open Go Go.TL Go.Proofs
def tab : List (Nat × TI) := [(2, ⟨.int .i64, 1, 8, [.lit (.int .i64 0)]⟩),
  (3, ⟨.int .i64, 1, 8, [.lit (.int .i64 0)]⟩),
  (4, ⟨.bool, 1, 1, [.lit (.bool false)]⟩),
  (5, ⟨.int .u8, 1, 1, [.lit (.int .u8 0)]⟩),
  (6, ⟨.int .u8, 1, 1, [.lit (.int .u8 0)]⟩),
  (27, ⟨.st [(0, 1, 3), (1, 1, 3), (2, 1, 3), (3, 1, 3), (4, 1, 3)], 5, 40, [.lit (.int .i64 0), .lit (.int .i64 0), .lit (.int .i64 0), .lit (.int .i64 0), .lit (.int .i64 0)]⟩),
  (29, ⟨.st [(0, 1, 4), (1, 1, 3), (2, 1, 4), (3, 5, 27)], 8, 64, [.lit (.bool false), .lit (.int .i64 0), .lit (.bool false), .lit (.int .i64 0), .lit (.int .i64 0), .lit (.int .i64 0), .lit (.int .i64 0), .lit (.int .i64 0)]⟩),
  (33, ⟨.sl 3, 1, 24, [.sl true 1 []]⟩),
  (54, ⟨.sl 29, 1, 24, [.sl true 8 []]⟩),
  (61, ⟨.sl 5, 1, 24, [.sl true 1 []]⟩),
  (86, ⟨.int .u64, 1, 8, [.lit (.int .u64 0)]⟩),
  (100, ⟨.st [(0, 1, 61), (1, 1, 3), (2, 1, 3)], 3, 40, [.sl true 1 [], .lit (.int .i64 0), .lit (.int .i64 0)]⟩)]
theorem mixed : Try.prog.follows .mixedOrders = true := by kernel_rfl
theorem tOk : TOk Try.prog (lk tab) := tok_of (by kernel_rfl)

structure Src where
  b : (List Int)
  i : Int
  h : Int
def Src.row (v : Src) : List CV := [.sl true 1 (v.b.map byteRow), .lit (.int .i64 v.i), .lit (.int .i64 v.h)]
def Src.wf (v : Src) : Prop := listWf byteWf v.b ∧ intWf v.i ∧ intWf v.h ∧ True
theorem Src.enc : Enc Src [.sl 1 [.int .u8], .int .i64, .int .i64] Src.row Src.wf := fun cs h => by
  obtain ⟨c0, r0, rfl, k0, h⟩ := fitR_cons h
  obtain ⟨c1, r1, rfl, k1, h⟩ := fitR_cons h
  obtain ⟨c2, r2, rfl, k2, h⟩ := fitR_cons h
  obtain rfl := fitR_nil h
  obtain ⟨x0, rfl, w0⟩ := Enc.sl encByte k0
  obtain ⟨x1, rfl, w1⟩ := fitC_int k1
  obtain ⟨x2, rfl, w2⟩ := fitC_int k2
  exact ⟨⟨x0, x1, x2⟩, rfl, ⟨w0, w1, w2, trivial⟩⟩
theorem Src.row_mine (v : Src) : CV.mineRow (Src.row v) := mine_cons (mine_sl (mine_map byteRow_mine _)) (mine_cons mine_lit (mine_cons mine_lit (mine_nil)))

structure Vec where
  Root : Int
  Cost : Int
  Hops : Int
  Bridge : Int
  Port : Int
def Vec.row (v : Vec) : List CV := [.lit (.int .i64 v.Root), .lit (.int .i64 v.Cost), .lit (.int .i64 v.Hops), .lit (.int .i64 v.Bridge), .lit (.int .i64 v.Port)]
def Vec.wf (v : Vec) : Prop := intWf v.Root ∧ intWf v.Cost ∧ intWf v.Hops ∧ intWf v.Bridge ∧ intWf v.Port ∧ True
theorem Vec.enc : Enc Vec [.int .i64, .int .i64, .int .i64, .int .i64, .int .i64] Vec.row Vec.wf := fun cs h => by
  obtain ⟨c0, r0, rfl, k0, h⟩ := fitR_cons h
  obtain ⟨c1, r1, rfl, k1, h⟩ := fitR_cons h
  obtain ⟨c2, r2, rfl, k2, h⟩ := fitR_cons h
  obtain ⟨c3, r3, rfl, k3, h⟩ := fitR_cons h
  obtain ⟨c4, r4, rfl, k4, h⟩ := fitR_cons h
  obtain rfl := fitR_nil h
  obtain ⟨x0, rfl, w0⟩ := fitC_int k0
  obtain ⟨x1, rfl, w1⟩ := fitC_int k1
  obtain ⟨x2, rfl, w2⟩ := fitC_int k2
  obtain ⟨x3, rfl, w3⟩ := fitC_int k3
  obtain ⟨x4, rfl, w4⟩ := fitC_int k4
  exact ⟨⟨x0, x1, x2, x3, x4⟩, rfl, ⟨w0, w1, w2, w3, w4, trivial⟩⟩
theorem Vec.row_mine (v : Vec) : CV.mineRow (Vec.row v) := mine_cons mine_lit (mine_cons mine_lit (mine_cons mine_lit (mine_cons mine_lit (mine_cons mine_lit (mine_nil)))))

structure Pt where
  Up : Bool
  Cost : Int
  Has : Bool
  Heard : Vec
def Pt.row (v : Pt) : List CV := [.lit (.bool v.Up), .lit (.int .i64 v.Cost), .lit (.bool v.Has), .lit (.int .i64 v.Heard.Root), .lit (.int .i64 v.Heard.Cost), .lit (.int .i64 v.Heard.Hops), .lit (.int .i64 v.Heard.Bridge), .lit (.int .i64 v.Heard.Port)]
def Pt.wf (v : Pt) : Prop := intWf v.Cost ∧ intWf v.Heard.Root ∧ intWf v.Heard.Cost ∧ intWf v.Heard.Hops ∧ intWf v.Heard.Bridge ∧ intWf v.Heard.Port ∧ True
theorem Pt.enc : Enc Pt [.bool, .int .i64, .bool, .int .i64, .int .i64, .int .i64, .int .i64, .int .i64] Pt.row Pt.wf := fun cs h => by
  obtain ⟨c0, r0, rfl, k0, h⟩ := fitR_cons h
  obtain ⟨c1, r1, rfl, k1, h⟩ := fitR_cons h
  obtain ⟨c2, r2, rfl, k2, h⟩ := fitR_cons h
  obtain ⟨c3, r3, rfl, k3, h⟩ := fitR_cons h
  obtain ⟨c4, r4, rfl, k4, h⟩ := fitR_cons h
  obtain ⟨c5, r5, rfl, k5, h⟩ := fitR_cons h
  obtain ⟨c6, r6, rfl, k6, h⟩ := fitR_cons h
  obtain ⟨c7, r7, rfl, k7, h⟩ := fitR_cons h
  obtain rfl := fitR_nil h
  obtain ⟨x0, rfl⟩ := fitC_bool k0
  obtain ⟨x1, rfl, w1⟩ := fitC_int k1
  obtain ⟨x2, rfl⟩ := fitC_bool k2
  obtain ⟨x3, rfl, w3⟩ := fitC_int k3
  obtain ⟨x4, rfl, w4⟩ := fitC_int k4
  obtain ⟨x5, rfl, w5⟩ := fitC_int k5
  obtain ⟨x6, rfl, w6⟩ := fitC_int k6
  obtain ⟨x7, rfl, w7⟩ := fitC_int k7
  exact ⟨⟨x0, x1, x2, ⟨x3, x4, x5, x6, x7⟩⟩, rfl, ⟨w1, w3, w4, w5, w6, w7, trivial⟩⟩
theorem Pt.row_mine (v : Pt) : CV.mineRow (Pt.row v) := mine_cons mine_lit (mine_cons mine_lit (mine_cons mine_lit (mine_cons mine_lit (mine_cons mine_lit (mine_cons mine_lit (mine_cons mine_lit (mine_cons mine_lit (mine_nil))))))))

def laws_bigF (n : Nat) (x0 : (List Int)) : Option (Bool) :=
  (some (decide ((x0.length : Int) > 1048576)))
/-- loop.example/g00326/laws.big -/
theorem laws_big (n : Nat) (x0 : (List Int)) (r : Bool) (H : laws_bigF n x0 = some r) : LCall Try.prog 38 [.val false [.sl false 1 (CV.frzEs (x0.map byteRow))]] [.val false [.lit (.bool r)]] [] := by
  refine LCall.of_body tOk Try.func38 rfl (c := (.seq (.region 0 (rg Try.f38 0) false) (.seq (.region 1 (rg Try.f38 1) false) .ret))) (by kernel_rfl) (Nat.le_of_ble_eq_true (by kernel_rfl)) 0 (rs := [.tmp 2]) rfl [] .nil [(false, [.lit (.bool r)])] [] [] fun cx => ?_
  show Tr _ _ _ ⟨6, 0, [(0, .val false [.sl false 1 (CV.frzEs (x0.map byteRow))])], []⟩ _
  unfold laws_bigF at H
  refine Tr.rs ?_
  refine LAt.runU tOk 1 (by kernel_rfl) ?_
  refine LAt.doneU [2, 0] [] (by kernel_rfl) ?_
  refine Tr.rs ?_
  refine LAt.runU tOk 1 (by kernel_rfl) ?_
  refine LAt.lenE tOk (t := 61) (ty := 3) (e := 5) (x := (.tmp 3)) (d := 4) (g := none) ⟨(.slot 3), [], 0, false, 1, (CV.frzEs (x0.map byteRow))⟩ (x0).length _ (by kernel_rfl) (by kernel_rfl) (by kernel_rfl) (by kernel_rfl) (by kernel_rfl) (frz_len _ _) rfl ?_
  refine LAt.runU tOk 2 (by kernel_rfl) ?_
  refine LAt.doneU [2] [] (by kernel_rfl) ?_
  refine Tr.ret ?_
  have H := Option.some.inj H
  subst H
  exact Fin.of _ [(false, [.lit (.bool (decide ((x0.length : Int) > 1048576)))])] (by kernel_rfl) rfl rfl

def spec_l1New_J1 (n : Nat) (x0 : (List Int)) (y3 : Int) : Option (Src) :=
  (some (⟨x0, 0, y3⟩ : Src))
def spec_l1New_L2 (n : Nat) : Nat → (List Int) → Int → Int → Option ((Int) ⊕ (Src))
  | 0, _, _, _ => none
  | mo4 + 1, x0, y1, y2 => (bif (decide (y1 < (x0.length : Int))) then (bif (decide (y1 < 4000)) then ((idx x0 y1).bind fun v5 => (spec_l1New_L2 n mo4 x0 (IntKind.wrap .i64 (y1 + 1)) (IntKind.wrap .i64 (BitVec.ofInt (IntKind.bits .i64) (IntKind.wrap .i64 ((IntKind.wrap .i64 ((IntKind.wrap .i64 (y2 * 137)) + (IntKind.wrap .i64 v5))) + 11)) &&& BitVec.ofInt (IntKind.bits .i64) 1073741823).toNat))) else (some (Sum.inl y2))) else (some (Sum.inl y2)))
def spec_l1NewF (n : Nat) (x0 : (List Int)) : Option (Src) :=
  ((spec_l1New_L2 n n x0 0 (IntKind.wrap .i64 (762762 + (x0.length : Int)))).bind fun o => match o with | .inl y3 => (spec_l1New_J1 n x0 y3) | .inr r => some r)
/-- loop.example/g00326/spec.l1New -/
theorem spec_l1New (n : Nat) (x0 : (List Int)) (r : Src) (H : spec_l1NewF n x0 = some r) : LCall Try.prog 75 [.val false [.sl false 1 (CV.frzEs (x0.map byteRow))]] [.ptr (CV.frzRow (Src.row r))] [] := by
  refine LCall.of_body_ptr tOk Try.func75 rfl (c := (.seq (.region 0 (rg Try.f75 0) false) (.seq (.region 1 (rg Try.f75 1) false) (.seq (.seq (.region 2 (rg Try.f75 2) false) (.block 0 (.loop (.seq (.seq (.region 3 (rg Try.f75 3) false) (.cond (.tmp 15) .skip (.exit 0))) (.seq (.block 1 (.region 5 (rg Try.f75 5) false)) (.region 4 (rg Try.f75 4) false)))))) (.seq (.region 6 (rg Try.f75 6) false) .ret))))) (by kernel_rfl) (Nat.le_of_ble_eq_true (by kernel_rfl)) 2 31 rfl (CV.frzRow (Src.row r)) fun cx => ?_
  show Tr _ _ _ ⟨32, 0, [(0, .val false [.sl false 1 (CV.frzEs (x0.map byteRow))])], []⟩ _
  unfold spec_l1NewF at H
  refine Tr.rs ?_
  refine LAt.runU tOk 1 (by kernel_rfl) ?_
  refine LAt.doneU [2, 0] [] (by kernel_rfl) ?_
  refine Tr.rs ?_
  refine LAt.runU tOk 1 (by kernel_rfl) ?_
  refine LAt.lenE tOk (t := 61) (ty := 3) (e := 5) (x := (.tmp 5)) (d := 6) (g := none) ⟨(.slot 5), [], 0, false, 1, (CV.frzEs (x0.map byteRow))⟩ (x0).length _ (by kernel_rfl) (by kernel_rfl) (by kernel_rfl) (by kernel_rfl) (by kernel_rfl) (frz_len _ _) rfl ?_
  refine LAt.runU tOk 2 (by kernel_rfl) ?_
  refine LAt.doneU [3, 2, 0] [] (by kernel_rfl) ?_
  refine Tr.seq ?_
  refine Tr.rs ?_
  refine LAt.runU tOk 1 (by kernel_rfl) ?_
  refine LAt.doneU [4, 3, 2, 0] [] (by kernel_rfl) ?_
  obtain ⟨o4, eo4, Ho4⟩ := bind_some H
  clear H
  refine Tr.mid (ι := Int) (fun v => ⟨32, 0, [(3, .val false [.lit (.int .i64 v)]), (2, .val false [.lit (.pointer none)]), (0, .val false [.sl false 1 (CV.frzEs (x0.map byteRow))])], []⟩) (fun v => spec_l1New_J1 n x0 v = some r) ?_ ?_
  · refine Tr.block ?_
    refine Tr.loop (ι := Nat × (Int × Int)) (fun v => ⟨32, 0, [(4, .val false [.lit (.int .i64 v.2.1)]), (3, .val false [.lit (.int .i64 v.2.2)]), (2, .val false [.lit (.pointer none)]), (0, .val false [.sl false 1 (CV.frzEs (x0.map byteRow))])], []⟩) (fun v => spec_l1New_L2 n v.1 x0 v.2.1 v.2.2 = some o4) (fun v => v.1) (n, (0, (IntKind.wrap .i64 (762762 + (x0.length : Int))))) eo4 (St.sub_of [4, 3, 2, 0] [] (by kernel_rfl)) ?_
    rintro ⟨mo4, y1, y2⟩ H
    have H : spec_l1New_L2 n mo4 x0 y1 y2 = some o4 := H
    obtain _ | mo4 := mo4
    · cases (show (none : Option _) = some o4 from H)
    · rw [spec_l1New_L2] at H
      refine Tr.seq ?_
      refine Tr.rs ?_
      refine LAt.runU tOk 2 (by kernel_rfl) ?_
      refine LAt.lenE tOk (t := 61) (ty := 3) (e := 5) (x := (.tmp 9)) (d := 10) (g := none) ⟨(.slot 9), [], 0, false, 1, (CV.frzEs (x0.map byteRow))⟩ (x0).length _ (by kernel_rfl) (by kernel_rfl) (by kernel_rfl) (by kernel_rfl) (by kernel_rfl) (frz_len _ _) rfl ?_
      refine LAt.runU tOk 2 (by kernel_rfl) ?_
      refine LAt.to ⟨32, 0, [(12, .val false [.lit (.bool (decide (y1 < (x0.length : Int))))]), (11, .val false [.lit (.bool (decide (y1 < (x0.length : Int))))]), (10, .val false [.lit (.int .i64 (x0.length : Int))]), (9, .val false [.sl false 1 (CV.frzEs (x0.map byteRow))]), (8, .val false [.lit (.int .i64 y1)]), (4, .val false [.lit (.int .i64 y1)]), (3, .val false [.lit (.int .i64 y2)]), (2, .val false [.lit (.pointer none)]), (0, .val false [.sl false 1 (CV.frzEs (x0.map byteRow))])], []⟩ (by kernel_rfl) ?_
      cases h1 : (decide (y1 < (x0.length : Int)))
      · have H := bifF h1 H
        refine LAt.runU tOk 3 (by kernel_rfl) ?_
        refine LAt.doneU [15, 14, 13, 12, 11, 10, 9, 8, 4, 3, 2, 0] [] (by kernel_rfl) ?_
        refine Tr.cond (b := false) (by kernel_rfl) (fun h => nomatch h) (fun _ => ?_)
        refine Tr.exit ?_
        refine And.intro (fun _ => ?_) (fun h => absurd rfl h)
        have H := Option.some.inj H
        subst H
        have H := Ho4
        dsimp only at H
        exact Exists.intro y2 (And.intro H (St.sub_of [3, 2, 0] [] (by kernel_rfl)))
      · have H := bifT h1 H
        refine LAt.runU tOk 3 (by kernel_rfl) ?_
        refine LAt.doneU [15, 14, 13, 12, 11, 10, 9, 8, 4, 3, 2, 0] [] (by kernel_rfl) ?_
        refine Tr.to ⟨32, 0, [(15, .val false [.lit (.bool (decide (y1 < 4000)))]), (14, .val false [.lit (.bool (decide (y1 < 4000)))]), (13, .val false [.lit (.int .i64 y1)]), (12, .val false [.lit (.bool true)]), (11, .val false [.lit (.bool true)]), (10, .val false [.lit (.int .i64 (x0.length : Int))]), (9, .val false [.sl false 1 (CV.frzEs (x0.map byteRow))]), (8, .val false [.lit (.int .i64 y1)]), (4, .val false [.lit (.int .i64 y1)]), (3, .val false [.lit (.int .i64 y2)]), (2, .val false [.lit (.pointer none)]), (0, .val false [.sl false 1 (CV.frzEs (x0.map byteRow))])], []⟩ (by kernel_rfl) ?_
        cases h2 : (decide (y1 < 4000))
        · have H := bifF h2 H
          refine Tr.cond (b := false) (by kernel_rfl) (fun h => nomatch h) (fun _ => ?_)
          refine Tr.exit ?_
          refine And.intro (fun _ => ?_) (fun h => absurd rfl h)
          have H := Option.some.inj H
          subst H
          have H := Ho4
          dsimp only at H
          exact Exists.intro y2 (And.intro H (St.sub_of [3, 2, 0] [] (by kernel_rfl)))
        · have H := bifT h2 H
          refine Tr.cond (b := true) (by kernel_rfl) (fun _ => ?_) (fun h => nomatch h)
          refine Tr.skip ?_
          show Tr _ _ _ _ _
          refine Tr.seq ?_
          refine Tr.block ?_
          refine Tr.at ?_
          refine LAt.runU tOk 4 (by kernel_rfl) ?_
          obtain ⟨v5, ev5, H⟩ := bind_some H
          refine LAt.indexF tOk (t := 61) (ty := 0) (x := (.tmp 20)) (y := (.tmp 21)) (d := 22) (g := none) ⟨(.slot 20), [], 0, false, 1, (CV.frzEs (x0.map byteRow))⟩ y1 [.lit (.int .u8 v5)] _ (by kernel_rfl) (by kernel_rfl) (by kernel_rfl) (by kernel_rfl) rfl (idx_isF ev5) rfl ?_
          refine LAt.runU tOk 6 (by kernel_rfl) ?_
          refine LAt.doneU [3, 27, 26, 25, 24, 23, 22, 21, 20, 19, 18, 15, 14, 13, 12, 11, 10, 9, 8, 4, 2, 0] [] (by kernel_rfl) ?_
          show Tr _ _ _ _ _
          refine Tr.at ?_
          refine LAt.runU tOk 3 (by kernel_rfl) ?_
          refine LAt.doneU [4, 17, 16, 3, 27, 26, 25, 24, 23, 22, 21, 20, 19, 18, 15, 14, 13, 12, 11, 10, 9, 8, 2, 0] [] (by kernel_rfl) ?_
          exact Exists.intro (mo4, ((IntKind.wrap .i64 (y1 + 1)), (IntKind.wrap .i64 (BitVec.ofInt (IntKind.bits .i64) (IntKind.wrap .i64 ((IntKind.wrap .i64 ((IntKind.wrap .i64 (y2 * 137)) + (IntKind.wrap .i64 v5))) + 11)) &&& BitVec.ofInt (IntKind.bits .i64) 1073741823).toNat))) (And.intro H (And.intro (Nat.lt_succ_self mo4) (St.sub_of [4, 3, 2, 0] [] (by kernel_rfl))))
  · rintro y3 H
    have H : (spec_l1New_J1 n x0 y3) = some r := H
    unfold spec_l1New_J1 at H
    show Tr _ _ _ _ _
    refine Tr.rs ?_
    refine LAt.runU tOk 5 (by kernel_rfl) ?_
    refine LAt.doneU [2] [31] (by kernel_rfl) ?_
    refine Tr.ret ?_
    have H := Option.some.inj H
    subst H
    exact And.intro (by kernel_rfl) (by kernel_rfl)

def spec_l1ByteF (n : Nat) (x0 : Src) : Option (Int × Src) :=
  (bif (decide ((0 : Int) ≤ 33)) then (bif (decide ((0 : Int) ≤ 47)) then (bif (decide (x0.i < (x0.b.length : Int))) then ((idx x0.b x0.i).bind fun v3 => (some ((IntKind.wrap .i64 (BitVec.ofInt (IntKind.bits .i64) (IntKind.wrap .i64 ((IntKind.wrap .i64 (BitVec.ofInt (IntKind.bits .i64) (IntKind.wrap .i64 (BitVec.ofInt (IntKind.bits .i64) (Int.fdiv (IntKind.wrap .i64 ((IntKind.wrap .i64 (x0.h * 6364136223846793005)) + 1442695040888963407)) (2 ^ min ((33 : Int)).toNat (IntKind.bits .i64))) ^^^ BitVec.ofInt (IntKind.bits .i64) (Int.fdiv (IntKind.wrap .i64 ((IntKind.wrap .i64 (x0.h * 6364136223846793005)) + 1442695040888963407)) (2 ^ min ((47 : Int)).toNat (IntKind.bits .i64)))).toNat) &&& BitVec.ofInt (IntKind.bits .i64) 255).toNat) + (IntKind.wrap .i64 v3))) &&& BitVec.ofInt (IntKind.bits .i64) 255).toNat), (⟨x0.b, (IntKind.wrap .i64 (x0.i + 1)), (IntKind.wrap .i64 ((IntKind.wrap .i64 (x0.h * 6364136223846793005)) + 1442695040888963407))⟩ : Src)))) else (some ((IntKind.wrap .i64 (BitVec.ofInt (IntKind.bits .i64) (IntKind.wrap .i64 (BitVec.ofInt (IntKind.bits .i64) (Int.fdiv (IntKind.wrap .i64 ((IntKind.wrap .i64 (x0.h * 6364136223846793005)) + 1442695040888963407)) (2 ^ min ((33 : Int)).toNat (IntKind.bits .i64))) ^^^ BitVec.ofInt (IntKind.bits .i64) (Int.fdiv (IntKind.wrap .i64 ((IntKind.wrap .i64 (x0.h * 6364136223846793005)) + 1442695040888963407)) (2 ^ min ((47 : Int)).toNat (IntKind.bits .i64)))).toNat) &&& BitVec.ofInt (IntKind.bits .i64) 255).toNat), (⟨x0.b, x0.i, (IntKind.wrap .i64 ((IntKind.wrap .i64 (x0.h * 6364136223846793005)) + 1442695040888963407))⟩ : Src)))) else none) else none)
/-- loop.example/g00326/spec.l1Byte -/
theorem spec_l1Byte (n : Nat) (x0 : Src) (r : Int × Src) (H : spec_l1ByteF n x0 = some r) : LCall Try.prog 83 [.ptr (CV.frzRow (Src.row x0))] [.val false [.lit (.int .i64 r.1)]] [(0, (CV.frzRow (Src.row r.2)))] := by
  refine LCall.of_body tOk Try.func83 rfl (c := (.seq (.region 0 (rg Try.f83 0) false) (.seq (.region 1 (rg Try.f83 1) false) (.seq (.region 2 (rg Try.f83 2) true) (.seq (.seq (.region 3 (rg Try.f83 3) true) (.cond (.tmp 34) (.seq (.region 4 (rg Try.f83 4) true) (.region 5 (rg Try.f83 5) false)) .skip)) (.seq (.region 6 (rg Try.f83 6) false) .ret)))))) (by kernel_rfl) (Nat.le_of_ble_eq_true (by kernel_rfl)) 1 (rs := [.tmp 2]) rfl [] .nil [(false, [.lit (.int .i64 r.1)])] [] [(0, (CV.frzRow (Src.row r.2)))] fun cx => ?_
  show Tr _ _ _ ⟨58, 1, [(0, .adr (.box 0) [(0, 0)] 3 0)], [(0, (CV.frzRow (Src.row x0)))]⟩ _
  unfold spec_l1ByteF at H
  refine Tr.rs ?_
  refine LAt.runU tOk 1 (by kernel_rfl) ?_
  refine LAt.doneU [2, 0] [0] (by kernel_rfl) ?_
  refine Tr.rs ?_
  refine LAt.runU tOk 10 (by kernel_rfl) ?_
  refine LAt.doneU [2, 0] [0] (by kernel_rfl) ?_
  obtain ⟨hg1, H⟩ := guard_some H
  obtain ⟨hg2, H⟩ := guard_some H
  refine Tr.draws mixed 13 (by kernel_rfl) ⟨58, 1, [(3, .val false [.lit (.int .i64 (IntKind.wrap .i64 (BitVec.ofInt (IntKind.bits .i64) (IntKind.wrap .i64 (BitVec.ofInt (IntKind.bits .i64) (Int.fdiv (IntKind.wrap .i64 ((IntKind.wrap .i64 (x0.h * 6364136223846793005)) + 1442695040888963407)) (2 ^ min ((33 : Int)).toNat (IntKind.bits .i64))) ^^^ BitVec.ofInt (IntKind.bits .i64) (Int.fdiv (IntKind.wrap .i64 ((IntKind.wrap .i64 (x0.h * 6364136223846793005)) + 1442695040888963407)) (2 ^ min ((47 : Int)).toNat (IntKind.bits .i64)))).toNat) &&& BitVec.ofInt (IntKind.bits .i64) 255).toNat))]), (2, .val false [.lit (.int .i64 0)]), (0, .adr (.box 0) [(0, 0)] 3 0)], [(0, [.sl false 1 (CV.frzEs (x0.b.map byteRow)), .lit (.int .i64 x0.i), .lit (.int .i64 (IntKind.wrap .i64 ((IntKind.wrap .i64 (x0.h * 6364136223846793005)) + 1442695040888963407)))])]⟩ (fun cx => ?_) ?_
  · refine AT.runU tOk [(0, []), (1, []), (2, []), (3, [4]), (5, []), (6, []), (7, []), (8, [9])] 5 [⟨[9], 3, 20, 21⟩, ⟨[4], 3, 15, 16⟩] [8, 7, 6, 5, 3, 2, 1, 0] rfl (by kernel_rfl) (fun cx => ?_)
    refine AT.big2 tOk 4 9 (by kernel_rfl) (And.intro (by kernel_rfl) ?_) (And.intro (by kernel_rfl) ?_)
    · refine LAt.binC tOk (op := .shr) (t := 3) (ty := 86) (ty' := 3) (x := (.tmp 16)) (y := (.const (.int .u64 33))) (d := 17) (g := none) (.int .i64 (IntKind.wrap .i64 ((IntKind.wrap .i64 (x0.h * 6364136223846793005)) + 1442695040888963407))) (.int .u64 33) (.int .i64 (Int.fdiv (IntKind.wrap .i64 ((IntKind.wrap .i64 (x0.h * 6364136223846793005)) + 1442695040888963407)) (2 ^ min ((33 : Int)).toNat (IntKind.bits .i64)))) _ (by kernel_rfl) (by kernel_rfl) (by kernel_rfl) (by kernel_rfl) (by kernel_rfl) (φ := (0 : Int) ≤ 33) (by kernel_rfl) (of_decide_eq_true hg1) rfl ?_
      refine LAt.fin (by kernel_rfl) (And.intro (And.intro (by kernel_rfl) (by kernel_rfl)) ?_)
      refine AT.big1 tOk 9 (by kernel_rfl) (by kernel_rfl) ?_
      refine LAt.binC tOk (op := .shr) (t := 3) (ty := 86) (ty' := 3) (x := (.tmp 21)) (y := (.const (.int .u64 47))) (d := 22) (g := none) (.int .i64 (IntKind.wrap .i64 ((IntKind.wrap .i64 (x0.h * 6364136223846793005)) + 1442695040888963407))) (.int .u64 47) (.int .i64 (Int.fdiv (IntKind.wrap .i64 ((IntKind.wrap .i64 (x0.h * 6364136223846793005)) + 1442695040888963407)) (2 ^ min ((47 : Int)).toNat (IntKind.bits .i64)))) _ (by kernel_rfl) (by kernel_rfl) (by kernel_rfl) (by kernel_rfl) (by kernel_rfl) (φ := (0 : Int) ≤ 47) (by kernel_rfl) (of_decide_eq_true hg2) rfl ?_
      refine LAt.fin (by kernel_rfl) (And.intro (And.intro (by kernel_rfl) (by kernel_rfl)) ?_)
      refine AT.runU tOk [(10, []), (11, []), (12, [])] 0 [⟨[9], 3, 20, 21⟩, ⟨[4], 3, 15, 16⟩] [12, 11, 10, 9, 4, 8, 7, 6, 5, 3, 2, 1, 0] rfl (by kernel_rfl) (fun cx => ?_)
      exact AT.done [3, 2, 0] [0] _ (by kernel_rfl) (by kernel_rfl) rfl
    · refine LAt.binC tOk (op := .shr) (t := 3) (ty := 86) (ty' := 3) (x := (.tmp 21)) (y := (.const (.int .u64 47))) (d := 22) (g := none) (.int .i64 (IntKind.wrap .i64 ((IntKind.wrap .i64 (x0.h * 6364136223846793005)) + 1442695040888963407))) (.int .u64 47) (.int .i64 (Int.fdiv (IntKind.wrap .i64 ((IntKind.wrap .i64 (x0.h * 6364136223846793005)) + 1442695040888963407)) (2 ^ min ((47 : Int)).toNat (IntKind.bits .i64)))) _ (by kernel_rfl) (by kernel_rfl) (by kernel_rfl) (by kernel_rfl) (by kernel_rfl) (φ := (0 : Int) ≤ 47) (by kernel_rfl) (of_decide_eq_true hg2) rfl ?_
      refine LAt.fin (by kernel_rfl) (And.intro (And.intro (by kernel_rfl) (by kernel_rfl)) ?_)
      refine AT.big1 tOk 4 (by kernel_rfl) (by kernel_rfl) ?_
      refine LAt.binC tOk (op := .shr) (t := 3) (ty := 86) (ty' := 3) (x := (.tmp 16)) (y := (.const (.int .u64 33))) (d := 17) (g := none) (.int .i64 (IntKind.wrap .i64 ((IntKind.wrap .i64 (x0.h * 6364136223846793005)) + 1442695040888963407))) (.int .u64 33) (.int .i64 (Int.fdiv (IntKind.wrap .i64 ((IntKind.wrap .i64 (x0.h * 6364136223846793005)) + 1442695040888963407)) (2 ^ min ((33 : Int)).toNat (IntKind.bits .i64)))) _ (by kernel_rfl) (by kernel_rfl) (by kernel_rfl) (by kernel_rfl) (by kernel_rfl) (φ := (0 : Int) ≤ 33) (by kernel_rfl) (of_decide_eq_true hg1) rfl ?_
      refine LAt.fin (by kernel_rfl) (And.intro (And.intro (by kernel_rfl) (by kernel_rfl)) ?_)
      refine AT.runU tOk [(10, []), (11, []), (12, [])] 0 [⟨[9], 3, 20, 21⟩, ⟨[4], 3, 15, 16⟩] [12, 11, 10, 4, 9, 8, 7, 6, 5, 3, 2, 1, 0] rfl (by kernel_rfl) (fun cx => ?_)
      exact AT.done [3, 2, 0] [0] _ (by kernel_rfl) (by kernel_rfl) rfl
  · refine Tr.seq ?_
    refine Tr.draws mixed 10 (by kernel_rfl) ⟨58, 1, [(34, .val false [.lit (.bool (decide (x0.i < (x0.b.length : Int))))]), (3, .val false [.lit (.int .i64 (IntKind.wrap .i64 (BitVec.ofInt (IntKind.bits .i64) (IntKind.wrap .i64 (BitVec.ofInt (IntKind.bits .i64) (Int.fdiv (IntKind.wrap .i64 ((IntKind.wrap .i64 (x0.h * 6364136223846793005)) + 1442695040888963407)) (2 ^ min ((33 : Int)).toNat (IntKind.bits .i64))) ^^^ BitVec.ofInt (IntKind.bits .i64) (Int.fdiv (IntKind.wrap .i64 ((IntKind.wrap .i64 (x0.h * 6364136223846793005)) + 1442695040888963407)) (2 ^ min ((47 : Int)).toNat (IntKind.bits .i64)))).toNat) &&& BitVec.ofInt (IntKind.bits .i64) 255).toNat))]), (2, .val false [.lit (.int .i64 0)]), (0, .adr (.box 0) [(0, 0)] 3 0)], [(0, [.sl false 1 (CV.frzEs (x0.b.map byteRow)), .lit (.int .i64 x0.i), .lit (.int .i64 (IntKind.wrap .i64 ((IntKind.wrap .i64 (x0.h * 6364136223846793005)) + 1442695040888963407)))])]⟩ (fun cx => ?_) ?_
    · refine AT.runU tOk [(0, []), (1, []), (2, []), (3, []), (4, []), (5, []), (6, []), (7, [])] 2 [⟨[], 61, 31, 32⟩, ⟨[], 3, 27, 28⟩] [7, 6, 5, 4, 3, 2, 1, 0] rfl (by kernel_rfl) (fun cx => ?_)
      refine AT.lenE tOk 8 (t := 61) (ty := 3) (e := 5) (x := (.tmp 32)) (d := 33) (g := none) ⟨(.box 0), [(0, 0)], 0, false, 1, (CV.frzEs (x0.b.map byteRow))⟩ (x0.b).length _ (by kernel_rfl) (by kernel_rfl) (by kernel_rfl) (by kernel_rfl) (by kernel_rfl) (by kernel_rfl) (by kernel_rfl) (frz_len _ _) rfl (fun cx => ?_)
      refine AT.runU tOk [(9, [])] 0 [⟨[], 61, 31, 32⟩, ⟨[], 3, 27, 28⟩] [9, 8, 7, 6, 5, 4, 3, 2, 1, 0] rfl (by kernel_rfl) (fun cx => ?_)
      exact AT.done [34, 3, 2, 0] [0] _ (by kernel_rfl) (by kernel_rfl) rfl
    · refine Tr.to ⟨58, 1, [(34, .val false [.lit (.bool (decide (x0.i < (x0.b.length : Int))))]), (3, .val false [.lit (.int .i64 (IntKind.wrap .i64 (BitVec.ofInt (IntKind.bits .i64) (IntKind.wrap .i64 (BitVec.ofInt (IntKind.bits .i64) (Int.fdiv (IntKind.wrap .i64 ((IntKind.wrap .i64 (x0.h * 6364136223846793005)) + 1442695040888963407)) (2 ^ min ((33 : Int)).toNat (IntKind.bits .i64))) ^^^ BitVec.ofInt (IntKind.bits .i64) (Int.fdiv (IntKind.wrap .i64 ((IntKind.wrap .i64 (x0.h * 6364136223846793005)) + 1442695040888963407)) (2 ^ min ((47 : Int)).toNat (IntKind.bits .i64)))).toNat) &&& BitVec.ofInt (IntKind.bits .i64) 255).toNat))]), (2, .val false [.lit (.int .i64 0)]), (0, .adr (.box 0) [(0, 0)] 3 0)], [(0, [.sl false 1 (CV.frzEs (x0.b.map byteRow)), .lit (.int .i64 x0.i), .lit (.int .i64 (IntKind.wrap .i64 ((IntKind.wrap .i64 (x0.h * 6364136223846793005)) + 1442695040888963407)))])]⟩ (by kernel_rfl) ?_
      cases h1 : (decide (x0.i < (x0.b.length : Int)))
      · have H := bifF h1 H
        refine Tr.cond (b := false) (by kernel_rfl) (fun h => nomatch h) (fun _ => ?_)
        refine Tr.skip ?_
        show Tr _ _ _ _ _
        refine Tr.rs ?_
        refine LAt.runU tOk 2 (by kernel_rfl) ?_
        refine LAt.doneU [2, 0] [0] (by kernel_rfl) ?_
        refine Tr.ret ?_
        have H := Option.some.inj H
        subst H
        exact Fin.ofY _ [(false, [.lit (.int .i64 (IntKind.wrap .i64 (BitVec.ofInt (IntKind.bits .i64) (IntKind.wrap .i64 (BitVec.ofInt (IntKind.bits .i64) (Int.fdiv (IntKind.wrap .i64 ((IntKind.wrap .i64 (x0.h * 6364136223846793005)) + 1442695040888963407)) (2 ^ min ((33 : Int)).toNat (IntKind.bits .i64))) ^^^ BitVec.ofInt (IntKind.bits .i64) (Int.fdiv (IntKind.wrap .i64 ((IntKind.wrap .i64 (x0.h * 6364136223846793005)) + 1442695040888963407)) (2 ^ min ((47 : Int)).toNat (IntKind.bits .i64)))).toNat) &&& BitVec.ofInt (IntKind.bits .i64) 255).toNat))])] [] _ [] _ [(0, [.sl false 1 (CV.frzEs (x0.b.map byteRow)), .lit (.int .i64 x0.i), .lit (.int .i64 (IntKind.wrap .i64 ((IntKind.wrap .i64 (x0.h * 6364136223846793005)) + 1442695040888963407)))])] (by kernel_rfl) rfl rfl rfl (by kernel_rfl) (by kernel_rfl) (by kernel_rfl) (by kernel_rfl) rfl rfl rfl
      · have H := bifT h1 H
        refine Tr.cond (b := true) (by kernel_rfl) (fun _ => ?_) (fun h => nomatch h)
        obtain ⟨v3, ev3, H⟩ := bind_some H
        refine Tr.draws mixed 15 (by kernel_rfl) ⟨58, 1, [(3, .val false [.lit (.int .i64 (IntKind.wrap .i64 (BitVec.ofInt (IntKind.bits .i64) (IntKind.wrap .i64 ((IntKind.wrap .i64 (BitVec.ofInt (IntKind.bits .i64) (IntKind.wrap .i64 (BitVec.ofInt (IntKind.bits .i64) (Int.fdiv (IntKind.wrap .i64 ((IntKind.wrap .i64 (x0.h * 6364136223846793005)) + 1442695040888963407)) (2 ^ min ((33 : Int)).toNat (IntKind.bits .i64))) ^^^ BitVec.ofInt (IntKind.bits .i64) (Int.fdiv (IntKind.wrap .i64 ((IntKind.wrap .i64 (x0.h * 6364136223846793005)) + 1442695040888963407)) (2 ^ min ((47 : Int)).toNat (IntKind.bits .i64)))).toNat) &&& BitVec.ofInt (IntKind.bits .i64) 255).toNat) + (IntKind.wrap .i64 v3))) &&& BitVec.ofInt (IntKind.bits .i64) 255).toNat))]), (2, .val false [.lit (.int .i64 0)]), (0, .adr (.box 0) [(0, 0)] 3 0)], [(0, [.sl false 1 (CV.frzEs (x0.b.map byteRow)), .lit (.int .i64 x0.i), .lit (.int .i64 (IntKind.wrap .i64 ((IntKind.wrap .i64 (x0.h * 6364136223846793005)) + 1442695040888963407)))])]⟩ (fun cx => ?_) ?_
        · refine AT.runU tOk [(0, []), (1, []), (2, []), (3, []), (4, []), (5, []), (6, []), (7, []), (8, [])] 6 [⟨[], 3, 42, 43⟩, ⟨[], 61, 38, 39⟩] [8, 7, 6, 5, 4, 3, 2, 1, 0] rfl (by kernel_rfl) (fun cx => ?_)
          refine AT.indexF tOk 9 (t := 61) (ty := 0) (x := (.tmp 39)) (y := (.tmp 43)) (d := 44) (g := none) ⟨(.box 0), [(0, 0)], 0, false, 1, (CV.frzEs (x0.b.map byteRow))⟩ x0.i [.lit (.int .u8 v3)] _ (by kernel_rfl) (by kernel_rfl) (by kernel_rfl) (by kernel_rfl) (by kernel_rfl) (by kernel_rfl) rfl (idx_isF ev3) rfl (fun cx => ?_)
          refine AT.runU tOk [(10, []), (11, []), (12, []), (13, []), (14, [])] 0 [⟨[], 3, 42, 43⟩, ⟨[], 61, 38, 39⟩] [14, 13, 12, 11, 10, 9, 8, 7, 6, 5, 4, 3, 2, 1, 0] rfl (by kernel_rfl) (fun cx => ?_)
          exact AT.done [3, 2, 0] [0] _ (by kernel_rfl) (by kernel_rfl) rfl
        · refine Tr.at ?_
          refine LAt.runU tOk 9 (by kernel_rfl) ?_
          refine LAt.doneU [3, 2, 0] [0] (by kernel_rfl) ?_
          show Tr _ _ _ _ _
          refine Tr.rs ?_
          refine LAt.runU tOk 2 (by kernel_rfl) ?_
          refine LAt.doneU [2, 0] [0] (by kernel_rfl) ?_
          refine Tr.ret ?_
          have H := Option.some.inj H
          subst H
          exact Fin.ofY _ [(false, [.lit (.int .i64 (IntKind.wrap .i64 (BitVec.ofInt (IntKind.bits .i64) (IntKind.wrap .i64 ((IntKind.wrap .i64 (BitVec.ofInt (IntKind.bits .i64) (IntKind.wrap .i64 (BitVec.ofInt (IntKind.bits .i64) (Int.fdiv (IntKind.wrap .i64 ((IntKind.wrap .i64 (x0.h * 6364136223846793005)) + 1442695040888963407)) (2 ^ min ((33 : Int)).toNat (IntKind.bits .i64))) ^^^ BitVec.ofInt (IntKind.bits .i64) (Int.fdiv (IntKind.wrap .i64 ((IntKind.wrap .i64 (x0.h * 6364136223846793005)) + 1442695040888963407)) (2 ^ min ((47 : Int)).toNat (IntKind.bits .i64)))).toNat) &&& BitVec.ofInt (IntKind.bits .i64) 255).toNat) + (IntKind.wrap .i64 v3))) &&& BitVec.ofInt (IntKind.bits .i64) 255).toNat))])] [] _ [] _ [(0, [.sl false 1 (CV.frzEs (x0.b.map byteRow)), .lit (.int .i64 (IntKind.wrap .i64 (x0.i + 1))), .lit (.int .i64 (IntKind.wrap .i64 ((IntKind.wrap .i64 (x0.h * 6364136223846793005)) + 1442695040888963407)))])] (by kernel_rfl) rfl rfl rfl (by kernel_rfl) (by kernel_rfl) (by kernel_rfl) (by kernel_rfl) rfl rfl rfl

def spec_l1BelowF (n : Nat) (x0 : Src) (x1 : Int) : Option (Int × Src) :=
  (bif (decide (x1 ≤ 0)) then (some (0, x0)) else (bif (decide (x1 ≤ 256)) then ((spec_l1ByteF n x0).bind fun r5 => (bif (decide ((x1 : Int) ≠ 0)) then (some ((Int.tmod r5.1 x1), r5.2)) else none)) else ((spec_l1ByteF n x0).bind fun r1 => ((spec_l1ByteF n r1.2).bind fun r2 => ((spec_l1ByteF n r2.2).bind fun r3 => (bif (decide ((x1 : Int) ≠ 0)) then (some ((Int.tmod (IntKind.wrap .i64 ((IntKind.wrap .i64 ((IntKind.wrap .i64 (r1.1 * 65536)) + (IntKind.wrap .i64 (r2.1 * 256)))) + r3.1)) x1), r3.2)) else none))))))
/-- loop.example/g00326/spec.l1Below -/
theorem spec_l1Below (n : Nat) (x0 : Src) (x1 : Int) (r : Int × Src) (H : spec_l1BelowF n x0 x1 = some r) : LCall Try.prog 76 [.ptr (CV.frzRow (Src.row x0)), .val false [.lit (.int .i64 x1)]] [.val false [.lit (.int .i64 r.1)]] [(0, (CV.frzRow (Src.row r.2)))] := by
  refine LCall.of_body tOk Try.func76 rfl (c := (.seq (.region 0 (rg Try.f76 0) false) (.seq (.seq (.region 1 (rg Try.f76 1) false) (.cond (.tmp 9) (.seq (.region 2 (rg Try.f76 2) false) .ret) .skip)) (.seq (.seq (.region 3 (rg Try.f76 3) false) (.cond (.tmp 11) (.seq (.region 4 (rg Try.f76 4) false) .ret) .skip)) (.seq (.region 5 (rg Try.f76 5) false) (.seq (.region 6 (rg Try.f76 6) false) (.seq (.region 7 (rg Try.f76 7) false) (.seq (.region 8 (rg Try.f76 8) false) .ret)))))))) (by kernel_rfl) (Nat.le_of_ble_eq_true (by kernel_rfl)) 1 (rs := [.tmp 4]) rfl [] .nil [(false, [.lit (.int .i64 r.1)])] [] [(0, (CV.frzRow (Src.row r.2)))] fun cx => ?_
  show Tr _ _ _ ⟨31, 1, [(0, .adr (.box 0) [(0, 0)] 3 0), (1, .val false [.lit (.int .i64 x1)])], [(0, (CV.frzRow (Src.row x0)))]⟩ _
  unfold spec_l1BelowF at H
  refine Tr.rs ?_
  refine LAt.runU tOk 1 (by kernel_rfl) ?_
  refine LAt.doneU [4, 0, 1] [0] (by kernel_rfl) ?_
  refine Tr.seq ?_
  refine Tr.rs ?_
  refine LAt.runU tOk 2 (by kernel_rfl) ?_
  refine LAt.doneU [9, 4, 0, 1] [0] (by kernel_rfl) ?_
  refine Tr.to ⟨31, 1, [(9, .val false [.lit (.bool (decide (x1 ≤ 0)))]), (4, .val false [.lit (.int .i64 0)]), (0, .adr (.box 0) [(0, 0)] 3 0), (1, .val false [.lit (.int .i64 x1)])], [(0, (CV.frzRow (Src.row x0)))]⟩ (by kernel_rfl) ?_
  cases h1 : (decide (x1 ≤ 0))
  · have H := bifF h1 H
    refine Tr.cond (b := false) (by kernel_rfl) (fun h => nomatch h) (fun _ => ?_)
    refine Tr.skip ?_
    show Tr _ _ _ _ _
    refine Tr.seq ?_
    refine Tr.rs ?_
    refine LAt.runU tOk 2 (by kernel_rfl) ?_
    refine LAt.doneU [11, 4, 0, 1] [0] (by kernel_rfl) ?_
    refine Tr.to ⟨31, 1, [(11, .val false [.lit (.bool (decide (x1 ≤ 256)))]), (4, .val false [.lit (.int .i64 0)]), (0, .adr (.box 0) [(0, 0)] 3 0), (1, .val false [.lit (.int .i64 x1)])], [(0, (CV.frzRow (Src.row x0)))]⟩ (by kernel_rfl) ?_
    cases h2 : (decide (x1 ≤ 256))
    · have H := bifF h2 H
      refine Tr.cond (b := false) (by kernel_rfl) (fun h => nomatch h) (fun _ => ?_)
      refine Tr.skip ?_
      show Tr _ _ _ _ _
      refine Tr.rs ?_
      refine LAt.runU tOk 1 (by kernel_rfl) ?_
      obtain ⟨r1, er1, H⟩ := bind_some H
      refine LAt.callL tOk [.lend] (f := 83) (av := #[.tmp 16]) (ats := #[90]) (d := (some 17)) (ty := 3) (g := none) (by kernel_rfl) (by kernel_rfl) (by kernel_rfl) [] (spec_l1Byte n x0 r1 er1) (by kernel_rfl) (.inl rfl) ?_
      refine LAt.runU tOk 1 (by kernel_rfl) ?_
      refine LAt.doneU [5, 4, 0, 1] [0] (by kernel_rfl) ?_
      refine Tr.rs ?_
      refine LAt.runU tOk 1 (by kernel_rfl) ?_
      obtain ⟨r2, er2, H⟩ := bind_some H
      refine LAt.callL tOk [.lend] (f := 83) (av := #[.tmp 18]) (ats := #[90]) (d := (some 19)) (ty := 3) (g := none) (by kernel_rfl) (by kernel_rfl) (by kernel_rfl) [] (spec_l1Byte n r1.2 r2 er2) (by kernel_rfl) (.inl rfl) ?_
      refine LAt.runU tOk 1 (by kernel_rfl) ?_
      refine LAt.doneU [6, 5, 4, 0, 1] [0] (by kernel_rfl) ?_
      refine Tr.rs ?_
      refine LAt.runU tOk 1 (by kernel_rfl) ?_
      obtain ⟨r3, er3, H⟩ := bind_some H
      refine LAt.callL tOk [.lend] (f := 83) (av := #[.tmp 20]) (ats := #[90]) (d := (some 21)) (ty := 3) (g := none) (by kernel_rfl) (by kernel_rfl) (by kernel_rfl) [] (spec_l1Byte n r2.2 r3 er3) (by kernel_rfl) (.inl rfl) ?_
      refine LAt.runU tOk 1 (by kernel_rfl) ?_
      refine LAt.doneU [7, 6, 5, 4, 0, 1] [0] (by kernel_rfl) ?_
      refine Tr.rs ?_
      refine LAt.runU tOk 8 (by kernel_rfl) ?_
      obtain ⟨hg4, H⟩ := guard_some H
      refine LAt.binC tOk (op := .rem) (t := 3) (ty := 3) (ty' := 3) (x := (.tmp 28)) (y := (.tmp 29)) (d := 30) (g := none) (.int .i64 (IntKind.wrap .i64 ((IntKind.wrap .i64 ((IntKind.wrap .i64 (r1.1 * 65536)) + (IntKind.wrap .i64 (r2.1 * 256)))) + r3.1))) (.int .i64 x1) (.int .i64 (Int.tmod (IntKind.wrap .i64 ((IntKind.wrap .i64 ((IntKind.wrap .i64 (r1.1 * 65536)) + (IntKind.wrap .i64 (r2.1 * 256)))) + r3.1)) x1)) _ (by kernel_rfl) (by kernel_rfl) (by kernel_rfl) (by kernel_rfl) (by kernel_rfl) (φ := (IntKind.i64 = IntKind.i64 ∧ (x1 : Int) ≠ 0)) (by kernel_rfl) (⟨rfl, of_decide_eq_true hg4⟩) rfl ?_
      refine LAt.runU tOk 1 (by kernel_rfl) ?_
      refine LAt.doneU [4, 0] [0] (by kernel_rfl) ?_
      refine Tr.ret ?_
      have H := Option.some.inj H
      subst H
      exact Fin.ofY _ [(false, [.lit (.int .i64 (Int.tmod (IntKind.wrap .i64 ((IntKind.wrap .i64 ((IntKind.wrap .i64 (r1.1 * 65536)) + (IntKind.wrap .i64 (r2.1 * 256)))) + r3.1)) x1))])] [] _ [] _ [(0, (CV.frzRow (Src.row r3.2)))] (by kernel_rfl) rfl rfl rfl (by kernel_rfl) (by kernel_rfl) (by kernel_rfl) (by kernel_rfl) rfl rfl rfl
    · have H := bifT h2 H
      refine Tr.cond (b := true) (by kernel_rfl) (fun _ => ?_) (fun h => nomatch h)
      refine Tr.rs ?_
      refine LAt.runU tOk 1 (by kernel_rfl) ?_
      obtain ⟨r5, er5, H⟩ := bind_some H
      refine LAt.callL tOk [.lend] (f := 83) (av := #[.tmp 12]) (ats := #[90]) (d := (some 13)) (ty := 3) (g := none) (by kernel_rfl) (by kernel_rfl) (by kernel_rfl) [] (spec_l1Byte n x0 r5 er5) (by kernel_rfl) (.inl rfl) ?_
      refine LAt.runU tOk 1 (by kernel_rfl) ?_
      obtain ⟨hg6, H⟩ := guard_some H
      refine LAt.binC tOk (op := .rem) (t := 3) (ty := 3) (ty' := 3) (x := (.tmp 13)) (y := (.tmp 14)) (d := 15) (g := none) (.int .i64 r5.1) (.int .i64 x1) (.int .i64 (Int.tmod r5.1 x1)) _ (by kernel_rfl) (by kernel_rfl) (by kernel_rfl) (by kernel_rfl) (by kernel_rfl) (φ := (IntKind.i64 = IntKind.i64 ∧ (x1 : Int) ≠ 0)) (by kernel_rfl) (⟨rfl, of_decide_eq_true hg6⟩) rfl ?_
      refine LAt.runU tOk 1 (by kernel_rfl) ?_
      refine LAt.doneU [4, 0, 1] [0] (by kernel_rfl) ?_
      refine Tr.ret ?_
      have H := Option.some.inj H
      subst H
      exact Fin.ofY _ [(false, [.lit (.int .i64 (Int.tmod r5.1 x1))])] [] _ [] _ [(0, (CV.frzRow (Src.row r5.2)))] (by kernel_rfl) rfl rfl rfl (by kernel_rfl) (by kernel_rfl) (by kernel_rfl) (by kernel_rfl) rfl rfl rfl
  · have H := bifT h1 H
    refine Tr.cond (b := true) (by kernel_rfl) (fun _ => ?_) (fun h => nomatch h)
    refine Tr.rs ?_
    refine LAt.runU tOk 1 (by kernel_rfl) ?_
    refine LAt.doneU [4, 0, 1] [0] (by kernel_rfl) ?_
    refine Tr.ret ?_
    have H := Option.some.inj H
    subst H
    exact Fin.ofY _ [(false, [.lit (.int .i64 0)])] [] _ [] _ [(0, (CV.frzRow (Src.row x0)))] (by kernel_rfl) rfl rfl rfl (by kernel_rfl) (by kernel_rfl) (by kernel_rfl) (by kernel_rfl) rfl rfl rfl

def spec_l1OnceF (n : Nat) (x0 : Src) (x1 : Int) : Option (Bool × Src) :=
  ((spec_l1BelowF n x0 x1).bind fun r1 => (some ((r1.1 == 0), r1.2)))
/-- loop.example/g00326/spec.l1Once -/
theorem spec_l1Once (n : Nat) (x0 : Src) (x1 : Int) (r : Bool × Src) (H : spec_l1OnceF n x0 x1 = some r) : LCall Try.prog 84 [.ptr (CV.frzRow (Src.row x0)), .val false [.lit (.int .i64 x1)]] [.val false [.lit (.bool r.1)]] [(0, (CV.frzRow (Src.row r.2)))] := by
  refine LCall.of_body tOk Try.func84 rfl (c := (.seq (.region 0 (rg Try.f84 0) false) (.seq (.region 1 (rg Try.f84 1) false) .ret))) (by kernel_rfl) (Nat.le_of_ble_eq_true (by kernel_rfl)) 1 (rs := [.tmp 4]) rfl [] .nil [(false, [.lit (.bool r.1)])] [] [(0, (CV.frzRow (Src.row r.2)))] fun cx => ?_
  show Tr _ _ _ ⟨9, 1, [(0, .adr (.box 0) [(0, 0)] 3 0), (1, .val false [.lit (.int .i64 x1)])], [(0, (CV.frzRow (Src.row x0)))]⟩ _
  unfold spec_l1OnceF at H
  refine Tr.rs ?_
  refine LAt.runU tOk 1 (by kernel_rfl) ?_
  refine LAt.doneU [4, 0, 1] [0] (by kernel_rfl) ?_
  refine Tr.rs ?_
  refine LAt.runU tOk 2 (by kernel_rfl) ?_
  obtain ⟨r1, er1, H⟩ := bind_some H
  refine LAt.callL tOk [.lend, .rd] (f := 76) (av := #[.tmp 5, .tmp 6]) (ats := #[90, 3]) (d := (some 7)) (ty := 3) (g := none) (by kernel_rfl) (by kernel_rfl) (by kernel_rfl) [] (spec_l1Below n x0 x1 r1 er1) (by kernel_rfl) (.inl rfl) ?_
  refine LAt.runU tOk 2 (by kernel_rfl) ?_
  refine LAt.doneU [4, 0] [0] (by kernel_rfl) ?_
  refine Tr.ret ?_
  have H := Option.some.inj H
  subst H
  exact Fin.ofY _ [(false, [.lit (.bool (r1.1 == 0))])] [] _ [] _ [(0, (CV.frzRow (Src.row r1.2)))] (by kernel_rfl) rfl rfl rfl (by kernel_rfl) (by kernel_rfl) (by kernel_rfl) (by kernel_rfl) rfl rfl rfl

def spec_l1IntF (n : Nat) (x0 : Src) (x1 : (List Int)) : Option (Int × Src) :=
  ((spec_l1BelowF n x0 (x1.length : Int)).bind fun r1 => ((idx x1 r1.1).bind fun v2 => (some (v2, r1.2))))
/-- loop.example/g00326/spec.l1Int -/
theorem spec_l1Int (n : Nat) (x0 : Src) (x1 : (List Int)) (r : Int × Src) (H : spec_l1IntF n x0 x1 = some r) : LCall Try.prog 79 [.ptr (CV.frzRow (Src.row x0)), .val false [.sl false 1 (CV.frzEs (x1.map intRow))]] [.val false [.lit (.int .i64 r.1)]] [(0, (CV.frzRow (Src.row r.2)))] := by
  refine LCall.of_body tOk Try.func79 rfl (c := (.seq (.region 0 (rg Try.f79 0) false) (.seq (.region 1 (rg Try.f79 1) false) .ret))) (by kernel_rfl) (Nat.le_of_ble_eq_true (by kernel_rfl)) 1 (rs := [.tmp 4]) rfl [] .nil [(false, [.lit (.int .i64 r.1)])] [] [(0, (CV.frzRow (Src.row r.2)))] fun cx => ?_
  show Tr _ _ _ ⟨12, 1, [(0, .adr (.box 0) [(0, 0)] 3 0), (1, .val false [.sl false 1 (CV.frzEs (x1.map intRow))])], [(0, (CV.frzRow (Src.row x0)))]⟩ _
  unfold spec_l1IntF at H
  refine Tr.rs ?_
  refine LAt.runU tOk 1 (by kernel_rfl) ?_
  refine LAt.doneU [4, 0, 1] [0] (by kernel_rfl) ?_
  refine Tr.rs ?_
  refine LAt.runU tOk 3 (by kernel_rfl) ?_
  refine LAt.lenE tOk (t := 33) (ty := 3) (e := 3) (x := (.tmp 7)) (d := 8) (g := none) ⟨(.slot 7), [], 0, false, 1, (CV.frzEs (x1.map intRow))⟩ (x1).length _ (by kernel_rfl) (by kernel_rfl) (by kernel_rfl) (by kernel_rfl) (by kernel_rfl) (frz_len _ _) rfl ?_
  obtain ⟨r1, er1, H⟩ := bind_some H
  refine LAt.callL tOk [.lend, .rd] (f := 76) (av := #[.tmp 6, .tmp 8]) (ats := #[90, 3]) (d := (some 9)) (ty := 3) (g := none) (by kernel_rfl) (by kernel_rfl) (by kernel_rfl) [] (spec_l1Below n x0 (x1.length : Int) r1 er1) (by kernel_rfl) (.inl rfl) ?_
  obtain ⟨v2, ev2, H⟩ := bind_some H
  refine LAt.indexF tOk (t := 33) (ty := 0) (x := (.tmp 5)) (y := (.tmp 9)) (d := 10) (g := none) ⟨(.slot 5), [], 0, false, 1, (CV.frzEs (x1.map intRow))⟩ r1.1 [.lit (.int .i64 v2)] _ (by kernel_rfl) (by kernel_rfl) (by kernel_rfl) (by kernel_rfl) rfl (idx_isF ev2) rfl ?_
  refine LAt.runU tOk 2 (by kernel_rfl) ?_
  refine LAt.doneU [4, 0] [0] (by kernel_rfl) ?_
  refine Tr.ret ?_
  have H := Option.some.inj H
  subst H
  exact Fin.ofY _ [(false, [.lit (.int .i64 v2)])] [] _ [] _ [(0, (CV.frzRow (Src.row r1.2)))] (by kernel_rfl) rfl rfl rfl (by kernel_rfl) (by kernel_rfl) (by kernel_rfl) (by kernel_rfl) rfl rfl rfl

def spec_l7DrawF (n : Nat) (x0 : Src) : Option (Vec × Src) :=
  ((spec_l1BelowF n x0 5).bind fun r1 => ((spec_l1IntF n r1.2 [0, 1, 2, 5, 10, 100]).bind fun r2 => ((spec_l1IntF n r2.2 [0, 1, 2, 9, 10]).bind fun r3 => ((spec_l1BelowF n r3.2 5).bind fun r4 => ((spec_l1BelowF n r4.2 4).bind fun r5 => (some ((⟨(IntKind.wrap .i64 (1 + r1.1)), r2.1, r3.1, (IntKind.wrap .i64 (1 + r4.1)), r5.1⟩ : Vec), r5.2)))))))
/-- loop.example/g00326/spec.l7Draw -/
theorem spec_l7Draw (n : Nat) (x0 : Src) (r : Vec × Src) (H : spec_l7DrawF n x0 = some r) : LCall Try.prog 85 [.ptr (CV.frzRow (Src.row x0))] [.val true (Vec.row r.1)] [(0, (CV.frzRow (Src.row r.2)))] := by
  refine LCall.of_body tOk Try.func85 rfl (c := (.seq (.region 0 (rg Try.f85 0) false) (.seq (.region 1 (rg Try.f85 1) false) .ret))) (by kernel_rfl) (Nat.le_of_ble_eq_true (by kernel_rfl)) 1 (rs := [.cell 2 27]) rfl [] .nil [(true, (Vec.row r.1))] [] [(0, (CV.frzRow (Src.row r.2)))] fun cx => ?_
  show Tr _ _ _ ⟨18, 1, [(0, .adr (.box 0) [(0, 0)] 3 0)], [(0, (CV.frzRow (Src.row x0)))]⟩ _
  unfold spec_l7DrawF at H
  refine Tr.rs ?_
  refine LAt.runU tOk 1 (by kernel_rfl) ?_
  refine LAt.doneU [2, 0] [2, 0] (by kernel_rfl) ?_
  refine Tr.rs ?_
  refine LAt.runU tOk 1 (by kernel_rfl) ?_
  obtain ⟨r1, er1, H⟩ := bind_some H
  refine LAt.callL tOk [.lend, .rd] (f := 76) (av := #[.tmp 3, .const (.int .i64 5)]) (ats := #[90, 3]) (d := (some 4)) (ty := 3) (g := none) (by kernel_rfl) (by kernel_rfl) (by kernel_rfl) [] (spec_l1Below n x0 5 r1 er1) (by kernel_rfl) (.inl rfl) ?_
  refine LAt.runU tOk 3 (by kernel_rfl) ?_
  obtain ⟨r2, er2, H⟩ := bind_some H
  refine LAt.callL tOk [.lend, .rd] (f := 79) (av := #[.tmp 6, .tmp 7]) (ats := #[90, 33]) (d := (some 8)) (ty := 3) (g := none) (by kernel_rfl) (by kernel_rfl) (by kernel_rfl) [] (spec_l1Int n r1.2 [0, 1, 2, 5, 10, 100] r2 er2) (by kernel_rfl) (.inl rfl) ?_
  refine LAt.runU tOk 2 (by kernel_rfl) ?_
  obtain ⟨r3, er3, H⟩ := bind_some H
  refine LAt.callL tOk [.lend, .rd] (f := 79) (av := #[.tmp 9, .tmp 10]) (ats := #[90, 33]) (d := (some 11)) (ty := 3) (g := none) (by kernel_rfl) (by kernel_rfl) (by kernel_rfl) [] (spec_l1Int n r2.2 [0, 1, 2, 9, 10] r3 er3) (by kernel_rfl) (.inl rfl) ?_
  refine LAt.runU tOk 1 (by kernel_rfl) ?_
  obtain ⟨r4, er4, H⟩ := bind_some H
  refine LAt.callL tOk [.lend, .rd] (f := 76) (av := #[.tmp 12, .const (.int .i64 5)]) (ats := #[90, 3]) (d := (some 13)) (ty := 3) (g := none) (by kernel_rfl) (by kernel_rfl) (by kernel_rfl) [] (spec_l1Below n r3.2 5 r4 er4) (by kernel_rfl) (.inl rfl) ?_
  refine LAt.runU tOk 2 (by kernel_rfl) ?_
  obtain ⟨r5, er5, H⟩ := bind_some H
  refine LAt.callL tOk [.lend, .rd] (f := 76) (av := #[.tmp 15, .const (.int .i64 4)]) (ats := #[90, 3]) (d := (some 16)) (ty := 3) (g := none) (by kernel_rfl) (by kernel_rfl) (by kernel_rfl) [] (spec_l1Below n r4.2 4 r5 er5) (by kernel_rfl) (.inl rfl) ?_
  refine LAt.runU tOk 2 (by kernel_rfl) ?_
  refine LAt.doneU [2, 0] [2, 0] (by kernel_rfl) ?_
  refine Tr.ret ?_
  have H := Option.some.inj H
  subst H
  exact Fin.ofY _ [(true, [.lit (.int .i64 (IntKind.wrap .i64 (1 + r1.1))), .lit (.int .i64 r2.1), .lit (.int .i64 r3.1), .lit (.int .i64 (IntKind.wrap .i64 (1 + r4.1))), .lit (.int .i64 r5.1)])] [] _ [] _ [(0, (CV.frzRow (Src.row r5.2)))] (by kernel_rfl) rfl rfl rfl (by kernel_rfl) (by kernel_rfl) (by kernel_rfl) (by kernel_rfl) rfl rfl rfl

def spec_l10Draw_J1 (n : Nat) (y6 : (List Pt)) (y7 : (List Int)) (y8 : Int) (y9 : Int) : Option ((List Pt) × Src) :=
  (some (y6, (⟨y7, y8, y9⟩ : Src)))
def spec_l10Draw_J3 (n : Nat) (k : (Int × (List Pt) × (List Int) × Int × Int → Option (((List Pt) × (List Int) × Int × Int) ⊕ ((List Pt) × Src)))) (r12 : Int × Src) (y1 : Int) (y2 : (List Pt)) (y13 : Bool) (y14 : Bool) (y15 : Bool) (y16 : Bool) (y17 : Bool) (y18 : Bool) (y19 : Bool) (y20 : Int) (y21 : Int) (y22 : Int) (y23 : Int) (y24 : Int) (y25 : (List Int)) (y26 : Int) (y27 : Int) : Option (((List Pt) × (List Int) × Int × Int) ⊕ ((List Pt) × Src)) :=
  (bif (decide (y2.length + [(⟨y18, r12.1, y19, (⟨y20, y21, y22, y23, y24⟩ : Vec)⟩ : Pt)].length ≤ 268435456)) then (k ((IntKind.wrap .i64 (y1 + 1)), (y2 ++ [(⟨y18, r12.1, y19, (⟨y20, y21, y22, y23, y24⟩ : Vec)⟩ : Pt)]), y25, y26, y27)) else none)
def spec_l10Draw_L2 (n : Nat) : Nat → Int → Int → (List Pt) → (List Int) → Int → Int → Option (((List Pt) × (List Int) × Int × Int) ⊕ ((List Pt) × Src))
  | 0, _, _, _, _, _, _ => none
  | mo10 + 1, x1, y1, y2, y3, y4, y5 => (bif (decide (y1 < x1)) then ((spec_l1OnceF n (⟨y3, y4, y5⟩ : Src) 4).bind fun r11 => ((spec_l1IntF n r11.2 [1, 1, 2, 5, 10]).bind fun r12 => (bif (!r11.1) then ((spec_l1OnceF n r12.2 4).bind fun r29 => (bif (!r29.1) then ((spec_l7DrawF n r29.2).bind fun r30 => (spec_l10Draw_J3 n (fun v => spec_l10Draw_L2 n mo10 x1 v.1 v.2.1 v.2.2.1 v.2.2.2.1 v.2.2.2.2) r12 y1 y2 true true true true true true true r30.1.Root r30.1.Cost r30.1.Hops r30.1.Bridge r30.1.Port r30.2.b r30.2.i r30.2.h)) else (spec_l10Draw_J3 n (fun v => spec_l10Draw_L2 n mo10 x1 v.1 v.2.1 v.2.2.1 v.2.2.2.1 v.2.2.2.2) r12 y1 y2 false true true true true true false 0 0 0 0 0 r29.2.b r29.2.i r29.2.h))) else (spec_l10Draw_J3 n (fun v => spec_l10Draw_L2 n mo10 x1 v.1 v.2.1 v.2.2.1 v.2.2.2.1 v.2.2.2.2) r12 y1 y2 false false false false false false false 0 0 0 0 0 r12.2.b r12.2.i r12.2.h)))) else (some (Sum.inl (y2, y3, y4, y5))))
def spec_l10DrawF (n : Nat) (x0 : Src) (x1 : Int) : Option ((List Pt) × Src) :=
  ((spec_l10Draw_L2 n n x1 0 ([] : List Pt) x0.b x0.i x0.h).bind fun o => match o with | .inl (y6, y7, y8, y9) => (spec_l10Draw_J1 n y6 y7 y8 y9) | .inr r => some r)
/-- loop.example/g00326/spec.l10Draw -/
theorem spec_l10Draw (n : Nat) (x0 : Src) (x1 : Int) (r : (List Pt) × Src) (H : spec_l10DrawF n x0 x1 = some r) : LCall Try.prog 77 [.ptr (CV.frzRow (Src.row x0)), .val false [.lit (.int .i64 x1)]] [.val false [.sl true 8 (r.1.map Pt.row)]] [(0, (CV.frzRow (Src.row r.2)))] := by
  refine LCall.of_body tOk Try.func77 rfl (c := (.seq (.region 0 (rg Try.f77 0) false) (.seq (.region 1 (rg Try.f77 1) false) (.seq (.seq (.region 2 (rg Try.f77 2) false) (.block 0 (.loop (.seq (.seq (.region 3 (rg Try.f77 3) false) (.cond (.tmp 11) .skip (.exit 0))) (.seq (.block 1 (.seq (.region 5 (rg Try.f77 5) false) (.seq (.seq (.region 6 (rg Try.f77 6) false) (.cond (.tmp 27) (.seq (.region 7 (rg Try.f77 7) false) (.region 8 (rg Try.f77 8) false)) .skip)) (.region 9 (rg Try.f77 9) false)))) (.region 4 (rg Try.f77 4) false)))))) (.seq (.region 10 (rg Try.f77 10) false) .ret))))) (by kernel_rfl) (Nat.le_of_ble_eq_true (by kernel_rfl)) 1 (rs := [.tmp 4]) rfl [] .nil [(false, [.sl true 8 (r.1.map Pt.row)])] [] [(0, (CV.frzRow (Src.row r.2)))] fun cx => ?_
  show Tr _ _ _ ⟨37, 1, [(0, .adr (.box 0) [(0, 0)] 3 0), (1, .val false [.lit (.int .i64 x1)])], [(0, (CV.frzRow (Src.row x0)))]⟩ _
  unfold spec_l10DrawF at H
  refine Tr.rs ?_
  refine LAt.runU tOk 1 (by kernel_rfl) ?_
  refine LAt.doneU [4, 0, 1] [0] (by kernel_rfl) ?_
  refine Tr.rs ?_
  refine LAt.runU tOk 1 (by kernel_rfl) ?_
  refine LAt.moveU (T := lk tab) (ty := 54) (x := (.tmp 8)) (d := 5) (g := none) false [.sl true 8 (([] : List Pt).map Pt.row)] (by kernel_rfl) (by kernel_rfl) (by kernel_rfl) (by kernel_rfl) (by kernel_rfl) ?_
  refine LAt.doneU [5, 4, 0, 1] [0] (by kernel_rfl) ?_
  refine Tr.seq ?_
  refine Tr.rs ?_
  refine LAt.runU tOk 1 (by kernel_rfl) ?_
  refine LAt.doneU [6, 5, 4, 0, 1] [0] (by kernel_rfl) ?_
  obtain ⟨o10, eo10, Ho10⟩ := bind_some H
  clear H
  refine Tr.mid (ι := (List Pt) × (List Int) × Int × Int) (fun v => ⟨37, 1, [(5, .val false [.sl true 8 (v.1.map Pt.row)]), (4, .val false [.sl true 8 (([] : List Pt).map Pt.row)]), (0, .adr (.box 0) [(0, 0)] 3 0)], [(0, [.sl false 1 (CV.frzEs (v.2.1.map byteRow)), .lit (.int .i64 v.2.2.1), .lit (.int .i64 v.2.2.2)])]⟩) (fun v => spec_l10Draw_J1 n v.1 v.2.1 v.2.2.1 v.2.2.2 = some r) ?_ ?_
  · refine Tr.block ?_
    refine Tr.loop (ι := Nat × (Int × (List Pt) × (List Int) × Int × Int)) (fun v => ⟨37, 1, [(6, .val false [.lit (.int .i64 v.2.1)]), (5, .val false [.sl true 8 (v.2.2.1.map Pt.row)]), (4, .val false [.sl true 8 (([] : List Pt).map Pt.row)]), (0, .adr (.box 0) [(0, 0)] 3 0), (1, .val false [.lit (.int .i64 x1)])], [(0, [.sl false 1 (CV.frzEs (v.2.2.2.1.map byteRow)), .lit (.int .i64 v.2.2.2.2.1), .lit (.int .i64 v.2.2.2.2.2)])]⟩) (fun v => spec_l10Draw_L2 n v.1 x1 v.2.1 v.2.2.1 v.2.2.2.1 v.2.2.2.2.1 v.2.2.2.2.2 = some o10) (fun v => v.1) (n, (0, ([] : List Pt), x0.b, x0.i, x0.h)) eo10 (St.sub_of [6, 5, 4, 0, 1] [0] (by kernel_rfl)) ?_
    rintro ⟨mo10, y1, y2, y3, y4, y5⟩ H
    have H : spec_l10Draw_L2 n mo10 x1 y1 y2 y3 y4 y5 = some o10 := H
    obtain _ | mo10 := mo10
    · cases (show (none : Option _) = some o10 from H)
    · rw [spec_l10Draw_L2] at H
      refine Tr.seq ?_
      refine Tr.rs ?_
      refine LAt.runU tOk 3 (by kernel_rfl) ?_
      refine LAt.doneU [11, 10, 9, 6, 5, 4, 0, 1] [0] (by kernel_rfl) ?_
      refine Tr.to ⟨37, 1, [(11, .val false [.lit (.bool (decide (y1 < x1)))]), (10, .val false [.lit (.int .i64 x1)]), (9, .val false [.lit (.int .i64 y1)]), (6, .val false [.lit (.int .i64 y1)]), (5, .val false [.sl true 8 (y2.map Pt.row)]), (4, .val false [.sl true 8 (([] : List Pt).map Pt.row)]), (0, .adr (.box 0) [(0, 0)] 3 0), (1, .val false [.lit (.int .i64 x1)])], [(0, [.sl false 1 (CV.frzEs (y3.map byteRow)), .lit (.int .i64 y4), .lit (.int .i64 y5)])]⟩ (by kernel_rfl) ?_
      cases h1 : (decide (y1 < x1))
      · have H := bifF h1 H
        refine Tr.cond (b := false) (by kernel_rfl) (fun h => nomatch h) (fun _ => ?_)
        refine Tr.exit ?_
        refine And.intro (fun _ => ?_) (fun h => absurd rfl h)
        have H := Option.some.inj H
        subst H
        have H := Ho10
        dsimp only at H
        exact Exists.intro (y2, y3, y4, y5) (And.intro H (St.sub_of [5, 4, 0] [0] (by kernel_rfl)))
      · have H := bifT h1 H
        refine Tr.cond (b := true) (by kernel_rfl) (fun _ => ?_) (fun h => nomatch h)
        refine Tr.skip ?_
        show Tr _ _ _ _ _
        refine Tr.seq ?_
        refine Tr.block ?_
        refine Tr.rs ?_
        refine LAt.runU tOk 1 (by kernel_rfl) ?_
        obtain ⟨r11, er11, H⟩ := bind_some H
        refine LAt.callL tOk [.lend, .rd] (f := 84) (av := #[.tmp 14, .const (.int .i64 4)]) (ats := #[90, 3]) (d := (some 15)) (ty := 4) (g := none) (by kernel_rfl) (by kernel_rfl) (by kernel_rfl) [] (spec_l1Once n (⟨y3, y4, y5⟩ : Src) 4 r11 er11) (by kernel_rfl) (.inl rfl) ?_
        refine LAt.runU tOk 3 (by kernel_rfl) ?_
        obtain ⟨r12, er12, H⟩ := bind_some H
        refine LAt.callL tOk [.lend, .rd] (f := 79) (av := #[.tmp 17, .tmp 18]) (ats := #[90, 33]) (d := (some 19)) (ty := 3) (g := none) (by kernel_rfl) (by kernel_rfl) (by kernel_rfl) [] (spec_l1Int n r11.2 [1, 1, 2, 5, 10] r12 er12) (by kernel_rfl) (.inl rfl) ?_
        refine LAt.runU tOk 3 (by kernel_rfl) ?_
        refine LAt.doneU [7, 20, 19, 18, 17, 16, 15, 14, 11, 10, 9, 6, 5, 4, 0, 1] [7, 0] (by kernel_rfl) ?_
        refine Tr.seq ?_
        refine Tr.mid (ι := Bool × Bool × Bool × Bool × Bool × Bool × Bool × Int × Int × Int × Int × Int × (List Int) × Int × Int) (fun v => ⟨37, 1, [(27, .val false [.lit (.bool v.1)]), (23, .val false [.lit (.bool v.2.1)]), (22, .val false [.lit (.bool v.2.2.1)]), (21, .adr (.box 7) [(0, 0)] 8 0), (7, .adr (.box 7) [(0, 0)] 8 0), (20, .val true [.lit (.bool v.2.2.2.1), .lit (.int .i64 r12.1), .lit (.bool false), .lit (.int .i64 0), .lit (.int .i64 0), .lit (.int .i64 0), .lit (.int .i64 0), .lit (.int .i64 0)]), (19, .val false [.lit (.int .i64 r12.1)]), (18, .val false [.sl false 1 (CV.frzEs ([1, 1, 2, 5, 10].map intRow))]), (17, .adr (.box 0) [(0, 0)] 3 0), (16, .val false [.lit (.bool v.2.2.2.2.1)]), (15, .val false [.lit (.bool r11.1)]), (14, .adr (.box 0) [(0, 0)] 3 0), (11, .val false [.lit (.bool true)]), (10, .val false [.lit (.int .i64 x1)]), (9, .val false [.lit (.int .i64 y1)]), (6, .val false [.lit (.int .i64 y1)]), (5, .val false [.sl true 8 (y2.map Pt.row)]), (4, .val false [.sl true 8 (([] : List Pt).map Pt.row)]), (0, .adr (.box 0) [(0, 0)] 3 0), (1, .val false [.lit (.int .i64 x1)])], [(7, [.lit (.bool v.2.2.2.2.2.1), .lit (.int .i64 r12.1), .lit (.bool v.2.2.2.2.2.2.1), .lit (.int .i64 v.2.2.2.2.2.2.2.1), .lit (.int .i64 v.2.2.2.2.2.2.2.2.1), .lit (.int .i64 v.2.2.2.2.2.2.2.2.2.1), .lit (.int .i64 v.2.2.2.2.2.2.2.2.2.2.1), .lit (.int .i64 v.2.2.2.2.2.2.2.2.2.2.2.1)]), (0, [.sl false 1 (CV.frzEs (v.2.2.2.2.2.2.2.2.2.2.2.2.1.map byteRow)), .lit (.int .i64 v.2.2.2.2.2.2.2.2.2.2.2.2.2.1), .lit (.int .i64 v.2.2.2.2.2.2.2.2.2.2.2.2.2.2)])]⟩) (fun v => spec_l10Draw_J3 n (fun v => spec_l10Draw_L2 n mo10 x1 v.1 v.2.1 v.2.2.1 v.2.2.2.1 v.2.2.2.2) r12 y1 y2 v.1 v.2.1 v.2.2.1 v.2.2.2.1 v.2.2.2.2.1 v.2.2.2.2.2.1 v.2.2.2.2.2.2.1 v.2.2.2.2.2.2.2.1 v.2.2.2.2.2.2.2.2.1 v.2.2.2.2.2.2.2.2.2.1 v.2.2.2.2.2.2.2.2.2.2.1 v.2.2.2.2.2.2.2.2.2.2.2.1 v.2.2.2.2.2.2.2.2.2.2.2.2.1 v.2.2.2.2.2.2.2.2.2.2.2.2.2.1 v.2.2.2.2.2.2.2.2.2.2.2.2.2.2 = some o10) ?_ ?_
        · refine Tr.seq ?_
          refine Tr.at ?_
          refine LAt.runU tOk 3 (by kernel_rfl) ?_
          refine LAt.to ⟨37, 1, [(23, .val false [.lit (.bool (!r11.1))]), (22, .val false [.lit (.bool (!r11.1))]), (21, .adr (.box 7) [(0, 0)] 8 0), (7, .adr (.box 7) [(0, 0)] 8 0), (20, .val true [.lit (.bool (!r11.1)), .lit (.int .i64 r12.1), .lit (.bool false), .lit (.int .i64 0), .lit (.int .i64 0), .lit (.int .i64 0), .lit (.int .i64 0), .lit (.int .i64 0)]), (19, .val false [.lit (.int .i64 r12.1)]), (18, .val false [.sl false 1 (CV.frzEs ([1, 1, 2, 5, 10].map intRow))]), (17, .adr (.box 0) [(0, 0)] 3 0), (16, .val false [.lit (.bool (!r11.1))]), (15, .val false [.lit (.bool r11.1)]), (14, .adr (.box 0) [(0, 0)] 3 0), (11, .val false [.lit (.bool true)]), (10, .val false [.lit (.int .i64 x1)]), (9, .val false [.lit (.int .i64 y1)]), (6, .val false [.lit (.int .i64 y1)]), (5, .val false [.sl true 8 (y2.map Pt.row)]), (4, .val false [.sl true 8 (([] : List Pt).map Pt.row)]), (0, .adr (.box 0) [(0, 0)] 3 0), (1, .val false [.lit (.int .i64 x1)])], [(7, [.lit (.bool (!r11.1)), .lit (.int .i64 r12.1), .lit (.bool false), .lit (.int .i64 0), .lit (.int .i64 0), .lit (.int .i64 0), .lit (.int .i64 0), .lit (.int .i64 0)]), (0, (CV.frzRow (Src.row r12.2)))]⟩ (by kernel_rfl) ?_
          cases h2 : (!r11.1)
          · have H := bifF h2 H
            refine LAt.runU tOk 4 (by kernel_rfl) ?_
            refine LAt.doneU [27, 26, 25, 24, 23, 22, 21, 7, 20, 19, 18, 17, 16, 15, 14, 11, 10, 9, 6, 5, 4, 0, 1] [7, 0] (by kernel_rfl) ?_
            show Tr _ _ _ _ _
            refine Tr.cond (b := false) (by kernel_rfl) (fun h => nomatch h) (fun _ => ?_)
            refine Tr.skip ?_
            exact Exists.intro (false, false, false, false, false, false, false, 0, 0, 0, 0, 0, r12.2.b, r12.2.i, r12.2.h) (And.intro H (St.sub_of [27, 23, 22, 21, 7, 20, 19, 18, 17, 16, 15, 14, 11, 10, 9, 6, 5, 4, 0, 1] [7, 0] (by kernel_rfl)))
          · have H := bifT h2 H
            refine LAt.runU tOk 1 (by kernel_rfl) ?_
            obtain ⟨r29, er29, H⟩ := bind_some H
            refine LAt.callL tOk [.lend, .rd] (f := 84) (av := #[.tmp 24, .const (.int .i64 4)]) (ats := #[90, 3]) (d := (some 25)) (ty := 4) (g := (some (2, true))) (by kernel_rfl) (by kernel_rfl) (by kernel_rfl) [] (spec_l1Once n r12.2 4 r29 er29) (by kernel_rfl) (.inl rfl) ?_
            refine LAt.runU tOk 2 (by kernel_rfl) ?_
            refine LAt.doneU [27, 26, 25, 24, 23, 22, 21, 7, 20, 19, 18, 17, 16, 15, 14, 11, 10, 9, 6, 5, 4, 0, 1] [0, 7] (by kernel_rfl) ?_
            show Tr _ _ _ _ _
            refine Tr.to ⟨37, 1, [(27, .val false [.lit (.bool (!r29.1))]), (26, .val false [.lit (.bool (!r29.1))]), (25, .val false [.lit (.bool r29.1)]), (24, .adr (.box 0) [(0, 0)] 3 0), (23, .val false [.lit (.bool true)]), (22, .val false [.lit (.bool true)]), (21, .adr (.box 7) [(0, 0)] 8 0), (7, .adr (.box 7) [(0, 0)] 8 0), (20, .val true [.lit (.bool true), .lit (.int .i64 r12.1), .lit (.bool false), .lit (.int .i64 0), .lit (.int .i64 0), .lit (.int .i64 0), .lit (.int .i64 0), .lit (.int .i64 0)]), (19, .val false [.lit (.int .i64 r12.1)]), (18, .val false [.sl false 1 (CV.frzEs ([1, 1, 2, 5, 10].map intRow))]), (17, .adr (.box 0) [(0, 0)] 3 0), (16, .val false [.lit (.bool true)]), (15, .val false [.lit (.bool r11.1)]), (14, .adr (.box 0) [(0, 0)] 3 0), (11, .val false [.lit (.bool true)]), (10, .val false [.lit (.int .i64 x1)]), (9, .val false [.lit (.int .i64 y1)]), (6, .val false [.lit (.int .i64 y1)]), (5, .val false [.sl true 8 (y2.map Pt.row)]), (4, .val false [.sl true 8 (([] : List Pt).map Pt.row)]), (0, .adr (.box 0) [(0, 0)] 3 0), (1, .val false [.lit (.int .i64 x1)])], [(0, (CV.frzRow (Src.row r29.2))), (7, [.lit (.bool true), .lit (.int .i64 r12.1), .lit (.bool false), .lit (.int .i64 0), .lit (.int .i64 0), .lit (.int .i64 0), .lit (.int .i64 0), .lit (.int .i64 0)])]⟩ (by kernel_rfl) ?_
            cases h3 : (!r29.1)
            · have H := bifF h3 H
              refine Tr.cond (b := false) (by kernel_rfl) (fun h => nomatch h) (fun _ => ?_)
              refine Tr.skip ?_
              exact Exists.intro (false, true, true, true, true, true, false, 0, 0, 0, 0, 0, r29.2.b, r29.2.i, r29.2.h) (And.intro H (St.sub_of [27, 23, 22, 21, 7, 20, 19, 18, 17, 16, 15, 14, 11, 10, 9, 6, 5, 4, 0, 1] [7, 0] (by kernel_rfl)))
            · have H := bifT h3 H
              refine Tr.cond (b := true) (by kernel_rfl) (fun _ => ?_) (fun h => nomatch h)
              refine Tr.rs ?_
              refine LAt.runU tOk 2 (by kernel_rfl) ?_
              refine LAt.doneU [28, 27, 26, 25, 24, 23, 22, 21, 7, 20, 19, 18, 17, 16, 15, 14, 11, 10, 9, 6, 5, 4, 0, 1] [7, 0] (by kernel_rfl) ?_
              refine Tr.at ?_
              refine LAt.runU tOk 1 (by kernel_rfl) ?_
              obtain ⟨r30, er30, H⟩ := bind_some H
              refine LAt.callL tOk [.lend] (f := 85) (av := #[.tmp 29]) (ats := #[90]) (d := (some 30)) (ty := 27) (g := none) (by kernel_rfl) (by kernel_rfl) (by kernel_rfl) [] (spec_l7Draw n r29.2 r30 er30) (by kernel_rfl) (.inl rfl) ?_
              refine LAt.runU tOk 2 (by kernel_rfl) ?_
              refine LAt.doneU [31, 30, 29, 28, 27, 26, 25, 24, 23, 22, 21, 7, 20, 19, 18, 17, 16, 15, 14, 11, 10, 9, 6, 5, 4, 0, 1] [7, 0] (by kernel_rfl) ?_
              exact Exists.intro (true, true, true, true, true, true, true, r30.1.Root, r30.1.Cost, r30.1.Hops, r30.1.Bridge, r30.1.Port, r30.2.b, r30.2.i, r30.2.h) (And.intro H (St.sub_of [27, 23, 22, 21, 7, 20, 19, 18, 17, 16, 15, 14, 11, 10, 9, 6, 5, 4, 0, 1] [7, 0] (by kernel_rfl)))
        · rintro ⟨y13, y14, y15, y16, y17, y18, y19, y20, y21, y22, y23, y24, y25, y26, y27⟩ H
          have H : (spec_l10Draw_J3 n (fun v => spec_l10Draw_L2 n mo10 x1 v.1 v.2.1 v.2.2.1 v.2.2.2.1 v.2.2.2.2) r12 y1 y2 y13 y14 y15 y16 y17 y18 y19 y20 y21 y22 y23 y24 y25 y26 y27) = some o10 := H
          unfold spec_l10Draw_J3 at H
          show Tr _ _ _ _ _
          refine Tr.at ?_
          refine LAt.runU tOk 3 (by kernel_rfl) ?_
          obtain ⟨hg28, H⟩ := guard_some H
          refine LAt.appMU tOk (t := 54) (ty := 54) (e := 29) (x := (.tmp 32)) (y := (.tmp 34)) (d := 35) (g := none) ⟨.st [(0, 1, 4), (1, 1, 3), (2, 1, 4), (3, 5, 27)], 8, 64, [.lit (.bool false), .lit (.int .i64 0), .lit (.bool false), .lit (.int .i64 0), .lit (.int .i64 0), .lit (.int .i64 0), .lit (.int .i64 0), .lit (.int .i64 0)]⟩ Pt.row y2 [(⟨y18, r12.1, y19, (⟨y20, y21, y22, y23, y24⟩ : Vec)⟩ : Pt)] (by kernel_rfl) (by kernel_rfl) (by kernel_rfl) (by kernel_rfl) (by kernel_rfl) (by kernel_rfl) (by kernel_rfl) (by kernel_rfl) (by kernel_rfl) (by kernel_rfl) hg28 ?_
          refine LAt.moveU (T := lk tab) (ty := 54) (x := (.tmp 35)) (d := 5) (g := none) false [.sl true 8 ((y2 ++ [(⟨y18, r12.1, y19, (⟨y20, y21, y22, y23, y24⟩ : Vec)⟩ : Pt)]).map Pt.row)] (by kernel_rfl) (by kernel_rfl) (by kernel_rfl) (by kernel_rfl) (by kernel_rfl) ?_
          refine LAt.doneU [5, 33, 27, 23, 22, 21, 7, 20, 19, 18, 17, 16, 15, 14, 11, 10, 9, 6, 4, 0, 1] [7, 0] (by kernel_rfl) ?_
          show Tr _ _ _ _ _
          refine Tr.at ?_
          refine LAt.runU tOk 3 (by kernel_rfl) ?_
          refine LAt.doneU [6, 13, 12, 5, 33, 27, 23, 22, 21, 7, 20, 19, 18, 17, 16, 15, 14, 11, 10, 9, 4, 0, 1] [7, 0] (by kernel_rfl) ?_
          exact Exists.intro (mo10, ((IntKind.wrap .i64 (y1 + 1)), (y2 ++ [(⟨y18, r12.1, y19, (⟨y20, y21, y22, y23, y24⟩ : Vec)⟩ : Pt)]), y25, y26, y27)) (And.intro H (And.intro (Nat.lt_succ_self mo10) (St.sub_of [6, 5, 4, 0, 1] [0] (by kernel_rfl))))
  · rintro ⟨y6, y7, y8, y9⟩ H
    have H : (spec_l10Draw_J1 n y6 y7 y8 y9) = some r := H
    unfold spec_l10Draw_J1 at H
    show Tr _ _ _ _ _
    refine Tr.rs ?_
    refine LAt.runU tOk 2 (by kernel_rfl) ?_
    refine LAt.doneU [4, 5, 0] [0] (by kernel_rfl) ?_
    refine Tr.ret ?_
    have H := Option.some.inj H
    subst H
    exact Fin.ofY _ [(false, [.sl true 8 (y6.map Pt.row)])] [] _ [] _ [(0, [.sl false 1 (CV.frzEs (y7.map byteRow)), .lit (.int .i64 y8), .lit (.int .i64 y9)])] (by kernel_rfl) rfl rfl rfl (by kernel_rfl) (by kernel_rfl) (by kernel_rfl) (by kernel_rfl) rfl rfl rfl

def spec_DrawPortsF (n : Nat) (x0 : (List Int)) : Option (Int × (List Pt)) :=
  ((spec_l1NewF n x0).bind fun r1 => ((spec_l1BelowF n r1 6).bind fun r2 => ((spec_l1BelowF n r2.2 5).bind fun r3 => ((spec_l10DrawF n r3.2 (IntKind.wrap .i64 (1 + r3.1))).bind fun r4 => (some ((IntKind.wrap .i64 (1 + r2.1)), r4.1))))))
/-- loop.example/g00326/spec.DrawPorts -/
theorem spec_DrawPorts (n : Nat) (x0 : (List Int)) (r : Int × (List Pt)) (H : spec_DrawPortsF n x0 = some r) : LCall Try.prog 39 [.val false [.sl false 1 (CV.frzEs (x0.map byteRow))]] [.val false [.lit (.int .i64 r.1)], .val false [.sl true 8 (r.2.map Pt.row)]] [] := by
  refine LCall.of_body tOk Try.func39 rfl (c := (.seq (.region 0 (rg Try.f39 0) false) (.seq (.region 1 (rg Try.f39 1) false) (.seq (.region 2 (rg Try.f39 2) false) .ret)))) (by kernel_rfl) (Nat.le_of_ble_eq_true (by kernel_rfl)) 0 (rs := [.tmp 2, .tmp 3]) rfl [] .nil [(false, [.lit (.int .i64 r.1)]), (false, [.sl true 8 (r.2.map Pt.row)])] [] [] fun cx => ?_
  show Tr _ _ _ ⟨15, 0, [(0, .val false [.sl false 1 (CV.frzEs (x0.map byteRow))])], []⟩ _
  unfold spec_DrawPortsF at H
  refine Tr.rs ?_
  refine LAt.runU tOk 2 (by kernel_rfl) ?_
  refine LAt.doneU [3, 2, 0] [] (by kernel_rfl) ?_
  refine Tr.rs ?_
  refine LAt.runU tOk 1 (by kernel_rfl) ?_
  obtain ⟨r1, er1, H⟩ := bind_some H
  refine LAt.callU tOk [.rd] (f := 75) (av := #[.tmp 5]) (ats := #[61]) (d := (some 6)) (ty := 90) (g := none) (by kernel_rfl) (by kernel_rfl) (by kernel_rfl) [] (spec_l1New n x0 r1 er1) (by kernel_rfl) (.inl rfl) ?_
  refine LAt.runU tOk 1 (by kernel_rfl) ?_
  refine LAt.doneU [4, 3, 2] [6] (by kernel_rfl) ?_
  refine Tr.rs ?_
  refine LAt.runU tOk 1 (by kernel_rfl) ?_
  obtain ⟨r2, er2, H⟩ := bind_some H
  refine LAt.callL tOk [.lend, .rd] (f := 76) (av := #[.tmp 7, .const (.int .i64 6)]) (ats := #[90, 3]) (d := (some 8)) (ty := 3) (g := none) (by kernel_rfl) (by kernel_rfl) (by kernel_rfl) [] (spec_l1Below n r1 6 r2 er2) (by kernel_rfl) (.inl rfl) ?_
  refine LAt.runU tOk 3 (by kernel_rfl) ?_
  obtain ⟨r3, er3, H⟩ := bind_some H
  refine LAt.callL tOk [.lend, .rd] (f := 76) (av := #[.tmp 11, .const (.int .i64 5)]) (ats := #[90, 3]) (d := (some 12)) (ty := 3) (g := none) (by kernel_rfl) (by kernel_rfl) (by kernel_rfl) [] (spec_l1Below n r2.2 5 r3 er3) (by kernel_rfl) (.inl rfl) ?_
  refine LAt.runU tOk 1 (by kernel_rfl) ?_
  obtain ⟨r4, er4, H⟩ := bind_some H
  refine LAt.callL tOk [.lend, .rd] (f := 77) (av := #[.tmp 10, .tmp 13]) (ats := #[90, 3]) (d := (some 14)) (ty := 54) (g := none) (by kernel_rfl) (by kernel_rfl) (by kernel_rfl) [] (spec_l10Draw n r3.2 (IntKind.wrap .i64 (1 + r3.1)) r4 er4) (by kernel_rfl) (.inl rfl) ?_
  refine LAt.runU tOk 1 (by kernel_rfl) ?_
  refine LAt.moveU (T := lk tab) (ty := 54) (x := (.tmp 14)) (d := 3) (g := none) false [.sl true 8 (r4.1.map Pt.row)] (by kernel_rfl) (by kernel_rfl) (by kernel_rfl) (by kernel_rfl) (by kernel_rfl) ?_
  refine LAt.doneU [3, 2] [] (by kernel_rfl) ?_
  refine Tr.ret ?_
  have H := Option.some.inj H
  subst H
  exact Fin.of _ [(false, [.lit (.int .i64 (IntKind.wrap .i64 (1 + r2.1)))]), (false, [.sl true 8 (r4.1.map Pt.row)])] (by kernel_rfl) rfl rfl

def impl_inF (n : Nat) (x0 : Int) (x1 : Int) (x2 : Int) : Option (Bool) :=
  (bif (decide (x0 ≥ x1)) then (some (decide (x0 ≤ x2))) else (some false))
/-- loop.example/g00326/impl.in -/
theorem impl_in (n : Nat) (x0 : Int) (x1 : Int) (x2 : Int) (r : Bool) (H : impl_inF n x0 x1 x2 = some r) : LCall Try.prog 54 [.val false [.lit (.int .i64 x0)], .val false [.lit (.int .i64 x1)], .val false [.lit (.int .i64 x2)]] [.val false [.lit (.bool r)]] [] := by
  refine LCall.of_body tOk Try.func54 rfl (c := (.seq (.region 0 (rg Try.f54 0) false) (.seq (.region 1 (rg Try.f54 1) false) .ret))) (by kernel_rfl) (Nat.le_of_ble_eq_true (by kernel_rfl)) 0 (rs := [.tmp 6]) rfl [] .nil [(false, [.lit (.bool r)])] [] [] fun cx => ?_
  show Tr _ _ _ ⟨15, 0, [(0, .val false [.lit (.int .i64 x0)]), (1, .val false [.lit (.int .i64 x1)]), (2, .val false [.lit (.int .i64 x2)])], []⟩ _
  unfold impl_inF at H
  refine Tr.rs ?_
  refine LAt.runU tOk 1 (by kernel_rfl) ?_
  refine LAt.doneU [6, 0, 1, 2] [] (by kernel_rfl) ?_
  refine Tr.rs ?_
  refine LAt.runU tOk 4 (by kernel_rfl) ?_
  refine LAt.to ⟨15, 0, [(10, .val false [.lit (.bool (decide (x0 ≥ x1)))]), (9, .val false [.lit (.bool (decide (x0 ≥ x1)))]), (8, .val false [.lit (.int .i64 x1)]), (7, .val false [.lit (.int .i64 x0)]), (6, .val false [.lit (.bool false)]), (0, .val false [.lit (.int .i64 x0)]), (1, .val false [.lit (.int .i64 x1)]), (2, .val false [.lit (.int .i64 x2)])], []⟩ (by kernel_rfl) ?_
  cases h1 : (decide (x0 ≥ x1))
  · have H := bifF h1 H
    refine LAt.runU tOk 5 (by kernel_rfl) ?_
    refine LAt.doneU [6] [] (by kernel_rfl) ?_
    refine Tr.ret ?_
    have H := Option.some.inj H
    subst H
    exact Fin.of _ [(false, [.lit (.bool false)])] (by kernel_rfl) rfl rfl
  · have H := bifT h1 H
    refine LAt.runU tOk 5 (by kernel_rfl) ?_
    refine LAt.doneU [6] [] (by kernel_rfl) ?_
    refine Tr.ret ?_
    have H := Option.some.inj H
    subst H
    exact Fin.of _ [(false, [.lit (.bool (decide (x0 ≤ x2)))])] (by kernel_rfl) rfl rfl

def impl_VecOkF (n : Nat) (x0 : Vec) : Option (Bool) :=
  ((impl_inF n x0.Root 1 99).bind fun r1 => (bif r1 then ((impl_inF n x0.Cost 0 100000).bind fun r2 => (bif r2 then ((impl_inF n x0.Hops 0 10).bind fun r3 => (bif r3 then ((impl_inF n x0.Bridge 1 99).bind fun r4 => (bif r4 then ((impl_inF n x0.Port 0 7).bind fun r5 => (some r5)) else (some false))) else (some false))) else (some false))) else (some false)))
/-- loop.example/g00326/impl.VecOk -/
theorem impl_VecOk (n : Nat) (x0 : Vec) (r : Bool) (H : impl_VecOkF n x0 = some r) : LCall Try.prog 55 [.val true (CV.frzRow (Vec.row x0))] [.val false [.lit (.bool r)]] [] := by
  refine LCall.of_body tOk Try.func55 rfl (c := (.seq (.region 0 (rg Try.f55 0) false) (.seq (.region 1 (rg Try.f55 1) false) .ret))) (by kernel_rfl) (Nat.le_of_ble_eq_true (by kernel_rfl)) 0 (rs := [.tmp 2]) rfl [] .nil [(false, [.lit (.bool r)])] [] [] fun cx => ?_
  show Tr _ _ _ ⟨26, 0, [(0, .val true (Vec.row x0))], []⟩ _
  unfold impl_VecOkF at H
  refine Tr.rs ?_
  refine LAt.runU tOk 2 (by kernel_rfl) ?_
  refine LAt.doneU [2, 1] [1] (by kernel_rfl) ?_
  refine Tr.rs ?_
  refine LAt.runU tOk 2 (by kernel_rfl) ?_
  obtain ⟨r1, er1, H⟩ := bind_some H
  refine LAt.callU tOk [.rd, .rd, .rd] (f := 54) (av := #[.tmp 4, .const (.int .i64 1), .const (.int .i64 99)]) (ats := #[3, 3, 3]) (d := (some 5)) (ty := 4) (g := none) (by kernel_rfl) (by kernel_rfl) (by kernel_rfl) [] (impl_in n x0.Root 1 99 r1 er1) (by kernel_rfl) (.inl rfl) ?_
  refine LAt.runU tOk 1 (by kernel_rfl) ?_
  refine LAt.to ⟨26, 0, [(6, .val false [.lit (.bool r1)]), (5, .val false [.lit (.bool r1)]), (4, .val false [.lit (.int .i64 x0.Root)]), (3, .adr (.box 1) [(0, 0)] 5 0), (2, .val false [.lit (.bool false)]), (1, .adr (.box 1) [(0, 0)] 5 0)], [(1, (Vec.row x0))]⟩ (by kernel_rfl) ?_
  cases h1 : r1
  · have H := bifF h1 H
    refine LAt.runU tOk 20 (by kernel_rfl) ?_
    refine LAt.doneU [2] [] (by kernel_rfl) ?_
    refine Tr.ret ?_
    have H := Option.some.inj H
    subst H
    exact Fin.of _ [(false, [.lit (.bool false)])] (by kernel_rfl) rfl rfl
  · have H := bifT h1 H
    refine LAt.runU tOk 2 (by kernel_rfl) ?_
    obtain ⟨r2, er2, H⟩ := bind_some H
    refine LAt.callU tOk [.rd, .rd, .rd] (f := 54) (av := #[.tmp 8, .const (.int .i64 0), .const (.int .i64 100000)]) (ats := #[3, 3, 3]) (d := (some 9)) (ty := 4) (g := (some (3, true))) (by kernel_rfl) (by kernel_rfl) (by kernel_rfl) [] (impl_in n x0.Cost 0 100000 r2 er2) (by kernel_rfl) (.inl rfl) ?_
    refine LAt.runU tOk 2 (by kernel_rfl) ?_
    refine LAt.to ⟨26, 0, [(11, .val false [.lit (.bool r2)]), (10, .val false [.lit (.bool r2)]), (9, .val false [.lit (.bool r2)]), (8, .val false [.lit (.int .i64 x0.Cost)]), (7, .adr (.box 1) [(0, 0)] 5 1), (6, .val false [.lit (.bool true)]), (5, .val false [.lit (.bool true)]), (4, .val false [.lit (.int .i64 x0.Root)]), (3, .adr (.box 1) [(0, 0)] 5 0), (2, .val false [.lit (.bool false)]), (1, .adr (.box 1) [(0, 0)] 5 0)], [(1, (Vec.row x0))]⟩ (by kernel_rfl) ?_
    cases h2 : r2
    · have H := bifF h2 H
      refine LAt.runU tOk 15 (by kernel_rfl) ?_
      refine LAt.doneU [2] [] (by kernel_rfl) ?_
      refine Tr.ret ?_
      have H := Option.some.inj H
      subst H
      exact Fin.of _ [(false, [.lit (.bool false)])] (by kernel_rfl) rfl rfl
    · have H := bifT h2 H
      refine LAt.runU tOk 2 (by kernel_rfl) ?_
      obtain ⟨r3, er3, H⟩ := bind_some H
      refine LAt.callU tOk [.rd, .rd, .rd] (f := 54) (av := #[.tmp 13, .const (.int .i64 0), .const (.int .i64 10)]) (ats := #[3, 3, 3]) (d := (some 14)) (ty := 4) (g := (some (8, true))) (by kernel_rfl) (by kernel_rfl) (by kernel_rfl) [] (impl_in n x0.Hops 0 10 r3 er3) (by kernel_rfl) (.inl rfl) ?_
      refine LAt.runU tOk 2 (by kernel_rfl) ?_
      refine LAt.to ⟨26, 0, [(16, .val false [.lit (.bool r3)]), (15, .val false [.lit (.bool r3)]), (14, .val false [.lit (.bool r3)]), (13, .val false [.lit (.int .i64 x0.Hops)]), (12, .adr (.box 1) [(0, 0)] 5 2), (11, .val false [.lit (.bool true)]), (10, .val false [.lit (.bool true)]), (9, .val false [.lit (.bool true)]), (8, .val false [.lit (.int .i64 x0.Cost)]), (7, .adr (.box 1) [(0, 0)] 5 1), (6, .val false [.lit (.bool true)]), (5, .val false [.lit (.bool true)]), (4, .val false [.lit (.int .i64 x0.Root)]), (3, .adr (.box 1) [(0, 0)] 5 0), (2, .val false [.lit (.bool false)]), (1, .adr (.box 1) [(0, 0)] 5 0)], [(1, (Vec.row x0))]⟩ (by kernel_rfl) ?_
      cases h3 : r3
      · have H := bifF h3 H
        refine LAt.runU tOk 10 (by kernel_rfl) ?_
        refine LAt.doneU [2] [] (by kernel_rfl) ?_
        refine Tr.ret ?_
        have H := Option.some.inj H
        subst H
        exact Fin.of _ [(false, [.lit (.bool false)])] (by kernel_rfl) rfl rfl
      · have H := bifT h3 H
        refine LAt.runU tOk 2 (by kernel_rfl) ?_
        obtain ⟨r4, er4, H⟩ := bind_some H
        refine LAt.callU tOk [.rd, .rd, .rd] (f := 54) (av := #[.tmp 18, .const (.int .i64 1), .const (.int .i64 99)]) (ats := #[3, 3, 3]) (d := (some 19)) (ty := 4) (g := (some (13, true))) (by kernel_rfl) (by kernel_rfl) (by kernel_rfl) [] (impl_in n x0.Bridge 1 99 r4 er4) (by kernel_rfl) (.inl rfl) ?_
        refine LAt.runU tOk 2 (by kernel_rfl) ?_
        refine LAt.to ⟨26, 0, [(21, .val false [.lit (.bool r4)]), (20, .val false [.lit (.bool r4)]), (19, .val false [.lit (.bool r4)]), (18, .val false [.lit (.int .i64 x0.Bridge)]), (17, .adr (.box 1) [(0, 0)] 5 3), (16, .val false [.lit (.bool true)]), (15, .val false [.lit (.bool true)]), (14, .val false [.lit (.bool true)]), (13, .val false [.lit (.int .i64 x0.Hops)]), (12, .adr (.box 1) [(0, 0)] 5 2), (11, .val false [.lit (.bool true)]), (10, .val false [.lit (.bool true)]), (9, .val false [.lit (.bool true)]), (8, .val false [.lit (.int .i64 x0.Cost)]), (7, .adr (.box 1) [(0, 0)] 5 1), (6, .val false [.lit (.bool true)]), (5, .val false [.lit (.bool true)]), (4, .val false [.lit (.int .i64 x0.Root)]), (3, .adr (.box 1) [(0, 0)] 5 0), (2, .val false [.lit (.bool false)]), (1, .adr (.box 1) [(0, 0)] 5 0)], [(1, (Vec.row x0))]⟩ (by kernel_rfl) ?_
        cases h4 : r4
        · have H := bifF h4 H
          refine LAt.runU tOk 5 (by kernel_rfl) ?_
          refine LAt.doneU [2] [] (by kernel_rfl) ?_
          refine Tr.ret ?_
          have H := Option.some.inj H
          subst H
          exact Fin.of _ [(false, [.lit (.bool false)])] (by kernel_rfl) rfl rfl
        · have H := bifT h4 H
          refine LAt.runU tOk 2 (by kernel_rfl) ?_
          obtain ⟨r5, er5, H⟩ := bind_some H
          refine LAt.callU tOk [.rd, .rd, .rd] (f := 54) (av := #[.tmp 23, .const (.int .i64 0), .const (.int .i64 7)]) (ats := #[3, 3, 3]) (d := (some 24)) (ty := 4) (g := (some (18, true))) (by kernel_rfl) (by kernel_rfl) (by kernel_rfl) [] (impl_in n x0.Port 0 7 r5 er5) (by kernel_rfl) (.inl rfl) ?_
          refine LAt.runU tOk 2 (by kernel_rfl) ?_
          refine LAt.doneU [2] [] (by kernel_rfl) ?_
          refine Tr.ret ?_
          have H := Option.some.inj H
          subst H
          exact Fin.of _ [(false, [.lit (.bool r5)])] (by kernel_rfl) rfl rfl

def impl_StepVecF (n : Nat) (x0 : Vec) (x1 : Int) : Option (Vec × Bool) :=
  ((impl_VecOkF n x0).bind fun r1 => (bif (!r1) then (some (x0, false)) else ((impl_inF n x1 1 1000).bind fun r2 => (bif (!r2) then (some (x0, false)) else ((impl_VecOkF n (⟨x0.Root, (IntKind.wrap .i64 (x0.Cost + x1)), (IntKind.wrap .i64 (x0.Hops + 1)), x0.Bridge, x0.Port⟩ : Vec)).bind fun r3 => (bif (!r3) then (some (x0, false)) else (some ((⟨x0.Root, (IntKind.wrap .i64 (x0.Cost + x1)), (IntKind.wrap .i64 (x0.Hops + 1)), x0.Bridge, x0.Port⟩ : Vec), true))))))))
/-- loop.example/g00326/impl.StepVec -/
theorem impl_StepVec (n : Nat) (x0 : Vec) (x1 : Int) (r : Vec × Bool) (H : impl_StepVecF n x0 x1 = some r) : LCall Try.prog 44 [.val true (CV.frzRow (Vec.row x0)), .val false [.lit (.int .i64 x1)]] [.val true (Vec.row r.1), .val false [.lit (.bool r.2)]] [] := by
  refine LCall.of_body tOk Try.func44 rfl (c := (.seq (.region 0 (rg Try.f44 0) false) (.seq (.seq (.region 1 (rg Try.f44 1) false) (.cond (.tmp 14) (.seq (.region 2 (rg Try.f44 2) false) .ret) .skip)) (.seq (.region 3 (rg Try.f44 3) false) (.seq (.region 4 (rg Try.f44 4) false) (.seq (.region 5 (rg Try.f44 5) false) (.seq (.seq (.region 6 (rg Try.f44 6) false) (.cond (.tmp 28) (.seq (.region 7 (rg Try.f44 7) false) .ret) .skip)) (.seq (.region 8 (rg Try.f44 8) false) .ret)))))))) (by kernel_rfl) (Nat.le_of_ble_eq_true (by kernel_rfl)) 0 (rs := [.cell 4 27, .tmp 5]) rfl [] .nil [(true, (Vec.row r.1)), (false, [.lit (.bool r.2)])] [] [] fun cx => ?_
  show Tr _ _ _ ⟨31, 0, [(0, .val true (Vec.row x0)), (1, .val false [.lit (.int .i64 x1)])], []⟩ _
  unfold impl_StepVecF at H
  refine Tr.rs ?_
  refine LAt.runU tOk 3 (by kernel_rfl) ?_
  refine LAt.doneU [5, 4, 2, 1] [4, 2] (by kernel_rfl) ?_
  refine Tr.seq ?_
  refine Tr.rs ?_
  refine LAt.runU tOk 1 (by kernel_rfl) ?_
  obtain ⟨r1, er1, H⟩ := bind_some H
  refine LAt.callU tOk [.rd] (f := 55) (av := #[.tmp 7]) (ats := #[27]) (d := (some 8)) (ty := 4) (g := none) (by kernel_rfl) (by kernel_rfl) (by kernel_rfl) [] (impl_VecOk n x0 r1 er1) (by kernel_rfl) (.inl rfl) ?_
  refine LAt.runU tOk 2 (by kernel_rfl) ?_
  refine LAt.to ⟨31, 0, [(10, .val false [.lit (.bool (!r1))]), (9, .val false [.lit (.bool (!r1))]), (8, .val false [.lit (.bool r1)]), (7, .val true (Vec.row x0)), (5, .val false [.lit (.bool false)]), (4, .adr (.box 4) [(0, 0)] 5 0), (2, .adr (.box 2) [(0, 0)] 5 0), (1, .val false [.lit (.int .i64 x1)])], [(4, [.lit (.int .i64 0), .lit (.int .i64 0), .lit (.int .i64 0), .lit (.int .i64 0), .lit (.int .i64 0)]), (2, (Vec.row x0))]⟩ (by kernel_rfl) ?_
  cases h1 : (!r1)
  · have H := bifF h1 H
    refine LAt.runU tOk 1 (by kernel_rfl) ?_
    obtain ⟨r2, er2, H⟩ := bind_some H
    refine LAt.callU tOk [.rd, .rd, .rd] (f := 54) (av := #[.tmp 11, .const (.int .i64 1), .const (.int .i64 1000)]) (ats := #[3, 3, 3]) (d := (some 12)) (ty := 4) (g := (some (3, false))) (by kernel_rfl) (by kernel_rfl) (by kernel_rfl) [] (impl_in n x1 1 1000 r2 er2) (by kernel_rfl) (.inl rfl) ?_
    refine LAt.runU tOk 2 (by kernel_rfl) ?_
    refine LAt.doneU [14, 5, 4, 2, 1] [4, 2] (by kernel_rfl) ?_
    refine Tr.to ⟨31, 0, [(14, .val false [.lit (.bool (!r2))]), (5, .val false [.lit (.bool false)]), (4, .adr (.box 4) [(0, 0)] 5 0), (2, .adr (.box 2) [(0, 0)] 5 0), (1, .val false [.lit (.int .i64 x1)])], [(4, [.lit (.int .i64 0), .lit (.int .i64 0), .lit (.int .i64 0), .lit (.int .i64 0), .lit (.int .i64 0)]), (2, (Vec.row x0))]⟩ (by kernel_rfl) ?_
    cases h2 : (!r2)
    · have H := bifF h2 H
      refine Tr.cond (b := false) (by kernel_rfl) (fun h => nomatch h) (fun _ => ?_)
      refine Tr.skip ?_
      show Tr _ _ _ _ _
      refine Tr.rs ?_
      refine LAt.runU tOk 3 (by kernel_rfl) ?_
      refine LAt.doneU [6, 5, 4, 2, 1] [6, 4, 2] (by kernel_rfl) ?_
      refine Tr.rs ?_
      refine LAt.runU tOk 6 (by kernel_rfl) ?_
      refine LAt.doneU [6, 5, 4, 2] [6, 4, 2] (by kernel_rfl) ?_
      refine Tr.rs ?_
      refine LAt.runU tOk 5 (by kernel_rfl) ?_
      refine LAt.doneU [6, 5, 4, 2] [6, 4, 2] (by kernel_rfl) ?_
      refine Tr.seq ?_
      refine Tr.rs ?_
      refine LAt.runU tOk 1 (by kernel_rfl) ?_
      obtain ⟨r3, er3, H⟩ := bind_some H
      refine LAt.callU tOk [.rd] (f := 55) (av := #[.tmp 26]) (ats := #[27]) (d := (some 27)) (ty := 4) (g := none) (by kernel_rfl) (by kernel_rfl) (by kernel_rfl) [] (impl_VecOk n (⟨x0.Root, (IntKind.wrap .i64 (x0.Cost + x1)), (IntKind.wrap .i64 (x0.Hops + 1)), x0.Bridge, x0.Port⟩ : Vec) r3 er3) (by kernel_rfl) (.inl rfl) ?_
      refine LAt.runU tOk 1 (by kernel_rfl) ?_
      refine LAt.doneU [28, 6, 5, 4, 2] [6, 4, 2] (by kernel_rfl) ?_
      refine Tr.to ⟨31, 0, [(28, .val false [.lit (.bool (!r3))]), (6, .adr (.box 6) [(0, 0)] 5 0), (5, .val false [.lit (.bool false)]), (4, .adr (.box 4) [(0, 0)] 5 0), (2, .adr (.box 2) [(0, 0)] 5 0)], [(6, [.lit (.int .i64 x0.Root), .lit (.int .i64 (IntKind.wrap .i64 (x0.Cost + x1))), .lit (.int .i64 (IntKind.wrap .i64 (x0.Hops + 1))), .lit (.int .i64 x0.Bridge), .lit (.int .i64 x0.Port)]), (4, [.lit (.int .i64 0), .lit (.int .i64 0), .lit (.int .i64 0), .lit (.int .i64 0), .lit (.int .i64 0)]), (2, (Vec.row x0))]⟩ (by kernel_rfl) ?_
      cases h3 : (!r3)
      · have H := bifF h3 H
        refine Tr.cond (b := false) (by kernel_rfl) (fun h => nomatch h) (fun _ => ?_)
        refine Tr.skip ?_
        show Tr _ _ _ _ _
        refine Tr.rs ?_
        refine LAt.runU tOk 3 (by kernel_rfl) ?_
        refine LAt.doneU [5, 4] [4] (by kernel_rfl) ?_
        refine Tr.ret ?_
        have H := Option.some.inj H
        subst H
        exact Fin.of _ [(true, [.lit (.int .i64 x0.Root), .lit (.int .i64 (IntKind.wrap .i64 (x0.Cost + x1))), .lit (.int .i64 (IntKind.wrap .i64 (x0.Hops + 1))), .lit (.int .i64 x0.Bridge), .lit (.int .i64 x0.Port)]), (false, [.lit (.bool true)])] (by kernel_rfl) rfl rfl
      · have H := bifT h3 H
        refine Tr.cond (b := true) (by kernel_rfl) (fun _ => ?_) (fun h => nomatch h)
        refine Tr.rs ?_
        refine LAt.runU tOk 3 (by kernel_rfl) ?_
        refine LAt.doneU [5, 6, 4] [4, 6] (by kernel_rfl) ?_
        refine Tr.ret ?_
        have H := Option.some.inj H
        subst H
        exact Fin.of _ [(true, (Vec.row x0)), (false, [.lit (.bool false)])] (by kernel_rfl) rfl rfl
    · have H := bifT h2 H
      refine Tr.cond (b := true) (by kernel_rfl) (fun _ => ?_) (fun h => nomatch h)
      refine Tr.rs ?_
      refine LAt.runU tOk 3 (by kernel_rfl) ?_
      refine LAt.doneU [5, 4, 2, 1] [4, 2] (by kernel_rfl) ?_
      refine Tr.ret ?_
      have H := Option.some.inj H
      subst H
      exact Fin.of _ [(true, (Vec.row x0)), (false, [.lit (.bool false)])] (by kernel_rfl) rfl rfl
  · have H := bifT h1 H
    refine LAt.runU tOk 4 (by kernel_rfl) ?_
    refine LAt.doneU [14, 5, 4, 2, 1] [4, 2] (by kernel_rfl) ?_
    refine Tr.cond (b := true) (by kernel_rfl) (fun _ => ?_) (fun h => nomatch h)
    refine Tr.rs ?_
    refine LAt.runU tOk 3 (by kernel_rfl) ?_
    refine LAt.doneU [5, 4, 2, 1] [4, 2] (by kernel_rfl) ?_
    refine Tr.ret ?_
    have H := Option.some.inj H
    subst H
    exact Fin.of _ [(true, (Vec.row x0)), (false, [.lit (.bool false)])] (by kernel_rfl) rfl rfl

def impl_LessVecF (n : Nat) (x0 : Vec) (x1 : Vec) : Option (Bool) :=
  (bif (x0.Root != x1.Root) then (some (decide (x0.Root < x1.Root))) else (bif (x0.Cost != x1.Cost) then (some (decide (x0.Cost < x1.Cost))) else (bif (x0.Bridge != x1.Bridge) then (some (decide (x0.Bridge < x1.Bridge))) else (some (decide (x0.Port < x1.Port))))))
/-- loop.example/g00326/impl.LessVec -/
theorem impl_LessVec (n : Nat) (x0 : Vec) (x1 : Vec) (r : Bool) (H : impl_LessVecF n x0 x1 = some r) : LCall Try.prog 73 [.val true (CV.frzRow (Vec.row x0)), .val true (CV.frzRow (Vec.row x1))] [.val false [.lit (.bool r)]] [] := by
  refine LCall.of_body tOk Try.func73 rfl (c := (.seq (.region 0 (rg Try.f73 0) false) (.seq (.block 0 (.seq (.region 1 (rg Try.f73 1) false) (.cond (.tmp 5) (.seq (.region 2 (rg Try.f73 2) false) .ret) (.seq (.region 3 (rg Try.f73 3) false) (.cond (.tmp 16) (.seq (.region 4 (rg Try.f73 4) false) .ret) (.seq (.region 5 (rg Try.f73 5) false) (.cond (.tmp 27) (.seq (.region 6 (rg Try.f73 6) false) .ret) .skip))))))) (.seq (.region 7 (rg Try.f73 7) false) .ret)))) (by kernel_rfl) (Nat.le_of_ble_eq_true (by kernel_rfl)) 0 (rs := [.tmp 4]) rfl [] .nil [(false, [.lit (.bool r)])] [] [] fun cx => ?_
  show Tr _ _ _ ⟨43, 0, [(0, .val true (Vec.row x0)), (1, .val true (Vec.row x1))], []⟩ _
  unfold impl_LessVecF at H
  refine Tr.rs ?_
  refine LAt.runU tOk 3 (by kernel_rfl) ?_
  refine LAt.doneU [4, 3, 2] [3, 2] (by kernel_rfl) ?_
  refine Tr.seq ?_
  refine Tr.block ?_
  refine Tr.rs ?_
  refine LAt.runU tOk 6 (by kernel_rfl) ?_
  refine LAt.doneU [5, 4, 3, 2] [3, 2] (by kernel_rfl) ?_
  refine Tr.to ⟨43, 0, [(5, .val false [.lit (.bool (x0.Root != x1.Root))]), (4, .val false [.lit (.bool false)]), (3, .adr (.box 3) [(0, 0)] 5 0), (2, .adr (.box 2) [(0, 0)] 5 0)], [(3, (Vec.row x1)), (2, (Vec.row x0))]⟩ (by kernel_rfl) ?_
  cases h1 : (x0.Root != x1.Root)
  · have H := bifF h1 H
    refine Tr.cond (b := false) (by kernel_rfl) (fun h => nomatch h) (fun _ => ?_)
    refine Tr.rs ?_
    refine LAt.runU tOk 6 (by kernel_rfl) ?_
    refine LAt.doneU [16, 4, 3, 2] [3, 2] (by kernel_rfl) ?_
    refine Tr.to ⟨43, 0, [(16, .val false [.lit (.bool (x0.Cost != x1.Cost))]), (4, .val false [.lit (.bool false)]), (3, .adr (.box 3) [(0, 0)] 5 0), (2, .adr (.box 2) [(0, 0)] 5 0)], [(3, (Vec.row x1)), (2, (Vec.row x0))]⟩ (by kernel_rfl) ?_
    cases h2 : (x0.Cost != x1.Cost)
    · have H := bifF h2 H
      refine Tr.cond (b := false) (by kernel_rfl) (fun h => nomatch h) (fun _ => ?_)
      refine Tr.rs ?_
      refine LAt.runU tOk 6 (by kernel_rfl) ?_
      refine LAt.doneU [27, 4, 3, 2] [3, 2] (by kernel_rfl) ?_
      refine Tr.to ⟨43, 0, [(27, .val false [.lit (.bool (x0.Bridge != x1.Bridge))]), (4, .val false [.lit (.bool false)]), (3, .adr (.box 3) [(0, 0)] 5 0), (2, .adr (.box 2) [(0, 0)] 5 0)], [(3, (Vec.row x1)), (2, (Vec.row x0))]⟩ (by kernel_rfl) ?_
      cases h3 : (x0.Bridge != x1.Bridge)
      · have H := bifF h3 H
        refine Tr.cond (b := false) (by kernel_rfl) (fun h => nomatch h) (fun _ => ?_)
        refine Tr.skip ?_
        show Tr _ _ _ _ _
        refine Tr.rs ?_
        refine LAt.runU tOk 6 (by kernel_rfl) ?_
        refine LAt.doneU [4] [] (by kernel_rfl) ?_
        refine Tr.ret ?_
        have H := Option.some.inj H
        subst H
        exact Fin.of _ [(false, [.lit (.bool (decide (x0.Port < x1.Port)))])] (by kernel_rfl) rfl rfl
      · have H := bifT h3 H
        refine Tr.cond (b := true) (by kernel_rfl) (fun _ => ?_) (fun h => nomatch h)
        refine Tr.rs ?_
        refine LAt.runU tOk 6 (by kernel_rfl) ?_
        refine LAt.doneU [4, 3, 2] [3, 2] (by kernel_rfl) ?_
        refine Tr.ret ?_
        have H := Option.some.inj H
        subst H
        exact Fin.of _ [(false, [.lit (.bool (decide (x0.Bridge < x1.Bridge)))])] (by kernel_rfl) rfl rfl
    · have H := bifT h2 H
      refine Tr.cond (b := true) (by kernel_rfl) (fun _ => ?_) (fun h => nomatch h)
      refine Tr.rs ?_
      refine LAt.runU tOk 6 (by kernel_rfl) ?_
      refine LAt.doneU [4, 3, 2] [3, 2] (by kernel_rfl) ?_
      refine Tr.ret ?_
      have H := Option.some.inj H
      subst H
      exact Fin.of _ [(false, [.lit (.bool (decide (x0.Cost < x1.Cost)))])] (by kernel_rfl) rfl rfl
  · have H := bifT h1 H
    refine Tr.cond (b := true) (by kernel_rfl) (fun _ => ?_) (fun h => nomatch h)
    refine Tr.rs ?_
    refine LAt.runU tOk 6 (by kernel_rfl) ?_
    refine LAt.doneU [4, 3, 2] [3, 2] (by kernel_rfl) ?_
    refine Tr.ret ?_
    have H := Option.some.inj H
    subst H
    exact Fin.of _ [(false, [.lit (.bool (decide (x0.Root < x1.Root)))])] (by kernel_rfl) rfl rfl

def impl_BestVec_J1 (n : Nat) (x0 : Int) (y11 : Int) (y12 : Int) (y13 : Int) (y14 : Int) : Option (Vec × Int) :=
  (some ((⟨y12, y13, y14, x0, 0⟩ : Vec), y11))
def impl_BestVec_J3 (n : Nat) (k : (Int × Int × Int × Int × Int × Int × Int × Int × Int × Int → Option ((Int × Int × Int × Int) ⊕ (Vec × Int)))) (r17 : Vec × Bool) (y1 : Int) (y10 : Int) (y2 : Int) (y3 : Int) (y4 : Int) (y5 : Int) (y6 : Int) (y7 : Int) (y8 : Int) (y9 : Int) (y18 : Bool) (y19 : Bool) (y20 : Bool) (y21 : Bool) (y22 : Bool) (y23 : Bool) (y24 : Bool) : Option ((Int × Int × Int × Int) ⊕ (Vec × Int)) :=
  (bif y18 then (k ((IntKind.wrap .i64 (y1 + 1)), y1, r17.1.Root, r17.1.Cost, r17.1.Hops, r17.1.Bridge, r17.1.Port, r17.1.Root, r17.1.Cost, r17.1.Hops)) else (k ((IntKind.wrap .i64 (y1 + 1)), y2, y3, y4, y5, y6, y7, y8, y9, y10)))
def impl_BestVec_L2 (n : Nat) : Nat → Int → (List Pt) → Int → Int → Int → Int → Int → Int → Int → Int → Int → Int → Option ((Int × Int × Int × Int) ⊕ (Vec × Int))
  | 0, _, _, _, _, _, _, _, _, _, _, _, _ => none
  | mo15 + 1, x0, x1, y1, y2, y3, y4, y5, y6, y7, y8, y9, y10 => (bif (decide (y1 < (x1.length : Int))) then ((idx x1 y1).bind fun v16 => (bif (!v16.Up) then (impl_BestVec_L2 n mo15 x0 x1 (IntKind.wrap .i64 (y1 + 1)) y2 y3 y4 y5 y6 y7 y8 y9 y10) else (bif (!v16.Has) then (impl_BestVec_L2 n mo15 x0 x1 (IntKind.wrap .i64 (y1 + 1)) y2 y3 y4 y5 y6 y7 y8 y9 y10) else ((impl_StepVecF n v16.Heard v16.Cost).bind fun r17 => (bif r17.2 then (bif (decide (r17.1.Root < x0)) then (bif (decide (y2 < 0)) then (impl_BestVec_J3 n (fun v => impl_BestVec_L2 n mo15 x0 x1 v.1 v.2.1 v.2.2.1 v.2.2.2.1 v.2.2.2.2.1 v.2.2.2.2.2.1 v.2.2.2.2.2.2.1 v.2.2.2.2.2.2.2.1 v.2.2.2.2.2.2.2.2.1 v.2.2.2.2.2.2.2.2.2) r17 y1 y10 y2 y3 y4 y5 y6 y7 y8 y9 true true true true true true true) else ((impl_LessVecF n r17.1 (⟨y3, y4, y5, y6, y7⟩ : Vec)).bind fun r25 => (impl_BestVec_J3 n (fun v => impl_BestVec_L2 n mo15 x0 x1 v.1 v.2.1 v.2.2.1 v.2.2.2.1 v.2.2.2.2.1 v.2.2.2.2.2.1 v.2.2.2.2.2.2.1 v.2.2.2.2.2.2.2.1 v.2.2.2.2.2.2.2.2.1 v.2.2.2.2.2.2.2.2.2) r17 y1 y10 y2 y3 y4 y5 y6 y7 y8 y9 r25 true true true true true true))) else (impl_BestVec_J3 n (fun v => impl_BestVec_L2 n mo15 x0 x1 v.1 v.2.1 v.2.2.1 v.2.2.2.1 v.2.2.2.2.1 v.2.2.2.2.2.1 v.2.2.2.2.2.2.1 v.2.2.2.2.2.2.2.1 v.2.2.2.2.2.2.2.2.1 v.2.2.2.2.2.2.2.2.2) r17 y1 y10 y2 y3 y4 y5 y6 y7 y8 y9 false false false true true true true)) else (impl_BestVec_J3 n (fun v => impl_BestVec_L2 n mo15 x0 x1 v.1 v.2.1 v.2.2.1 v.2.2.2.1 v.2.2.2.2.1 v.2.2.2.2.2.1 v.2.2.2.2.2.2.1 v.2.2.2.2.2.2.2.1 v.2.2.2.2.2.2.2.2.1 v.2.2.2.2.2.2.2.2.2) r17 y1 y10 y2 y3 y4 y5 y6 y7 y8 y9 false false false false false false false)))))) else (some (Sum.inl (y2, y8, y9, y10))))
def impl_BestVecF (n : Nat) (x0 : Int) (x1 : (List Pt)) : Option (Vec × Int) :=
  ((impl_BestVec_L2 n n x0 x1 0 (-1) 0 0 0 0 0 x0 0 0).bind fun o => match o with | .inl (y11, y12, y13, y14) => (impl_BestVec_J1 n x0 y11 y12 y13 y14) | .inr r => some r)
/-- loop.example/g00326/impl.BestVec -/
theorem impl_BestVec (n : Nat) (x0 : Int) (x1 : (List Pt)) (r : Vec × Int) (H : impl_BestVecF n x0 x1 = some r) : LCall Try.prog 33 [.val false [.lit (.int .i64 x0)], .val false [.sl false 8 (CV.frzEs (x1.map Pt.row))]] [.val true (Vec.row r.1), .val false [.lit (.int .i64 r.2)]] [] := by
  refine LCall.of_body tOk Try.func33 rfl (c := (.seq (.region 0 (rg Try.f33 0) false) (.seq (.region 1 (rg Try.f33 1) false) (.seq (.region 2 (rg Try.f33 2) false) (.seq (.seq (.region 3 (rg Try.f33 3) false) (.block 0 (.loop (.seq (.region 4 (rg Try.f33 4) false) (.seq (.cond (.tmp 19) .skip (.exit 0)) (.seq (.block 1 (.seq (.region 5 (rg Try.f33 5) false) (.seq (.seq (.region 6 (rg Try.f33 6) false) (.cond (.tmp 30) (.exit 1) .skip)) (.seq (.region 7 (rg Try.f33 7) false) (.seq (.region 8 (rg Try.f33 8) false) (.cond (.tmp 54) (.seq (.region 9 (rg Try.f33 9) false) (.region 10 (rg Try.f33 10) false)) .skip)))))) (.region 11 (rg Try.f33 11) false))))))) (.seq (.region 12 (rg Try.f33 12) false) .ret)))))) (by kernel_rfl) (Nat.le_of_ble_eq_true (by kernel_rfl)) 0 (rs := [.cell 4 27, .tmp 5]) rfl [] .nil [(true, (Vec.row r.1)), (false, [.lit (.int .i64 r.2)])] [] [] fun cx => ?_
  show Tr _ _ _ ⟨68, 0, [(0, .val false [.lit (.int .i64 x0)]), (1, .val false [.sl false 8 (CV.frzEs (x1.map Pt.row))])], []⟩ _
  unfold impl_BestVecF at H
  refine Tr.rs ?_
  refine LAt.runU tOk 2 (by kernel_rfl) ?_
  refine LAt.doneU [5, 4, 0, 1] [4] (by kernel_rfl) ?_
  refine Tr.rs ?_
  refine LAt.runU tOk 6 (by kernel_rfl) ?_
  refine LAt.doneU [7, 6, 5, 4, 0, 1] [6, 4] (by kernel_rfl) ?_
  refine Tr.rs ?_
  refine LAt.runU tOk 1 (by kernel_rfl) ?_
  refine LAt.doneU [8, 7, 6, 5, 4, 0, 1] [8, 6, 4] (by kernel_rfl) ?_
  refine Tr.seq ?_
  refine Tr.rs ?_
  refine LAt.runU tOk 1 (by kernel_rfl) ?_
  refine LAt.lenE tOk (t := 54) (ty := 3) (e := 29) (x := (.tmp 16)) (d := 17) (g := none) ⟨(.slot 16), [], 0, false, 8, (CV.frzEs (x1.map Pt.row))⟩ (x1).length _ (by kernel_rfl) (by kernel_rfl) (by kernel_rfl) (by kernel_rfl) (by kernel_rfl) (frz_len _ _) rfl ?_
  refine LAt.runU tOk 1 (by kernel_rfl) ?_
  refine LAt.doneU [18, 17, 16, 8, 7, 6, 5, 4, 0] [8, 6, 4] (by kernel_rfl) ?_
  obtain ⟨o15, eo15, Ho15⟩ := bind_some H
  clear H
  refine Tr.mid (ι := Int × Int × Int × Int) (fun v => ⟨68, 0, [(7, .val false [.lit (.int .i64 v.1)]), (6, .adr (.box 6) [(0, 0)] 5 0), (5, .val false [.lit (.int .i64 0)]), (4, .adr (.box 4) [(0, 0)] 5 0)], [(6, [.lit (.int .i64 v.2.1), .lit (.int .i64 v.2.2.1), .lit (.int .i64 v.2.2.2), .lit (.int .i64 x0), .lit (.int .i64 0)]), (4, [.lit (.int .i64 0), .lit (.int .i64 0), .lit (.int .i64 0), .lit (.int .i64 0), .lit (.int .i64 0)])]⟩) (fun v => impl_BestVec_J1 n x0 v.1 v.2.1 v.2.2.1 v.2.2.2 = some r) ?_ ?_
  · refine Tr.block ?_
    refine Tr.loop (ι := Nat × (Int × Int × Int × Int × Int × Int × Int × Int × Int × Int)) (fun v => ⟨68, 0, [(18, .val false [.lit (.int .i64 v.2.1)]), (17, .val false [.lit (.int .i64 (x1.length : Int))]), (16, .val false [.sl false 8 (CV.frzEs (x1.map Pt.row))]), (8, .adr (.box 8) [(0, 0)] 5 0), (7, .val false [.lit (.int .i64 v.2.2.1)]), (6, .adr (.box 6) [(0, 0)] 5 0), (5, .val false [.lit (.int .i64 0)]), (4, .adr (.box 4) [(0, 0)] 5 0), (0, .val false [.lit (.int .i64 x0)])], [(8, [.lit (.int .i64 v.2.2.2.1), .lit (.int .i64 v.2.2.2.2.1), .lit (.int .i64 v.2.2.2.2.2.1), .lit (.int .i64 v.2.2.2.2.2.2.1), .lit (.int .i64 v.2.2.2.2.2.2.2.1)]), (6, [.lit (.int .i64 v.2.2.2.2.2.2.2.2.1), .lit (.int .i64 v.2.2.2.2.2.2.2.2.2.1), .lit (.int .i64 v.2.2.2.2.2.2.2.2.2.2), .lit (.int .i64 x0), .lit (.int .i64 0)]), (4, [.lit (.int .i64 0), .lit (.int .i64 0), .lit (.int .i64 0), .lit (.int .i64 0), .lit (.int .i64 0)])]⟩) (fun v => impl_BestVec_L2 n v.1 x0 x1 v.2.1 v.2.2.1 v.2.2.2.1 v.2.2.2.2.1 v.2.2.2.2.2.1 v.2.2.2.2.2.2.1 v.2.2.2.2.2.2.2.1 v.2.2.2.2.2.2.2.2.1 v.2.2.2.2.2.2.2.2.2.1 v.2.2.2.2.2.2.2.2.2.2 = some o15) (fun v => v.1) (n, (0, (-1), 0, 0, 0, 0, 0, x0, 0, 0)) eo15 (St.sub_of [18, 17, 16, 8, 7, 6, 5, 4, 0] [8, 6, 4] (by kernel_rfl)) ?_
    rintro ⟨mo15, y1, y2, y3, y4, y5, y6, y7, y8, y9, y10⟩ H
    have H : impl_BestVec_L2 n mo15 x0 x1 y1 y2 y3 y4 y5 y6 y7 y8 y9 y10 = some o15 := H
    obtain _ | mo15 := mo15
    · cases (show (none : Option _) = some o15 from H)
    · rw [impl_BestVec_L2] at H
      refine Tr.rs ?_
      refine LAt.runU tOk 1 (by kernel_rfl) ?_
      refine LAt.doneU [19, 18, 17, 16, 8, 7, 6, 5, 4, 0] [8, 6, 4] (by kernel_rfl) ?_
      refine Tr.seq ?_
      refine Tr.to ⟨68, 0, [(19, .val false [.lit (.bool (decide (y1 < (x1.length : Int))))]), (18, .val false [.lit (.int .i64 y1)]), (17, .val false [.lit (.int .i64 (x1.length : Int))]), (16, .val false [.sl false 8 (CV.frzEs (x1.map Pt.row))]), (8, .adr (.box 8) [(0, 0)] 5 0), (7, .val false [.lit (.int .i64 y2)]), (6, .adr (.box 6) [(0, 0)] 5 0), (5, .val false [.lit (.int .i64 0)]), (4, .adr (.box 4) [(0, 0)] 5 0), (0, .val false [.lit (.int .i64 x0)])], [(8, [.lit (.int .i64 y3), .lit (.int .i64 y4), .lit (.int .i64 y5), .lit (.int .i64 y6), .lit (.int .i64 y7)]), (6, [.lit (.int .i64 y8), .lit (.int .i64 y9), .lit (.int .i64 y10), .lit (.int .i64 x0), .lit (.int .i64 0)]), (4, [.lit (.int .i64 0), .lit (.int .i64 0), .lit (.int .i64 0), .lit (.int .i64 0), .lit (.int .i64 0)])]⟩ (by kernel_rfl) ?_
      cases h1 : (decide (y1 < (x1.length : Int)))
      · have H := bifF h1 H
        refine Tr.cond (b := false) (by kernel_rfl) (fun h => nomatch h) (fun _ => ?_)
        refine Tr.exit ?_
        refine And.intro (fun _ => ?_) (fun h => absurd rfl h)
        have H := Option.some.inj H
        subst H
        have H := Ho15
        dsimp only at H
        exact Exists.intro (y2, y8, y9, y10) (And.intro H (St.sub_of [7, 6, 5, 4] [6, 4] (by kernel_rfl)))
      · have H := bifT h1 H
        refine Tr.cond (b := true) (by kernel_rfl) (fun _ => ?_) (fun h => nomatch h)
        refine Tr.skip ?_
        show Tr _ _ _ _ _
        refine Tr.seq ?_
        refine Tr.block ?_
        refine Tr.rs ?_
        refine LAt.runU tOk 1 (by kernel_rfl) ?_
        obtain ⟨v16, ev16, H⟩ := bind_some H
        refine LAt.indexF tOk (t := 54) (ty := 0) (x := (.tmp 16)) (y := (.tmp 18)) (d := 21) (g := none) ⟨(.slot 16), [], 0, false, 8, (CV.frzEs (x1.map Pt.row))⟩ y1 (Pt.row v16) _ (by kernel_rfl) (by kernel_rfl) (by kernel_rfl) (by kernel_rfl) rfl (idx_isF ev16) rfl ?_
        refine LAt.runU tOk 4 (by kernel_rfl) ?_
        refine LAt.doneU [9, 10, 22, 21, 20, 19, 18, 17, 16, 8, 7, 6, 5, 4, 0] [10, 8, 6, 4] (by kernel_rfl) ?_
        refine Tr.seq ?_
        refine Tr.rs ?_
        refine LAt.runU tOk 4 (by kernel_rfl) ?_
        refine LAt.to ⟨68, 0, [(26, .val false [.lit (.bool (!v16.Up))]), (25, .val false [.lit (.bool (!v16.Up))]), (24, .val false [.lit (.bool v16.Up)]), (23, .adr (.box 10) [(0, 0)] 8 0), (9, .val false [.lit (.int .i64 y1)]), (10, .adr (.box 10) [(0, 0)] 8 0), (22, .val true (Pt.row v16)), (21, .fad ((Pt.row v16))), (20, .val false [.lit (.int .i64 y1)]), (19, .val false [.lit (.bool true)]), (18, .val false [.lit (.int .i64 y1)]), (17, .val false [.lit (.int .i64 (x1.length : Int))]), (16, .val false [.sl false 8 (CV.frzEs (x1.map Pt.row))]), (8, .adr (.box 8) [(0, 0)] 5 0), (7, .val false [.lit (.int .i64 y2)]), (6, .adr (.box 6) [(0, 0)] 5 0), (5, .val false [.lit (.int .i64 0)]), (4, .adr (.box 4) [(0, 0)] 5 0), (0, .val false [.lit (.int .i64 x0)])], [(10, (Pt.row v16)), (8, [.lit (.int .i64 y3), .lit (.int .i64 y4), .lit (.int .i64 y5), .lit (.int .i64 y6), .lit (.int .i64 y7)]), (6, [.lit (.int .i64 y8), .lit (.int .i64 y9), .lit (.int .i64 y10), .lit (.int .i64 x0), .lit (.int .i64 0)]), (4, [.lit (.int .i64 0), .lit (.int .i64 0), .lit (.int .i64 0), .lit (.int .i64 0), .lit (.int .i64 0)])]⟩ (by kernel_rfl) ?_
        cases h2 : (!v16.Up)
        · have H := bifF h2 H
          refine LAt.runU tOk 4 (by kernel_rfl) ?_
          refine LAt.doneU [30, 29, 28, 27, 26, 25, 24, 23, 9, 10, 22, 21, 20, 19, 18, 17, 16, 8, 7, 6, 5, 4, 0] [10, 8, 6, 4] (by kernel_rfl) ?_
          refine Tr.to ⟨68, 0, [(30, .val false [.lit (.bool (!v16.Has))]), (29, .val false [.lit (.bool (!v16.Has))]), (28, .val false [.lit (.bool v16.Has)]), (27, .adr (.box 10) [(0, 0)] 8 2), (26, .val false [.lit (.bool false)]), (25, .val false [.lit (.bool false)]), (24, .val false [.lit (.bool v16.Up)]), (23, .adr (.box 10) [(0, 0)] 8 0), (9, .val false [.lit (.int .i64 y1)]), (10, .adr (.box 10) [(0, 0)] 8 0), (22, .val true (Pt.row v16)), (21, .fad ((Pt.row v16))), (20, .val false [.lit (.int .i64 y1)]), (19, .val false [.lit (.bool true)]), (18, .val false [.lit (.int .i64 y1)]), (17, .val false [.lit (.int .i64 (x1.length : Int))]), (16, .val false [.sl false 8 (CV.frzEs (x1.map Pt.row))]), (8, .adr (.box 8) [(0, 0)] 5 0), (7, .val false [.lit (.int .i64 y2)]), (6, .adr (.box 6) [(0, 0)] 5 0), (5, .val false [.lit (.int .i64 0)]), (4, .adr (.box 4) [(0, 0)] 5 0), (0, .val false [.lit (.int .i64 x0)])], [(10, (Pt.row v16)), (8, [.lit (.int .i64 y3), .lit (.int .i64 y4), .lit (.int .i64 y5), .lit (.int .i64 y6), .lit (.int .i64 y7)]), (6, [.lit (.int .i64 y8), .lit (.int .i64 y9), .lit (.int .i64 y10), .lit (.int .i64 x0), .lit (.int .i64 0)]), (4, [.lit (.int .i64 0), .lit (.int .i64 0), .lit (.int .i64 0), .lit (.int .i64 0), .lit (.int .i64 0)])]⟩ (by kernel_rfl) ?_
          cases h3 : (!v16.Has)
          · have H := bifF h3 H
            refine Tr.cond (b := false) (by kernel_rfl) (fun h => nomatch h) (fun _ => ?_)
            refine Tr.skip ?_
            show Tr _ _ _ _ _
            refine Tr.rs ?_
            refine LAt.runU tOk 4 (by kernel_rfl) ?_
            obtain ⟨r17, er17, H⟩ := bind_some H
            refine LAt.callU tOk [.rd, .rd] (f := 44) (av := #[.tmp 33, .tmp 35]) (ats := #[27, 3]) (d := (some 36)) (ty := 68) (g := none) (by kernel_rfl) (by kernel_rfl) (by kernel_rfl) [] (impl_StepVec n v16.Heard v16.Cost r17 er17) (by kernel_rfl) (.inl rfl) ?_
            refine LAt.movT tOk (ty := 68) (t := 36) (d := 31) (g := none) [(true, (Vec.row r17.1)), (false, [.lit (.bool r17.2)])] _ (by kernel_rfl) (.inl rfl) (by kernel_rfl) (by kernel_rfl) (by kernel_rfl) (by kernel_rfl) rfl ?_
            refine LAt.runU tOk 5 (by kernel_rfl) ?_
            refine LAt.doneU [12, 11, 38, 31, 37, 35, 34, 33, 32, 30, 29, 28, 27, 26, 25, 24, 23, 9, 10, 22, 21, 20, 19, 18, 17, 16, 8, 7, 6, 5, 4, 0] [11, 10, 8, 6, 4] (by kernel_rfl) ?_
            refine Tr.seq ?_
            refine Tr.mid (ι := Bool × Bool × Bool × Bool × Bool × Bool × Bool) (fun v => ⟨68, 0, [(54, .val false [.lit (.bool v.1)]), (46, .val false [.lit (.bool v.2.1)]), (45, .val false [.lit (.bool v.2.2.1)]), (40, .val false [.lit (.bool v.2.2.2.1)]), (39, .val false [.lit (.bool v.2.2.2.2.1)]), (12, .val false [.lit (.bool v.2.2.2.2.2.1)]), (11, .adr (.box 11) [(0, 0)] 5 0), (38, .val false [.lit (.bool v.2.2.2.2.2.2)]), (31, .tup [(true, [.dead, .dead, .dead, .dead, .dead]), (false, [.dead])]), (37, .val true (Vec.row r17.1)), (35, .val false [.lit (.int .i64 v16.Cost)]), (34, .adr (.box 10) [(0, 0)] 8 1), (33, .val true ((Pt.row v16).drop 3)), (32, .adr (.box 10) [(0, 0)] 8 3), (30, .val false [.lit (.bool false)]), (29, .val false [.lit (.bool false)]), (28, .val false [.lit (.bool v16.Has)]), (27, .adr (.box 10) [(0, 0)] 8 2), (26, .val false [.lit (.bool false)]), (25, .val false [.lit (.bool false)]), (24, .val false [.lit (.bool v16.Up)]), (23, .adr (.box 10) [(0, 0)] 8 0), (9, .val false [.lit (.int .i64 y1)]), (10, .adr (.box 10) [(0, 0)] 8 0), (22, .val true (Pt.row v16)), (21, .fad ((Pt.row v16))), (20, .val false [.lit (.int .i64 y1)]), (19, .val false [.lit (.bool true)]), (18, .val false [.lit (.int .i64 y1)]), (17, .val false [.lit (.int .i64 (x1.length : Int))]), (16, .val false [.sl false 8 (CV.frzEs (x1.map Pt.row))]), (8, .adr (.box 8) [(0, 0)] 5 0), (7, .val false [.lit (.int .i64 y2)]), (6, .adr (.box 6) [(0, 0)] 5 0), (5, .val false [.lit (.int .i64 0)]), (4, .adr (.box 4) [(0, 0)] 5 0), (0, .val false [.lit (.int .i64 x0)])], [(11, (Vec.row r17.1)), (10, (Pt.row v16)), (8, [.lit (.int .i64 y3), .lit (.int .i64 y4), .lit (.int .i64 y5), .lit (.int .i64 y6), .lit (.int .i64 y7)]), (6, [.lit (.int .i64 y8), .lit (.int .i64 y9), .lit (.int .i64 y10), .lit (.int .i64 x0), .lit (.int .i64 0)]), (4, [.lit (.int .i64 0), .lit (.int .i64 0), .lit (.int .i64 0), .lit (.int .i64 0), .lit (.int .i64 0)])]⟩) (fun v => impl_BestVec_J3 n (fun v => impl_BestVec_L2 n mo15 x0 x1 v.1 v.2.1 v.2.2.1 v.2.2.2.1 v.2.2.2.2.1 v.2.2.2.2.2.1 v.2.2.2.2.2.2.1 v.2.2.2.2.2.2.2.1 v.2.2.2.2.2.2.2.2.1 v.2.2.2.2.2.2.2.2.2) r17 y1 y10 y2 y3 y4 y5 y6 y7 y8 y9 v.1 v.2.1 v.2.2.1 v.2.2.2.1 v.2.2.2.2.1 v.2.2.2.2.2.1 v.2.2.2.2.2.2 = some o15) ?_ ?_
            · refine Tr.at ?_
              refine LAt.runU tOk 2 (by kernel_rfl) ?_
              refine LAt.to ⟨68, 0, [(40, .val false [.lit (.bool r17.2)]), (39, .val false [.lit (.bool r17.2)]), (12, .val false [.lit (.bool r17.2)]), (11, .adr (.box 11) [(0, 0)] 5 0), (38, .val false [.lit (.bool r17.2)]), (31, .tup [(true, [.dead, .dead, .dead, .dead, .dead]), (false, [.dead])]), (37, .val true (Vec.row r17.1)), (35, .val false [.lit (.int .i64 v16.Cost)]), (34, .adr (.box 10) [(0, 0)] 8 1), (33, .val true ((Pt.row v16).drop 3)), (32, .adr (.box 10) [(0, 0)] 8 3), (30, .val false [.lit (.bool false)]), (29, .val false [.lit (.bool false)]), (28, .val false [.lit (.bool v16.Has)]), (27, .adr (.box 10) [(0, 0)] 8 2), (26, .val false [.lit (.bool false)]), (25, .val false [.lit (.bool false)]), (24, .val false [.lit (.bool v16.Up)]), (23, .adr (.box 10) [(0, 0)] 8 0), (9, .val false [.lit (.int .i64 y1)]), (10, .adr (.box 10) [(0, 0)] 8 0), (22, .val true (Pt.row v16)), (21, .fad ((Pt.row v16))), (20, .val false [.lit (.int .i64 y1)]), (19, .val false [.lit (.bool true)]), (18, .val false [.lit (.int .i64 y1)]), (17, .val false [.lit (.int .i64 (x1.length : Int))]), (16, .val false [.sl false 8 (CV.frzEs (x1.map Pt.row))]), (8, .adr (.box 8) [(0, 0)] 5 0), (7, .val false [.lit (.int .i64 y2)]), (6, .adr (.box 6) [(0, 0)] 5 0), (5, .val false [.lit (.int .i64 0)]), (4, .adr (.box 4) [(0, 0)] 5 0), (0, .val false [.lit (.int .i64 x0)])], [(11, (Vec.row r17.1)), (10, (Pt.row v16)), (8, [.lit (.int .i64 y3), .lit (.int .i64 y4), .lit (.int .i64 y5), .lit (.int .i64 y6), .lit (.int .i64 y7)]), (6, [.lit (.int .i64 y8), .lit (.int .i64 y9), .lit (.int .i64 y10), .lit (.int .i64 x0), .lit (.int .i64 0)]), (4, [.lit (.int .i64 0), .lit (.int .i64 0), .lit (.int .i64 0), .lit (.int .i64 0), .lit (.int .i64 0)])]⟩ (by kernel_rfl) ?_
              cases h5 : r17.2
              · have H := bifF h5 H
                refine LAt.runU tOk 14 (by kernel_rfl) ?_
                refine LAt.doneU [54, 53, 52, 51, 50, 49, 48, 47, 46, 45, 44, 43, 42, 41, 40, 39, 12, 11, 38, 31, 37, 35, 34, 33, 32, 30, 29, 28, 27, 26, 25, 24, 23, 9, 10, 22, 21, 20, 19, 18, 17, 16, 8, 7, 6, 5, 4, 0] [11, 10, 8, 6, 4] (by kernel_rfl) ?_
                exact Exists.intro (false, false, false, false, false, false, false) (And.intro H (St.sub_of [54, 46, 45, 40, 39, 12, 11, 38, 31, 37, 35, 34, 33, 32, 30, 29, 28, 27, 26, 25, 24, 23, 9, 10, 22, 21, 20, 19, 18, 17, 16, 8, 7, 6, 5, 4, 0] [11, 10, 8, 6, 4] (by kernel_rfl)))
              · have H := bifT h5 H
                refine LAt.runU tOk 6 (by kernel_rfl) ?_
                refine LAt.to ⟨68, 0, [(46, .val false [.lit (.bool (decide (r17.1.Root < x0)))]), (45, .val false [.lit (.bool (decide (r17.1.Root < x0)))]), (44, .val false [.lit (.bool (decide (r17.1.Root < x0)))]), (43, .val false [.lit (.int .i64 x0)]), (42, .val false [.lit (.int .i64 r17.1.Root)]), (41, .adr (.box 11) [(0, 0)] 5 0), (40, .val false [.lit (.bool true)]), (39, .val false [.lit (.bool true)]), (12, .val false [.lit (.bool true)]), (11, .adr (.box 11) [(0, 0)] 5 0), (38, .val false [.lit (.bool true)]), (31, .tup [(true, [.dead, .dead, .dead, .dead, .dead]), (false, [.dead])]), (37, .val true (Vec.row r17.1)), (35, .val false [.lit (.int .i64 v16.Cost)]), (34, .adr (.box 10) [(0, 0)] 8 1), (33, .val true ((Pt.row v16).drop 3)), (32, .adr (.box 10) [(0, 0)] 8 3), (30, .val false [.lit (.bool false)]), (29, .val false [.lit (.bool false)]), (28, .val false [.lit (.bool v16.Has)]), (27, .adr (.box 10) [(0, 0)] 8 2), (26, .val false [.lit (.bool false)]), (25, .val false [.lit (.bool false)]), (24, .val false [.lit (.bool v16.Up)]), (23, .adr (.box 10) [(0, 0)] 8 0), (9, .val false [.lit (.int .i64 y1)]), (10, .adr (.box 10) [(0, 0)] 8 0), (22, .val true (Pt.row v16)), (21, .fad ((Pt.row v16))), (20, .val false [.lit (.int .i64 y1)]), (19, .val false [.lit (.bool true)]), (18, .val false [.lit (.int .i64 y1)]), (17, .val false [.lit (.int .i64 (x1.length : Int))]), (16, .val false [.sl false 8 (CV.frzEs (x1.map Pt.row))]), (8, .adr (.box 8) [(0, 0)] 5 0), (7, .val false [.lit (.int .i64 y2)]), (6, .adr (.box 6) [(0, 0)] 5 0), (5, .val false [.lit (.int .i64 0)]), (4, .adr (.box 4) [(0, 0)] 5 0), (0, .val false [.lit (.int .i64 x0)])], [(11, (Vec.row r17.1)), (10, (Pt.row v16)), (8, [.lit (.int .i64 y3), .lit (.int .i64 y4), .lit (.int .i64 y5), .lit (.int .i64 y6), .lit (.int .i64 y7)]), (6, [.lit (.int .i64 y8), .lit (.int .i64 y9), .lit (.int .i64 y10), .lit (.int .i64 x0), .lit (.int .i64 0)]), (4, [.lit (.int .i64 0), .lit (.int .i64 0), .lit (.int .i64 0), .lit (.int .i64 0), .lit (.int .i64 0)])]⟩ (by kernel_rfl) ?_
                cases h6 : (decide (r17.1.Root < x0))
                · have H := bifF h6 H
                  refine LAt.runU tOk 8 (by kernel_rfl) ?_
                  refine LAt.doneU [54, 53, 52, 51, 50, 49, 48, 47, 46, 45, 44, 43, 42, 41, 40, 39, 12, 11, 38, 31, 37, 35, 34, 33, 32, 30, 29, 28, 27, 26, 25, 24, 23, 9, 10, 22, 21, 20, 19, 18, 17, 16, 8, 7, 6, 5, 4, 0] [11, 10, 8, 6, 4] (by kernel_rfl) ?_
                  exact Exists.intro (false, false, false, true, true, true, true) (And.intro H (St.sub_of [54, 46, 45, 40, 39, 12, 11, 38, 31, 37, 35, 34, 33, 32, 30, 29, 28, 27, 26, 25, 24, 23, 9, 10, 22, 21, 20, 19, 18, 17, 16, 8, 7, 6, 5, 4, 0] [11, 10, 8, 6, 4] (by kernel_rfl)))
                · have H := bifT h6 H
                  refine LAt.runU tOk 3 (by kernel_rfl) ?_
                  refine LAt.to ⟨68, 0, [(49, .val false [.lit (.bool (decide (y2 < 0)))]), (48, .val false [.lit (.bool (decide (y2 < 0)))]), (47, .val false [.lit (.int .i64 y2)]), (46, .val false [.lit (.bool true)]), (45, .val false [.lit (.bool true)]), (44, .val false [.lit (.bool true)]), (43, .val false [.lit (.int .i64 x0)]), (42, .val false [.lit (.int .i64 r17.1.Root)]), (41, .adr (.box 11) [(0, 0)] 5 0), (40, .val false [.lit (.bool true)]), (39, .val false [.lit (.bool true)]), (12, .val false [.lit (.bool true)]), (11, .adr (.box 11) [(0, 0)] 5 0), (38, .val false [.lit (.bool true)]), (31, .tup [(true, [.dead, .dead, .dead, .dead, .dead]), (false, [.dead])]), (37, .val true (Vec.row r17.1)), (35, .val false [.lit (.int .i64 v16.Cost)]), (34, .adr (.box 10) [(0, 0)] 8 1), (33, .val true ((Pt.row v16).drop 3)), (32, .adr (.box 10) [(0, 0)] 8 3), (30, .val false [.lit (.bool false)]), (29, .val false [.lit (.bool false)]), (28, .val false [.lit (.bool v16.Has)]), (27, .adr (.box 10) [(0, 0)] 8 2), (26, .val false [.lit (.bool false)]), (25, .val false [.lit (.bool false)]), (24, .val false [.lit (.bool v16.Up)]), (23, .adr (.box 10) [(0, 0)] 8 0), (9, .val false [.lit (.int .i64 y1)]), (10, .adr (.box 10) [(0, 0)] 8 0), (22, .val true (Pt.row v16)), (21, .fad ((Pt.row v16))), (20, .val false [.lit (.int .i64 y1)]), (19, .val false [.lit (.bool true)]), (18, .val false [.lit (.int .i64 y1)]), (17, .val false [.lit (.int .i64 (x1.length : Int))]), (16, .val false [.sl false 8 (CV.frzEs (x1.map Pt.row))]), (8, .adr (.box 8) [(0, 0)] 5 0), (7, .val false [.lit (.int .i64 y2)]), (6, .adr (.box 6) [(0, 0)] 5 0), (5, .val false [.lit (.int .i64 0)]), (4, .adr (.box 4) [(0, 0)] 5 0), (0, .val false [.lit (.int .i64 x0)])], [(11, (Vec.row r17.1)), (10, (Pt.row v16)), (8, [.lit (.int .i64 y3), .lit (.int .i64 y4), .lit (.int .i64 y5), .lit (.int .i64 y6), .lit (.int .i64 y7)]), (6, [.lit (.int .i64 y8), .lit (.int .i64 y9), .lit (.int .i64 y10), .lit (.int .i64 x0), .lit (.int .i64 0)]), (4, [.lit (.int .i64 0), .lit (.int .i64 0), .lit (.int .i64 0), .lit (.int .i64 0), .lit (.int .i64 0)])]⟩ (by kernel_rfl) ?_
                  cases h7 : (decide (y2 < 0))
                  · have H := bifF h7 H
                    refine LAt.runU tOk 2 (by kernel_rfl) ?_
                    obtain ⟨r25, er25, H⟩ := bind_some H
                    refine LAt.callU tOk [.rd, .rd] (f := 73) (av := #[.tmp 50, .tmp 51]) (ats := #[27, 27]) (d := (some 52)) (ty := 4) (g := (some (10, false))) (by kernel_rfl) (by kernel_rfl) (by kernel_rfl) [] (impl_LessVec n r17.1 (⟨y3, y4, y5, y6, y7⟩ : Vec) r25 er25) (by kernel_rfl) (.inl rfl) ?_
                    refine LAt.runU tOk 2 (by kernel_rfl) ?_
                    refine LAt.doneU [54, 53, 52, 51, 50, 49, 48, 47, 46, 45, 44, 43, 42, 41, 40, 39, 12, 11, 38, 31, 37, 35, 34, 33, 32, 30, 29, 28, 27, 26, 25, 24, 23, 9, 10, 22, 21, 20, 19, 18, 17, 16, 8, 7, 6, 5, 4, 0] [11, 10, 8, 6, 4] (by kernel_rfl) ?_
                    exact Exists.intro (r25, true, true, true, true, true, true) (And.intro H (St.sub_of [54, 46, 45, 40, 39, 12, 11, 38, 31, 37, 35, 34, 33, 32, 30, 29, 28, 27, 26, 25, 24, 23, 9, 10, 22, 21, 20, 19, 18, 17, 16, 8, 7, 6, 5, 4, 0] [11, 10, 8, 6, 4] (by kernel_rfl)))
                  · have H := bifT h7 H
                    refine LAt.runU tOk 5 (by kernel_rfl) ?_
                    refine LAt.doneU [54, 53, 52, 51, 50, 49, 48, 47, 46, 45, 44, 43, 42, 41, 40, 39, 12, 11, 38, 31, 37, 35, 34, 33, 32, 30, 29, 28, 27, 26, 25, 24, 23, 9, 10, 22, 21, 20, 19, 18, 17, 16, 8, 7, 6, 5, 4, 0] [11, 10, 8, 6, 4] (by kernel_rfl) ?_
                    exact Exists.intro (true, true, true, true, true, true, true) (And.intro H (St.sub_of [54, 46, 45, 40, 39, 12, 11, 38, 31, 37, 35, 34, 33, 32, 30, 29, 28, 27, 26, 25, 24, 23, 9, 10, 22, 21, 20, 19, 18, 17, 16, 8, 7, 6, 5, 4, 0] [11, 10, 8, 6, 4] (by kernel_rfl)))
            · rintro ⟨y18, y19, y20, y21, y22, y23, y24⟩ H
              have H : (impl_BestVec_J3 n (fun v => impl_BestVec_L2 n mo15 x0 x1 v.1 v.2.1 v.2.2.1 v.2.2.2.1 v.2.2.2.2.1 v.2.2.2.2.2.1 v.2.2.2.2.2.2.1 v.2.2.2.2.2.2.2.1 v.2.2.2.2.2.2.2.2.1 v.2.2.2.2.2.2.2.2.2) r17 y1 y10 y2 y3 y4 y5 y6 y7 y8 y9 y18 y19 y20 y21 y22 y23 y24) = some o15 := H
              unfold impl_BestVec_J3 at H
              show Tr _ _ _ _ _
              refine Tr.to ⟨68, 0, [(54, .val false [.lit (.bool y18)]), (46, .val false [.lit (.bool y19)]), (45, .val false [.lit (.bool y20)]), (40, .val false [.lit (.bool y21)]), (39, .val false [.lit (.bool y22)]), (12, .val false [.lit (.bool y23)]), (11, .adr (.box 11) [(0, 0)] 5 0), (38, .val false [.lit (.bool y24)]), (31, .tup [(true, [.dead, .dead, .dead, .dead, .dead]), (false, [.dead])]), (37, .val true (Vec.row r17.1)), (35, .val false [.lit (.int .i64 v16.Cost)]), (34, .adr (.box 10) [(0, 0)] 8 1), (33, .val true ((Pt.row v16).drop 3)), (32, .adr (.box 10) [(0, 0)] 8 3), (30, .val false [.lit (.bool false)]), (29, .val false [.lit (.bool false)]), (28, .val false [.lit (.bool v16.Has)]), (27, .adr (.box 10) [(0, 0)] 8 2), (26, .val false [.lit (.bool false)]), (25, .val false [.lit (.bool false)]), (24, .val false [.lit (.bool v16.Up)]), (23, .adr (.box 10) [(0, 0)] 8 0), (9, .val false [.lit (.int .i64 y1)]), (10, .adr (.box 10) [(0, 0)] 8 0), (22, .val true (Pt.row v16)), (21, .fad ((Pt.row v16))), (20, .val false [.lit (.int .i64 y1)]), (19, .val false [.lit (.bool true)]), (18, .val false [.lit (.int .i64 y1)]), (17, .val false [.lit (.int .i64 (x1.length : Int))]), (16, .val false [.sl false 8 (CV.frzEs (x1.map Pt.row))]), (8, .adr (.box 8) [(0, 0)] 5 0), (7, .val false [.lit (.int .i64 y2)]), (6, .adr (.box 6) [(0, 0)] 5 0), (5, .val false [.lit (.int .i64 0)]), (4, .adr (.box 4) [(0, 0)] 5 0), (0, .val false [.lit (.int .i64 x0)])], [(11, (Vec.row r17.1)), (10, (Pt.row v16)), (8, [.lit (.int .i64 y3), .lit (.int .i64 y4), .lit (.int .i64 y5), .lit (.int .i64 y6), .lit (.int .i64 y7)]), (6, [.lit (.int .i64 y8), .lit (.int .i64 y9), .lit (.int .i64 y10), .lit (.int .i64 x0), .lit (.int .i64 0)]), (4, [.lit (.int .i64 0), .lit (.int .i64 0), .lit (.int .i64 0), .lit (.int .i64 0), .lit (.int .i64 0)])]⟩ (by kernel_rfl) ?_
              cases h4 : y18
              · have H := bifF h4 H
                refine Tr.cond (b := false) (by kernel_rfl) (fun h => nomatch h) (fun _ => ?_)
                refine Tr.skip ?_
                show Tr _ _ _ _ _
                refine Tr.at ?_
                refine LAt.runU tOk 2 (by kernel_rfl) ?_
                refine LAt.doneU [18, 65, 54, 46, 45, 40, 39, 12, 11, 38, 31, 37, 35, 34, 33, 32, 30, 29, 28, 27, 26, 25, 24, 23, 9, 10, 22, 21, 20, 19, 17, 16, 8, 7, 6, 5, 4, 0] [11, 10, 8, 6, 4] (by kernel_rfl) ?_
                exact Exists.intro (mo15, ((IntKind.wrap .i64 (y1 + 1)), y2, y3, y4, y5, y6, y7, y8, y9, y10)) (And.intro H (And.intro (Nat.lt_succ_self mo15) (St.sub_of [18, 17, 16, 8, 7, 6, 5, 4, 0] [8, 6, 4] (by kernel_rfl))))
              · have H := bifT h4 H
                refine Tr.cond (b := true) (by kernel_rfl) (fun _ => ?_) (fun h => nomatch h)
                refine Tr.rs ?_
                refine LAt.runU tOk 4 (by kernel_rfl) ?_
                refine LAt.doneU [7, 56, 55, 54, 46, 45, 40, 39, 12, 11, 38, 31, 37, 35, 34, 33, 32, 30, 29, 28, 27, 26, 25, 24, 23, 9, 10, 22, 21, 20, 19, 18, 17, 16, 8, 6, 5, 4, 0] [8, 11, 10, 6, 4] (by kernel_rfl) ?_
                refine Tr.at ?_
                refine LAt.runU tOk 9 (by kernel_rfl) ?_
                refine LAt.doneU [64, 63, 62, 61, 60, 59, 58, 57, 7, 56, 55, 54, 46, 45, 40, 39, 12, 11, 38, 31, 37, 35, 34, 33, 32, 30, 29, 28, 27, 26, 25, 24, 23, 9, 10, 22, 21, 20, 19, 18, 17, 16, 8, 6, 5, 4, 0] [6, 8, 11, 10, 4] (by kernel_rfl) ?_
                show Tr _ _ _ _ _
                refine Tr.at ?_
                refine LAt.runU tOk 2 (by kernel_rfl) ?_
                refine LAt.doneU [18, 65, 64, 63, 62, 61, 60, 59, 58, 57, 7, 56, 55, 54, 46, 45, 40, 39, 12, 11, 38, 31, 37, 35, 34, 33, 32, 30, 29, 28, 27, 26, 25, 24, 23, 9, 10, 22, 21, 20, 19, 17, 16, 8, 6, 5, 4, 0] [6, 8, 11, 10, 4] (by kernel_rfl) ?_
                exact Exists.intro (mo15, ((IntKind.wrap .i64 (y1 + 1)), y1, r17.1.Root, r17.1.Cost, r17.1.Hops, r17.1.Bridge, r17.1.Port, r17.1.Root, r17.1.Cost, r17.1.Hops)) (And.intro H (And.intro (Nat.lt_succ_self mo15) (St.sub_of [18, 17, 16, 8, 7, 6, 5, 4, 0] [8, 6, 4] (by kernel_rfl))))
          · have H := bifT h3 H
            refine Tr.cond (b := true) (by kernel_rfl) (fun _ => ?_) (fun h => nomatch h)
            refine Tr.exit ?_
            refine And.intro (fun _ => ?_) (fun h => absurd rfl h)
            show Tr _ _ _ _ _
            refine Tr.at ?_
            refine LAt.runU tOk 2 (by kernel_rfl) ?_
            refine LAt.doneU [18, 65, 30, 29, 28, 27, 26, 25, 24, 23, 9, 10, 22, 21, 20, 19, 17, 16, 8, 7, 6, 5, 4, 0] [10, 8, 6, 4] (by kernel_rfl) ?_
            exact Exists.intro (mo15, ((IntKind.wrap .i64 (y1 + 1)), y2, y3, y4, y5, y6, y7, y8, y9, y10)) (And.intro H (And.intro (Nat.lt_succ_self mo15) (St.sub_of [18, 17, 16, 8, 7, 6, 5, 4, 0] [8, 6, 4] (by kernel_rfl))))
        · have H := bifT h2 H
          refine LAt.runU tOk 4 (by kernel_rfl) ?_
          refine LAt.doneU [30, 29, 28, 27, 26, 25, 24, 23, 9, 10, 22, 21, 20, 19, 18, 17, 16, 8, 7, 6, 5, 4, 0] [10, 8, 6, 4] (by kernel_rfl) ?_
          refine Tr.cond (b := true) (by kernel_rfl) (fun _ => ?_) (fun h => nomatch h)
          refine Tr.exit ?_
          refine And.intro (fun _ => ?_) (fun h => absurd rfl h)
          show Tr _ _ _ _ _
          refine Tr.at ?_
          refine LAt.runU tOk 2 (by kernel_rfl) ?_
          refine LAt.doneU [18, 65, 30, 29, 28, 27, 26, 25, 24, 23, 9, 10, 22, 21, 20, 19, 17, 16, 8, 7, 6, 5, 4, 0] [10, 8, 6, 4] (by kernel_rfl) ?_
          exact Exists.intro (mo15, ((IntKind.wrap .i64 (y1 + 1)), y2, y3, y4, y5, y6, y7, y8, y9, y10)) (And.intro H (And.intro (Nat.lt_succ_self mo15) (St.sub_of [18, 17, 16, 8, 7, 6, 5, 4, 0] [8, 6, 4] (by kernel_rfl))))
  · rintro ⟨y11, y12, y13, y14⟩ H
    have H : (impl_BestVec_J1 n x0 y11 y12 y13 y14) = some r := H
    unfold impl_BestVec_J1 at H
    show Tr _ _ _ _ _
    refine Tr.rs ?_
    refine LAt.runU tOk 4 (by kernel_rfl) ?_
    refine LAt.doneU [5, 4] [4] (by kernel_rfl) ?_
    refine Tr.ret ?_
    have H := Option.some.inj H
    subst H
    exact Fin.of _ [(true, [.lit (.int .i64 y12), .lit (.int .i64 y13), .lit (.int .i64 y14), .lit (.int .i64 x0), .lit (.int .i64 0)]), (false, [.lit (.int .i64 y11)])] (by kernel_rfl) rfl rfl

def impl_SayVecF (n : Nat) (x0 : Int) (x1 : (List Pt)) (x2 : Int) : Option (Vec) :=
  ((impl_BestVecF n x0 x1).bind fun r1 => (some (⟨r1.1.Root, r1.1.Cost, r1.1.Hops, r1.1.Bridge, x2⟩ : Vec)))
/-- loop.example/g00326/impl.SayVec -/
theorem impl_SayVec (n : Nat) (x0 : Int) (x1 : (List Pt)) (x2 : Int) (r : Vec) (H : impl_SayVecF n x0 x1 x2 = some r) : LCall Try.prog 37 [.val false [.lit (.int .i64 x0)], .val false [.sl false 8 (CV.frzEs (x1.map Pt.row))], .val false [.lit (.int .i64 x2)]] [.val true (Vec.row r)] [] := by
  refine LCall.of_body tOk Try.func37 rfl (c := (.seq (.region 0 (rg Try.f37 0) false) (.seq (.region 1 (rg Try.f37 1) false) (.seq (.region 2 (rg Try.f37 2) false) (.seq (.region 3 (rg Try.f37 3) false) .ret))))) (by kernel_rfl) (Nat.le_of_ble_eq_true (by kernel_rfl)) 0 (rs := [.cell 6 27]) rfl [] .nil [(true, (Vec.row r))] [] [] fun cx => ?_
  show Tr _ _ _ ⟨18, 0, [(0, .val false [.lit (.int .i64 x0)]), (1, .val false [.sl false 8 (CV.frzEs (x1.map Pt.row))]), (2, .val false [.lit (.int .i64 x2)])], []⟩ _
  unfold impl_SayVecF at H
  refine Tr.rs ?_
  refine LAt.runU tOk 1 (by kernel_rfl) ?_
  refine LAt.doneU [6, 0, 1, 2] [6] (by kernel_rfl) ?_
  refine Tr.rs ?_
  refine LAt.runU tOk 2 (by kernel_rfl) ?_
  obtain ⟨r1, er1, H⟩ := bind_some H
  refine LAt.callU tOk [.rd, .rd] (f := 33) (av := #[.tmp 10, .tmp 11]) (ats := #[3, 54]) (d := (some 12)) (ty := 52) (g := none) (by kernel_rfl) (by kernel_rfl) (by kernel_rfl) [] (impl_BestVec n x0 x1 r1 er1) (by kernel_rfl) (.inl rfl) ?_
  refine LAt.movT tOk (ty := 52) (t := 12) (d := 9) (g := none) [(true, (Vec.row r1.1)), (false, [.lit (.int .i64 r1.2)])] _ (by kernel_rfl) (.inl rfl) (by kernel_rfl) (by kernel_rfl) (by kernel_rfl) (by kernel_rfl) rfl ?_
  refine LAt.runU tOk 5 (by kernel_rfl) ?_
  refine LAt.doneU [7, 6, 2] [7, 6] (by kernel_rfl) ?_
  refine Tr.rs ?_
  refine LAt.runU tOk 3 (by kernel_rfl) ?_
  refine LAt.doneU [7, 6] [7, 6] (by kernel_rfl) ?_
  refine Tr.rs ?_
  refine LAt.runU tOk 2 (by kernel_rfl) ?_
  refine LAt.doneU [6] [6] (by kernel_rfl) ?_
  refine Tr.ret ?_
  have H := Option.some.inj H
  subst H
  exact Fin.of _ [(true, [.lit (.int .i64 r1.1.Root), .lit (.int .i64 r1.1.Cost), .lit (.int .i64 r1.1.Hops), .lit (.int .i64 r1.1.Bridge), .lit (.int .i64 x2)])] (by kernel_rfl) rfl rfl

def impl_RoleOfF (n : Nat) (x0 : Int) (x1 : (List Pt)) (x2 : Int) : Option (Int) :=
  ((impl_inF n x2 0 (IntKind.wrap .i64 ((x1.length : Int) - 1))).bind fun r1 => (bif (!r1) then (some 4) else ((idx x1 x2).bind fun v2 => (bif (!v2.Up) then (some 4) else ((impl_BestVecF n x0 x1).bind fun r3 => (bif (r3.2 == x2) then (some 1) else ((idx x1 x2).bind fun v4 => (bif (!v4.Has) then (some 2) else ((impl_SayVecF n x0 x1 x2).bind fun r5 => ((idx x1 x2).bind fun v6 => ((impl_LessVecF n r5 v6.Heard).bind fun r7 => (bif r7 then (some 2) else (some 3)))))))))))))
/-- loop.example/g00326/impl.RoleOf -/
theorem impl_RoleOf (n : Nat) (x0 : Int) (x1 : (List Pt)) (x2 : Int) (r : Int) (H : impl_RoleOfF n x0 x1 x2 = some r) : LCall Try.prog 40 [.val false [.lit (.int .i64 x0)], .val false [.sl false 8 (CV.frzEs (x1.map Pt.row))], .val false [.lit (.int .i64 x2)]] [.val false [.lit (.int .i64 r)]] [] := by
  refine LCall.of_body tOk Try.func40 rfl (c := (.seq (.region 0 (rg Try.f40 0) false) (.seq (.seq (.region 1 (rg Try.f40 1) false) (.cond (.tmp 22) (.seq (.region 2 (rg Try.f40 2) false) .ret) .skip)) (.seq (.region 3 (rg Try.f40 3) false) (.seq (.block 0 (.seq (.region 4 (rg Try.f40 4) false) (.cond (.tmp 29) (.seq (.region 5 (rg Try.f40 5) false) .ret) (.seq (.region 6 (rg Try.f40 6) true) (.cond (.tmp 33) (.seq (.region 7 (rg Try.f40 7) false) .ret) .skip))))) (.seq (.region 8 (rg Try.f40 8) false) .ret)))))) (by kernel_rfl) (Nat.le_of_ble_eq_true (by kernel_rfl)) 0 (rs := [.tmp 6]) rfl [] .nil [(false, [.lit (.int .i64 r)])] [] [] fun cx => ?_
  show Tr _ _ _ ⟨52, 0, [(0, .val false [.lit (.int .i64 x0)]), (1, .val false [.sl false 8 (CV.frzEs (x1.map Pt.row))]), (2, .val false [.lit (.int .i64 x2)])], []⟩ _
  unfold impl_RoleOfF at H
  refine Tr.rs ?_
  refine LAt.runU tOk 1 (by kernel_rfl) ?_
  refine LAt.doneU [6, 0, 1, 2] [] (by kernel_rfl) ?_
  refine Tr.seq ?_
  refine Tr.rs ?_
  refine LAt.runU tOk 2 (by kernel_rfl) ?_
  refine LAt.lenE tOk (t := 54) (ty := 3) (e := 29) (x := (.tmp 10)) (d := 11) (g := none) ⟨(.slot 10), [], 0, false, 8, (CV.frzEs (x1.map Pt.row))⟩ (x1).length _ (by kernel_rfl) (by kernel_rfl) (by kernel_rfl) (by kernel_rfl) (by kernel_rfl) (frz_len _ _) rfl ?_
  refine LAt.runU tOk 1 (by kernel_rfl) ?_
  obtain ⟨r1, er1, H⟩ := bind_some H
  refine LAt.callU tOk [.rd, .rd, .rd] (f := 54) (av := #[.tmp 9, .const (.int .i64 0), .tmp 12]) (ats := #[3, 3, 3]) (d := (some 13)) (ty := 4) (g := none) (by kernel_rfl) (by kernel_rfl) (by kernel_rfl) [] (impl_in n x2 0 (IntKind.wrap .i64 ((x1.length : Int) - 1)) r1 er1) (by kernel_rfl) (.inl rfl) ?_
  refine LAt.runU tOk 2 (by kernel_rfl) ?_
  refine LAt.to ⟨52, 0, [(15, .val false [.lit (.bool (!r1))]), (14, .val false [.lit (.bool (!r1))]), (13, .val false [.lit (.bool r1)]), (12, .val false [.lit (.int .i64 (IntKind.wrap .i64 ((x1.length : Int) - 1)))]), (11, .val false [.lit (.int .i64 (x1.length : Int))]), (10, .val false [.sl false 8 (CV.frzEs (x1.map Pt.row))]), (9, .val false [.lit (.int .i64 x2)]), (6, .val false [.lit (.int .i64 0)]), (0, .val false [.lit (.int .i64 x0)]), (1, .val false [.sl false 8 (CV.frzEs (x1.map Pt.row))]), (2, .val false [.lit (.int .i64 x2)])], []⟩ (by kernel_rfl) ?_
  cases h1 : (!r1)
  · have H := bifF h1 H
    refine LAt.runU tOk 2 (by kernel_rfl) ?_
    obtain ⟨v2, ev2, H⟩ := bind_some H
    refine LAt.indexF tOk (t := 54) (ty := 0) (x := (.tmp 16)) (y := (.tmp 17)) (d := 18) (g := (some (6, false))) ⟨(.slot 16), [], 0, false, 8, (CV.frzEs (x1.map Pt.row))⟩ x2 (Pt.row v2) _ (by kernel_rfl) (by kernel_rfl) (by kernel_rfl) (by kernel_rfl) rfl (idx_isF ev2) rfl ?_
    refine LAt.runU tOk 4 (by kernel_rfl) ?_
    refine LAt.doneU [22, 6, 0, 1, 2] [] (by kernel_rfl) ?_
    refine Tr.to ⟨52, 0, [(22, .val false [.lit (.bool (!v2.Up))]), (6, .val false [.lit (.int .i64 0)]), (0, .val false [.lit (.int .i64 x0)]), (1, .val false [.sl false 8 (CV.frzEs (x1.map Pt.row))]), (2, .val false [.lit (.int .i64 x2)])], []⟩ (by kernel_rfl) ?_
    cases h2 : (!v2.Up)
    · have H := bifF h2 H
      refine Tr.cond (b := false) (by kernel_rfl) (fun h => nomatch h) (fun _ => ?_)
      refine Tr.skip ?_
      show Tr _ _ _ _ _
      refine Tr.rs ?_
      refine LAt.runU tOk 2 (by kernel_rfl) ?_
      obtain ⟨r3, er3, H⟩ := bind_some H
      refine LAt.callU tOk [.rd, .rd] (f := 33) (av := #[.tmp 24, .tmp 25]) (ats := #[3, 54]) (d := (some 26)) (ty := 52) (g := none) (by kernel_rfl) (by kernel_rfl) (by kernel_rfl) [] (impl_BestVec n x0 x1 r3 er3) (by kernel_rfl) (.inl rfl) ?_
      refine LAt.movT tOk (ty := 52) (t := 26) (d := 23) (g := none) [(true, (Vec.row r3.1)), (false, [.lit (.int .i64 r3.2)])] _ (by kernel_rfl) (.inl rfl) (by kernel_rfl) (by kernel_rfl) (by kernel_rfl) (by kernel_rfl) rfl ?_
      refine LAt.runU tOk 5 (by kernel_rfl) ?_
      refine LAt.doneU [8, 6, 0, 1, 2] [] (by kernel_rfl) ?_
      refine Tr.seq ?_
      refine Tr.block ?_
      refine Tr.rs ?_
      refine LAt.runU tOk 4 (by kernel_rfl) ?_
      refine LAt.doneU [29, 6, 0, 1, 2] [] (by kernel_rfl) ?_
      refine Tr.to ⟨52, 0, [(29, .val false [.lit (.bool (r3.2 == x2))]), (6, .val false [.lit (.int .i64 0)]), (0, .val false [.lit (.int .i64 x0)]), (1, .val false [.sl false 8 (CV.frzEs (x1.map Pt.row))]), (2, .val false [.lit (.int .i64 x2)])], []⟩ (by kernel_rfl) ?_
      cases h3 : (r3.2 == x2)
      · have H := bifF h3 H
        refine Tr.cond (b := false) (by kernel_rfl) (fun h => nomatch h) (fun _ => ?_)
        obtain ⟨v4, ev4, H⟩ := bind_some H
        refine Tr.to ⟨52, 0, [(29, .val false [.lit (.bool false)]), (6, .val false [.lit (.int .i64 0)]), (0, .val false [.lit (.int .i64 x0)]), (1, .val false [.sl false 8 (CV.frzEs (x1.map Pt.row))]), (2, .val false [.lit (.int .i64 x2)])], []⟩ (by kernel_rfl) ?_
        cases h4 : (!v4.Has)
        · have H := bifF h4 H
          obtain ⟨r5, er5, H⟩ := bind_some H
          obtain ⟨v6, ev6, H⟩ := bind_some H
          obtain ⟨r7, er7, H⟩ := bind_some H
          refine Tr.draws mixed 19 (by kernel_rfl) ⟨52, 0, [(33, .val false [.lit (.bool r7)]), (6, .val false [.lit (.int .i64 0)])], []⟩ (fun cx => ?_) ?_
          · refine AT.runU tOk [(0, []), (1, [])] 17 [] [1, 0] rfl (by kernel_rfl) (fun cx => ?_)
            refine AT.indexF tOk 2 (t := 54) (ty := 0) (x := (.tmp 34)) (y := (.tmp 35)) (d := 36) (g := none) ⟨(.slot 34), [], 0, false, 8, (CV.frzEs (x1.map Pt.row))⟩ x2 (Pt.row v4) _ (by kernel_rfl) (by kernel_rfl) (by kernel_rfl) (by kernel_rfl) (by kernel_rfl) (by kernel_rfl) rfl (idx_isF ev4) rfl (fun cx => ?_)
            refine AT.runU tOk [(3, []), (4, []), (5, []), (6, [])] 12 [] [6, 5, 4, 3, 2, 1, 0] rfl (by kernel_rfl) (fun cx => ?_)
            refine AT.to ⟨52, 0, [(40, .val false [.lit (.bool (!v4.Has))]), (39, .val false [.lit (.bool (!v4.Has))]), (38, .val false [.lit (.bool v4.Has)]), (37, .fad (((Pt.row v4).drop 2))), (36, .fad ((Pt.row v4))), (35, .val false [.lit (.int .i64 x2)]), (34, .val false [.sl false 8 (CV.frzEs (x1.map Pt.row))]), (29, .val false [.lit (.bool false)]), (6, .val false [.lit (.int .i64 0)]), (0, .val false [.lit (.int .i64 x0)]), (1, .val false [.sl false 8 (CV.frzEs (x1.map Pt.row))]), (2, .val false [.lit (.int .i64 x2)])], []⟩ (by kernel_rfl) ?_
            rw [h4]
            refine AT.runU tOk [(7, []), (8, []), (9, []), (11, []), (12, [])] 7 [] [12, 11, 9, 8, 7, 6, 5, 4, 3, 2, 1, 0] rfl (by kernel_rfl) (fun cx => ?_)
            refine AT.indexF tOk 13 (t := 54) (ty := 0) (x := (.tmp 45)) (y := (.tmp 46)) (d := 47) (g := (some (6, false))) ⟨(.slot 45), [], 0, false, 8, (CV.frzEs (x1.map Pt.row))⟩ x2 (Pt.row v6) _ (by kernel_rfl) (by kernel_rfl) (by kernel_rfl) (by kernel_rfl) (by kernel_rfl) (by kernel_rfl) rfl (idx_isF ev6) rfl (fun cx => ?_)
            refine AT.runU tOk [(14, []), (15, [])] 4 [] [15, 14, 13, 12, 11, 9, 8, 7, 6, 5, 4, 3, 2, 1, 0] rfl (by kernel_rfl) (fun cx => ?_)
            refine AT.big1 tOk 10 (by kernel_rfl) (by kernel_rfl) ?_
            refine LAt.callU tOk [.rd, .rd, .rd] (f := 37) (av := #[.tmp 41, .tmp 42, .tmp 43]) (ats := #[3, 54, 3]) (d := (some 44)) (ty := 27) (g := (some (6, false))) (by kernel_rfl) (by kernel_rfl) (by kernel_rfl) [] (impl_SayVec n x0 x1 x2 r5 er5) (by kernel_rfl) (.inl rfl) ?_
            refine LAt.fin (by kernel_rfl) (And.intro (And.intro (by kernel_rfl) (by kernel_rfl)) ?_)
            refine AT.big1 tOk 16 (by kernel_rfl) (by kernel_rfl) ?_
            refine LAt.callU tOk [.rd, .rd] (f := 73) (av := #[.tmp 44, .tmp 49]) (ats := #[27, 27]) (d := (some 50)) (ty := 4) (g := (some (6, false))) (by kernel_rfl) (by kernel_rfl) (by kernel_rfl) [] (impl_LessVec n r5 v6.Heard r7 er7) (by kernel_rfl) (.inl rfl) ?_
            refine LAt.fin (by kernel_rfl) (And.intro (And.intro (by kernel_rfl) (by kernel_rfl)) ?_)
            refine AT.runU tOk [(17, []), (18, [])] 0 [] [18, 17, 16, 10, 15, 14, 13, 12, 11, 9, 8, 7, 6, 5, 4, 3, 2, 1, 0] rfl (by kernel_rfl) (fun cx => ?_)
            exact AT.done [33, 6] [] _ (by kernel_rfl) (by kernel_rfl) rfl
          · refine Tr.to ⟨52, 0, [(33, .val false [.lit (.bool r7)]), (6, .val false [.lit (.int .i64 0)])], []⟩ (by kernel_rfl) ?_
            cases h5 : r7
            · have H := bifF h5 H
              refine Tr.cond (b := false) (by kernel_rfl) (fun h => nomatch h) (fun _ => ?_)
              refine Tr.skip ?_
              show Tr _ _ _ _ _
              refine Tr.rs ?_
              refine LAt.runU tOk 1 (by kernel_rfl) ?_
              refine LAt.doneU [6] [] (by kernel_rfl) ?_
              refine Tr.ret ?_
              have H := Option.some.inj H
              subst H
              exact Fin.of _ [(false, [.lit (.int .i64 3)])] (by kernel_rfl) rfl rfl
            · have H := bifT h5 H
              refine Tr.cond (b := true) (by kernel_rfl) (fun _ => ?_) (fun h => nomatch h)
              refine Tr.rs ?_
              refine LAt.runU tOk 1 (by kernel_rfl) ?_
              refine LAt.doneU [6] [] (by kernel_rfl) ?_
              refine Tr.ret ?_
              have H := Option.some.inj H
              subst H
              exact Fin.of _ [(false, [.lit (.int .i64 2)])] (by kernel_rfl) rfl rfl
        · have H := bifT h4 H
          refine Tr.draws mixed 19 (by kernel_rfl) ⟨52, 0, [(33, .val false [.lit (.bool true)]), (6, .val false [.lit (.int .i64 0)])], []⟩ (fun cx => ?_) ?_
          · refine AT.runU tOk [(0, []), (1, [])] 17 [] [1, 0] rfl (by kernel_rfl) (fun cx => ?_)
            refine AT.indexF tOk 2 (t := 54) (ty := 0) (x := (.tmp 34)) (y := (.tmp 35)) (d := 36) (g := none) ⟨(.slot 34), [], 0, false, 8, (CV.frzEs (x1.map Pt.row))⟩ x2 (Pt.row v4) _ (by kernel_rfl) (by kernel_rfl) (by kernel_rfl) (by kernel_rfl) (by kernel_rfl) (by kernel_rfl) rfl (idx_isF ev4) rfl (fun cx => ?_)
            refine AT.runU tOk [(3, []), (4, []), (5, []), (6, [])] 12 [] [6, 5, 4, 3, 2, 1, 0] rfl (by kernel_rfl) (fun cx => ?_)
            refine AT.to ⟨52, 0, [(40, .val false [.lit (.bool (!v4.Has))]), (39, .val false [.lit (.bool (!v4.Has))]), (38, .val false [.lit (.bool v4.Has)]), (37, .fad (((Pt.row v4).drop 2))), (36, .fad ((Pt.row v4))), (35, .val false [.lit (.int .i64 x2)]), (34, .val false [.sl false 8 (CV.frzEs (x1.map Pt.row))]), (29, .val false [.lit (.bool false)]), (6, .val false [.lit (.int .i64 0)]), (0, .val false [.lit (.int .i64 x0)]), (1, .val false [.sl false 8 (CV.frzEs (x1.map Pt.row))]), (2, .val false [.lit (.int .i64 x2)])], []⟩ (by kernel_rfl) ?_
            rw [h4]
            refine AT.runU tOk [(7, []), (8, []), (9, []), (10, []), (11, []), (12, []), (13, []), (14, []), (15, []), (16, []), (17, []), (18, [])] 0 [] [18, 17, 16, 15, 14, 13, 12, 11, 10, 9, 8, 7, 6, 5, 4, 3, 2, 1, 0] rfl (by kernel_rfl) (fun cx => ?_)
            exact AT.done [33, 6] [] _ (by kernel_rfl) (by kernel_rfl) rfl
          · refine Tr.cond (b := true) (by kernel_rfl) (fun _ => ?_) (fun h => nomatch h)
            refine Tr.rs ?_
            refine LAt.runU tOk 1 (by kernel_rfl) ?_
            refine LAt.doneU [6] [] (by kernel_rfl) ?_
            refine Tr.ret ?_
            have H := Option.some.inj H
            subst H
            exact Fin.of _ [(false, [.lit (.int .i64 2)])] (by kernel_rfl) rfl rfl
      · have H := bifT h3 H
        refine Tr.cond (b := true) (by kernel_rfl) (fun _ => ?_) (fun h => nomatch h)
        refine Tr.rs ?_
        refine LAt.runU tOk 1 (by kernel_rfl) ?_
        refine LAt.doneU [6] [] (by kernel_rfl) ?_
        refine Tr.ret ?_
        have H := Option.some.inj H
        subst H
        exact Fin.of _ [(false, [.lit (.int .i64 1)])] (by kernel_rfl) rfl rfl
    · have H := bifT h2 H
      refine Tr.cond (b := true) (by kernel_rfl) (fun _ => ?_) (fun h => nomatch h)
      refine Tr.rs ?_
      refine LAt.runU tOk 1 (by kernel_rfl) ?_
      refine LAt.doneU [6, 0, 1, 2] [] (by kernel_rfl) ?_
      refine Tr.ret ?_
      have H := Option.some.inj H
      subst H
      exact Fin.of _ [(false, [.lit (.int .i64 4)])] (by kernel_rfl) rfl rfl
  · have H := bifT h1 H
    refine LAt.runU tOk 7 (by kernel_rfl) ?_
    refine LAt.doneU [22, 6, 0, 1, 2] [] (by kernel_rfl) ?_
    refine Tr.cond (b := true) (by kernel_rfl) (fun _ => ?_) (fun h => nomatch h)
    refine Tr.rs ?_
    refine LAt.runU tOk 1 (by kernel_rfl) ?_
    refine LAt.doneU [6, 0, 1, 2] [] (by kernel_rfl) ?_
    refine Tr.ret ?_
    have H := Option.some.inj H
    subst H
    exact Fin.of _ [(false, [.lit (.int .i64 4)])] (by kernel_rfl) rfl rfl

def spec_l1InF (n : Nat) (x0 : Int) (x1 : Int) (x2 : Int) : Option (Bool) :=
  (bif (decide (x0 ≥ x1)) then (some (decide (x0 ≤ x2))) else (some false))
/-- loop.example/g00326/spec.l1In -/
theorem spec_l1In (n : Nat) (x0 : Int) (x1 : Int) (x2 : Int) (r : Bool) (H : spec_l1InF n x0 x1 x2 = some r) : LCall Try.prog 51 [.val false [.lit (.int .i64 x0)], .val false [.lit (.int .i64 x1)], .val false [.lit (.int .i64 x2)]] [.val false [.lit (.bool r)]] [] := by
  refine LCall.of_body tOk Try.func51 rfl (c := (.seq (.region 0 (rg Try.f51 0) false) (.seq (.region 1 (rg Try.f51 1) false) .ret))) (by kernel_rfl) (Nat.le_of_ble_eq_true (by kernel_rfl)) 0 (rs := [.tmp 6]) rfl [] .nil [(false, [.lit (.bool r)])] [] [] fun cx => ?_
  show Tr _ _ _ ⟨15, 0, [(0, .val false [.lit (.int .i64 x0)]), (1, .val false [.lit (.int .i64 x1)]), (2, .val false [.lit (.int .i64 x2)])], []⟩ _
  unfold spec_l1InF at H
  refine Tr.rs ?_
  refine LAt.runU tOk 1 (by kernel_rfl) ?_
  refine LAt.doneU [6, 0, 1, 2] [] (by kernel_rfl) ?_
  refine Tr.rs ?_
  refine LAt.runU tOk 4 (by kernel_rfl) ?_
  refine LAt.to ⟨15, 0, [(10, .val false [.lit (.bool (decide (x0 ≥ x1)))]), (9, .val false [.lit (.bool (decide (x0 ≥ x1)))]), (8, .val false [.lit (.int .i64 x1)]), (7, .val false [.lit (.int .i64 x0)]), (6, .val false [.lit (.bool false)]), (0, .val false [.lit (.int .i64 x0)]), (1, .val false [.lit (.int .i64 x1)]), (2, .val false [.lit (.int .i64 x2)])], []⟩ (by kernel_rfl) ?_
  cases h1 : (decide (x0 ≥ x1))
  · have H := bifF h1 H
    refine LAt.runU tOk 5 (by kernel_rfl) ?_
    refine LAt.doneU [6] [] (by kernel_rfl) ?_
    refine Tr.ret ?_
    have H := Option.some.inj H
    subst H
    exact Fin.of _ [(false, [.lit (.bool false)])] (by kernel_rfl) rfl rfl
  · have H := bifT h1 H
    refine LAt.runU tOk 5 (by kernel_rfl) ?_
    refine LAt.doneU [6] [] (by kernel_rfl) ?_
    refine Tr.ret ?_
    have H := Option.some.inj H
    subst H
    exact Fin.of _ [(false, [.lit (.bool (decide (x0 ≤ x2)))])] (by kernel_rfl) rfl rfl

def spec_VecOkF (n : Nat) (x0 : Vec) : Option (Bool) :=
  ((spec_l1InF n x0.Root 1 99).bind fun r1 => (bif r1 then ((spec_l1InF n x0.Cost 0 100000).bind fun r2 => (bif r2 then ((spec_l1InF n x0.Hops 0 10).bind fun r3 => (bif r3 then ((spec_l1InF n x0.Bridge 1 99).bind fun r4 => (bif r4 then ((spec_l1InF n x0.Port 0 7).bind fun r5 => (some r5)) else (some false))) else (some false))) else (some false))) else (some false)))
/-- loop.example/g00326/spec.VecOk -/
theorem spec_VecOk (n : Nat) (x0 : Vec) (r : Bool) (H : spec_VecOkF n x0 = some r) : LCall Try.prog 52 [.val true (CV.frzRow (Vec.row x0))] [.val false [.lit (.bool r)]] [] := by
  refine LCall.of_body tOk Try.func52 rfl (c := (.seq (.region 0 (rg Try.f52 0) false) (.seq (.region 1 (rg Try.f52 1) false) .ret))) (by kernel_rfl) (Nat.le_of_ble_eq_true (by kernel_rfl)) 0 (rs := [.tmp 2]) rfl [] .nil [(false, [.lit (.bool r)])] [] [] fun cx => ?_
  show Tr _ _ _ ⟨26, 0, [(0, .val true (Vec.row x0))], []⟩ _
  unfold spec_VecOkF at H
  refine Tr.rs ?_
  refine LAt.runU tOk 2 (by kernel_rfl) ?_
  refine LAt.doneU [2, 1] [1] (by kernel_rfl) ?_
  refine Tr.rs ?_
  refine LAt.runU tOk 2 (by kernel_rfl) ?_
  obtain ⟨r1, er1, H⟩ := bind_some H
  refine LAt.callU tOk [.rd, .rd, .rd] (f := 51) (av := #[.tmp 4, .const (.int .i64 1), .const (.int .i64 99)]) (ats := #[3, 3, 3]) (d := (some 5)) (ty := 4) (g := none) (by kernel_rfl) (by kernel_rfl) (by kernel_rfl) [] (spec_l1In n x0.Root 1 99 r1 er1) (by kernel_rfl) (.inl rfl) ?_
  refine LAt.runU tOk 1 (by kernel_rfl) ?_
  refine LAt.to ⟨26, 0, [(6, .val false [.lit (.bool r1)]), (5, .val false [.lit (.bool r1)]), (4, .val false [.lit (.int .i64 x0.Root)]), (3, .adr (.box 1) [(0, 0)] 5 0), (2, .val false [.lit (.bool false)]), (1, .adr (.box 1) [(0, 0)] 5 0)], [(1, (Vec.row x0))]⟩ (by kernel_rfl) ?_
  cases h1 : r1
  · have H := bifF h1 H
    refine LAt.runU tOk 20 (by kernel_rfl) ?_
    refine LAt.doneU [2] [] (by kernel_rfl) ?_
    refine Tr.ret ?_
    have H := Option.some.inj H
    subst H
    exact Fin.of _ [(false, [.lit (.bool false)])] (by kernel_rfl) rfl rfl
  · have H := bifT h1 H
    refine LAt.runU tOk 2 (by kernel_rfl) ?_
    obtain ⟨r2, er2, H⟩ := bind_some H
    refine LAt.callU tOk [.rd, .rd, .rd] (f := 51) (av := #[.tmp 8, .const (.int .i64 0), .const (.int .i64 100000)]) (ats := #[3, 3, 3]) (d := (some 9)) (ty := 4) (g := (some (3, true))) (by kernel_rfl) (by kernel_rfl) (by kernel_rfl) [] (spec_l1In n x0.Cost 0 100000 r2 er2) (by kernel_rfl) (.inl rfl) ?_
    refine LAt.runU tOk 2 (by kernel_rfl) ?_
    refine LAt.to ⟨26, 0, [(11, .val false [.lit (.bool r2)]), (10, .val false [.lit (.bool r2)]), (9, .val false [.lit (.bool r2)]), (8, .val false [.lit (.int .i64 x0.Cost)]), (7, .adr (.box 1) [(0, 0)] 5 1), (6, .val false [.lit (.bool true)]), (5, .val false [.lit (.bool true)]), (4, .val false [.lit (.int .i64 x0.Root)]), (3, .adr (.box 1) [(0, 0)] 5 0), (2, .val false [.lit (.bool false)]), (1, .adr (.box 1) [(0, 0)] 5 0)], [(1, (Vec.row x0))]⟩ (by kernel_rfl) ?_
    cases h2 : r2
    · have H := bifF h2 H
      refine LAt.runU tOk 15 (by kernel_rfl) ?_
      refine LAt.doneU [2] [] (by kernel_rfl) ?_
      refine Tr.ret ?_
      have H := Option.some.inj H
      subst H
      exact Fin.of _ [(false, [.lit (.bool false)])] (by kernel_rfl) rfl rfl
    · have H := bifT h2 H
      refine LAt.runU tOk 2 (by kernel_rfl) ?_
      obtain ⟨r3, er3, H⟩ := bind_some H
      refine LAt.callU tOk [.rd, .rd, .rd] (f := 51) (av := #[.tmp 13, .const (.int .i64 0), .const (.int .i64 10)]) (ats := #[3, 3, 3]) (d := (some 14)) (ty := 4) (g := (some (8, true))) (by kernel_rfl) (by kernel_rfl) (by kernel_rfl) [] (spec_l1In n x0.Hops 0 10 r3 er3) (by kernel_rfl) (.inl rfl) ?_
      refine LAt.runU tOk 2 (by kernel_rfl) ?_
      refine LAt.to ⟨26, 0, [(16, .val false [.lit (.bool r3)]), (15, .val false [.lit (.bool r3)]), (14, .val false [.lit (.bool r3)]), (13, .val false [.lit (.int .i64 x0.Hops)]), (12, .adr (.box 1) [(0, 0)] 5 2), (11, .val false [.lit (.bool true)]), (10, .val false [.lit (.bool true)]), (9, .val false [.lit (.bool true)]), (8, .val false [.lit (.int .i64 x0.Cost)]), (7, .adr (.box 1) [(0, 0)] 5 1), (6, .val false [.lit (.bool true)]), (5, .val false [.lit (.bool true)]), (4, .val false [.lit (.int .i64 x0.Root)]), (3, .adr (.box 1) [(0, 0)] 5 0), (2, .val false [.lit (.bool false)]), (1, .adr (.box 1) [(0, 0)] 5 0)], [(1, (Vec.row x0))]⟩ (by kernel_rfl) ?_
      cases h3 : r3
      · have H := bifF h3 H
        refine LAt.runU tOk 10 (by kernel_rfl) ?_
        refine LAt.doneU [2] [] (by kernel_rfl) ?_
        refine Tr.ret ?_
        have H := Option.some.inj H
        subst H
        exact Fin.of _ [(false, [.lit (.bool false)])] (by kernel_rfl) rfl rfl
      · have H := bifT h3 H
        refine LAt.runU tOk 2 (by kernel_rfl) ?_
        obtain ⟨r4, er4, H⟩ := bind_some H
        refine LAt.callU tOk [.rd, .rd, .rd] (f := 51) (av := #[.tmp 18, .const (.int .i64 1), .const (.int .i64 99)]) (ats := #[3, 3, 3]) (d := (some 19)) (ty := 4) (g := (some (13, true))) (by kernel_rfl) (by kernel_rfl) (by kernel_rfl) [] (spec_l1In n x0.Bridge 1 99 r4 er4) (by kernel_rfl) (.inl rfl) ?_
        refine LAt.runU tOk 2 (by kernel_rfl) ?_
        refine LAt.to ⟨26, 0, [(21, .val false [.lit (.bool r4)]), (20, .val false [.lit (.bool r4)]), (19, .val false [.lit (.bool r4)]), (18, .val false [.lit (.int .i64 x0.Bridge)]), (17, .adr (.box 1) [(0, 0)] 5 3), (16, .val false [.lit (.bool true)]), (15, .val false [.lit (.bool true)]), (14, .val false [.lit (.bool true)]), (13, .val false [.lit (.int .i64 x0.Hops)]), (12, .adr (.box 1) [(0, 0)] 5 2), (11, .val false [.lit (.bool true)]), (10, .val false [.lit (.bool true)]), (9, .val false [.lit (.bool true)]), (8, .val false [.lit (.int .i64 x0.Cost)]), (7, .adr (.box 1) [(0, 0)] 5 1), (6, .val false [.lit (.bool true)]), (5, .val false [.lit (.bool true)]), (4, .val false [.lit (.int .i64 x0.Root)]), (3, .adr (.box 1) [(0, 0)] 5 0), (2, .val false [.lit (.bool false)]), (1, .adr (.box 1) [(0, 0)] 5 0)], [(1, (Vec.row x0))]⟩ (by kernel_rfl) ?_
        cases h4 : r4
        · have H := bifF h4 H
          refine LAt.runU tOk 5 (by kernel_rfl) ?_
          refine LAt.doneU [2] [] (by kernel_rfl) ?_
          refine Tr.ret ?_
          have H := Option.some.inj H
          subst H
          exact Fin.of _ [(false, [.lit (.bool false)])] (by kernel_rfl) rfl rfl
        · have H := bifT h4 H
          refine LAt.runU tOk 2 (by kernel_rfl) ?_
          obtain ⟨r5, er5, H⟩ := bind_some H
          refine LAt.callU tOk [.rd, .rd, .rd] (f := 51) (av := #[.tmp 23, .const (.int .i64 0), .const (.int .i64 7)]) (ats := #[3, 3, 3]) (d := (some 24)) (ty := 4) (g := (some (18, true))) (by kernel_rfl) (by kernel_rfl) (by kernel_rfl) [] (spec_l1In n x0.Port 0 7 r5 er5) (by kernel_rfl) (.inl rfl) ?_
          refine LAt.runU tOk 2 (by kernel_rfl) ?_
          refine LAt.doneU [2] [] (by kernel_rfl) ?_
          refine Tr.ret ?_
          have H := Option.some.inj H
          subst H
          exact Fin.of _ [(false, [.lit (.bool r5)])] (by kernel_rfl) rfl rfl

def spec_StepVecF (n : Nat) (x0 : Vec) (x1 : Int) : Option (Vec × Bool) :=
  ((spec_VecOkF n x0).bind fun r1 => (bif (!r1) then (some (x0, false)) else ((spec_l1InF n x1 1 1000).bind fun r2 => (bif (!r2) then (some (x0, false)) else ((spec_VecOkF n (⟨x0.Root, (IntKind.wrap .i64 (x0.Cost + x1)), (IntKind.wrap .i64 (x0.Hops + 1)), x0.Bridge, x0.Port⟩ : Vec)).bind fun r3 => (bif (!r3) then (some (x0, false)) else (some ((⟨x0.Root, (IntKind.wrap .i64 (x0.Cost + x1)), (IntKind.wrap .i64 (x0.Hops + 1)), x0.Bridge, x0.Port⟩ : Vec), true))))))))
/-- loop.example/g00326/spec.StepVec -/
theorem spec_StepVec (n : Nat) (x0 : Vec) (x1 : Int) (r : Vec × Bool) (H : spec_StepVecF n x0 x1 = some r) : LCall Try.prog 71 [.val true (CV.frzRow (Vec.row x0)), .val false [.lit (.int .i64 x1)]] [.val true (Vec.row r.1), .val false [.lit (.bool r.2)]] [] := by
  refine LCall.of_body tOk Try.func71 rfl (c := (.seq (.region 0 (rg Try.f71 0) false) (.seq (.seq (.region 1 (rg Try.f71 1) false) (.cond (.tmp 14) (.seq (.region 2 (rg Try.f71 2) false) .ret) .skip)) (.seq (.region 3 (rg Try.f71 3) false) (.seq (.region 4 (rg Try.f71 4) false) (.seq (.region 5 (rg Try.f71 5) false) (.seq (.seq (.region 6 (rg Try.f71 6) false) (.cond (.tmp 28) (.seq (.region 7 (rg Try.f71 7) false) .ret) .skip)) (.seq (.region 8 (rg Try.f71 8) false) .ret)))))))) (by kernel_rfl) (Nat.le_of_ble_eq_true (by kernel_rfl)) 0 (rs := [.cell 4 27, .tmp 5]) rfl [] .nil [(true, (Vec.row r.1)), (false, [.lit (.bool r.2)])] [] [] fun cx => ?_
  show Tr _ _ _ ⟨31, 0, [(0, .val true (Vec.row x0)), (1, .val false [.lit (.int .i64 x1)])], []⟩ _
  unfold spec_StepVecF at H
  refine Tr.rs ?_
  refine LAt.runU tOk 3 (by kernel_rfl) ?_
  refine LAt.doneU [5, 4, 2, 1] [4, 2] (by kernel_rfl) ?_
  refine Tr.seq ?_
  refine Tr.rs ?_
  refine LAt.runU tOk 1 (by kernel_rfl) ?_
  obtain ⟨r1, er1, H⟩ := bind_some H
  refine LAt.callU tOk [.rd] (f := 52) (av := #[.tmp 7]) (ats := #[27]) (d := (some 8)) (ty := 4) (g := none) (by kernel_rfl) (by kernel_rfl) (by kernel_rfl) [] (spec_VecOk n x0 r1 er1) (by kernel_rfl) (.inl rfl) ?_
  refine LAt.runU tOk 2 (by kernel_rfl) ?_
  refine LAt.to ⟨31, 0, [(10, .val false [.lit (.bool (!r1))]), (9, .val false [.lit (.bool (!r1))]), (8, .val false [.lit (.bool r1)]), (7, .val true (Vec.row x0)), (5, .val false [.lit (.bool false)]), (4, .adr (.box 4) [(0, 0)] 5 0), (2, .adr (.box 2) [(0, 0)] 5 0), (1, .val false [.lit (.int .i64 x1)])], [(4, [.lit (.int .i64 0), .lit (.int .i64 0), .lit (.int .i64 0), .lit (.int .i64 0), .lit (.int .i64 0)]), (2, (Vec.row x0))]⟩ (by kernel_rfl) ?_
  cases h1 : (!r1)
  · have H := bifF h1 H
    refine LAt.runU tOk 1 (by kernel_rfl) ?_
    obtain ⟨r2, er2, H⟩ := bind_some H
    refine LAt.callU tOk [.rd, .rd, .rd] (f := 51) (av := #[.tmp 11, .const (.int .i64 1), .const (.int .i64 1000)]) (ats := #[3, 3, 3]) (d := (some 12)) (ty := 4) (g := (some (3, false))) (by kernel_rfl) (by kernel_rfl) (by kernel_rfl) [] (spec_l1In n x1 1 1000 r2 er2) (by kernel_rfl) (.inl rfl) ?_
    refine LAt.runU tOk 2 (by kernel_rfl) ?_
    refine LAt.doneU [14, 5, 4, 2, 1] [4, 2] (by kernel_rfl) ?_
    refine Tr.to ⟨31, 0, [(14, .val false [.lit (.bool (!r2))]), (5, .val false [.lit (.bool false)]), (4, .adr (.box 4) [(0, 0)] 5 0), (2, .adr (.box 2) [(0, 0)] 5 0), (1, .val false [.lit (.int .i64 x1)])], [(4, [.lit (.int .i64 0), .lit (.int .i64 0), .lit (.int .i64 0), .lit (.int .i64 0), .lit (.int .i64 0)]), (2, (Vec.row x0))]⟩ (by kernel_rfl) ?_
    cases h2 : (!r2)
    · have H := bifF h2 H
      refine Tr.cond (b := false) (by kernel_rfl) (fun h => nomatch h) (fun _ => ?_)
      refine Tr.skip ?_
      show Tr _ _ _ _ _
      refine Tr.rs ?_
      refine LAt.runU tOk 3 (by kernel_rfl) ?_
      refine LAt.doneU [6, 5, 4, 2, 1] [6, 4, 2] (by kernel_rfl) ?_
      refine Tr.rs ?_
      refine LAt.runU tOk 6 (by kernel_rfl) ?_
      refine LAt.doneU [6, 5, 4, 2] [6, 4, 2] (by kernel_rfl) ?_
      refine Tr.rs ?_
      refine LAt.runU tOk 5 (by kernel_rfl) ?_
      refine LAt.doneU [6, 5, 4, 2] [6, 4, 2] (by kernel_rfl) ?_
      refine Tr.seq ?_
      refine Tr.rs ?_
      refine LAt.runU tOk 1 (by kernel_rfl) ?_
      obtain ⟨r3, er3, H⟩ := bind_some H
      refine LAt.callU tOk [.rd] (f := 52) (av := #[.tmp 26]) (ats := #[27]) (d := (some 27)) (ty := 4) (g := none) (by kernel_rfl) (by kernel_rfl) (by kernel_rfl) [] (spec_VecOk n (⟨x0.Root, (IntKind.wrap .i64 (x0.Cost + x1)), (IntKind.wrap .i64 (x0.Hops + 1)), x0.Bridge, x0.Port⟩ : Vec) r3 er3) (by kernel_rfl) (.inl rfl) ?_
      refine LAt.runU tOk 1 (by kernel_rfl) ?_
      refine LAt.doneU [28, 6, 5, 4, 2] [6, 4, 2] (by kernel_rfl) ?_
      refine Tr.to ⟨31, 0, [(28, .val false [.lit (.bool (!r3))]), (6, .adr (.box 6) [(0, 0)] 5 0), (5, .val false [.lit (.bool false)]), (4, .adr (.box 4) [(0, 0)] 5 0), (2, .adr (.box 2) [(0, 0)] 5 0)], [(6, [.lit (.int .i64 x0.Root), .lit (.int .i64 (IntKind.wrap .i64 (x0.Cost + x1))), .lit (.int .i64 (IntKind.wrap .i64 (x0.Hops + 1))), .lit (.int .i64 x0.Bridge), .lit (.int .i64 x0.Port)]), (4, [.lit (.int .i64 0), .lit (.int .i64 0), .lit (.int .i64 0), .lit (.int .i64 0), .lit (.int .i64 0)]), (2, (Vec.row x0))]⟩ (by kernel_rfl) ?_
      cases h3 : (!r3)
      · have H := bifF h3 H
        refine Tr.cond (b := false) (by kernel_rfl) (fun h => nomatch h) (fun _ => ?_)
        refine Tr.skip ?_
        show Tr _ _ _ _ _
        refine Tr.rs ?_
        refine LAt.runU tOk 3 (by kernel_rfl) ?_
        refine LAt.doneU [5, 4] [4] (by kernel_rfl) ?_
        refine Tr.ret ?_
        have H := Option.some.inj H
        subst H
        exact Fin.of _ [(true, [.lit (.int .i64 x0.Root), .lit (.int .i64 (IntKind.wrap .i64 (x0.Cost + x1))), .lit (.int .i64 (IntKind.wrap .i64 (x0.Hops + 1))), .lit (.int .i64 x0.Bridge), .lit (.int .i64 x0.Port)]), (false, [.lit (.bool true)])] (by kernel_rfl) rfl rfl
      · have H := bifT h3 H
        refine Tr.cond (b := true) (by kernel_rfl) (fun _ => ?_) (fun h => nomatch h)
        refine Tr.rs ?_
        refine LAt.runU tOk 3 (by kernel_rfl) ?_
        refine LAt.doneU [5, 6, 4] [4, 6] (by kernel_rfl) ?_
        refine Tr.ret ?_
        have H := Option.some.inj H
        subst H
        exact Fin.of _ [(true, (Vec.row x0)), (false, [.lit (.bool false)])] (by kernel_rfl) rfl rfl
    · have H := bifT h2 H
      refine Tr.cond (b := true) (by kernel_rfl) (fun _ => ?_) (fun h => nomatch h)
      refine Tr.rs ?_
      refine LAt.runU tOk 3 (by kernel_rfl) ?_
      refine LAt.doneU [5, 4, 2, 1] [4, 2] (by kernel_rfl) ?_
      refine Tr.ret ?_
      have H := Option.some.inj H
      subst H
      exact Fin.of _ [(true, (Vec.row x0)), (false, [.lit (.bool false)])] (by kernel_rfl) rfl rfl
  · have H := bifT h1 H
    refine LAt.runU tOk 4 (by kernel_rfl) ?_
    refine LAt.doneU [14, 5, 4, 2, 1] [4, 2] (by kernel_rfl) ?_
    refine Tr.cond (b := true) (by kernel_rfl) (fun _ => ?_) (fun h => nomatch h)
    refine Tr.rs ?_
    refine LAt.runU tOk 3 (by kernel_rfl) ?_
    refine LAt.doneU [5, 4, 2, 1] [4, 2] (by kernel_rfl) ?_
    refine Tr.ret ?_
    have H := Option.some.inj H
    subst H
    exact Fin.of _ [(true, (Vec.row x0)), (false, [.lit (.bool false)])] (by kernel_rfl) rfl rfl

def spec_LessVecF (n : Nat) (x0 : Vec) (x1 : Vec) : Option (Bool) :=
  (bif (x0.Root != x1.Root) then (some (decide (x0.Root < x1.Root))) else (bif (x0.Cost != x1.Cost) then (some (decide (x0.Cost < x1.Cost))) else (bif (x0.Bridge != x1.Bridge) then (some (decide (x0.Bridge < x1.Bridge))) else (some (decide (x0.Port < x1.Port))))))
/-- loop.example/g00326/spec.LessVec -/
theorem spec_LessVec (n : Nat) (x0 : Vec) (x1 : Vec) (r : Bool) (H : spec_LessVecF n x0 x1 = some r) : LCall Try.prog 72 [.val true (CV.frzRow (Vec.row x0)), .val true (CV.frzRow (Vec.row x1))] [.val false [.lit (.bool r)]] [] := by
  refine LCall.of_body tOk Try.func72 rfl (c := (.seq (.region 0 (rg Try.f72 0) false) (.seq (.block 0 (.seq (.region 1 (rg Try.f72 1) false) (.cond (.tmp 5) (.seq (.region 2 (rg Try.f72 2) false) .ret) (.seq (.region 3 (rg Try.f72 3) false) (.cond (.tmp 16) (.seq (.region 4 (rg Try.f72 4) false) .ret) (.seq (.region 5 (rg Try.f72 5) false) (.cond (.tmp 27) (.seq (.region 6 (rg Try.f72 6) false) .ret) .skip))))))) (.seq (.region 7 (rg Try.f72 7) false) .ret)))) (by kernel_rfl) (Nat.le_of_ble_eq_true (by kernel_rfl)) 0 (rs := [.tmp 4]) rfl [] .nil [(false, [.lit (.bool r)])] [] [] fun cx => ?_
  show Tr _ _ _ ⟨43, 0, [(0, .val true (Vec.row x0)), (1, .val true (Vec.row x1))], []⟩ _
  unfold spec_LessVecF at H
  refine Tr.rs ?_
  refine LAt.runU tOk 3 (by kernel_rfl) ?_
  refine LAt.doneU [4, 3, 2] [3, 2] (by kernel_rfl) ?_
  refine Tr.seq ?_
  refine Tr.block ?_
  refine Tr.rs ?_
  refine LAt.runU tOk 6 (by kernel_rfl) ?_
  refine LAt.doneU [5, 4, 3, 2] [3, 2] (by kernel_rfl) ?_
  refine Tr.to ⟨43, 0, [(5, .val false [.lit (.bool (x0.Root != x1.Root))]), (4, .val false [.lit (.bool false)]), (3, .adr (.box 3) [(0, 0)] 5 0), (2, .adr (.box 2) [(0, 0)] 5 0)], [(3, (Vec.row x1)), (2, (Vec.row x0))]⟩ (by kernel_rfl) ?_
  cases h1 : (x0.Root != x1.Root)
  · have H := bifF h1 H
    refine Tr.cond (b := false) (by kernel_rfl) (fun h => nomatch h) (fun _ => ?_)
    refine Tr.rs ?_
    refine LAt.runU tOk 6 (by kernel_rfl) ?_
    refine LAt.doneU [16, 4, 3, 2] [3, 2] (by kernel_rfl) ?_
    refine Tr.to ⟨43, 0, [(16, .val false [.lit (.bool (x0.Cost != x1.Cost))]), (4, .val false [.lit (.bool false)]), (3, .adr (.box 3) [(0, 0)] 5 0), (2, .adr (.box 2) [(0, 0)] 5 0)], [(3, (Vec.row x1)), (2, (Vec.row x0))]⟩ (by kernel_rfl) ?_
    cases h2 : (x0.Cost != x1.Cost)
    · have H := bifF h2 H
      refine Tr.cond (b := false) (by kernel_rfl) (fun h => nomatch h) (fun _ => ?_)
      refine Tr.rs ?_
      refine LAt.runU tOk 6 (by kernel_rfl) ?_
      refine LAt.doneU [27, 4, 3, 2] [3, 2] (by kernel_rfl) ?_
      refine Tr.to ⟨43, 0, [(27, .val false [.lit (.bool (x0.Bridge != x1.Bridge))]), (4, .val false [.lit (.bool false)]), (3, .adr (.box 3) [(0, 0)] 5 0), (2, .adr (.box 2) [(0, 0)] 5 0)], [(3, (Vec.row x1)), (2, (Vec.row x0))]⟩ (by kernel_rfl) ?_
      cases h3 : (x0.Bridge != x1.Bridge)
      · have H := bifF h3 H
        refine Tr.cond (b := false) (by kernel_rfl) (fun h => nomatch h) (fun _ => ?_)
        refine Tr.skip ?_
        show Tr _ _ _ _ _
        refine Tr.rs ?_
        refine LAt.runU tOk 6 (by kernel_rfl) ?_
        refine LAt.doneU [4] [] (by kernel_rfl) ?_
        refine Tr.ret ?_
        have H := Option.some.inj H
        subst H
        exact Fin.of _ [(false, [.lit (.bool (decide (x0.Port < x1.Port)))])] (by kernel_rfl) rfl rfl
      · have H := bifT h3 H
        refine Tr.cond (b := true) (by kernel_rfl) (fun _ => ?_) (fun h => nomatch h)
        refine Tr.rs ?_
        refine LAt.runU tOk 6 (by kernel_rfl) ?_
        refine LAt.doneU [4, 3, 2] [3, 2] (by kernel_rfl) ?_
        refine Tr.ret ?_
        have H := Option.some.inj H
        subst H
        exact Fin.of _ [(false, [.lit (.bool (decide (x0.Bridge < x1.Bridge)))])] (by kernel_rfl) rfl rfl
    · have H := bifT h2 H
      refine Tr.cond (b := true) (by kernel_rfl) (fun _ => ?_) (fun h => nomatch h)
      refine Tr.rs ?_
      refine LAt.runU tOk 6 (by kernel_rfl) ?_
      refine LAt.doneU [4, 3, 2] [3, 2] (by kernel_rfl) ?_
      refine Tr.ret ?_
      have H := Option.some.inj H
      subst H
      exact Fin.of _ [(false, [.lit (.bool (decide (x0.Cost < x1.Cost)))])] (by kernel_rfl) rfl rfl
  · have H := bifT h1 H
    refine Tr.cond (b := true) (by kernel_rfl) (fun _ => ?_) (fun h => nomatch h)
    refine Tr.rs ?_
    refine LAt.runU tOk 6 (by kernel_rfl) ?_
    refine LAt.doneU [4, 3, 2] [3, 2] (by kernel_rfl) ?_
    refine Tr.ret ?_
    have H := Option.some.inj H
    subst H
    exact Fin.of _ [(false, [.lit (.bool (decide (x0.Root < x1.Root)))])] (by kernel_rfl) rfl rfl

def spec_BestVec_J1 (n : Nat) (x0 : Int) (y11 : Int) (y12 : Int) (y13 : Int) (y14 : Int) : Option (Vec × Int) :=
  (some ((⟨y12, y13, y14, x0, 0⟩ : Vec), y11))
def spec_BestVec_J3 (n : Nat) (k : (Int × Int × Int × Int × Int × Int × Int × Int × Int × Int → Option ((Int × Int × Int × Int) ⊕ (Vec × Int)))) (r20 : Vec × Bool) (y1 : Int) (y10 : Int) (y2 : Int) (y3 : Int) (y4 : Int) (y5 : Int) (y6 : Int) (y7 : Int) (y8 : Int) (y9 : Int) (y21 : Bool) (y22 : Bool) (y23 : Bool) (y24 : Bool) (y25 : Bool) (y26 : Bool) (y27 : Bool) : Option ((Int × Int × Int × Int) ⊕ (Vec × Int)) :=
  (bif y21 then (k ((IntKind.wrap .i64 (y1 + 1)), y1, r20.1.Root, r20.1.Cost, r20.1.Hops, r20.1.Bridge, r20.1.Port, r20.1.Root, r20.1.Cost, r20.1.Hops)) else (k ((IntKind.wrap .i64 (y1 + 1)), y2, y3, y4, y5, y6, y7, y8, y9, y10)))
def spec_BestVec_L2 (n : Nat) : Nat → Int → (List Pt) → Int → Int → Int → Int → Int → Int → Int → Int → Int → Int → Option ((Int × Int × Int × Int) ⊕ (Vec × Int))
  | 0, _, _, _, _, _, _, _, _, _, _, _, _ => none
  | mo15 + 1, x0, x1, y1, y2, y3, y4, y5, y6, y7, y8, y9, y10 => (bif (decide (y1 < (x1.length : Int))) then ((idx x1 y1).bind fun v16 => (bif (!v16.Up) then (spec_BestVec_L2 n mo15 x0 x1 (IntKind.wrap .i64 (y1 + 1)) y2 y3 y4 y5 y6 y7 y8 y9 y10) else ((idx x1 y1).bind fun v17 => (bif (!v17.Has) then (spec_BestVec_L2 n mo15 x0 x1 (IntKind.wrap .i64 (y1 + 1)) y2 y3 y4 y5 y6 y7 y8 y9 y10) else ((idx x1 y1).bind fun v18 => ((idx x1 y1).bind fun v19 => ((spec_StepVecF n v18.Heard v19.Cost).bind fun r20 => (bif r20.2 then (bif (decide (r20.1.Root < x0)) then (bif (decide (y2 < 0)) then (spec_BestVec_J3 n (fun v => spec_BestVec_L2 n mo15 x0 x1 v.1 v.2.1 v.2.2.1 v.2.2.2.1 v.2.2.2.2.1 v.2.2.2.2.2.1 v.2.2.2.2.2.2.1 v.2.2.2.2.2.2.2.1 v.2.2.2.2.2.2.2.2.1 v.2.2.2.2.2.2.2.2.2) r20 y1 y10 y2 y3 y4 y5 y6 y7 y8 y9 true true true true true true true) else ((spec_LessVecF n r20.1 (⟨y3, y4, y5, y6, y7⟩ : Vec)).bind fun r28 => (spec_BestVec_J3 n (fun v => spec_BestVec_L2 n mo15 x0 x1 v.1 v.2.1 v.2.2.1 v.2.2.2.1 v.2.2.2.2.1 v.2.2.2.2.2.1 v.2.2.2.2.2.2.1 v.2.2.2.2.2.2.2.1 v.2.2.2.2.2.2.2.2.1 v.2.2.2.2.2.2.2.2.2) r20 y1 y10 y2 y3 y4 y5 y6 y7 y8 y9 r28 true true true true true true))) else (spec_BestVec_J3 n (fun v => spec_BestVec_L2 n mo15 x0 x1 v.1 v.2.1 v.2.2.1 v.2.2.2.1 v.2.2.2.2.1 v.2.2.2.2.2.1 v.2.2.2.2.2.2.1 v.2.2.2.2.2.2.2.1 v.2.2.2.2.2.2.2.2.1 v.2.2.2.2.2.2.2.2.2) r20 y1 y10 y2 y3 y4 y5 y6 y7 y8 y9 false false false true true true true)) else (spec_BestVec_J3 n (fun v => spec_BestVec_L2 n mo15 x0 x1 v.1 v.2.1 v.2.2.1 v.2.2.2.1 v.2.2.2.2.1 v.2.2.2.2.2.1 v.2.2.2.2.2.2.1 v.2.2.2.2.2.2.2.1 v.2.2.2.2.2.2.2.2.1 v.2.2.2.2.2.2.2.2.2) r20 y1 y10 y2 y3 y4 y5 y6 y7 y8 y9 false false false false false false false))))))))) else (some (Sum.inl (y2, y8, y9, y10))))
def spec_BestVecF (n : Nat) (x0 : Int) (x1 : (List Pt)) : Option (Vec × Int) :=
  ((spec_BestVec_L2 n n x0 x1 0 (-1) 0 0 0 0 0 x0 0 0).bind fun o => match o with | .inl (y11, y12, y13, y14) => (spec_BestVec_J1 n x0 y11 y12 y13 y14) | .inr r => some r)
/-- loop.example/g00326/spec.BestVec -/
theorem spec_BestVec (n : Nat) (x0 : Int) (x1 : (List Pt)) (r : Vec × Int) (H : spec_BestVecF n x0 x1 = some r) : LCall Try.prog 31 [.val false [.lit (.int .i64 x0)], .val false [.sl false 8 (CV.frzEs (x1.map Pt.row))]] [.val true (Vec.row r.1), .val false [.lit (.int .i64 r.2)]] [] := by
  refine LCall.of_body tOk Try.func31 rfl (c := (.seq (.region 0 (rg Try.f31 0) false) (.seq (.region 1 (rg Try.f31 1) false) (.seq (.region 2 (rg Try.f31 2) false) (.seq (.region 3 (rg Try.f31 3) false) (.seq (.seq (.region 4 (rg Try.f31 4) false) (.block 0 (.loop (.seq (.seq (.region 5 (rg Try.f31 5) false) (.cond (.tmp 19) .skip (.exit 0))) (.seq (.block 1 (.seq (.seq (.region 7 (rg Try.f31 7) false) (.cond (.tmp 35) (.exit 1) .skip)) (.seq (.region 8 (rg Try.f31 8) true) (.seq (.region 9 (rg Try.f31 9) false) (.cond (.tmp 65) (.seq (.region 10 (rg Try.f31 10) false) (.seq (.region 11 (rg Try.f31 11) false) (.region 12 (rg Try.f31 12) false))) .skip))))) (.region 6 (rg Try.f31 6) false)))))) (.seq (.region 13 (rg Try.f31 13) false) .ret))))))) (by kernel_rfl) (Nat.le_of_ble_eq_true (by kernel_rfl)) 0 (rs := [.cell 4 27, .tmp 5]) rfl [] .nil [(true, (Vec.row r.1)), (false, [.lit (.int .i64 r.2)])] [] [] fun cx => ?_
  show Tr _ _ _ ⟨78, 0, [(0, .val false [.lit (.int .i64 x0)]), (1, .val false [.sl false 8 (CV.frzEs (x1.map Pt.row))])], []⟩ _
  unfold spec_BestVecF at H
  refine Tr.rs ?_
  refine LAt.runU tOk 2 (by kernel_rfl) ?_
  refine LAt.doneU [5, 4, 0, 1] [4] (by kernel_rfl) ?_
  refine Tr.rs ?_
  refine LAt.runU tOk 5 (by kernel_rfl) ?_
  refine LAt.doneU [6, 5, 4, 0, 1] [6, 4] (by kernel_rfl) ?_
  refine Tr.rs ?_
  refine LAt.runU tOk 3 (by kernel_rfl) ?_
  refine LAt.doneU [7, 6, 5, 4, 0, 1] [7, 6, 4] (by kernel_rfl) ?_
  refine Tr.rs ?_
  refine LAt.runU tOk 1 (by kernel_rfl) ?_
  refine LAt.doneU [8, 7, 6, 5, 4, 0, 1] [7, 6, 4] (by kernel_rfl) ?_
  refine Tr.seq ?_
  refine Tr.rs ?_
  refine LAt.runU tOk 1 (by kernel_rfl) ?_
  refine LAt.doneU [9, 8, 7, 6, 5, 4, 0, 1] [7, 6, 4] (by kernel_rfl) ?_
  obtain ⟨o15, eo15, Ho15⟩ := bind_some H
  clear H
  refine Tr.mid (ι := Int × Int × Int × Int) (fun v => ⟨78, 0, [(8, .val false [.lit (.int .i64 v.1)]), (6, .adr (.box 6) [(0, 0)] 5 0), (5, .val false [.lit (.int .i64 0)]), (4, .adr (.box 4) [(0, 0)] 5 0)], [(6, [.lit (.int .i64 v.2.1), .lit (.int .i64 v.2.2.1), .lit (.int .i64 v.2.2.2), .lit (.int .i64 x0), .lit (.int .i64 0)]), (4, [.lit (.int .i64 0), .lit (.int .i64 0), .lit (.int .i64 0), .lit (.int .i64 0), .lit (.int .i64 0)])]⟩) (fun v => spec_BestVec_J1 n x0 v.1 v.2.1 v.2.2.1 v.2.2.2 = some r) ?_ ?_
  · refine Tr.block ?_
    refine Tr.loop (ι := Nat × (Int × Int × Int × Int × Int × Int × Int × Int × Int × Int)) (fun v => ⟨78, 0, [(9, .val false [.lit (.int .i64 v.2.1)]), (8, .val false [.lit (.int .i64 v.2.2.1)]), (7, .adr (.box 7) [(0, 0)] 5 0), (6, .adr (.box 6) [(0, 0)] 5 0), (5, .val false [.lit (.int .i64 0)]), (4, .adr (.box 4) [(0, 0)] 5 0), (0, .val false [.lit (.int .i64 x0)]), (1, .val false [.sl false 8 (CV.frzEs (x1.map Pt.row))])], [(7, [.lit (.int .i64 v.2.2.2.1), .lit (.int .i64 v.2.2.2.2.1), .lit (.int .i64 v.2.2.2.2.2.1), .lit (.int .i64 v.2.2.2.2.2.2.1), .lit (.int .i64 v.2.2.2.2.2.2.2.1)]), (6, [.lit (.int .i64 v.2.2.2.2.2.2.2.2.1), .lit (.int .i64 v.2.2.2.2.2.2.2.2.2.1), .lit (.int .i64 v.2.2.2.2.2.2.2.2.2.2), .lit (.int .i64 x0), .lit (.int .i64 0)]), (4, [.lit (.int .i64 0), .lit (.int .i64 0), .lit (.int .i64 0), .lit (.int .i64 0), .lit (.int .i64 0)])]⟩) (fun v => spec_BestVec_L2 n v.1 x0 x1 v.2.1 v.2.2.1 v.2.2.2.1 v.2.2.2.2.1 v.2.2.2.2.2.1 v.2.2.2.2.2.2.1 v.2.2.2.2.2.2.2.1 v.2.2.2.2.2.2.2.2.1 v.2.2.2.2.2.2.2.2.2.1 v.2.2.2.2.2.2.2.2.2.2 = some o15) (fun v => v.1) (n, (0, (-1), 0, 0, 0, 0, 0, x0, 0, 0)) eo15 (St.sub_of [9, 8, 7, 6, 5, 4, 0, 1] [7, 6, 4] (by kernel_rfl)) ?_
    rintro ⟨mo15, y1, y2, y3, y4, y5, y6, y7, y8, y9, y10⟩ H
    have H : spec_BestVec_L2 n mo15 x0 x1 y1 y2 y3 y4 y5 y6 y7 y8 y9 y10 = some o15 := H
    obtain _ | mo15 := mo15
    · cases (show (none : Option _) = some o15 from H)
    · rw [spec_BestVec_L2] at H
      refine Tr.seq ?_
      refine Tr.rs ?_
      refine LAt.runU tOk 2 (by kernel_rfl) ?_
      refine LAt.lenE tOk (t := 54) (ty := 3) (e := 29) (x := (.tmp 17)) (d := 18) (g := none) ⟨(.slot 17), [], 0, false, 8, (CV.frzEs (x1.map Pt.row))⟩ (x1).length _ (by kernel_rfl) (by kernel_rfl) (by kernel_rfl) (by kernel_rfl) (by kernel_rfl) (frz_len _ _) rfl ?_
      refine LAt.runU tOk 1 (by kernel_rfl) ?_
      refine LAt.doneU [19, 18, 17, 16, 9, 8, 7, 6, 5, 4, 0, 1] [7, 6, 4] (by kernel_rfl) ?_
      refine Tr.to ⟨78, 0, [(19, .val false [.lit (.bool (decide (y1 < (x1.length : Int))))]), (18, .val false [.lit (.int .i64 (x1.length : Int))]), (17, .val false [.sl false 8 (CV.frzEs (x1.map Pt.row))]), (16, .val false [.lit (.int .i64 y1)]), (9, .val false [.lit (.int .i64 y1)]), (8, .val false [.lit (.int .i64 y2)]), (7, .adr (.box 7) [(0, 0)] 5 0), (6, .adr (.box 6) [(0, 0)] 5 0), (5, .val false [.lit (.int .i64 0)]), (4, .adr (.box 4) [(0, 0)] 5 0), (0, .val false [.lit (.int .i64 x0)]), (1, .val false [.sl false 8 (CV.frzEs (x1.map Pt.row))])], [(7, [.lit (.int .i64 y3), .lit (.int .i64 y4), .lit (.int .i64 y5), .lit (.int .i64 y6), .lit (.int .i64 y7)]), (6, [.lit (.int .i64 y8), .lit (.int .i64 y9), .lit (.int .i64 y10), .lit (.int .i64 x0), .lit (.int .i64 0)]), (4, [.lit (.int .i64 0), .lit (.int .i64 0), .lit (.int .i64 0), .lit (.int .i64 0), .lit (.int .i64 0)])]⟩ (by kernel_rfl) ?_
      cases h1 : (decide (y1 < (x1.length : Int)))
      · have H := bifF h1 H
        refine Tr.cond (b := false) (by kernel_rfl) (fun h => nomatch h) (fun _ => ?_)
        refine Tr.exit ?_
        refine And.intro (fun _ => ?_) (fun h => absurd rfl h)
        have H := Option.some.inj H
        subst H
        have H := Ho15
        dsimp only at H
        exact Exists.intro (y2, y8, y9, y10) (And.intro H (St.sub_of [8, 6, 5, 4] [6, 4] (by kernel_rfl)))
      · have H := bifT h1 H
        refine Tr.cond (b := true) (by kernel_rfl) (fun _ => ?_) (fun h => nomatch h)
        refine Tr.skip ?_
        show Tr _ _ _ _ _
        refine Tr.seq ?_
        refine Tr.block ?_
        refine Tr.seq ?_
        refine Tr.rs ?_
        refine LAt.runU tOk 2 (by kernel_rfl) ?_
        obtain ⟨v16, ev16, H⟩ := bind_some H
        refine LAt.indexF tOk (t := 54) (ty := 0) (x := (.tmp 22)) (y := (.tmp 23)) (d := 24) (g := none) ⟨(.slot 22), [], 0, false, 8, (CV.frzEs (x1.map Pt.row))⟩ y1 (Pt.row v16) _ (by kernel_rfl) (by kernel_rfl) (by kernel_rfl) (by kernel_rfl) rfl (idx_isF ev16) rfl ?_
        refine LAt.runU tOk 4 (by kernel_rfl) ?_
        refine LAt.to ⟨78, 0, [(28, .val false [.lit (.bool (!v16.Up))]), (27, .val false [.lit (.bool (!v16.Up))]), (26, .val false [.lit (.bool v16.Up)]), (25, .fad ((Pt.row v16))), (24, .fad ((Pt.row v16))), (23, .val false [.lit (.int .i64 y1)]), (22, .val false [.sl false 8 (CV.frzEs (x1.map Pt.row))]), (19, .val false [.lit (.bool true)]), (18, .val false [.lit (.int .i64 (x1.length : Int))]), (17, .val false [.sl false 8 (CV.frzEs (x1.map Pt.row))]), (16, .val false [.lit (.int .i64 y1)]), (9, .val false [.lit (.int .i64 y1)]), (8, .val false [.lit (.int .i64 y2)]), (7, .adr (.box 7) [(0, 0)] 5 0), (6, .adr (.box 6) [(0, 0)] 5 0), (5, .val false [.lit (.int .i64 0)]), (4, .adr (.box 4) [(0, 0)] 5 0), (0, .val false [.lit (.int .i64 x0)]), (1, .val false [.sl false 8 (CV.frzEs (x1.map Pt.row))])], [(7, [.lit (.int .i64 y3), .lit (.int .i64 y4), .lit (.int .i64 y5), .lit (.int .i64 y6), .lit (.int .i64 y7)]), (6, [.lit (.int .i64 y8), .lit (.int .i64 y9), .lit (.int .i64 y10), .lit (.int .i64 x0), .lit (.int .i64 0)]), (4, [.lit (.int .i64 0), .lit (.int .i64 0), .lit (.int .i64 0), .lit (.int .i64 0), .lit (.int .i64 0)])]⟩ (by kernel_rfl) ?_
        cases h2 : (!v16.Up)
        · have H := bifF h2 H
          refine LAt.runU tOk 2 (by kernel_rfl) ?_
          obtain ⟨v17, ev17, H⟩ := bind_some H
          refine LAt.indexF tOk (t := 54) (ty := 0) (x := (.tmp 29)) (y := (.tmp 30)) (d := 31) (g := (some (6, false))) ⟨(.slot 29), [], 0, false, 8, (CV.frzEs (x1.map Pt.row))⟩ y1 (Pt.row v17) _ (by kernel_rfl) (by kernel_rfl) (by kernel_rfl) (by kernel_rfl) rfl (idx_isF ev17) rfl ?_
          refine LAt.runU tOk 4 (by kernel_rfl) ?_
          refine LAt.doneU [35, 34, 33, 32, 31, 30, 29, 28, 27, 26, 25, 24, 23, 22, 19, 18, 17, 16, 9, 8, 7, 6, 5, 4, 0, 1] [7, 6, 4] (by kernel_rfl) ?_
          refine Tr.to ⟨78, 0, [(35, .val false [.lit (.bool (!v17.Has))]), (34, .val false [.lit (.bool (!v17.Has))]), (33, .val false [.lit (.bool v17.Has)]), (32, .fad (((Pt.row v17).drop 2))), (31, .fad ((Pt.row v17))), (30, .val false [.lit (.int .i64 y1)]), (29, .val false [.sl false 8 (CV.frzEs (x1.map Pt.row))]), (28, .val false [.lit (.bool false)]), (27, .val false [.lit (.bool false)]), (26, .val false [.lit (.bool v16.Up)]), (25, .fad ((Pt.row v16))), (24, .fad ((Pt.row v16))), (23, .val false [.lit (.int .i64 y1)]), (22, .val false [.sl false 8 (CV.frzEs (x1.map Pt.row))]), (19, .val false [.lit (.bool true)]), (18, .val false [.lit (.int .i64 (x1.length : Int))]), (17, .val false [.sl false 8 (CV.frzEs (x1.map Pt.row))]), (16, .val false [.lit (.int .i64 y1)]), (9, .val false [.lit (.int .i64 y1)]), (8, .val false [.lit (.int .i64 y2)]), (7, .adr (.box 7) [(0, 0)] 5 0), (6, .adr (.box 6) [(0, 0)] 5 0), (5, .val false [.lit (.int .i64 0)]), (4, .adr (.box 4) [(0, 0)] 5 0), (0, .val false [.lit (.int .i64 x0)]), (1, .val false [.sl false 8 (CV.frzEs (x1.map Pt.row))])], [(7, [.lit (.int .i64 y3), .lit (.int .i64 y4), .lit (.int .i64 y5), .lit (.int .i64 y6), .lit (.int .i64 y7)]), (6, [.lit (.int .i64 y8), .lit (.int .i64 y9), .lit (.int .i64 y10), .lit (.int .i64 x0), .lit (.int .i64 0)]), (4, [.lit (.int .i64 0), .lit (.int .i64 0), .lit (.int .i64 0), .lit (.int .i64 0), .lit (.int .i64 0)])]⟩ (by kernel_rfl) ?_
          cases h3 : (!v17.Has)
          · have H := bifF h3 H
            refine Tr.cond (b := false) (by kernel_rfl) (fun h => nomatch h) (fun _ => ?_)
            refine Tr.skip ?_
            show Tr _ _ _ _ _
            obtain ⟨v18, ev18, H⟩ := bind_some H
            obtain ⟨v19, ev19, H⟩ := bind_some H
            obtain ⟨r20, er20, H⟩ := bind_some H
            refine Tr.draws mixed 17 (by kernel_rfl) ⟨78, 0, [(11, .val false [.lit (.bool r20.2)]), (10, .adr (.box 10) [(0, 0)] 5 0), (49, .val false [.lit (.bool r20.2)]), (36, .tup [(true, [.dead, .dead, .dead, .dead, .dead]), (false, [.dead])]), (48, .val true (Vec.row r20.1)), (46, .val false [.lit (.int .i64 v19.Cost)]), (45, .fad (((Pt.row v19).drop 1))), (44, .fad ((Pt.row v19))), (43, .val false [.lit (.int .i64 y1)]), (42, .val false [.sl false 8 (CV.frzEs (x1.map Pt.row))]), (41, .val true ((Pt.row v18).drop 3)), (40, .fad (((Pt.row v18).drop 3))), (39, .fad ((Pt.row v18))), (38, .val false [.lit (.int .i64 y1)]), (37, .val false [.sl false 8 (CV.frzEs (x1.map Pt.row))]), (35, .val false [.lit (.bool false)]), (34, .val false [.lit (.bool false)]), (33, .val false [.lit (.bool v17.Has)]), (32, .fad (((Pt.row v17).drop 2))), (31, .fad ((Pt.row v17))), (30, .val false [.lit (.int .i64 y1)]), (29, .val false [.sl false 8 (CV.frzEs (x1.map Pt.row))]), (28, .val false [.lit (.bool false)]), (27, .val false [.lit (.bool false)]), (26, .val false [.lit (.bool v16.Up)]), (25, .fad ((Pt.row v16))), (24, .fad ((Pt.row v16))), (23, .val false [.lit (.int .i64 y1)]), (22, .val false [.sl false 8 (CV.frzEs (x1.map Pt.row))]), (19, .val false [.lit (.bool true)]), (18, .val false [.lit (.int .i64 (x1.length : Int))]), (17, .val false [.sl false 8 (CV.frzEs (x1.map Pt.row))]), (16, .val false [.lit (.int .i64 y1)]), (9, .val false [.lit (.int .i64 y1)]), (8, .val false [.lit (.int .i64 y2)]), (7, .adr (.box 7) [(0, 0)] 5 0), (6, .adr (.box 6) [(0, 0)] 5 0), (5, .val false [.lit (.int .i64 0)]), (4, .adr (.box 4) [(0, 0)] 5 0), (0, .val false [.lit (.int .i64 x0)]), (1, .val false [.sl false 8 (CV.frzEs (x1.map Pt.row))])], [(10, (Vec.row r20.1)), (7, [.lit (.int .i64 y3), .lit (.int .i64 y4), .lit (.int .i64 y5), .lit (.int .i64 y6), .lit (.int .i64 y7)]), (6, [.lit (.int .i64 y8), .lit (.int .i64 y9), .lit (.int .i64 y10), .lit (.int .i64 x0), .lit (.int .i64 0)]), (4, [.lit (.int .i64 0), .lit (.int .i64 0), .lit (.int .i64 0), .lit (.int .i64 0), .lit (.int .i64 0)])]⟩ (fun cx => ?_) ?_
            · refine AT.runU tOk [(0, []), (1, [])] 15 [] [1, 0] rfl (by kernel_rfl) (fun cx => ?_)
              refine AT.indexF tOk 2 (t := 54) (ty := 0) (x := (.tmp 37)) (y := (.tmp 38)) (d := 39) (g := none) ⟨(.slot 37), [], 0, false, 8, (CV.frzEs (x1.map Pt.row))⟩ y1 (Pt.row v18) _ (by kernel_rfl) (by kernel_rfl) (by kernel_rfl) (by kernel_rfl) (by kernel_rfl) (by kernel_rfl) rfl (idx_isF ev18) rfl (fun cx => ?_)
              refine AT.runU tOk [(3, []), (4, []), (5, []), (6, [])] 10 [] [6, 5, 4, 3, 2, 1, 0] rfl (by kernel_rfl) (fun cx => ?_)
              refine AT.indexF tOk 7 (t := 54) (ty := 0) (x := (.tmp 42)) (y := (.tmp 43)) (d := 44) (g := none) ⟨(.slot 42), [], 0, false, 8, (CV.frzEs (x1.map Pt.row))⟩ y1 (Pt.row v19) _ (by kernel_rfl) (by kernel_rfl) (by kernel_rfl) (by kernel_rfl) (by kernel_rfl) (by kernel_rfl) rfl (idx_isF ev19) rfl (fun cx => ?_)
              refine AT.runU tOk [(8, []), (9, [])] 7 [] [9, 8, 7, 6, 5, 4, 3, 2, 1, 0] rfl (by kernel_rfl) (fun cx => ?_)
              refine AT.big2 tOk 10 14 (by kernel_rfl) (And.intro (by kernel_rfl) ?_) (And.intro (by kernel_rfl) ?_)
              · refine LAt.callU tOk [.rd, .rd] (f := 71) (av := #[.tmp 41, .tmp 46]) (ats := #[27, 3]) (d := (some 47)) (ty := 68) (g := none) (by kernel_rfl) (by kernel_rfl) (by kernel_rfl) [] (spec_StepVec n v18.Heard v19.Cost r20 er20) (by kernel_rfl) (.inl rfl) ?_
                refine LAt.fin (by kernel_rfl) (And.intro (And.intro (by kernel_rfl) (by kernel_rfl)) ?_)
                refine AT.movT tOk 11 (ty := 68) (t := 47) (d := 36) (g := none) [(true, (Vec.row r20.1)), (false, [.lit (.bool r20.2)])] _ (by kernel_rfl) (by kernel_rfl) (by kernel_rfl) (.inl rfl) (by kernel_rfl) (by kernel_rfl) (by kernel_rfl) (by kernel_rfl) rfl (fun cx => ?_)
                refine AT.runU tOk [(12, []), (13, [])] 3 [] [13, 12, 11, 10, 9, 8, 7, 6, 5, 4, 3, 2, 1, 0] rfl (by kernel_rfl) (fun cx => ?_)
                refine AT.big1 tOk 14 (by kernel_rfl) (by kernel_rfl) ?_
                refine LAt.runU tOk 1 (by kernel_rfl) ?_
                refine LAt.fin (by kernel_rfl) (And.intro (And.intro (by kernel_rfl) (by kernel_rfl)) ?_)
                refine AT.big1 tOk 15 (by kernel_rfl) (by kernel_rfl) ?_
                refine LAt.runU tOk 1 (by kernel_rfl) ?_
                refine LAt.fin (by kernel_rfl) (And.intro (And.intro (by kernel_rfl) (by kernel_rfl)) ?_)
                refine AT.runU tOk [(16, [])] 0 [] [16, 15, 14, 13, 12, 11, 10, 9, 8, 7, 6, 5, 4, 3, 2, 1, 0] rfl (by kernel_rfl) (fun cx => ?_)
                exact AT.done [11, 10, 49, 36, 48, 46, 45, 44, 43, 42, 41, 40, 39, 38, 37, 35, 34, 33, 32, 31, 30, 29, 28, 27, 26, 25, 24, 23, 22, 19, 18, 17, 16, 9, 8, 7, 6, 5, 4, 0, 1] [10, 7, 6, 4] _ (by kernel_rfl) (by kernel_rfl) rfl
              · refine LAt.runU tOk 1 (by kernel_rfl) ?_
                refine LAt.fin (by kernel_rfl) (And.intro (And.intro (by kernel_rfl) (by kernel_rfl)) ?_)
                refine AT.big1 tOk 10 (by kernel_rfl) (by kernel_rfl) ?_
                refine LAt.callU tOk [.rd, .rd] (f := 71) (av := #[.tmp 41, .tmp 46]) (ats := #[27, 3]) (d := (some 47)) (ty := 68) (g := none) (by kernel_rfl) (by kernel_rfl) (by kernel_rfl) [] (spec_StepVec n v18.Heard v19.Cost r20 er20) (by kernel_rfl) (.inl rfl) ?_
                refine LAt.fin (by kernel_rfl) (And.intro (And.intro (by kernel_rfl) (by kernel_rfl)) ?_)
                refine AT.movT tOk 11 (ty := 68) (t := 47) (d := 36) (g := none) [(true, (Vec.row r20.1)), (false, [.lit (.bool r20.2)])] _ (by kernel_rfl) (by kernel_rfl) (by kernel_rfl) (.inl rfl) (by kernel_rfl) (by kernel_rfl) (by kernel_rfl) (by kernel_rfl) rfl (fun cx => ?_)
                refine AT.runU tOk [(12, []), (13, [])] 2 [] [13, 12, 11, 10, 14, 9, 8, 7, 6, 5, 4, 3, 2, 1, 0] rfl (by kernel_rfl) (fun cx => ?_)
                refine AT.big1 tOk 15 (by kernel_rfl) (by kernel_rfl) ?_
                refine LAt.runU tOk 1 (by kernel_rfl) ?_
                refine LAt.fin (by kernel_rfl) (And.intro (And.intro (by kernel_rfl) (by kernel_rfl)) ?_)
                refine AT.runU tOk [(16, [])] 0 [] [16, 15, 13, 12, 11, 10, 14, 9, 8, 7, 6, 5, 4, 3, 2, 1, 0] rfl (by kernel_rfl) (fun cx => ?_)
                exact AT.done [11, 10, 49, 36, 48, 46, 45, 44, 43, 42, 41, 40, 39, 38, 37, 35, 34, 33, 32, 31, 30, 29, 28, 27, 26, 25, 24, 23, 22, 19, 18, 17, 16, 9, 8, 7, 6, 5, 4, 0, 1] [10, 7, 6, 4] _ (by kernel_rfl) (by kernel_rfl) rfl
            · refine Tr.seq ?_
              refine Tr.mid (ι := Bool × Bool × Bool × Bool × Bool × Bool × Bool) (fun v => ⟨78, 0, [(65, .val false [.lit (.bool v.1)]), (57, .val false [.lit (.bool v.2.1)]), (56, .val false [.lit (.bool v.2.2.1)]), (51, .val false [.lit (.bool v.2.2.2.1)]), (50, .val false [.lit (.bool v.2.2.2.2.1)]), (11, .val false [.lit (.bool v.2.2.2.2.2.1)]), (10, .adr (.box 10) [(0, 0)] 5 0), (49, .val false [.lit (.bool v.2.2.2.2.2.2)]), (36, .tup [(true, [.dead, .dead, .dead, .dead, .dead]), (false, [.dead])]), (48, .val true (Vec.row r20.1)), (46, .val false [.lit (.int .i64 v19.Cost)]), (45, .fad (((Pt.row v19).drop 1))), (44, .fad ((Pt.row v19))), (43, .val false [.lit (.int .i64 y1)]), (42, .val false [.sl false 8 (CV.frzEs (x1.map Pt.row))]), (41, .val true ((Pt.row v18).drop 3)), (40, .fad (((Pt.row v18).drop 3))), (39, .fad ((Pt.row v18))), (38, .val false [.lit (.int .i64 y1)]), (37, .val false [.sl false 8 (CV.frzEs (x1.map Pt.row))]), (35, .val false [.lit (.bool false)]), (34, .val false [.lit (.bool false)]), (33, .val false [.lit (.bool v17.Has)]), (32, .fad (((Pt.row v17).drop 2))), (31, .fad ((Pt.row v17))), (30, .val false [.lit (.int .i64 y1)]), (29, .val false [.sl false 8 (CV.frzEs (x1.map Pt.row))]), (28, .val false [.lit (.bool false)]), (27, .val false [.lit (.bool false)]), (26, .val false [.lit (.bool v16.Up)]), (25, .fad ((Pt.row v16))), (24, .fad ((Pt.row v16))), (23, .val false [.lit (.int .i64 y1)]), (22, .val false [.sl false 8 (CV.frzEs (x1.map Pt.row))]), (19, .val false [.lit (.bool true)]), (18, .val false [.lit (.int .i64 (x1.length : Int))]), (17, .val false [.sl false 8 (CV.frzEs (x1.map Pt.row))]), (16, .val false [.lit (.int .i64 y1)]), (9, .val false [.lit (.int .i64 y1)]), (8, .val false [.lit (.int .i64 y2)]), (7, .adr (.box 7) [(0, 0)] 5 0), (6, .adr (.box 6) [(0, 0)] 5 0), (5, .val false [.lit (.int .i64 0)]), (4, .adr (.box 4) [(0, 0)] 5 0), (0, .val false [.lit (.int .i64 x0)]), (1, .val false [.sl false 8 (CV.frzEs (x1.map Pt.row))])], [(10, (Vec.row r20.1)), (7, [.lit (.int .i64 y3), .lit (.int .i64 y4), .lit (.int .i64 y5), .lit (.int .i64 y6), .lit (.int .i64 y7)]), (6, [.lit (.int .i64 y8), .lit (.int .i64 y9), .lit (.int .i64 y10), .lit (.int .i64 x0), .lit (.int .i64 0)]), (4, [.lit (.int .i64 0), .lit (.int .i64 0), .lit (.int .i64 0), .lit (.int .i64 0), .lit (.int .i64 0)])]⟩) (fun v => spec_BestVec_J3 n (fun v => spec_BestVec_L2 n mo15 x0 x1 v.1 v.2.1 v.2.2.1 v.2.2.2.1 v.2.2.2.2.1 v.2.2.2.2.2.1 v.2.2.2.2.2.2.1 v.2.2.2.2.2.2.2.1 v.2.2.2.2.2.2.2.2.1 v.2.2.2.2.2.2.2.2.2) r20 y1 y10 y2 y3 y4 y5 y6 y7 y8 y9 v.1 v.2.1 v.2.2.1 v.2.2.2.1 v.2.2.2.2.1 v.2.2.2.2.2.1 v.2.2.2.2.2.2 = some o15) ?_ ?_
              · refine Tr.at ?_
                refine LAt.runU tOk 2 (by kernel_rfl) ?_
                refine LAt.to ⟨78, 0, [(51, .val false [.lit (.bool r20.2)]), (50, .val false [.lit (.bool r20.2)]), (11, .val false [.lit (.bool r20.2)]), (10, .adr (.box 10) [(0, 0)] 5 0), (49, .val false [.lit (.bool r20.2)]), (36, .tup [(true, [.dead, .dead, .dead, .dead, .dead]), (false, [.dead])]), (48, .val true (Vec.row r20.1)), (46, .val false [.lit (.int .i64 v19.Cost)]), (45, .fad (((Pt.row v19).drop 1))), (44, .fad ((Pt.row v19))), (43, .val false [.lit (.int .i64 y1)]), (42, .val false [.sl false 8 (CV.frzEs (x1.map Pt.row))]), (41, .val true ((Pt.row v18).drop 3)), (40, .fad (((Pt.row v18).drop 3))), (39, .fad ((Pt.row v18))), (38, .val false [.lit (.int .i64 y1)]), (37, .val false [.sl false 8 (CV.frzEs (x1.map Pt.row))]), (35, .val false [.lit (.bool false)]), (34, .val false [.lit (.bool false)]), (33, .val false [.lit (.bool v17.Has)]), (32, .fad (((Pt.row v17).drop 2))), (31, .fad ((Pt.row v17))), (30, .val false [.lit (.int .i64 y1)]), (29, .val false [.sl false 8 (CV.frzEs (x1.map Pt.row))]), (28, .val false [.lit (.bool false)]), (27, .val false [.lit (.bool false)]), (26, .val false [.lit (.bool v16.Up)]), (25, .fad ((Pt.row v16))), (24, .fad ((Pt.row v16))), (23, .val false [.lit (.int .i64 y1)]), (22, .val false [.sl false 8 (CV.frzEs (x1.map Pt.row))]), (19, .val false [.lit (.bool true)]), (18, .val false [.lit (.int .i64 (x1.length : Int))]), (17, .val false [.sl false 8 (CV.frzEs (x1.map Pt.row))]), (16, .val false [.lit (.int .i64 y1)]), (9, .val false [.lit (.int .i64 y1)]), (8, .val false [.lit (.int .i64 y2)]), (7, .adr (.box 7) [(0, 0)] 5 0), (6, .adr (.box 6) [(0, 0)] 5 0), (5, .val false [.lit (.int .i64 0)]), (4, .adr (.box 4) [(0, 0)] 5 0), (0, .val false [.lit (.int .i64 x0)]), (1, .val false [.sl false 8 (CV.frzEs (x1.map Pt.row))])], [(10, (Vec.row r20.1)), (7, [.lit (.int .i64 y3), .lit (.int .i64 y4), .lit (.int .i64 y5), .lit (.int .i64 y6), .lit (.int .i64 y7)]), (6, [.lit (.int .i64 y8), .lit (.int .i64 y9), .lit (.int .i64 y10), .lit (.int .i64 x0), .lit (.int .i64 0)]), (4, [.lit (.int .i64 0), .lit (.int .i64 0), .lit (.int .i64 0), .lit (.int .i64 0), .lit (.int .i64 0)])]⟩ (by kernel_rfl) ?_
                cases h5 : r20.2
                · have H := bifF h5 H
                  refine LAt.runU tOk 14 (by kernel_rfl) ?_
                  refine LAt.doneU [65, 64, 63, 62, 61, 60, 59, 58, 57, 56, 55, 54, 53, 52, 51, 50, 11, 10, 49, 36, 48, 46, 45, 44, 43, 42, 41, 40, 39, 38, 37, 35, 34, 33, 32, 31, 30, 29, 28, 27, 26, 25, 24, 23, 22, 19, 18, 17, 16, 9, 8, 7, 6, 5, 4, 0, 1] [10, 7, 6, 4] (by kernel_rfl) ?_
                  exact Exists.intro (false, false, false, false, false, false, false) (And.intro H (St.sub_of [65, 57, 56, 51, 50, 11, 10, 49, 36, 48, 46, 45, 44, 43, 42, 41, 40, 39, 38, 37, 35, 34, 33, 32, 31, 30, 29, 28, 27, 26, 25, 24, 23, 22, 19, 18, 17, 16, 9, 8, 7, 6, 5, 4, 0, 1] [10, 7, 6, 4] (by kernel_rfl)))
                · have H := bifT h5 H
                  refine LAt.runU tOk 6 (by kernel_rfl) ?_
                  refine LAt.to ⟨78, 0, [(57, .val false [.lit (.bool (decide (r20.1.Root < x0)))]), (56, .val false [.lit (.bool (decide (r20.1.Root < x0)))]), (55, .val false [.lit (.bool (decide (r20.1.Root < x0)))]), (54, .val false [.lit (.int .i64 x0)]), (53, .val false [.lit (.int .i64 r20.1.Root)]), (52, .adr (.box 10) [(0, 0)] 5 0), (51, .val false [.lit (.bool true)]), (50, .val false [.lit (.bool true)]), (11, .val false [.lit (.bool true)]), (10, .adr (.box 10) [(0, 0)] 5 0), (49, .val false [.lit (.bool true)]), (36, .tup [(true, [.dead, .dead, .dead, .dead, .dead]), (false, [.dead])]), (48, .val true (Vec.row r20.1)), (46, .val false [.lit (.int .i64 v19.Cost)]), (45, .fad (((Pt.row v19).drop 1))), (44, .fad ((Pt.row v19))), (43, .val false [.lit (.int .i64 y1)]), (42, .val false [.sl false 8 (CV.frzEs (x1.map Pt.row))]), (41, .val true ((Pt.row v18).drop 3)), (40, .fad (((Pt.row v18).drop 3))), (39, .fad ((Pt.row v18))), (38, .val false [.lit (.int .i64 y1)]), (37, .val false [.sl false 8 (CV.frzEs (x1.map Pt.row))]), (35, .val false [.lit (.bool false)]), (34, .val false [.lit (.bool false)]), (33, .val false [.lit (.bool v17.Has)]), (32, .fad (((Pt.row v17).drop 2))), (31, .fad ((Pt.row v17))), (30, .val false [.lit (.int .i64 y1)]), (29, .val false [.sl false 8 (CV.frzEs (x1.map Pt.row))]), (28, .val false [.lit (.bool false)]), (27, .val false [.lit (.bool false)]), (26, .val false [.lit (.bool v16.Up)]), (25, .fad ((Pt.row v16))), (24, .fad ((Pt.row v16))), (23, .val false [.lit (.int .i64 y1)]), (22, .val false [.sl false 8 (CV.frzEs (x1.map Pt.row))]), (19, .val false [.lit (.bool true)]), (18, .val false [.lit (.int .i64 (x1.length : Int))]), (17, .val false [.sl false 8 (CV.frzEs (x1.map Pt.row))]), (16, .val false [.lit (.int .i64 y1)]), (9, .val false [.lit (.int .i64 y1)]), (8, .val false [.lit (.int .i64 y2)]), (7, .adr (.box 7) [(0, 0)] 5 0), (6, .adr (.box 6) [(0, 0)] 5 0), (5, .val false [.lit (.int .i64 0)]), (4, .adr (.box 4) [(0, 0)] 5 0), (0, .val false [.lit (.int .i64 x0)]), (1, .val false [.sl false 8 (CV.frzEs (x1.map Pt.row))])], [(10, (Vec.row r20.1)), (7, [.lit (.int .i64 y3), .lit (.int .i64 y4), .lit (.int .i64 y5), .lit (.int .i64 y6), .lit (.int .i64 y7)]), (6, [.lit (.int .i64 y8), .lit (.int .i64 y9), .lit (.int .i64 y10), .lit (.int .i64 x0), .lit (.int .i64 0)]), (4, [.lit (.int .i64 0), .lit (.int .i64 0), .lit (.int .i64 0), .lit (.int .i64 0), .lit (.int .i64 0)])]⟩ (by kernel_rfl) ?_
                  cases h6 : (decide (r20.1.Root < x0))
                  · have H := bifF h6 H
                    refine LAt.runU tOk 8 (by kernel_rfl) ?_
                    refine LAt.doneU [65, 64, 63, 62, 61, 60, 59, 58, 57, 56, 55, 54, 53, 52, 51, 50, 11, 10, 49, 36, 48, 46, 45, 44, 43, 42, 41, 40, 39, 38, 37, 35, 34, 33, 32, 31, 30, 29, 28, 27, 26, 25, 24, 23, 22, 19, 18, 17, 16, 9, 8, 7, 6, 5, 4, 0, 1] [10, 7, 6, 4] (by kernel_rfl) ?_
                    exact Exists.intro (false, false, false, true, true, true, true) (And.intro H (St.sub_of [65, 57, 56, 51, 50, 11, 10, 49, 36, 48, 46, 45, 44, 43, 42, 41, 40, 39, 38, 37, 35, 34, 33, 32, 31, 30, 29, 28, 27, 26, 25, 24, 23, 22, 19, 18, 17, 16, 9, 8, 7, 6, 5, 4, 0, 1] [10, 7, 6, 4] (by kernel_rfl)))
                  · have H := bifT h6 H
                    refine LAt.runU tOk 3 (by kernel_rfl) ?_
                    refine LAt.to ⟨78, 0, [(60, .val false [.lit (.bool (decide (y2 < 0)))]), (59, .val false [.lit (.bool (decide (y2 < 0)))]), (58, .val false [.lit (.int .i64 y2)]), (57, .val false [.lit (.bool true)]), (56, .val false [.lit (.bool true)]), (55, .val false [.lit (.bool true)]), (54, .val false [.lit (.int .i64 x0)]), (53, .val false [.lit (.int .i64 r20.1.Root)]), (52, .adr (.box 10) [(0, 0)] 5 0), (51, .val false [.lit (.bool true)]), (50, .val false [.lit (.bool true)]), (11, .val false [.lit (.bool true)]), (10, .adr (.box 10) [(0, 0)] 5 0), (49, .val false [.lit (.bool true)]), (36, .tup [(true, [.dead, .dead, .dead, .dead, .dead]), (false, [.dead])]), (48, .val true (Vec.row r20.1)), (46, .val false [.lit (.int .i64 v19.Cost)]), (45, .fad (((Pt.row v19).drop 1))), (44, .fad ((Pt.row v19))), (43, .val false [.lit (.int .i64 y1)]), (42, .val false [.sl false 8 (CV.frzEs (x1.map Pt.row))]), (41, .val true ((Pt.row v18).drop 3)), (40, .fad (((Pt.row v18).drop 3))), (39, .fad ((Pt.row v18))), (38, .val false [.lit (.int .i64 y1)]), (37, .val false [.sl false 8 (CV.frzEs (x1.map Pt.row))]), (35, .val false [.lit (.bool false)]), (34, .val false [.lit (.bool false)]), (33, .val false [.lit (.bool v17.Has)]), (32, .fad (((Pt.row v17).drop 2))), (31, .fad ((Pt.row v17))), (30, .val false [.lit (.int .i64 y1)]), (29, .val false [.sl false 8 (CV.frzEs (x1.map Pt.row))]), (28, .val false [.lit (.bool false)]), (27, .val false [.lit (.bool false)]), (26, .val false [.lit (.bool v16.Up)]), (25, .fad ((Pt.row v16))), (24, .fad ((Pt.row v16))), (23, .val false [.lit (.int .i64 y1)]), (22, .val false [.sl false 8 (CV.frzEs (x1.map Pt.row))]), (19, .val false [.lit (.bool true)]), (18, .val false [.lit (.int .i64 (x1.length : Int))]), (17, .val false [.sl false 8 (CV.frzEs (x1.map Pt.row))]), (16, .val false [.lit (.int .i64 y1)]), (9, .val false [.lit (.int .i64 y1)]), (8, .val false [.lit (.int .i64 y2)]), (7, .adr (.box 7) [(0, 0)] 5 0), (6, .adr (.box 6) [(0, 0)] 5 0), (5, .val false [.lit (.int .i64 0)]), (4, .adr (.box 4) [(0, 0)] 5 0), (0, .val false [.lit (.int .i64 x0)]), (1, .val false [.sl false 8 (CV.frzEs (x1.map Pt.row))])], [(10, (Vec.row r20.1)), (7, [.lit (.int .i64 y3), .lit (.int .i64 y4), .lit (.int .i64 y5), .lit (.int .i64 y6), .lit (.int .i64 y7)]), (6, [.lit (.int .i64 y8), .lit (.int .i64 y9), .lit (.int .i64 y10), .lit (.int .i64 x0), .lit (.int .i64 0)]), (4, [.lit (.int .i64 0), .lit (.int .i64 0), .lit (.int .i64 0), .lit (.int .i64 0), .lit (.int .i64 0)])]⟩ (by kernel_rfl) ?_
                    cases h7 : (decide (y2 < 0))
                    · have H := bifF h7 H
                      refine LAt.runU tOk 2 (by kernel_rfl) ?_
                      obtain ⟨r28, er28, H⟩ := bind_some H
                      refine LAt.callU tOk [.rd, .rd] (f := 72) (av := #[.tmp 61, .tmp 62]) (ats := #[27, 27]) (d := (some 63)) (ty := 4) (g := (some (10, false))) (by kernel_rfl) (by kernel_rfl) (by kernel_rfl) [] (spec_LessVec n r20.1 (⟨y3, y4, y5, y6, y7⟩ : Vec) r28 er28) (by kernel_rfl) (.inl rfl) ?_
                      refine LAt.runU tOk 2 (by kernel_rfl) ?_
                      refine LAt.doneU [65, 64, 63, 62, 61, 60, 59, 58, 57, 56, 55, 54, 53, 52, 51, 50, 11, 10, 49, 36, 48, 46, 45, 44, 43, 42, 41, 40, 39, 38, 37, 35, 34, 33, 32, 31, 30, 29, 28, 27, 26, 25, 24, 23, 22, 19, 18, 17, 16, 9, 8, 7, 6, 5, 4, 0, 1] [10, 7, 6, 4] (by kernel_rfl) ?_
                      exact Exists.intro (r28, true, true, true, true, true, true) (And.intro H (St.sub_of [65, 57, 56, 51, 50, 11, 10, 49, 36, 48, 46, 45, 44, 43, 42, 41, 40, 39, 38, 37, 35, 34, 33, 32, 31, 30, 29, 28, 27, 26, 25, 24, 23, 22, 19, 18, 17, 16, 9, 8, 7, 6, 5, 4, 0, 1] [10, 7, 6, 4] (by kernel_rfl)))
                    · have H := bifT h7 H
                      refine LAt.runU tOk 5 (by kernel_rfl) ?_
                      refine LAt.doneU [65, 64, 63, 62, 61, 60, 59, 58, 57, 56, 55, 54, 53, 52, 51, 50, 11, 10, 49, 36, 48, 46, 45, 44, 43, 42, 41, 40, 39, 38, 37, 35, 34, 33, 32, 31, 30, 29, 28, 27, 26, 25, 24, 23, 22, 19, 18, 17, 16, 9, 8, 7, 6, 5, 4, 0, 1] [10, 7, 6, 4] (by kernel_rfl) ?_
                      exact Exists.intro (true, true, true, true, true, true, true) (And.intro H (St.sub_of [65, 57, 56, 51, 50, 11, 10, 49, 36, 48, 46, 45, 44, 43, 42, 41, 40, 39, 38, 37, 35, 34, 33, 32, 31, 30, 29, 28, 27, 26, 25, 24, 23, 22, 19, 18, 17, 16, 9, 8, 7, 6, 5, 4, 0, 1] [10, 7, 6, 4] (by kernel_rfl)))
              · rintro ⟨y21, y22, y23, y24, y25, y26, y27⟩ H
                have H : (spec_BestVec_J3 n (fun v => spec_BestVec_L2 n mo15 x0 x1 v.1 v.2.1 v.2.2.1 v.2.2.2.1 v.2.2.2.2.1 v.2.2.2.2.2.1 v.2.2.2.2.2.2.1 v.2.2.2.2.2.2.2.1 v.2.2.2.2.2.2.2.2.1 v.2.2.2.2.2.2.2.2.2) r20 y1 y10 y2 y3 y4 y5 y6 y7 y8 y9 y21 y22 y23 y24 y25 y26 y27) = some o15 := H
                unfold spec_BestVec_J3 at H
                show Tr _ _ _ _ _
                refine Tr.to ⟨78, 0, [(65, .val false [.lit (.bool y21)]), (57, .val false [.lit (.bool y22)]), (56, .val false [.lit (.bool y23)]), (51, .val false [.lit (.bool y24)]), (50, .val false [.lit (.bool y25)]), (11, .val false [.lit (.bool y26)]), (10, .adr (.box 10) [(0, 0)] 5 0), (49, .val false [.lit (.bool y27)]), (36, .tup [(true, [.dead, .dead, .dead, .dead, .dead]), (false, [.dead])]), (48, .val true (Vec.row r20.1)), (46, .val false [.lit (.int .i64 v19.Cost)]), (45, .fad (((Pt.row v19).drop 1))), (44, .fad ((Pt.row v19))), (43, .val false [.lit (.int .i64 y1)]), (42, .val false [.sl false 8 (CV.frzEs (x1.map Pt.row))]), (41, .val true ((Pt.row v18).drop 3)), (40, .fad (((Pt.row v18).drop 3))), (39, .fad ((Pt.row v18))), (38, .val false [.lit (.int .i64 y1)]), (37, .val false [.sl false 8 (CV.frzEs (x1.map Pt.row))]), (35, .val false [.lit (.bool false)]), (34, .val false [.lit (.bool false)]), (33, .val false [.lit (.bool v17.Has)]), (32, .fad (((Pt.row v17).drop 2))), (31, .fad ((Pt.row v17))), (30, .val false [.lit (.int .i64 y1)]), (29, .val false [.sl false 8 (CV.frzEs (x1.map Pt.row))]), (28, .val false [.lit (.bool false)]), (27, .val false [.lit (.bool false)]), (26, .val false [.lit (.bool v16.Up)]), (25, .fad ((Pt.row v16))), (24, .fad ((Pt.row v16))), (23, .val false [.lit (.int .i64 y1)]), (22, .val false [.sl false 8 (CV.frzEs (x1.map Pt.row))]), (19, .val false [.lit (.bool true)]), (18, .val false [.lit (.int .i64 (x1.length : Int))]), (17, .val false [.sl false 8 (CV.frzEs (x1.map Pt.row))]), (16, .val false [.lit (.int .i64 y1)]), (9, .val false [.lit (.int .i64 y1)]), (8, .val false [.lit (.int .i64 y2)]), (7, .adr (.box 7) [(0, 0)] 5 0), (6, .adr (.box 6) [(0, 0)] 5 0), (5, .val false [.lit (.int .i64 0)]), (4, .adr (.box 4) [(0, 0)] 5 0), (0, .val false [.lit (.int .i64 x0)]), (1, .val false [.sl false 8 (CV.frzEs (x1.map Pt.row))])], [(10, (Vec.row r20.1)), (7, [.lit (.int .i64 y3), .lit (.int .i64 y4), .lit (.int .i64 y5), .lit (.int .i64 y6), .lit (.int .i64 y7)]), (6, [.lit (.int .i64 y8), .lit (.int .i64 y9), .lit (.int .i64 y10), .lit (.int .i64 x0), .lit (.int .i64 0)]), (4, [.lit (.int .i64 0), .lit (.int .i64 0), .lit (.int .i64 0), .lit (.int .i64 0), .lit (.int .i64 0)])]⟩ (by kernel_rfl) ?_
                cases h4 : y21
                · have H := bifF h4 H
                  refine Tr.cond (b := false) (by kernel_rfl) (fun h => nomatch h) (fun _ => ?_)
                  refine Tr.skip ?_
                  show Tr _ _ _ _ _
                  refine Tr.at ?_
                  refine LAt.runU tOk 3 (by kernel_rfl) ?_
                  refine LAt.doneU [9, 21, 20, 65, 57, 56, 51, 50, 11, 10, 49, 36, 48, 46, 45, 44, 43, 42, 41, 40, 39, 38, 37, 35, 34, 33, 32, 31, 30, 29, 28, 27, 26, 25, 24, 23, 22, 19, 18, 17, 16, 8, 7, 6, 5, 4, 0, 1] [10, 7, 6, 4] (by kernel_rfl) ?_
                  exact Exists.intro (mo15, ((IntKind.wrap .i64 (y1 + 1)), y2, y3, y4, y5, y6, y7, y8, y9, y10)) (And.intro H (And.intro (Nat.lt_succ_self mo15) (St.sub_of [9, 8, 7, 6, 5, 4, 0, 1] [7, 6, 4] (by kernel_rfl))))
                · have H := bifT h4 H
                  refine Tr.cond (b := true) (by kernel_rfl) (fun _ => ?_) (fun h => nomatch h)
                  refine Tr.rs ?_
                  refine LAt.runU tOk 2 (by kernel_rfl) ?_
                  refine LAt.doneU [66, 65, 57, 56, 51, 50, 11, 10, 49, 36, 48, 46, 45, 44, 43, 42, 41, 40, 39, 38, 37, 35, 34, 33, 32, 31, 30, 29, 28, 27, 26, 25, 24, 23, 22, 19, 18, 17, 16, 9, 8, 7, 6, 5, 4, 0, 1] [7, 10, 6, 4] (by kernel_rfl) ?_
                  refine Tr.rs ?_
                  refine LAt.runU tOk 2 (by kernel_rfl) ?_
                  refine LAt.doneU [8, 67, 66, 65, 57, 56, 51, 50, 11, 10, 49, 36, 48, 46, 45, 44, 43, 42, 41, 40, 39, 38, 37, 35, 34, 33, 32, 31, 30, 29, 28, 27, 26, 25, 24, 23, 22, 19, 18, 17, 16, 9, 7, 6, 5, 4, 0, 1] [7, 10, 6, 4] (by kernel_rfl) ?_
                  refine Tr.at ?_
                  refine LAt.runU tOk 9 (by kernel_rfl) ?_
                  refine LAt.doneU [75, 74, 73, 72, 71, 70, 69, 68, 8, 67, 66, 65, 57, 56, 51, 50, 11, 10, 49, 36, 48, 46, 45, 44, 43, 42, 41, 40, 39, 38, 37, 35, 34, 33, 32, 31, 30, 29, 28, 27, 26, 25, 24, 23, 22, 19, 18, 17, 16, 9, 7, 6, 5, 4, 0, 1] [6, 7, 10, 4] (by kernel_rfl) ?_
                  show Tr _ _ _ _ _
                  refine Tr.at ?_
                  refine LAt.runU tOk 3 (by kernel_rfl) ?_
                  refine LAt.doneU [9, 21, 20, 75, 74, 73, 72, 71, 70, 69, 68, 8, 67, 66, 65, 57, 56, 51, 50, 11, 10, 49, 36, 48, 46, 45, 44, 43, 42, 41, 40, 39, 38, 37, 35, 34, 33, 32, 31, 30, 29, 28, 27, 26, 25, 24, 23, 22, 19, 18, 17, 16, 7, 6, 5, 4, 0, 1] [6, 7, 10, 4] (by kernel_rfl) ?_
                  exact Exists.intro (mo15, ((IntKind.wrap .i64 (y1 + 1)), y1, r20.1.Root, r20.1.Cost, r20.1.Hops, r20.1.Bridge, r20.1.Port, r20.1.Root, r20.1.Cost, r20.1.Hops)) (And.intro H (And.intro (Nat.lt_succ_self mo15) (St.sub_of [9, 8, 7, 6, 5, 4, 0, 1] [7, 6, 4] (by kernel_rfl))))
          · have H := bifT h3 H
            refine Tr.cond (b := true) (by kernel_rfl) (fun _ => ?_) (fun h => nomatch h)
            refine Tr.exit ?_
            refine And.intro (fun _ => ?_) (fun h => absurd rfl h)
            show Tr _ _ _ _ _
            refine Tr.at ?_
            refine LAt.runU tOk 3 (by kernel_rfl) ?_
            refine LAt.doneU [9, 21, 20, 35, 34, 33, 32, 31, 30, 29, 28, 27, 26, 25, 24, 23, 22, 19, 18, 17, 16, 8, 7, 6, 5, 4, 0, 1] [7, 6, 4] (by kernel_rfl) ?_
            exact Exists.intro (mo15, ((IntKind.wrap .i64 (y1 + 1)), y2, y3, y4, y5, y6, y7, y8, y9, y10)) (And.intro H (And.intro (Nat.lt_succ_self mo15) (St.sub_of [9, 8, 7, 6, 5, 4, 0, 1] [7, 6, 4] (by kernel_rfl))))
        · have H := bifT h2 H
          refine LAt.runU tOk 7 (by kernel_rfl) ?_
          refine LAt.doneU [35, 34, 33, 32, 31, 30, 29, 28, 27, 26, 25, 24, 23, 22, 19, 18, 17, 16, 9, 8, 7, 6, 5, 4, 0, 1] [7, 6, 4] (by kernel_rfl) ?_
          refine Tr.cond (b := true) (by kernel_rfl) (fun _ => ?_) (fun h => nomatch h)
          refine Tr.exit ?_
          refine And.intro (fun _ => ?_) (fun h => absurd rfl h)
          show Tr _ _ _ _ _
          refine Tr.at ?_
          refine LAt.runU tOk 3 (by kernel_rfl) ?_
          refine LAt.doneU [9, 21, 20, 35, 34, 33, 32, 31, 30, 29, 28, 27, 26, 25, 24, 23, 22, 19, 18, 17, 16, 8, 7, 6, 5, 4, 0, 1] [7, 6, 4] (by kernel_rfl) ?_
          exact Exists.intro (mo15, ((IntKind.wrap .i64 (y1 + 1)), y2, y3, y4, y5, y6, y7, y8, y9, y10)) (And.intro H (And.intro (Nat.lt_succ_self mo15) (St.sub_of [9, 8, 7, 6, 5, 4, 0, 1] [7, 6, 4] (by kernel_rfl))))
  · rintro ⟨y11, y12, y13, y14⟩ H
    have H : (spec_BestVec_J1 n x0 y11 y12 y13 y14) = some r := H
    unfold spec_BestVec_J1 at H
    show Tr _ _ _ _ _
    refine Tr.rs ?_
    refine LAt.runU tOk 4 (by kernel_rfl) ?_
    refine LAt.doneU [5, 4] [4] (by kernel_rfl) ?_
    refine Tr.ret ?_
    have H := Option.some.inj H
    subst H
    exact Fin.of _ [(true, [.lit (.int .i64 y12), .lit (.int .i64 y13), .lit (.int .i64 y14), .lit (.int .i64 x0), .lit (.int .i64 0)]), (false, [.lit (.int .i64 y11)])] (by kernel_rfl) rfl rfl

def spec_SayVecF (n : Nat) (x0 : Int) (x1 : (List Pt)) (x2 : Int) : Option (Vec) :=
  ((spec_BestVecF n x0 x1).bind fun r1 => (some (⟨r1.1.Root, r1.1.Cost, r1.1.Hops, r1.1.Bridge, x2⟩ : Vec)))
/-- loop.example/g00326/spec.SayVec -/
theorem spec_SayVec (n : Nat) (x0 : Int) (x1 : (List Pt)) (x2 : Int) (r : Vec) (H : spec_SayVecF n x0 x1 x2 = some r) : LCall Try.prog 36 [.val false [.lit (.int .i64 x0)], .val false [.sl false 8 (CV.frzEs (x1.map Pt.row))], .val false [.lit (.int .i64 x2)]] [.val true (Vec.row r)] [] := by
  refine LCall.of_body tOk Try.func36 rfl (c := (.seq (.region 0 (rg Try.f36 0) false) (.seq (.region 1 (rg Try.f36 1) false) (.seq (.region 2 (rg Try.f36 2) false) (.seq (.region 3 (rg Try.f36 3) false) .ret))))) (by kernel_rfl) (Nat.le_of_ble_eq_true (by kernel_rfl)) 0 (rs := [.cell 6 27]) rfl [] .nil [(true, (Vec.row r))] [] [] fun cx => ?_
  show Tr _ _ _ ⟨18, 0, [(0, .val false [.lit (.int .i64 x0)]), (1, .val false [.sl false 8 (CV.frzEs (x1.map Pt.row))]), (2, .val false [.lit (.int .i64 x2)])], []⟩ _
  unfold spec_SayVecF at H
  refine Tr.rs ?_
  refine LAt.runU tOk 1 (by kernel_rfl) ?_
  refine LAt.doneU [6, 0, 1, 2] [6] (by kernel_rfl) ?_
  refine Tr.rs ?_
  refine LAt.runU tOk 2 (by kernel_rfl) ?_
  obtain ⟨r1, er1, H⟩ := bind_some H
  refine LAt.callU tOk [.rd, .rd] (f := 31) (av := #[.tmp 10, .tmp 11]) (ats := #[3, 54]) (d := (some 12)) (ty := 52) (g := none) (by kernel_rfl) (by kernel_rfl) (by kernel_rfl) [] (spec_BestVec n x0 x1 r1 er1) (by kernel_rfl) (.inl rfl) ?_
  refine LAt.movT tOk (ty := 52) (t := 12) (d := 9) (g := none) [(true, (Vec.row r1.1)), (false, [.lit (.int .i64 r1.2)])] _ (by kernel_rfl) (.inl rfl) (by kernel_rfl) (by kernel_rfl) (by kernel_rfl) (by kernel_rfl) rfl ?_
  refine LAt.runU tOk 5 (by kernel_rfl) ?_
  refine LAt.doneU [7, 6, 2] [7, 6] (by kernel_rfl) ?_
  refine Tr.rs ?_
  refine LAt.runU tOk 3 (by kernel_rfl) ?_
  refine LAt.doneU [7, 6] [7, 6] (by kernel_rfl) ?_
  refine Tr.rs ?_
  refine LAt.runU tOk 2 (by kernel_rfl) ?_
  refine LAt.doneU [6] [6] (by kernel_rfl) ?_
  refine Tr.ret ?_
  have H := Option.some.inj H
  subst H
  exact Fin.of _ [(true, [.lit (.int .i64 r1.1.Root), .lit (.int .i64 r1.1.Cost), .lit (.int .i64 r1.1.Hops), .lit (.int .i64 r1.1.Bridge), .lit (.int .i64 x2)])] (by kernel_rfl) rfl rfl

def spec_RoleOfF (n : Nat) (x0 : Int) (x1 : (List Pt)) (x2 : Int) : Option (Int) :=
  ((spec_l1InF n x2 0 (IntKind.wrap .i64 ((x1.length : Int) - 1))).bind fun r1 => (bif (!r1) then (some 4) else ((idx x1 x2).bind fun v2 => (bif (!v2.Up) then (some 4) else ((spec_BestVecF n x0 x1).bind fun r3 => (bif (r3.2 == x2) then (some 1) else ((idx x1 x2).bind fun v4 => (bif (!v4.Has) then (some 2) else ((spec_SayVecF n x0 x1 x2).bind fun r5 => ((idx x1 x2).bind fun v6 => ((spec_LessVecF n r5 v6.Heard).bind fun r7 => (bif r7 then (some 2) else (some 3)))))))))))))
/-- loop.example/g00326/spec.RoleOf -/
theorem spec_RoleOf (n : Nat) (x0 : Int) (x1 : (List Pt)) (x2 : Int) (r : Int) (H : spec_RoleOfF n x0 x1 x2 = some r) : LCall Try.prog 41 [.val false [.lit (.int .i64 x0)], .val false [.sl false 8 (CV.frzEs (x1.map Pt.row))], .val false [.lit (.int .i64 x2)]] [.val false [.lit (.int .i64 r)]] [] := by
  refine LCall.of_body tOk Try.func41 rfl (c := (.seq (.region 0 (rg Try.f41 0) false) (.seq (.seq (.region 1 (rg Try.f41 1) false) (.cond (.tmp 22) (.seq (.region 2 (rg Try.f41 2) false) .ret) .skip)) (.seq (.region 3 (rg Try.f41 3) false) (.seq (.block 0 (.seq (.region 4 (rg Try.f41 4) false) (.cond (.tmp 29) (.seq (.region 5 (rg Try.f41 5) false) .ret) (.seq (.region 6 (rg Try.f41 6) true) (.cond (.tmp 33) (.seq (.region 7 (rg Try.f41 7) false) .ret) .skip))))) (.seq (.region 8 (rg Try.f41 8) false) .ret)))))) (by kernel_rfl) (Nat.le_of_ble_eq_true (by kernel_rfl)) 0 (rs := [.tmp 6]) rfl [] .nil [(false, [.lit (.int .i64 r)])] [] [] fun cx => ?_
  show Tr _ _ _ ⟨52, 0, [(0, .val false [.lit (.int .i64 x0)]), (1, .val false [.sl false 8 (CV.frzEs (x1.map Pt.row))]), (2, .val false [.lit (.int .i64 x2)])], []⟩ _
  unfold spec_RoleOfF at H
  refine Tr.rs ?_
  refine LAt.runU tOk 1 (by kernel_rfl) ?_
  refine LAt.doneU [6, 0, 1, 2] [] (by kernel_rfl) ?_
  refine Tr.seq ?_
  refine Tr.rs ?_
  refine LAt.runU tOk 2 (by kernel_rfl) ?_
  refine LAt.lenE tOk (t := 54) (ty := 3) (e := 29) (x := (.tmp 10)) (d := 11) (g := none) ⟨(.slot 10), [], 0, false, 8, (CV.frzEs (x1.map Pt.row))⟩ (x1).length _ (by kernel_rfl) (by kernel_rfl) (by kernel_rfl) (by kernel_rfl) (by kernel_rfl) (frz_len _ _) rfl ?_
  refine LAt.runU tOk 1 (by kernel_rfl) ?_
  obtain ⟨r1, er1, H⟩ := bind_some H
  refine LAt.callU tOk [.rd, .rd, .rd] (f := 51) (av := #[.tmp 9, .const (.int .i64 0), .tmp 12]) (ats := #[3, 3, 3]) (d := (some 13)) (ty := 4) (g := none) (by kernel_rfl) (by kernel_rfl) (by kernel_rfl) [] (spec_l1In n x2 0 (IntKind.wrap .i64 ((x1.length : Int) - 1)) r1 er1) (by kernel_rfl) (.inl rfl) ?_
  refine LAt.runU tOk 2 (by kernel_rfl) ?_
  refine LAt.to ⟨52, 0, [(15, .val false [.lit (.bool (!r1))]), (14, .val false [.lit (.bool (!r1))]), (13, .val false [.lit (.bool r1)]), (12, .val false [.lit (.int .i64 (IntKind.wrap .i64 ((x1.length : Int) - 1)))]), (11, .val false [.lit (.int .i64 (x1.length : Int))]), (10, .val false [.sl false 8 (CV.frzEs (x1.map Pt.row))]), (9, .val false [.lit (.int .i64 x2)]), (6, .val false [.lit (.int .i64 0)]), (0, .val false [.lit (.int .i64 x0)]), (1, .val false [.sl false 8 (CV.frzEs (x1.map Pt.row))]), (2, .val false [.lit (.int .i64 x2)])], []⟩ (by kernel_rfl) ?_
  cases h1 : (!r1)
  · have H := bifF h1 H
    refine LAt.runU tOk 2 (by kernel_rfl) ?_
    obtain ⟨v2, ev2, H⟩ := bind_some H
    refine LAt.indexF tOk (t := 54) (ty := 0) (x := (.tmp 16)) (y := (.tmp 17)) (d := 18) (g := (some (6, false))) ⟨(.slot 16), [], 0, false, 8, (CV.frzEs (x1.map Pt.row))⟩ x2 (Pt.row v2) _ (by kernel_rfl) (by kernel_rfl) (by kernel_rfl) (by kernel_rfl) rfl (idx_isF ev2) rfl ?_
    refine LAt.runU tOk 4 (by kernel_rfl) ?_
    refine LAt.doneU [22, 6, 0, 1, 2] [] (by kernel_rfl) ?_
    refine Tr.to ⟨52, 0, [(22, .val false [.lit (.bool (!v2.Up))]), (6, .val false [.lit (.int .i64 0)]), (0, .val false [.lit (.int .i64 x0)]), (1, .val false [.sl false 8 (CV.frzEs (x1.map Pt.row))]), (2, .val false [.lit (.int .i64 x2)])], []⟩ (by kernel_rfl) ?_
    cases h2 : (!v2.Up)
    · have H := bifF h2 H
      refine Tr.cond (b := false) (by kernel_rfl) (fun h => nomatch h) (fun _ => ?_)
      refine Tr.skip ?_
      show Tr _ _ _ _ _
      refine Tr.rs ?_
      refine LAt.runU tOk 2 (by kernel_rfl) ?_
      obtain ⟨r3, er3, H⟩ := bind_some H
      refine LAt.callU tOk [.rd, .rd] (f := 31) (av := #[.tmp 24, .tmp 25]) (ats := #[3, 54]) (d := (some 26)) (ty := 52) (g := none) (by kernel_rfl) (by kernel_rfl) (by kernel_rfl) [] (spec_BestVec n x0 x1 r3 er3) (by kernel_rfl) (.inl rfl) ?_
      refine LAt.movT tOk (ty := 52) (t := 26) (d := 23) (g := none) [(true, (Vec.row r3.1)), (false, [.lit (.int .i64 r3.2)])] _ (by kernel_rfl) (.inl rfl) (by kernel_rfl) (by kernel_rfl) (by kernel_rfl) (by kernel_rfl) rfl ?_
      refine LAt.runU tOk 5 (by kernel_rfl) ?_
      refine LAt.doneU [8, 6, 0, 1, 2] [] (by kernel_rfl) ?_
      refine Tr.seq ?_
      refine Tr.block ?_
      refine Tr.rs ?_
      refine LAt.runU tOk 4 (by kernel_rfl) ?_
      refine LAt.doneU [29, 6, 0, 1, 2] [] (by kernel_rfl) ?_
      refine Tr.to ⟨52, 0, [(29, .val false [.lit (.bool (r3.2 == x2))]), (6, .val false [.lit (.int .i64 0)]), (0, .val false [.lit (.int .i64 x0)]), (1, .val false [.sl false 8 (CV.frzEs (x1.map Pt.row))]), (2, .val false [.lit (.int .i64 x2)])], []⟩ (by kernel_rfl) ?_
      cases h3 : (r3.2 == x2)
      · have H := bifF h3 H
        refine Tr.cond (b := false) (by kernel_rfl) (fun h => nomatch h) (fun _ => ?_)
        obtain ⟨v4, ev4, H⟩ := bind_some H
        refine Tr.to ⟨52, 0, [(29, .val false [.lit (.bool false)]), (6, .val false [.lit (.int .i64 0)]), (0, .val false [.lit (.int .i64 x0)]), (1, .val false [.sl false 8 (CV.frzEs (x1.map Pt.row))]), (2, .val false [.lit (.int .i64 x2)])], []⟩ (by kernel_rfl) ?_
        cases h4 : (!v4.Has)
        · have H := bifF h4 H
          obtain ⟨r5, er5, H⟩ := bind_some H
          obtain ⟨v6, ev6, H⟩ := bind_some H
          obtain ⟨r7, er7, H⟩ := bind_some H
          refine Tr.draws mixed 19 (by kernel_rfl) ⟨52, 0, [(33, .val false [.lit (.bool r7)]), (6, .val false [.lit (.int .i64 0)])], []⟩ (fun cx => ?_) ?_
          · refine AT.runU tOk [(0, []), (1, [])] 17 [] [1, 0] rfl (by kernel_rfl) (fun cx => ?_)
            refine AT.indexF tOk 2 (t := 54) (ty := 0) (x := (.tmp 34)) (y := (.tmp 35)) (d := 36) (g := none) ⟨(.slot 34), [], 0, false, 8, (CV.frzEs (x1.map Pt.row))⟩ x2 (Pt.row v4) _ (by kernel_rfl) (by kernel_rfl) (by kernel_rfl) (by kernel_rfl) (by kernel_rfl) (by kernel_rfl) rfl (idx_isF ev4) rfl (fun cx => ?_)
            refine AT.runU tOk [(3, []), (4, []), (5, []), (6, [])] 12 [] [6, 5, 4, 3, 2, 1, 0] rfl (by kernel_rfl) (fun cx => ?_)
            refine AT.to ⟨52, 0, [(40, .val false [.lit (.bool (!v4.Has))]), (39, .val false [.lit (.bool (!v4.Has))]), (38, .val false [.lit (.bool v4.Has)]), (37, .fad (((Pt.row v4).drop 2))), (36, .fad ((Pt.row v4))), (35, .val false [.lit (.int .i64 x2)]), (34, .val false [.sl false 8 (CV.frzEs (x1.map Pt.row))]), (29, .val false [.lit (.bool false)]), (6, .val false [.lit (.int .i64 0)]), (0, .val false [.lit (.int .i64 x0)]), (1, .val false [.sl false 8 (CV.frzEs (x1.map Pt.row))]), (2, .val false [.lit (.int .i64 x2)])], []⟩ (by kernel_rfl) ?_
            rw [h4]
            refine AT.runU tOk [(7, []), (8, []), (9, []), (11, []), (12, [])] 7 [] [12, 11, 9, 8, 7, 6, 5, 4, 3, 2, 1, 0] rfl (by kernel_rfl) (fun cx => ?_)
            refine AT.indexF tOk 13 (t := 54) (ty := 0) (x := (.tmp 45)) (y := (.tmp 46)) (d := 47) (g := (some (6, false))) ⟨(.slot 45), [], 0, false, 8, (CV.frzEs (x1.map Pt.row))⟩ x2 (Pt.row v6) _ (by kernel_rfl) (by kernel_rfl) (by kernel_rfl) (by kernel_rfl) (by kernel_rfl) (by kernel_rfl) rfl (idx_isF ev6) rfl (fun cx => ?_)
            refine AT.runU tOk [(14, []), (15, [])] 4 [] [15, 14, 13, 12, 11, 9, 8, 7, 6, 5, 4, 3, 2, 1, 0] rfl (by kernel_rfl) (fun cx => ?_)
            refine AT.big1 tOk 10 (by kernel_rfl) (by kernel_rfl) ?_
            refine LAt.callU tOk [.rd, .rd, .rd] (f := 36) (av := #[.tmp 41, .tmp 42, .tmp 43]) (ats := #[3, 54, 3]) (d := (some 44)) (ty := 27) (g := (some (6, false))) (by kernel_rfl) (by kernel_rfl) (by kernel_rfl) [] (spec_SayVec n x0 x1 x2 r5 er5) (by kernel_rfl) (.inl rfl) ?_
            refine LAt.fin (by kernel_rfl) (And.intro (And.intro (by kernel_rfl) (by kernel_rfl)) ?_)
            refine AT.big1 tOk 16 (by kernel_rfl) (by kernel_rfl) ?_
            refine LAt.callU tOk [.rd, .rd] (f := 72) (av := #[.tmp 44, .tmp 49]) (ats := #[27, 27]) (d := (some 50)) (ty := 4) (g := (some (6, false))) (by kernel_rfl) (by kernel_rfl) (by kernel_rfl) [] (spec_LessVec n r5 v6.Heard r7 er7) (by kernel_rfl) (.inl rfl) ?_
            refine LAt.fin (by kernel_rfl) (And.intro (And.intro (by kernel_rfl) (by kernel_rfl)) ?_)
            refine AT.runU tOk [(17, []), (18, [])] 0 [] [18, 17, 16, 10, 15, 14, 13, 12, 11, 9, 8, 7, 6, 5, 4, 3, 2, 1, 0] rfl (by kernel_rfl) (fun cx => ?_)
            exact AT.done [33, 6] [] _ (by kernel_rfl) (by kernel_rfl) rfl
          · refine Tr.to ⟨52, 0, [(33, .val false [.lit (.bool r7)]), (6, .val false [.lit (.int .i64 0)])], []⟩ (by kernel_rfl) ?_
            cases h5 : r7
            · have H := bifF h5 H
              refine Tr.cond (b := false) (by kernel_rfl) (fun h => nomatch h) (fun _ => ?_)
              refine Tr.skip ?_
              show Tr _ _ _ _ _
              refine Tr.rs ?_
              refine LAt.runU tOk 1 (by kernel_rfl) ?_
              refine LAt.doneU [6] [] (by kernel_rfl) ?_
              refine Tr.ret ?_
              have H := Option.some.inj H
              subst H
              exact Fin.of _ [(false, [.lit (.int .i64 3)])] (by kernel_rfl) rfl rfl
            · have H := bifT h5 H
              refine Tr.cond (b := true) (by kernel_rfl) (fun _ => ?_) (fun h => nomatch h)
              refine Tr.rs ?_
              refine LAt.runU tOk 1 (by kernel_rfl) ?_
              refine LAt.doneU [6] [] (by kernel_rfl) ?_
              refine Tr.ret ?_
              have H := Option.some.inj H
              subst H
              exact Fin.of _ [(false, [.lit (.int .i64 2)])] (by kernel_rfl) rfl rfl
        · have H := bifT h4 H
          refine Tr.draws mixed 19 (by kernel_rfl) ⟨52, 0, [(33, .val false [.lit (.bool true)]), (6, .val false [.lit (.int .i64 0)])], []⟩ (fun cx => ?_) ?_
          · refine AT.runU tOk [(0, []), (1, [])] 17 [] [1, 0] rfl (by kernel_rfl) (fun cx => ?_)
            refine AT.indexF tOk 2 (t := 54) (ty := 0) (x := (.tmp 34)) (y := (.tmp 35)) (d := 36) (g := none) ⟨(.slot 34), [], 0, false, 8, (CV.frzEs (x1.map Pt.row))⟩ x2 (Pt.row v4) _ (by kernel_rfl) (by kernel_rfl) (by kernel_rfl) (by kernel_rfl) (by kernel_rfl) (by kernel_rfl) rfl (idx_isF ev4) rfl (fun cx => ?_)
            refine AT.runU tOk [(3, []), (4, []), (5, []), (6, [])] 12 [] [6, 5, 4, 3, 2, 1, 0] rfl (by kernel_rfl) (fun cx => ?_)
            refine AT.to ⟨52, 0, [(40, .val false [.lit (.bool (!v4.Has))]), (39, .val false [.lit (.bool (!v4.Has))]), (38, .val false [.lit (.bool v4.Has)]), (37, .fad (((Pt.row v4).drop 2))), (36, .fad ((Pt.row v4))), (35, .val false [.lit (.int .i64 x2)]), (34, .val false [.sl false 8 (CV.frzEs (x1.map Pt.row))]), (29, .val false [.lit (.bool false)]), (6, .val false [.lit (.int .i64 0)]), (0, .val false [.lit (.int .i64 x0)]), (1, .val false [.sl false 8 (CV.frzEs (x1.map Pt.row))]), (2, .val false [.lit (.int .i64 x2)])], []⟩ (by kernel_rfl) ?_
            rw [h4]
            refine AT.runU tOk [(7, []), (8, []), (9, []), (10, []), (11, []), (12, []), (13, []), (14, []), (15, []), (16, []), (17, []), (18, [])] 0 [] [18, 17, 16, 15, 14, 13, 12, 11, 10, 9, 8, 7, 6, 5, 4, 3, 2, 1, 0] rfl (by kernel_rfl) (fun cx => ?_)
            exact AT.done [33, 6] [] _ (by kernel_rfl) (by kernel_rfl) rfl
          · refine Tr.cond (b := true) (by kernel_rfl) (fun _ => ?_) (fun h => nomatch h)
            refine Tr.rs ?_
            refine LAt.runU tOk 1 (by kernel_rfl) ?_
            refine LAt.doneU [6] [] (by kernel_rfl) ?_
            refine Tr.ret ?_
            have H := Option.some.inj H
            subst H
            exact Fin.of _ [(false, [.lit (.int .i64 2)])] (by kernel_rfl) rfl rfl
      · have H := bifT h3 H
        refine Tr.cond (b := true) (by kernel_rfl) (fun _ => ?_) (fun h => nomatch h)
        refine Tr.rs ?_
        refine LAt.runU tOk 1 (by kernel_rfl) ?_
        refine LAt.doneU [6] [] (by kernel_rfl) ?_
        refine Tr.ret ?_
        have H := Option.some.inj H
        subst H
        exact Fin.of _ [(false, [.lit (.int .i64 1)])] (by kernel_rfl) rfl rfl
    · have H := bifT h2 H
      refine Tr.cond (b := true) (by kernel_rfl) (fun _ => ?_) (fun h => nomatch h)
      refine Tr.rs ?_
      refine LAt.runU tOk 1 (by kernel_rfl) ?_
      refine LAt.doneU [6, 0, 1, 2] [] (by kernel_rfl) ?_
      refine Tr.ret ?_
      have H := Option.some.inj H
      subst H
      exact Fin.of _ [(false, [.lit (.int .i64 4)])] (by kernel_rfl) rfl rfl
  · have H := bifT h1 H
    refine LAt.runU tOk 7 (by kernel_rfl) ?_
    refine LAt.doneU [22, 6, 0, 1, 2] [] (by kernel_rfl) ?_
    refine Tr.cond (b := true) (by kernel_rfl) (fun _ => ?_) (fun h => nomatch h)
    refine Tr.rs ?_
    refine LAt.runU tOk 1 (by kernel_rfl) ?_
    refine LAt.doneU [6, 0, 1, 2] [] (by kernel_rfl) ?_
    refine Tr.ret ?_
    have H := Option.some.inj H
    subst H
    exact Fin.of _ [(false, [.lit (.int .i64 4)])] (by kernel_rfl) rfl rfl

def impl_Sends_J1 (n : Nat) (y3 : Int) : Option (Int) :=
  (some y3)
def impl_Sends_L2 (n : Nat) : Nat → Int → (List Pt) → Int → Int → Option ((Int) ⊕ (Int))
  | 0, _, _, _, _ => none
  | mo4 + 1, x0, x1, y1, y2 => (bif (decide (y1 < (x1.length : Int))) then (bif (decide (y1 < 6)) then ((impl_RoleOfF n x0 x1 y1).bind fun r5 => (bif (r5 == 1) then (bif (decide ((0 : Int) ≤ y1)) then (impl_Sends_L2 n mo4 x0 x1 (IntKind.wrap .i64 (y1 + 1)) (IntKind.wrap .i64 (BitVec.ofInt (IntKind.bits .i64) y2 ||| BitVec.ofInt (IntKind.bits .i64) (IntKind.wrap .i64 (1 * 2 ^ min ((y1 : Int)).toNat (IntKind.bits .i64)))).toNat)) else none) else (bif (r5 == 2) then (bif (decide ((0 : Int) ≤ y1)) then (impl_Sends_L2 n mo4 x0 x1 (IntKind.wrap .i64 (y1 + 1)) (IntKind.wrap .i64 (BitVec.ofInt (IntKind.bits .i64) y2 ||| BitVec.ofInt (IntKind.bits .i64) (IntKind.wrap .i64 (1 * 2 ^ min ((y1 : Int)).toNat (IntKind.bits .i64)))).toNat)) else none) else (impl_Sends_L2 n mo4 x0 x1 (IntKind.wrap .i64 (y1 + 1)) y2)))) else (some (Sum.inl y2))) else (some (Sum.inl y2)))
def impl_SendsF (n : Nat) (x0 : Int) (x1 : (List Pt)) : Option (Int) :=
  ((impl_Sends_L2 n n x0 x1 0 0).bind fun o => match o with | .inl y3 => (impl_Sends_J1 n y3) | .inr r => some r)
/-- loop.example/g00326/impl.Sends -/
theorem impl_Sends (n : Nat) (x0 : Int) (x1 : (List Pt)) (r : Int) (H : impl_SendsF n x0 x1 = some r) : LCall Try.prog 43 [.val false [.lit (.int .i64 x0)], .val false [.sl false 8 (CV.frzEs (x1.map Pt.row))]] [.val false [.lit (.int .i64 r)]] [] := by
  refine LCall.of_body tOk Try.func43 rfl (c := (.seq (.region 0 (rg Try.f43 0) false) (.seq (.region 1 (rg Try.f43 1) false) (.seq (.seq (.region 2 (rg Try.f43 2) false) (.block 0 (.loop (.seq (.seq (.region 3 (rg Try.f43 3) false) (.cond (.tmp 15) .skip (.exit 0))) (.seq (.block 1 (.seq (.region 5 (rg Try.f43 5) false) (.seq (.region 6 (rg Try.f43 6) false) (.cond (.tmp 27) (.region 7 (rg Try.f43 7) false) .skip)))) (.region 4 (rg Try.f43 4) false)))))) (.seq (.region 8 (rg Try.f43 8) false) .ret))))) (by kernel_rfl) (Nat.le_of_ble_eq_true (by kernel_rfl)) 0 (rs := [.tmp 4]) rfl [] .nil [(false, [.lit (.int .i64 r)])] [] [] fun cx => ?_
  show Tr _ _ _ ⟨33, 0, [(0, .val false [.lit (.int .i64 x0)]), (1, .val false [.sl false 8 (CV.frzEs (x1.map Pt.row))])], []⟩ _
  unfold impl_SendsF at H
  refine Tr.rs ?_
  refine LAt.runU tOk 1 (by kernel_rfl) ?_
  refine LAt.doneU [4, 0, 1] [] (by kernel_rfl) ?_
  refine Tr.rs ?_
  refine LAt.runU tOk 1 (by kernel_rfl) ?_
  refine LAt.doneU [5, 4, 0, 1] [] (by kernel_rfl) ?_
  refine Tr.seq ?_
  refine Tr.rs ?_
  refine LAt.runU tOk 1 (by kernel_rfl) ?_
  refine LAt.doneU [6, 5, 4, 0, 1] [] (by kernel_rfl) ?_
  obtain ⟨o4, eo4, Ho4⟩ := bind_some H
  clear H
  refine Tr.mid (ι := Int) (fun v => ⟨33, 0, [(5, .val false [.lit (.int .i64 v)]), (4, .val false [.lit (.int .i64 0)])], []⟩) (fun v => impl_Sends_J1 n v = some r) ?_ ?_
  · refine Tr.block ?_
    refine Tr.loop (ι := Nat × (Int × Int)) (fun v => ⟨33, 0, [(6, .val false [.lit (.int .i64 v.2.1)]), (5, .val false [.lit (.int .i64 v.2.2)]), (4, .val false [.lit (.int .i64 0)]), (0, .val false [.lit (.int .i64 x0)]), (1, .val false [.sl false 8 (CV.frzEs (x1.map Pt.row))])], []⟩) (fun v => impl_Sends_L2 n v.1 x0 x1 v.2.1 v.2.2 = some o4) (fun v => v.1) (n, (0, 0)) eo4 (St.sub_of [6, 5, 4, 0, 1] [] (by kernel_rfl)) ?_
    rintro ⟨mo4, y1, y2⟩ H
    have H : impl_Sends_L2 n mo4 x0 x1 y1 y2 = some o4 := H
    obtain _ | mo4 := mo4
    · cases (show (none : Option _) = some o4 from H)
    · rw [impl_Sends_L2] at H
      refine Tr.seq ?_
      refine Tr.rs ?_
      refine LAt.runU tOk 2 (by kernel_rfl) ?_
      refine LAt.lenE tOk (t := 54) (ty := 3) (e := 29) (x := (.tmp 9)) (d := 10) (g := none) ⟨(.slot 9), [], 0, false, 8, (CV.frzEs (x1.map Pt.row))⟩ (x1).length _ (by kernel_rfl) (by kernel_rfl) (by kernel_rfl) (by kernel_rfl) (by kernel_rfl) (frz_len _ _) rfl ?_
      refine LAt.runU tOk 2 (by kernel_rfl) ?_
      refine LAt.to ⟨33, 0, [(12, .val false [.lit (.bool (decide (y1 < (x1.length : Int))))]), (11, .val false [.lit (.bool (decide (y1 < (x1.length : Int))))]), (10, .val false [.lit (.int .i64 (x1.length : Int))]), (9, .val false [.sl false 8 (CV.frzEs (x1.map Pt.row))]), (8, .val false [.lit (.int .i64 y1)]), (6, .val false [.lit (.int .i64 y1)]), (5, .val false [.lit (.int .i64 y2)]), (4, .val false [.lit (.int .i64 0)]), (0, .val false [.lit (.int .i64 x0)]), (1, .val false [.sl false 8 (CV.frzEs (x1.map Pt.row))])], []⟩ (by kernel_rfl) ?_
      cases h1 : (decide (y1 < (x1.length : Int)))
      · have H := bifF h1 H
        refine LAt.runU tOk 3 (by kernel_rfl) ?_
        refine LAt.doneU [15, 14, 13, 12, 11, 10, 9, 8, 6, 5, 4, 0, 1] [] (by kernel_rfl) ?_
        refine Tr.cond (b := false) (by kernel_rfl) (fun h => nomatch h) (fun _ => ?_)
        refine Tr.exit ?_
        refine And.intro (fun _ => ?_) (fun h => absurd rfl h)
        have H := Option.some.inj H
        subst H
        have H := Ho4
        dsimp only at H
        exact Exists.intro y2 (And.intro H (St.sub_of [5, 4] [] (by kernel_rfl)))
      · have H := bifT h1 H
        refine LAt.runU tOk 3 (by kernel_rfl) ?_
        refine LAt.doneU [15, 14, 13, 12, 11, 10, 9, 8, 6, 5, 4, 0, 1] [] (by kernel_rfl) ?_
        refine Tr.to ⟨33, 0, [(15, .val false [.lit (.bool (decide (y1 < 6)))]), (14, .val false [.lit (.bool (decide (y1 < 6)))]), (13, .val false [.lit (.int .i64 y1)]), (12, .val false [.lit (.bool true)]), (11, .val false [.lit (.bool true)]), (10, .val false [.lit (.int .i64 (x1.length : Int))]), (9, .val false [.sl false 8 (CV.frzEs (x1.map Pt.row))]), (8, .val false [.lit (.int .i64 y1)]), (6, .val false [.lit (.int .i64 y1)]), (5, .val false [.lit (.int .i64 y2)]), (4, .val false [.lit (.int .i64 0)]), (0, .val false [.lit (.int .i64 x0)]), (1, .val false [.sl false 8 (CV.frzEs (x1.map Pt.row))])], []⟩ (by kernel_rfl) ?_
        cases h2 : (decide (y1 < 6))
        · have H := bifF h2 H
          refine Tr.cond (b := false) (by kernel_rfl) (fun h => nomatch h) (fun _ => ?_)
          refine Tr.exit ?_
          refine And.intro (fun _ => ?_) (fun h => absurd rfl h)
          have H := Option.some.inj H
          subst H
          have H := Ho4
          dsimp only at H
          exact Exists.intro y2 (And.intro H (St.sub_of [5, 4] [] (by kernel_rfl)))
        · have H := bifT h2 H
          refine Tr.cond (b := true) (by kernel_rfl) (fun _ => ?_) (fun h => nomatch h)
          refine Tr.skip ?_
          show Tr _ _ _ _ _
          refine Tr.seq ?_
          refine Tr.block ?_
          refine Tr.rs ?_
          refine LAt.runU tOk 3 (by kernel_rfl) ?_
          obtain ⟨r5, er5, H⟩ := bind_some H
          refine LAt.callU tOk [.rd, .rd, .rd] (f := 40) (av := #[.tmp 18, .tmp 19, .tmp 20]) (ats := #[3, 54, 3]) (d := (some 21)) (ty := 3) (g := none) (by kernel_rfl) (by kernel_rfl) (by kernel_rfl) [] (impl_RoleOf n x0 x1 y1 r5 er5) (by kernel_rfl) (.inl rfl) ?_
          refine LAt.runU tOk 1 (by kernel_rfl) ?_
          refine LAt.doneU [7, 21, 20, 19, 18, 15, 14, 13, 12, 11, 10, 9, 8, 6, 5, 4, 0, 1] [] (by kernel_rfl) ?_
          refine Tr.rs ?_
          refine LAt.runU tOk 3 (by kernel_rfl) ?_
          refine LAt.to ⟨33, 0, [(24, .val false [.lit (.bool (r5 == 1))]), (23, .val false [.lit (.bool (r5 == 1))]), (22, .val false [.lit (.int .i64 r5)]), (7, .val false [.lit (.int .i64 r5)]), (21, .val false [.lit (.int .i64 r5)]), (20, .val false [.lit (.int .i64 y1)]), (19, .val false [.sl false 8 (CV.frzEs (x1.map Pt.row))]), (18, .val false [.lit (.int .i64 x0)]), (15, .val false [.lit (.bool true)]), (14, .val false [.lit (.bool true)]), (13, .val false [.lit (.int .i64 y1)]), (12, .val false [.lit (.bool true)]), (11, .val false [.lit (.bool true)]), (10, .val false [.lit (.int .i64 (x1.length : Int))]), (9, .val false [.sl false 8 (CV.frzEs (x1.map Pt.row))]), (8, .val false [.lit (.int .i64 y1)]), (6, .val false [.lit (.int .i64 y1)]), (5, .val false [.lit (.int .i64 y2)]), (4, .val false [.lit (.int .i64 0)]), (0, .val false [.lit (.int .i64 x0)]), (1, .val false [.sl false 8 (CV.frzEs (x1.map Pt.row))])], []⟩ (by kernel_rfl) ?_
          cases h3 : (r5 == 1)
          · have H := bifF h3 H
            refine LAt.runU tOk 3 (by kernel_rfl) ?_
            refine LAt.doneU [27, 26, 25, 24, 23, 22, 7, 21, 20, 19, 18, 15, 14, 13, 12, 11, 10, 9, 8, 6, 5, 4, 0, 1] [] (by kernel_rfl) ?_
            refine Tr.to ⟨33, 0, [(27, .val false [.lit (.bool (r5 == 2))]), (26, .val false [.lit (.bool (r5 == 2))]), (25, .val false [.lit (.int .i64 r5)]), (24, .val false [.lit (.bool false)]), (23, .val false [.lit (.bool false)]), (22, .val false [.lit (.int .i64 r5)]), (7, .val false [.lit (.int .i64 r5)]), (21, .val false [.lit (.int .i64 r5)]), (20, .val false [.lit (.int .i64 y1)]), (19, .val false [.sl false 8 (CV.frzEs (x1.map Pt.row))]), (18, .val false [.lit (.int .i64 x0)]), (15, .val false [.lit (.bool true)]), (14, .val false [.lit (.bool true)]), (13, .val false [.lit (.int .i64 y1)]), (12, .val false [.lit (.bool true)]), (11, .val false [.lit (.bool true)]), (10, .val false [.lit (.int .i64 (x1.length : Int))]), (9, .val false [.sl false 8 (CV.frzEs (x1.map Pt.row))]), (8, .val false [.lit (.int .i64 y1)]), (6, .val false [.lit (.int .i64 y1)]), (5, .val false [.lit (.int .i64 y2)]), (4, .val false [.lit (.int .i64 0)]), (0, .val false [.lit (.int .i64 x0)]), (1, .val false [.sl false 8 (CV.frzEs (x1.map Pt.row))])], []⟩ (by kernel_rfl) ?_
            cases h4 : (r5 == 2)
            · have H := bifF h4 H
              refine Tr.cond (b := false) (by kernel_rfl) (fun h => nomatch h) (fun _ => ?_)
              refine Tr.skip ?_
              show Tr _ _ _ _ _
              refine Tr.at ?_
              refine LAt.runU tOk 3 (by kernel_rfl) ?_
              refine LAt.doneU [6, 17, 16, 27, 26, 25, 24, 23, 22, 7, 21, 20, 19, 18, 15, 14, 13, 12, 11, 10, 9, 8, 5, 4, 0, 1] [] (by kernel_rfl) ?_
              exact Exists.intro (mo4, ((IntKind.wrap .i64 (y1 + 1)), y2)) (And.intro H (And.intro (Nat.lt_succ_self mo4) (St.sub_of [6, 5, 4, 0, 1] [] (by kernel_rfl))))
            · have H := bifT h4 H
              refine Tr.cond (b := true) (by kernel_rfl) (fun _ => ?_) (fun h => nomatch h)
              refine Tr.at ?_
              refine LAt.runU tOk 2 (by kernel_rfl) ?_
              obtain ⟨hg6, H⟩ := guard_some H
              refine LAt.binC tOk (op := .shl) (t := 3) (ty := 3) (ty' := 3) (x := (.const (.int .i64 1))) (y := (.tmp 29)) (d := 30) (g := none) (.int .i64 1) (.int .i64 y1) (.int .i64 (IntKind.wrap .i64 (1 * 2 ^ min ((y1 : Int)).toNat (IntKind.bits .i64)))) _ (by kernel_rfl) (by kernel_rfl) (by kernel_rfl) (by kernel_rfl) (by kernel_rfl) (φ := (0 : Int) ≤ y1) (by kernel_rfl) (of_decide_eq_true hg6) rfl ?_
              refine LAt.runU tOk 2 (by kernel_rfl) ?_
              refine LAt.doneU [5, 31, 30, 29, 28, 27, 26, 25, 24, 23, 22, 7, 21, 20, 19, 18, 15, 14, 13, 12, 11, 10, 9, 8, 6, 4, 0, 1] [] (by kernel_rfl) ?_
              show Tr _ _ _ _ _
              refine Tr.at ?_
              refine LAt.runU tOk 3 (by kernel_rfl) ?_
              refine LAt.doneU [6, 17, 16, 5, 31, 30, 29, 28, 27, 26, 25, 24, 23, 22, 7, 21, 20, 19, 18, 15, 14, 13, 12, 11, 10, 9, 8, 4, 0, 1] [] (by kernel_rfl) ?_
              exact Exists.intro (mo4, ((IntKind.wrap .i64 (y1 + 1)), (IntKind.wrap .i64 (BitVec.ofInt (IntKind.bits .i64) y2 ||| BitVec.ofInt (IntKind.bits .i64) (IntKind.wrap .i64 (1 * 2 ^ min ((y1 : Int)).toNat (IntKind.bits .i64)))).toNat))) (And.intro H (And.intro (Nat.lt_succ_self mo4) (St.sub_of [6, 5, 4, 0, 1] [] (by kernel_rfl))))
          · have H := bifT h3 H
            refine LAt.runU tOk 3 (by kernel_rfl) ?_
            refine LAt.doneU [27, 26, 25, 24, 23, 22, 7, 21, 20, 19, 18, 15, 14, 13, 12, 11, 10, 9, 8, 6, 5, 4, 0, 1] [] (by kernel_rfl) ?_
            refine Tr.cond (b := true) (by kernel_rfl) (fun _ => ?_) (fun h => nomatch h)
            refine Tr.at ?_
            refine LAt.runU tOk 2 (by kernel_rfl) ?_
            obtain ⟨hg7, H⟩ := guard_some H
            refine LAt.binC tOk (op := .shl) (t := 3) (ty := 3) (ty' := 3) (x := (.const (.int .i64 1))) (y := (.tmp 29)) (d := 30) (g := none) (.int .i64 1) (.int .i64 y1) (.int .i64 (IntKind.wrap .i64 (1 * 2 ^ min ((y1 : Int)).toNat (IntKind.bits .i64)))) _ (by kernel_rfl) (by kernel_rfl) (by kernel_rfl) (by kernel_rfl) (by kernel_rfl) (φ := (0 : Int) ≤ y1) (by kernel_rfl) (of_decide_eq_true hg7) rfl ?_
            refine LAt.runU tOk 2 (by kernel_rfl) ?_
            refine LAt.doneU [5, 31, 30, 29, 28, 27, 26, 25, 24, 23, 22, 7, 21, 20, 19, 18, 15, 14, 13, 12, 11, 10, 9, 8, 6, 4, 0, 1] [] (by kernel_rfl) ?_
            show Tr _ _ _ _ _
            refine Tr.at ?_
            refine LAt.runU tOk 3 (by kernel_rfl) ?_
            refine LAt.doneU [6, 17, 16, 5, 31, 30, 29, 28, 27, 26, 25, 24, 23, 22, 7, 21, 20, 19, 18, 15, 14, 13, 12, 11, 10, 9, 8, 4, 0, 1] [] (by kernel_rfl) ?_
            exact Exists.intro (mo4, ((IntKind.wrap .i64 (y1 + 1)), (IntKind.wrap .i64 (BitVec.ofInt (IntKind.bits .i64) y2 ||| BitVec.ofInt (IntKind.bits .i64) (IntKind.wrap .i64 (1 * 2 ^ min ((y1 : Int)).toNat (IntKind.bits .i64)))).toNat))) (And.intro H (And.intro (Nat.lt_succ_self mo4) (St.sub_of [6, 5, 4, 0, 1] [] (by kernel_rfl))))
  · rintro y3 H
    have H : (impl_Sends_J1 n y3) = some r := H
    unfold impl_Sends_J1 at H
    show Tr _ _ _ _ _
    refine Tr.rs ?_
    refine LAt.runU tOk 2 (by kernel_rfl) ?_
    refine LAt.doneU [4] [] (by kernel_rfl) ?_
    refine Tr.ret ?_
    have H := Option.some.inj H
    subst H
    exact Fin.of _ [(false, [.lit (.int .i64 y3)])] (by kernel_rfl) rfl rfl

def laws_bitF (n : Nat) (x0 : Int) (x1 : Int) : Option (Bool) :=
  (bif (decide (x1 ≥ 0)) then (bif (decide (x1 < 8)) then (bif (decide ((0 : Int) ≤ (IntKind.wrap .u64 x1))) then (some ((IntKind.wrap .i64 (BitVec.ofInt (IntKind.bits .i64) (Int.fdiv x0 (2 ^ min (((IntKind.wrap .u64 x1) : Int)).toNat (IntKind.bits .i64))) &&& BitVec.ofInt (IntKind.bits .i64) 1).toNat) == 1)) else none) else (some false)) else (some false))
/-- loop.example/g00326/laws.bit -/
theorem laws_bit (n : Nat) (x0 : Int) (x1 : Int) (r : Bool) (H : laws_bitF n x0 x1 = some r) : LCall Try.prog 42 [.val false [.lit (.int .i64 x0)], .val false [.lit (.int .i64 x1)]] [.val false [.lit (.bool r)]] [] := by
  refine LCall.of_body tOk Try.func42 rfl (c := (.seq (.region 0 (rg Try.f42 0) false) (.seq (.region 1 (rg Try.f42 1) false) .ret))) (by kernel_rfl) (Nat.le_of_ble_eq_true (by kernel_rfl)) 0 (rs := [.tmp 4]) rfl [] .nil [(false, [.lit (.bool r)])] [] [] fun cx => ?_
  show Tr _ _ _ ⟨19, 0, [(0, .val false [.lit (.int .i64 x0)]), (1, .val false [.lit (.int .i64 x1)])], []⟩ _
  unfold laws_bitF at H
  refine Tr.rs ?_
  refine LAt.runU tOk 1 (by kernel_rfl) ?_
  refine LAt.doneU [4, 0, 1] [] (by kernel_rfl) ?_
  refine Tr.rs ?_
  refine LAt.runU tOk 3 (by kernel_rfl) ?_
  refine LAt.to ⟨19, 0, [(7, .val false [.lit (.bool (decide (x1 ≥ 0)))]), (6, .val false [.lit (.bool (decide (x1 ≥ 0)))]), (5, .val false [.lit (.int .i64 x1)]), (4, .val false [.lit (.bool false)]), (0, .val false [.lit (.int .i64 x0)]), (1, .val false [.lit (.int .i64 x1)])], []⟩ (by kernel_rfl) ?_
  cases h1 : (decide (x1 ≥ 0))
  · have H := bifF h1 H
    refine LAt.runU tOk 12 (by kernel_rfl) ?_
    refine LAt.doneU [4] [] (by kernel_rfl) ?_
    refine Tr.ret ?_
    have H := Option.some.inj H
    subst H
    exact Fin.of _ [(false, [.lit (.bool false)])] (by kernel_rfl) rfl rfl
  · have H := bifT h1 H
    refine LAt.runU tOk 4 (by kernel_rfl) ?_
    refine LAt.to ⟨19, 0, [(11, .val false [.lit (.bool (decide (x1 < 8)))]), (10, .val false [.lit (.bool (decide (x1 < 8)))]), (9, .val false [.lit (.bool (decide (x1 < 8)))]), (8, .val false [.lit (.int .i64 x1)]), (7, .val false [.lit (.bool true)]), (6, .val false [.lit (.bool true)]), (5, .val false [.lit (.int .i64 x1)]), (4, .val false [.lit (.bool false)]), (0, .val false [.lit (.int .i64 x0)]), (1, .val false [.lit (.int .i64 x1)])], []⟩ (by kernel_rfl) ?_
    cases h2 : (decide (x1 < 8))
    · have H := bifF h2 H
      refine LAt.runU tOk 8 (by kernel_rfl) ?_
      refine LAt.doneU [4] [] (by kernel_rfl) ?_
      refine Tr.ret ?_
      have H := Option.some.inj H
      subst H
      exact Fin.of _ [(false, [.lit (.bool false)])] (by kernel_rfl) rfl rfl
    · have H := bifT h2 H
      refine LAt.runU tOk 3 (by kernel_rfl) ?_
      obtain ⟨hg1, H⟩ := guard_some H
      refine LAt.binC tOk (op := .shr) (t := 3) (ty := 86) (ty' := 3) (x := (.tmp 12)) (y := (.tmp 14)) (d := 15) (g := (some (6, true))) (.int .i64 x0) (.int .u64 (IntKind.wrap .u64 x1)) (.int .i64 (Int.fdiv x0 (2 ^ min (((IntKind.wrap .u64 x1) : Int)).toNat (IntKind.bits .i64)))) _ (by kernel_rfl) (by kernel_rfl) (by kernel_rfl) (by kernel_rfl) (by kernel_rfl) (φ := (0 : Int) ≤ (IntKind.wrap .u64 x1)) (by kernel_rfl) (of_decide_eq_true hg1) rfl ?_
      refine LAt.runU tOk 4 (by kernel_rfl) ?_
      refine LAt.doneU [4] [] (by kernel_rfl) ?_
      refine Tr.ret ?_
      have H := Option.some.inj H
      subst H
      exact Fin.of _ [(false, [.lit (.bool ((IntKind.wrap .i64 (BitVec.ofInt (IntKind.bits .i64) (Int.fdiv x0 (2 ^ min (((IntKind.wrap .u64 x1) : Int)).toNat (IntKind.bits .i64))) &&& BitVec.ofInt (IntKind.bits .i64) 1).toNat) == 1))])] (by kernel_rfl) rfl rfl
end Go.Proofs.Ytnhmckiejhbmcaa.Tw
