/- Functions of the program, over trees. -/
import Derived.Test.YtjdedhklbdkeoaaProg
import Derived.Test.YtjdedhklbdkeoaaTlRule
import Derived.Test.YtjdedhklbdkeoaaTlU5
import Derived.Test.YtjdedhklbdkeoaaTwJO2
import Derived.WalkKit
set_option linter.unusedVariables false
set_option linter.unusedSimpArgs false
set_option maxRecDepth 100000
set_option maxHeartbeats 1000000
namespace Go.Proofs.Ytjdedhklbdkeoaa.Tw
open Go Go.TL Go.Proofs


def laws_FnExactJoinedF (n : Nat) (x0 : Net) (x1 : Int) (x2 : (List Int)) : Option (Bool) :=
  (bif (decide ((x2.length : Int) > 1048576)) then (some true) else ((laws_szNetF n x0 1048576).bind fun r1 => (bif (decide (r1 < 0)) then (some true) else ((laws_toNetF n x0).bind fun r2 => ((laws_toIntSF n x2).bind fun r3 => ((spec_JoinedF n r2 x1 r3).bind fun r4 => ((laws_toNetF n x0).bind fun r5 => ((laws_toIntSF n x2).bind fun r6 => ((impl_JoinedF n r5 x1 r6).bind fun r7 => ((laws_eqIntSF n r7 r4).bind fun r8 => (bif (!r8) then (some false) else ((laws_toNetF n x0).bind fun r9 => ((laws_eqNetF n r5 r9).bind fun r10 => (bif (!r10) then (some false) else ((laws_toIntSF n x2).bind fun r11 => ((laws_eqIntSF n r6 r11).bind fun r12 => (bif (!r12) then (some false) else ((laws_markNetF n r5 1).bind fun r13 => ((laws_markIntSF n r6 r13.1).bind fun r14 => (bif (decide (r14.1 < 0)) then (some false) else ((laws_eqIntSF n r7 r4).bind fun r15 => (bif (!r15) then (some false) else ((laws_markIntSF n r7 1).bind fun r16 => ((laws_heldIntSF n r16.2 1).bind fun r17 => (bif (decide (r17 < 0)) then (some false) else (bif (r17 != r16.1) then (some false) else ((laws_toNetF n x0).bind fun r18 => ((laws_toIntSF n x2).bind fun r19 => ((impl_JoinedF n r18 x1 r19).bind fun r20 => ((laws_eqIntSF n r20 r4).bind fun r21 => (bif (!r21) then (some false) else ((laws_heldIntSF n r16.2 1).bind fun r22 => (bif (decide (r22 < 0)) then (some false) else (bif (r22 != r16.1) then (some false) else (some true)))))))))))))))))))))))))))))))))))
/-- loop.example/g00326/laws.FnExactJoined -/
theorem laws_FnExactJoined (n : Nat) (x0 : Net) (x1 : Int) (x2 : (List Int)) (r : Bool) (H : laws_FnExactJoinedF n x0 x1 x2 = some r) : LCall Try.prog 6 [.val true (CV.frzRow (Net.row x0)), .val false [.lit (.int .i64 x1)], .val false [.sl false 1 (CV.frzEs (x2.map intRow))]] [.val false [.lit (.bool r)]] [] := by
  refine LCall.of_body tOk Try.func6 rfl (c := (.seq (.region 0 (rg Try.f6 0) false) (.seq (.seq (.region 1 (rg Try.f6 1) false) (.cond (.tmp 18) (.seq (.region 2 (rg Try.f6 2) false) .ret) .skip)) (.seq (.region 3 (rg Try.f6 3) false) (.seq (.region 4 (rg Try.f6 4) false) (.seq (.seq (.region 5 (rg Try.f6 5) false) (.cond (.tmp 23) (.seq (.region 6 (rg Try.f6 6) false) .ret) .skip)) (.seq (.region 7 (rg Try.f6 7) false) (.seq (.region 8 (rg Try.f6 8) false) (.seq (.region 9 (rg Try.f6 9) false) (.seq (.region 10 (rg Try.f6 10) false) (.seq (.seq (.region 11 (rg Try.f6 11) false) (.cond (.tmp 41) (.seq (.region 12 (rg Try.f6 12) false) .ret) .skip)) (.seq (.seq (.region 13 (rg Try.f6 13) true) (.cond (.tmp 46) (.seq (.region 14 (rg Try.f6 14) false) .ret) .skip)) (.seq (.seq (.region 15 (rg Try.f6 15) false) (.cond (.tmp 51) (.seq (.region 16 (rg Try.f6 16) false) .ret) .skip)) (.seq (.region 17 (rg Try.f6 17) false) (.seq (.region 18 (rg Try.f6 18) false) (.seq (.region 19 (rg Try.f6 19) false) (.seq (.seq (.region 20 (rg Try.f6 20) false) (.cond (.tmp 65) (.seq (.region 21 (rg Try.f6 21) false) .ret) .skip)) (.seq (.region 22 (rg Try.f6 22) false) (.seq (.region 23 (rg Try.f6 23) false) (.seq (.region 24 (rg Try.f6 24) false) (.seq (.region 25 (rg Try.f6 25) false) (.seq (.seq (.region 26 (rg Try.f6 26) false) (.cond (.tmp 73) (.seq (.region 27 (rg Try.f6 27) false) .ret) .skip)) (.seq (.seq (.region 28 (rg Try.f6 28) false) (.cond (.tmp 76) (.seq (.region 29 (rg Try.f6 29) false) .ret) .skip)) (.seq (.region 30 (rg Try.f6 30) false) (.seq (.seq (.region 31 (rg Try.f6 31) false) (.cond (.tmp 86) (.seq (.region 32 (rg Try.f6 32) false) .ret) .skip)) (.seq (.region 33 (rg Try.f6 33) false) (.seq (.region 34 (rg Try.f6 34) false) (.seq (.seq (.region 35 (rg Try.f6 35) false) (.cond (.tmp 91) (.seq (.region 36 (rg Try.f6 36) false) .ret) .skip)) (.seq (.seq (.region 37 (rg Try.f6 37) false) (.cond (.tmp 94) (.seq (.region 38 (rg Try.f6 38) false) .ret) .skip)) (.seq (.region 39 (rg Try.f6 39) false) .ret)))))))))))))))))))))))))))))) (by kernel_rfl) (Nat.le_of_ble_eq_true (by kernel_rfl)) 0 (rs := [.tmp 6]) rfl [] .nil [(false, [.lit (.bool r)])] [] [] fun cx => ?_
  show Tr _ _ _ ⟨95, 0, [(0, .val true (CV.frzRow (Net.row x0))), (1, .val false [.lit (.int .i64 x1)]), (2, .val false [.sl false 1 (CV.frzEs (x2.map intRow))])], []⟩ _
  unfold laws_FnExactJoinedF at H
  refine Tr.rs ?_
  refine LAt.runU tOk 2 (by kernel_rfl) ?_
  refine LAt.doneU [6, 3, 1, 2] [3] (by kernel_rfl) ?_
  refine Tr.seq ?_
  refine Tr.rs ?_
  refine LAt.runU tOk 1 (by kernel_rfl) ?_
  refine LAt.lenE tOk (t := 27) (ty := 3) (e := 3) (x := (.tmp 16)) (d := 17) (g := none) ⟨(.slot 16), [], 0, false, 1, (CV.frzEs (x2.map intRow))⟩ (x2).length _ (by kernel_rfl) (by kernel_rfl) (by kernel_rfl) (by kernel_rfl) (by kernel_rfl) (frz_len _ _) rfl ?_
  refine LAt.runU tOk 1 (by kernel_rfl) ?_
  refine LAt.doneU [18, 6, 3, 1, 2] [3] (by kernel_rfl) ?_
  refine Tr.to ⟨95, 0, [(18, .val false [.lit (.bool (decide ((x2.length : Int) > 1048576)))]), (6, .val false [.lit (.bool false)]), (3, .adr (.box 3) [(0, 0)] 3 0), (1, .val false [.lit (.int .i64 x1)]), (2, .val false [.sl false 1 (CV.frzEs (x2.map intRow))])], [(3, (CV.frzRow (Net.row x0)))]⟩ (by kernel_rfl) ?_
  cases h1 : (decide ((x2.length : Int) > 1048576))
  · have H := bifF h1 H
    refine Tr.cond (b := false) (by kernel_rfl) (fun h => nomatch h) (fun _ => ?_)
    refine Tr.skip ?_
    show Tr _ _ _ _ _
    refine Tr.rs ?_
    refine LAt.runU tOk 1 (by kernel_rfl) ?_
    refine LAt.doneU [7, 6, 3, 1, 2] [3] (by kernel_rfl) ?_
    refine Tr.rs ?_
    refine LAt.runU tOk 2 (by kernel_rfl) ?_
    obtain ⟨r1, er1, H⟩ := bind_some H
    refine LAt.callU tOk [.rd, .rd] (f := 15) (av := #[.tmp 19, .tmp 20]) (ats := #[26, 3]) (d := (some 21)) (ty := 3) (g := none) (by kernel_rfl) (by kernel_rfl) (by kernel_rfl) [] (laws_szNet n x0 1048576 r1 er1) (by kernel_rfl) (.inl rfl) ?_
    refine LAt.runU tOk 1 (by kernel_rfl) ?_
    refine LAt.doneU [7, 6, 3, 1, 2] [3] (by kernel_rfl) ?_
    refine Tr.seq ?_
    refine Tr.rs ?_
    refine LAt.runU tOk 2 (by kernel_rfl) ?_
    refine LAt.doneU [23, 6, 3, 1, 2] [3] (by kernel_rfl) ?_
    refine Tr.to ⟨95, 0, [(23, .val false [.lit (.bool (decide (r1 < 0)))]), (6, .val false [.lit (.bool false)]), (3, .adr (.box 3) [(0, 0)] 3 0), (1, .val false [.lit (.int .i64 x1)]), (2, .val false [.sl false 1 (CV.frzEs (x2.map intRow))])], [(3, (CV.frzRow (Net.row x0)))]⟩ (by kernel_rfl) ?_
    cases h2 : (decide (r1 < 0))
    · have H := bifF h2 H
      refine Tr.cond (b := false) (by kernel_rfl) (fun h => nomatch h) (fun _ => ?_)
      refine Tr.skip ?_
      show Tr _ _ _ _ _
      refine Tr.rs ?_
      refine LAt.runU tOk 1 (by kernel_rfl) ?_
      obtain ⟨r2, er2, H⟩ := bind_some H
      refine LAt.callU tOk [.rd] (f := 17) (av := #[.tmp 24]) (ats := #[26]) (d := (some 25)) (ty := 34) (g := none) (by kernel_rfl) (by kernel_rfl) (by kernel_rfl) [] (laws_toNet n x0 r2 er2) (by kernel_rfl) (.inl rfl) ?_
      refine LAt.runU tOk 2 (by kernel_rfl) ?_
      obtain ⟨r3, er3, H⟩ := bind_some H
      refine LAt.callU tOk [.rd] (f := 18) (av := #[.tmp 27]) (ats := #[27]) (d := (some 28)) (ty := 27) (g := none) (by kernel_rfl) (by kernel_rfl) (by kernel_rfl) [] (laws_toIntS n x2 r3 er3) (by kernel_rfl) (.inl rfl) ?_
      obtain ⟨r4, er4, H⟩ := bind_some H
      refine LAt.callU tOk [.rd, .rd, .rd] (f := 29) (av := #[.tmp 25, .tmp 26, .tmp 28]) (ats := #[34, 3, 27]) (d := (some 29)) (ty := 27) (g := none) (by kernel_rfl) (by kernel_rfl) (by kernel_rfl) [] (spec_Joined n r2 x1 r3 r4 er4) (by kernel_rfl) (.inl rfl) ?_
      refine LAt.moveU (T := lk tab) (ty := 27) (x := (.tmp 29)) (d := 8) (g := none) false [.sl true 1 (r4.map intRow)] (by kernel_rfl) (by kernel_rfl) (by kernel_rfl) (by kernel_rfl) (by kernel_rfl) ?_
      refine LAt.doneU [8, 6, 3, 1, 2] [3] (by kernel_rfl) ?_
      refine Tr.rs ?_
      refine LAt.runU tOk 1 (by kernel_rfl) ?_
      obtain ⟨r5, er5, H⟩ := bind_some H
      refine LAt.callU tOk [.rd] (f := 17) (av := #[.tmp 30]) (ats := #[26]) (d := (some 31)) (ty := 34) (g := none) (by kernel_rfl) (by kernel_rfl) (by kernel_rfl) [] (laws_toNet n x0 r5 er5) (by kernel_rfl) (.inl rfl) ?_
      refine LAt.runU tOk 2 (by kernel_rfl) ?_
      refine LAt.doneU [9, 8, 6, 3, 1, 2] [9, 3] (by kernel_rfl) ?_
      refine Tr.rs ?_
      refine LAt.runU tOk 1 (by kernel_rfl) ?_
      obtain ⟨r6, er6, H⟩ := bind_some H
      refine LAt.callU tOk [.rd] (f := 18) (av := #[.tmp 32]) (ats := #[27]) (d := (some 33)) (ty := 27) (g := none) (by kernel_rfl) (by kernel_rfl) (by kernel_rfl) [] (laws_toIntS n x2 r6 er6) (by kernel_rfl) (.inl rfl) ?_
      refine LAt.moveU (T := lk tab) (ty := 27) (x := (.tmp 33)) (d := 10) (g := none) false [.sl true 1 (r6.map intRow)] (by kernel_rfl) (by kernel_rfl) (by kernel_rfl) (by kernel_rfl) (by kernel_rfl) ?_
      refine LAt.doneU [10, 9, 8, 6, 3, 1, 2] [9, 3] (by kernel_rfl) ?_
      refine Tr.rs ?_
      refine LAt.runU tOk 3 (by kernel_rfl) ?_
      obtain ⟨r7, er7, H⟩ := bind_some H
      refine LAt.callU tOk [.rd, .rd, .rd] (f := 30) (av := #[.tmp 34, .tmp 35, .tmp 36]) (ats := #[34, 3, 27]) (d := (some 37)) (ty := 27) (g := none) (by kernel_rfl) (by kernel_rfl) (by kernel_rfl) [.box 9, .slot 10] (impl_Joined n r5 x1 r6 r7 er7) (by kernel_rfl) (.inr (rets_cons (mine_cons (mine_sl (mine_map intRow_mine _)) mine_nil) rets_nil)) ?_
      refine LAt.moveU (T := lk tab) (ty := 27) (x := (.tmp 37)) (d := 11) (g := none) false [.sl true 1 (r7.map intRow)] (by kernel_rfl) (by kernel_rfl) (by kernel_rfl) (by kernel_rfl) (by kernel_rfl) ?_
      refine LAt.doneU [11, 10, 9, 8, 6, 3, 1, 2] [9, 3] (by kernel_rfl) ?_
      refine Tr.seq ?_
      refine Tr.rs ?_
      refine LAt.runU tOk 2 (by kernel_rfl) ?_
      obtain ⟨r8, er8, H⟩ := bind_some H
      refine LAt.callU tOk [.rd, .rd] (f := 21) (av := #[.tmp 38, .tmp 39]) (ats := #[27, 27]) (d := (some 40)) (ty := 4) (g := none) (by kernel_rfl) (by kernel_rfl) (by kernel_rfl) [.slot 11, .slot 8] (laws_eqIntS n r7 r4 r8 er8) (by kernel_rfl) (.inr (rets_cons (mine_cons mine_lit mine_nil) rets_nil)) ?_
      refine LAt.runU tOk 1 (by kernel_rfl) ?_
      refine LAt.doneU [41, 11, 10, 9, 8, 6, 3, 1, 2] [9, 3] (by kernel_rfl) ?_
      refine Tr.to ⟨95, 0, [(41, .val false [.lit (.bool (!r8))]), (11, .val false [.sl true 1 (r7.map intRow)]), (10, .val false [.sl true 1 (r6.map intRow)]), (9, .adr (.box 9) [(0, 0)] 3 0), (8, .val false [.sl true 1 (r4.map intRow)]), (6, .val false [.lit (.bool false)]), (3, .adr (.box 3) [(0, 0)] 3 0), (1, .val false [.lit (.int .i64 x1)]), (2, .val false [.sl false 1 (CV.frzEs (x2.map intRow))])], [(9, (Net.row r5)), (3, (CV.frzRow (Net.row x0)))]⟩ (by kernel_rfl) ?_
      cases h3 : (!r8)
      · have H := bifF h3 H
        refine Tr.cond (b := false) (by kernel_rfl) (fun h => nomatch h) (fun _ => ?_)
        refine Tr.skip ?_
        show Tr _ _ _ _ _
        refine Tr.seq ?_
        obtain ⟨r9, er9, H⟩ := bind_some H
        obtain ⟨r10, er10, H⟩ := bind_some H
        refine Tr.draws mixed 5 (by kernel_rfl) ⟨95, 0, [(46, .val false [.lit (.bool (!r10))]), (11, .val false [.sl true 1 (r7.map intRow)]), (10, .val false [.sl true 1 (r6.map intRow)]), (9, .adr (.box 9) [(0, 0)] 3 0), (8, .val false [.sl true 1 (r4.map intRow)]), (6, .val false [.lit (.bool false)]), (3, .adr (.box 3) [(0, 0)] 3 0), (1, .val false [.lit (.int .i64 x1)]), (2, .val false [.sl false 1 (CV.frzEs (x2.map intRow))])], [(9, (Net.row r5)), (3, (CV.frzRow (Net.row x0)))]⟩ (fun cx => ?_) ?_
        · refine AT.runU tOk [(0, [3]), (1, [2, 3])] 3 [⟨[2, 3], 26, 3, 43⟩, ⟨[3], 34, 9, 42⟩] [1, 0] rfl (by kernel_rfl) (fun cx => ?_)
          refine AT.big1 tOk 2 (by kernel_rfl) (by kernel_rfl) ?_
          refine LAt.callU tOk [.rd] (f := 17) (av := #[.tmp 43]) (ats := #[26]) (d := (some 44)) (ty := 34) (g := none) (by kernel_rfl) (by kernel_rfl) (by kernel_rfl) [] (laws_toNet n x0 r9 er9) (by kernel_rfl) (.inl rfl) ?_
          refine LAt.fin (by kernel_rfl) (And.intro (And.intro (by kernel_rfl) (by kernel_rfl)) ?_)
          refine AT.big1 tOk 3 (by kernel_rfl) (by kernel_rfl) ?_
          refine LAt.callU tOk [.rd, .rd] (f := 20) (av := #[.tmp 42, .tmp 44]) (ats := #[34, 34]) (d := (some 45)) (ty := 4) (g := none) (by kernel_rfl) (by kernel_rfl) (by kernel_rfl) [.box 9] (laws_eqNet n r5 r9 r10 er10) (by kernel_rfl) (.inr (rets_cons (mine_cons mine_lit mine_nil) rets_nil)) ?_
          refine LAt.fin (by kernel_rfl) (And.intro (And.intro (by kernel_rfl) (by kernel_rfl)) ?_)
          refine AT.runU tOk [(4, [])] 0 [⟨[2, 3], 26, 3, 43⟩, ⟨[3], 34, 9, 42⟩] [4, 3, 2, 1, 0] rfl (by kernel_rfl) (fun cx => ?_)
          exact AT.done [46, 11, 10, 9, 8, 6, 3, 1, 2] [9, 3] _ (by kernel_rfl) (by kernel_rfl) rfl
        · refine Tr.to ⟨95, 0, [(46, .val false [.lit (.bool (!r10))]), (11, .val false [.sl true 1 (r7.map intRow)]), (10, .val false [.sl true 1 (r6.map intRow)]), (9, .adr (.box 9) [(0, 0)] 3 0), (8, .val false [.sl true 1 (r4.map intRow)]), (6, .val false [.lit (.bool false)]), (3, .adr (.box 3) [(0, 0)] 3 0), (1, .val false [.lit (.int .i64 x1)]), (2, .val false [.sl false 1 (CV.frzEs (x2.map intRow))])], [(9, (Net.row r5)), (3, (CV.frzRow (Net.row x0)))]⟩ (by kernel_rfl) ?_
          cases h4 : (!r10)
          · have H := bifF h4 H
            refine Tr.cond (b := false) (by kernel_rfl) (fun h => nomatch h) (fun _ => ?_)
            refine Tr.skip ?_
            show Tr _ _ _ _ _
            refine Tr.seq ?_
            refine Tr.rs ?_
            refine LAt.runU tOk 2 (by kernel_rfl) ?_
            obtain ⟨r11, er11, H⟩ := bind_some H
            refine LAt.callU tOk [.rd] (f := 18) (av := #[.tmp 48]) (ats := #[27]) (d := (some 49)) (ty := 27) (g := none) (by kernel_rfl) (by kernel_rfl) (by kernel_rfl) [] (laws_toIntS n x2 r11 er11) (by kernel_rfl) (.inl rfl) ?_
            obtain ⟨r12, er12, H⟩ := bind_some H
            refine LAt.callU tOk [.rd, .rd] (f := 21) (av := #[.tmp 47, .tmp 49]) (ats := #[27, 27]) (d := (some 50)) (ty := 4) (g := none) (by kernel_rfl) (by kernel_rfl) (by kernel_rfl) [.slot 10] (laws_eqIntS n r6 r11 r12 er12) (by kernel_rfl) (.inr (rets_cons (mine_cons mine_lit mine_nil) rets_nil)) ?_
            refine LAt.runU tOk 1 (by kernel_rfl) ?_
            refine LAt.doneU [51, 11, 10, 9, 8, 6, 3, 1, 2] [9, 3] (by kernel_rfl) ?_
            refine Tr.to ⟨95, 0, [(51, .val false [.lit (.bool (!r12))]), (11, .val false [.sl true 1 (r7.map intRow)]), (10, .val false [.sl true 1 (r6.map intRow)]), (9, .adr (.box 9) [(0, 0)] 3 0), (8, .val false [.sl true 1 (r4.map intRow)]), (6, .val false [.lit (.bool false)]), (3, .adr (.box 3) [(0, 0)] 3 0), (1, .val false [.lit (.int .i64 x1)]), (2, .val false [.sl false 1 (CV.frzEs (x2.map intRow))])], [(9, (Net.row r5)), (3, (CV.frzRow (Net.row x0)))]⟩ (by kernel_rfl) ?_
            cases h5 : (!r12)
            · have H := bifF h5 H
              refine Tr.cond (b := false) (by kernel_rfl) (fun h => nomatch h) (fun _ => ?_)
              refine Tr.skip ?_
              show Tr _ _ _ _ _
              refine Tr.rs ?_
              refine LAt.runU tOk 1 (by kernel_rfl) ?_
              refine LAt.doneU [12, 11, 10, 9, 8, 6, 3, 1, 2] [9, 3] (by kernel_rfl) ?_
              refine Tr.rs ?_
              refine LAt.runU tOk 2 (by kernel_rfl) ?_
              obtain ⟨r13, er13, H⟩ := bind_some H
              refine LAt.callL tOk [.lend, .rd] (f := 26) (av := #[.tmp 52, .tmp 53]) (ats := #[34, 3]) (d := (some 54)) (ty := 3) (g := none) (by kernel_rfl) (by kernel_rfl) (by kernel_rfl) [] (laws_markNet n r5 1 r13 er13) (by kernel_rfl) (.inl rfl) ?_
              refine LAt.runU tOk 1 (by kernel_rfl) ?_
              refine LAt.doneU [12, 11, 10, 8, 6, 3, 1, 2] [3] (by kernel_rfl) ?_
              refine Tr.rs ?_
              refine LAt.runU tOk 2 (by kernel_rfl) ?_
              obtain ⟨r14, er14, H⟩ := bind_some H
              refine LAt.callL tOk [.lend, .rd] (f := 27) (av := #[.tmp 55, .tmp 56]) (ats := #[27, 3]) (d := (some 57)) (ty := 3) (g := none) (by kernel_rfl) (by kernel_rfl) (by kernel_rfl) [] (laws_markIntS n r6 r13.1 r14 er14) (by kernel_rfl) (.inl rfl) ?_
              refine LAt.runU tOk 1 (by kernel_rfl) ?_
              refine LAt.doneU [12, 11, 8, 6, 3, 1, 2] [3] (by kernel_rfl) ?_
              refine Tr.seq ?_
              refine Tr.rs ?_
              refine LAt.runU tOk 3 (by kernel_rfl) ?_
              refine LAt.to ⟨95, 0, [(60, .val false [.lit (.bool (decide (r14.1 < 0)))]), (59, .val false [.lit (.bool (decide (r14.1 < 0)))]), (58, .val false [.lit (.int .i64 r14.1)]), (12, .val false [.lit (.int .i64 r14.1)]), (11, .val false [.sl true 1 (r7.map intRow)]), (8, .val false [.sl true 1 (r4.map intRow)]), (6, .val false [.lit (.bool false)]), (3, .adr (.box 3) [(0, 0)] 3 0), (1, .val false [.lit (.int .i64 x1)]), (2, .val false [.sl false 1 (CV.frzEs (x2.map intRow))])], [(3, (CV.frzRow (Net.row x0)))]⟩ (by kernel_rfl) ?_
              cases h6 : (decide (r14.1 < 0))
              · have H := bifF h6 H
                refine LAt.runU tOk 2 (by kernel_rfl) ?_
                obtain ⟨r15, er15, H⟩ := bind_some H
                refine LAt.callU tOk [.rd, .rd] (f := 21) (av := #[.tmp 61, .tmp 62]) (ats := #[27, 27]) (d := (some 63)) (ty := 4) (g := (some (2, false))) (by kernel_rfl) (by kernel_rfl) (by kernel_rfl) [.slot 11, .slot 8] (laws_eqIntS n r7 r4 r15 er15) (by kernel_rfl) (.inr (rets_cons (mine_cons mine_lit mine_nil) rets_nil)) ?_
                refine LAt.runU tOk 2 (by kernel_rfl) ?_
                refine LAt.doneU [65, 11, 8, 6, 3, 1, 2] [3] (by kernel_rfl) ?_
                refine Tr.to ⟨95, 0, [(65, .val false [.lit (.bool (!r15))]), (11, .val false [.sl true 1 (r7.map intRow)]), (8, .val false [.sl true 1 (r4.map intRow)]), (6, .val false [.lit (.bool false)]), (3, .adr (.box 3) [(0, 0)] 3 0), (1, .val false [.lit (.int .i64 x1)]), (2, .val false [.sl false 1 (CV.frzEs (x2.map intRow))])], [(3, (CV.frzRow (Net.row x0)))]⟩ (by kernel_rfl) ?_
                cases h7 : (!r15)
                · have H := bifF h7 H
                  refine Tr.cond (b := false) (by kernel_rfl) (fun h => nomatch h) (fun _ => ?_)
                  refine Tr.skip ?_
                  show Tr _ _ _ _ _
                  refine Tr.rs ?_
                  refine LAt.runU tOk 1 (by kernel_rfl) ?_
                  refine LAt.doneU [13, 11, 8, 6, 3, 1, 2] [3] (by kernel_rfl) ?_
                  refine Tr.rs ?_
                  refine LAt.runU tOk 2 (by kernel_rfl) ?_
                  obtain ⟨r16, er16, H⟩ := bind_some H
                  refine LAt.callL tOk [.lend, .rd] (f := 27) (av := #[.tmp 66, .tmp 67]) (ats := #[27, 3]) (d := (some 68)) (ty := 3) (g := none) (by kernel_rfl) (by kernel_rfl) (by kernel_rfl) [] (laws_markIntS n r7 1 r16 er16) (by kernel_rfl) (.inl rfl) ?_
                  refine LAt.runU tOk 1 (by kernel_rfl) ?_
                  refine LAt.doneU [13, 11, 8, 6, 3, 1, 2] [3] (by kernel_rfl) ?_
                  refine Tr.rs ?_
                  refine LAt.runU tOk 1 (by kernel_rfl) ?_
                  refine LAt.doneU [14, 13, 11, 8, 6, 3, 1, 2] [3] (by kernel_rfl) ?_
                  refine Tr.rs ?_
                  refine LAt.runU tOk 2 (by kernel_rfl) ?_
                  obtain ⟨r17, er17, H⟩ := bind_some H
                  refine LAt.callU tOk [.rd, .rd] (f := 28) (av := #[.tmp 69, .tmp 70]) (ats := #[27, 3]) (d := (some 71)) (ty := 3) (g := none) (by kernel_rfl) (by kernel_rfl) (by kernel_rfl) [.slot 11] (laws_heldIntS n r16.2 1 r17 er17) (by kernel_rfl) (.inr (rets_cons (mine_cons mine_lit mine_nil) rets_nil)) ?_
                  refine LAt.runU tOk 1 (by kernel_rfl) ?_
                  refine LAt.doneU [14, 13, 11, 8, 6, 3, 1, 2] [3] (by kernel_rfl) ?_
                  refine Tr.seq ?_
                  refine Tr.rs ?_
                  refine LAt.runU tOk 2 (by kernel_rfl) ?_
                  refine LAt.doneU [73, 14, 13, 11, 8, 6, 3, 1, 2] [3] (by kernel_rfl) ?_
                  refine Tr.to ⟨95, 0, [(73, .val false [.lit (.bool (decide (r17 < 0)))]), (14, .val false [.lit (.int .i64 r17)]), (13, .val false [.lit (.int .i64 r16.1)]), (11, .val false [.sl true 1 (r16.2.map intRow)]), (8, .val false [.sl true 1 (r4.map intRow)]), (6, .val false [.lit (.bool false)]), (3, .adr (.box 3) [(0, 0)] 3 0), (1, .val false [.lit (.int .i64 x1)]), (2, .val false [.sl false 1 (CV.frzEs (x2.map intRow))])], [(3, (CV.frzRow (Net.row x0)))]⟩ (by kernel_rfl) ?_
                  cases h8 : (decide (r17 < 0))
                  · have H := bifF h8 H
                    refine Tr.cond (b := false) (by kernel_rfl) (fun h => nomatch h) (fun _ => ?_)
                    refine Tr.skip ?_
                    show Tr _ _ _ _ _
                    refine Tr.seq ?_
                    refine Tr.rs ?_
                    refine LAt.runU tOk 3 (by kernel_rfl) ?_
                    refine LAt.doneU [76, 14, 13, 11, 8, 6, 3, 1, 2] [3] (by kernel_rfl) ?_
                    refine Tr.to ⟨95, 0, [(76, .val false [.lit (.bool (r17 != r16.1))]), (14, .val false [.lit (.int .i64 r17)]), (13, .val false [.lit (.int .i64 r16.1)]), (11, .val false [.sl true 1 (r16.2.map intRow)]), (8, .val false [.sl true 1 (r4.map intRow)]), (6, .val false [.lit (.bool false)]), (3, .adr (.box 3) [(0, 0)] 3 0), (1, .val false [.lit (.int .i64 x1)]), (2, .val false [.sl false 1 (CV.frzEs (x2.map intRow))])], [(3, (CV.frzRow (Net.row x0)))]⟩ (by kernel_rfl) ?_
                    cases h9 : (r17 != r16.1)
                    · have H := bifF h9 H
                      refine Tr.cond (b := false) (by kernel_rfl) (fun h => nomatch h) (fun _ => ?_)
                      refine Tr.skip ?_
                      show Tr _ _ _ _ _
                      refine Tr.rs ?_
                      refine LAt.runU tOk 1 (by kernel_rfl) ?_
                      obtain ⟨r18, er18, H⟩ := bind_some H
                      refine LAt.callU tOk [.rd] (f := 17) (av := #[.tmp 77]) (ats := #[26]) (d := (some 78)) (ty := 34) (g := none) (by kernel_rfl) (by kernel_rfl) (by kernel_rfl) [] (laws_toNet n x0 r18 er18) (by kernel_rfl) (.inl rfl) ?_
                      refine LAt.runU tOk 2 (by kernel_rfl) ?_
                      obtain ⟨r19, er19, H⟩ := bind_some H
                      refine LAt.callU tOk [.rd] (f := 18) (av := #[.tmp 80]) (ats := #[27]) (d := (some 81)) (ty := 27) (g := none) (by kernel_rfl) (by kernel_rfl) (by kernel_rfl) [] (laws_toIntS n x2 r19 er19) (by kernel_rfl) (.inl rfl) ?_
                      obtain ⟨r20, er20, H⟩ := bind_some H
                      refine LAt.callU tOk [.rd, .rd, .rd] (f := 30) (av := #[.tmp 78, .tmp 79, .tmp 81]) (ats := #[34, 3, 27]) (d := (some 82)) (ty := 27) (g := none) (by kernel_rfl) (by kernel_rfl) (by kernel_rfl) [] (impl_Joined n r18 x1 r19 r20 er20) (by kernel_rfl) (.inl rfl) ?_
                      refine LAt.moveU (T := lk tab) (ty := 27) (x := (.tmp 82)) (d := 15) (g := none) false [.sl true 1 (r20.map intRow)] (by kernel_rfl) (by kernel_rfl) (by kernel_rfl) (by kernel_rfl) (by kernel_rfl) ?_
                      refine LAt.doneU [15, 14, 13, 11, 8, 6] [] (by kernel_rfl) ?_
                      refine Tr.seq ?_
                      refine Tr.rs ?_
                      refine LAt.runU tOk 2 (by kernel_rfl) ?_
                      obtain ⟨r21, er21, H⟩ := bind_some H
                      refine LAt.callU tOk [.rd, .rd] (f := 21) (av := #[.tmp 83, .tmp 84]) (ats := #[27, 27]) (d := (some 85)) (ty := 4) (g := none) (by kernel_rfl) (by kernel_rfl) (by kernel_rfl) [.slot 15, .slot 8] (laws_eqIntS n r20 r4 r21 er21) (by kernel_rfl) (.inr (rets_cons (mine_cons mine_lit mine_nil) rets_nil)) ?_
                      refine LAt.runU tOk 1 (by kernel_rfl) ?_
                      refine LAt.doneU [86, 14, 13, 11, 6] [] (by kernel_rfl) ?_
                      refine Tr.to ⟨95, 0, [(86, .val false [.lit (.bool (!r21))]), (14, .val false [.lit (.int .i64 r17)]), (13, .val false [.lit (.int .i64 r16.1)]), (11, .val false [.sl true 1 (r16.2.map intRow)]), (6, .val false [.lit (.bool false)])], []⟩ (by kernel_rfl) ?_
                      cases h10 : (!r21)
                      · have H := bifF h10 H
                        refine Tr.cond (b := false) (by kernel_rfl) (fun h => nomatch h) (fun _ => ?_)
                        refine Tr.skip ?_
                        show Tr _ _ _ _ _
                        refine Tr.rs ?_
                        refine LAt.runU tOk 1 (by kernel_rfl) ?_
                        refine LAt.doneU [14, 13, 11, 6] [] (by kernel_rfl) ?_
                        refine Tr.rs ?_
                        refine LAt.runU tOk 2 (by kernel_rfl) ?_
                        obtain ⟨r22, er22, H⟩ := bind_some H
                        refine LAt.callU tOk [.rd, .rd] (f := 28) (av := #[.tmp 87, .tmp 88]) (ats := #[27, 3]) (d := (some 89)) (ty := 3) (g := none) (by kernel_rfl) (by kernel_rfl) (by kernel_rfl) [.slot 11] (laws_heldIntS n r16.2 1 r22 er22) (by kernel_rfl) (.inr (rets_cons (mine_cons mine_lit mine_nil) rets_nil)) ?_
                        refine LAt.runU tOk 1 (by kernel_rfl) ?_
                        refine LAt.doneU [14, 13, 6] [] (by kernel_rfl) ?_
                        refine Tr.seq ?_
                        refine Tr.rs ?_
                        refine LAt.runU tOk 2 (by kernel_rfl) ?_
                        refine LAt.doneU [91, 14, 13, 6] [] (by kernel_rfl) ?_
                        refine Tr.to ⟨95, 0, [(91, .val false [.lit (.bool (decide (r22 < 0)))]), (14, .val false [.lit (.int .i64 r22)]), (13, .val false [.lit (.int .i64 r16.1)]), (6, .val false [.lit (.bool false)])], []⟩ (by kernel_rfl) ?_
                        cases h11 : (decide (r22 < 0))
                        · have H := bifF h11 H
                          refine Tr.cond (b := false) (by kernel_rfl) (fun h => nomatch h) (fun _ => ?_)
                          refine Tr.skip ?_
                          show Tr _ _ _ _ _
                          refine Tr.seq ?_
                          refine Tr.rs ?_
                          refine LAt.runU tOk 3 (by kernel_rfl) ?_
                          refine LAt.doneU [94, 6] [] (by kernel_rfl) ?_
                          refine Tr.to ⟨95, 0, [(94, .val false [.lit (.bool (r22 != r16.1))]), (6, .val false [.lit (.bool false)])], []⟩ (by kernel_rfl) ?_
                          cases h12 : (r22 != r16.1)
                          · have H := bifF h12 H
                            refine Tr.cond (b := false) (by kernel_rfl) (fun h => nomatch h) (fun _ => ?_)
                            refine Tr.skip ?_
                            show Tr _ _ _ _ _
                            refine Tr.rs ?_
                            refine LAt.runU tOk 1 (by kernel_rfl) ?_
                            refine LAt.doneU [6] [] (by kernel_rfl) ?_
                            refine Tr.ret ?_
                            have H := Option.some.inj H
                            subst H
                            exact Fin.of _ [(false, [.lit (.bool true)])] (by kernel_rfl) rfl rfl
                          · have H := bifT h12 H
                            refine Tr.cond (b := true) (by kernel_rfl) (fun _ => ?_) (fun h => nomatch h)
                            refine Tr.rs ?_
                            refine LAt.runU tOk 1 (by kernel_rfl) ?_
                            refine LAt.doneU [6] [] (by kernel_rfl) ?_
                            refine Tr.ret ?_
                            have H := Option.some.inj H
                            subst H
                            exact Fin.of _ [(false, [.lit (.bool false)])] (by kernel_rfl) rfl rfl
                        · have H := bifT h11 H
                          refine Tr.cond (b := true) (by kernel_rfl) (fun _ => ?_) (fun h => nomatch h)
                          refine Tr.rs ?_
                          refine LAt.runU tOk 1 (by kernel_rfl) ?_
                          refine LAt.doneU [6, 14, 13] [] (by kernel_rfl) ?_
                          refine Tr.ret ?_
                          have H := Option.some.inj H
                          subst H
                          exact Fin.of _ [(false, [.lit (.bool false)])] (by kernel_rfl) rfl rfl
                      · have H := bifT h10 H
                        refine Tr.cond (b := true) (by kernel_rfl) (fun _ => ?_) (fun h => nomatch h)
                        refine Tr.rs ?_
                        refine LAt.runU tOk 1 (by kernel_rfl) ?_
                        refine LAt.doneU [6, 14, 13, 11] [] (by kernel_rfl) ?_
                        refine Tr.ret ?_
                        have H := Option.some.inj H
                        subst H
                        exact Fin.of _ [(false, [.lit (.bool false)])] (by kernel_rfl) rfl rfl
                    · have H := bifT h9 H
                      refine Tr.cond (b := true) (by kernel_rfl) (fun _ => ?_) (fun h => nomatch h)
                      refine Tr.rs ?_
                      refine LAt.runU tOk 1 (by kernel_rfl) ?_
                      refine LAt.doneU [6, 14, 13, 11, 8, 3, 1, 2] [3] (by kernel_rfl) ?_
                      refine Tr.ret ?_
                      have H := Option.some.inj H
                      subst H
                      exact Fin.of _ [(false, [.lit (.bool false)])] (by kernel_rfl) rfl rfl
                  · have H := bifT h8 H
                    refine Tr.cond (b := true) (by kernel_rfl) (fun _ => ?_) (fun h => nomatch h)
                    refine Tr.rs ?_
                    refine LAt.runU tOk 1 (by kernel_rfl) ?_
                    refine LAt.doneU [6, 14, 13, 11, 8, 3, 1, 2] [3] (by kernel_rfl) ?_
                    refine Tr.ret ?_
                    have H := Option.some.inj H
                    subst H
                    exact Fin.of _ [(false, [.lit (.bool false)])] (by kernel_rfl) rfl rfl
                · have H := bifT h7 H
                  refine Tr.cond (b := true) (by kernel_rfl) (fun _ => ?_) (fun h => nomatch h)
                  refine Tr.rs ?_
                  refine LAt.runU tOk 1 (by kernel_rfl) ?_
                  refine LAt.doneU [6, 11, 8, 3, 1, 2] [3] (by kernel_rfl) ?_
                  refine Tr.ret ?_
                  have H := Option.some.inj H
                  subst H
                  exact Fin.of _ [(false, [.lit (.bool false)])] (by kernel_rfl) rfl rfl
              · have H := bifT h6 H
                refine LAt.runU tOk 5 (by kernel_rfl) ?_
                refine LAt.doneU [65, 11, 8, 6, 3, 1, 2] [3] (by kernel_rfl) ?_
                refine Tr.cond (b := true) (by kernel_rfl) (fun _ => ?_) (fun h => nomatch h)
                refine Tr.rs ?_
                refine LAt.runU tOk 1 (by kernel_rfl) ?_
                refine LAt.doneU [6, 11, 8, 3, 1, 2] [3] (by kernel_rfl) ?_
                refine Tr.ret ?_
                have H := Option.some.inj H
                subst H
                exact Fin.of _ [(false, [.lit (.bool false)])] (by kernel_rfl) rfl rfl
            · have H := bifT h5 H
              refine Tr.cond (b := true) (by kernel_rfl) (fun _ => ?_) (fun h => nomatch h)
              refine Tr.rs ?_
              refine LAt.runU tOk 1 (by kernel_rfl) ?_
              refine LAt.doneU [6, 11, 10, 9, 8, 3, 1, 2] [9, 3] (by kernel_rfl) ?_
              refine Tr.ret ?_
              have H := Option.some.inj H
              subst H
              exact Fin.of _ [(false, [.lit (.bool false)])] (by kernel_rfl) rfl rfl
          · have H := bifT h4 H
            refine Tr.cond (b := true) (by kernel_rfl) (fun _ => ?_) (fun h => nomatch h)
            refine Tr.rs ?_
            refine LAt.runU tOk 1 (by kernel_rfl) ?_
            refine LAt.doneU [6, 11, 10, 9, 8, 3, 1, 2] [9, 3] (by kernel_rfl) ?_
            refine Tr.ret ?_
            have H := Option.some.inj H
            subst H
            exact Fin.of _ [(false, [.lit (.bool false)])] (by kernel_rfl) rfl rfl
      · have H := bifT h3 H
        refine Tr.cond (b := true) (by kernel_rfl) (fun _ => ?_) (fun h => nomatch h)
        refine Tr.rs ?_
        refine LAt.runU tOk 1 (by kernel_rfl) ?_
        refine LAt.doneU [6, 11, 10, 9, 8, 3, 1, 2] [9, 3] (by kernel_rfl) ?_
        refine Tr.ret ?_
        have H := Option.some.inj H
        subst H
        exact Fin.of _ [(false, [.lit (.bool false)])] (by kernel_rfl) rfl rfl
    · have H := bifT h2 H
      refine Tr.cond (b := true) (by kernel_rfl) (fun _ => ?_) (fun h => nomatch h)
      refine Tr.rs ?_
      refine LAt.runU tOk 1 (by kernel_rfl) ?_
      refine LAt.doneU [6, 3, 1, 2] [3] (by kernel_rfl) ?_
      refine Tr.ret ?_
      have H := Option.some.inj H
      subst H
      exact Fin.of _ [(false, [.lit (.bool true)])] (by kernel_rfl) rfl rfl
  · have H := bifT h1 H
    refine Tr.cond (b := true) (by kernel_rfl) (fun _ => ?_) (fun h => nomatch h)
    refine Tr.rs ?_
    refine LAt.runU tOk 1 (by kernel_rfl) ?_
    refine LAt.doneU [6, 3, 1, 2] [3] (by kernel_rfl) ?_
    refine Tr.ret ?_
    have H := Option.some.inj H
    subst H
    exact Fin.of _ [(false, [.lit (.bool true)])] (by kernel_rfl) rfl rfl
end Go.Proofs.Ytjdedhklbdkeoaa.Tw
