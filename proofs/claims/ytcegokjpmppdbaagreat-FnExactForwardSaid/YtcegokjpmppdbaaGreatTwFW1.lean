import Derived.Test.YtcegokjpmppdbaaGreatProg
import Derived.Test.YtcegokjpmppdbaaGreatTlRule
import Derived.Test.YtcegokjpmppdbaaGreatTlU9
import Derived.Test.YtcegokjpmppdbaaGreatTwFW0
import Derived.WalkKit
set_option linter.unusedVariables false
set_option linter.unusedSimpArgs false
set_option maxRecDepth 100000
set_option maxHeartbeats 1000000
namespace Go.Proofs.YtcegokjpmppdbaaGreat.Tw
open Go Go.TL Go.Proofs
def spec_LearnF (n : Nat) (x0 : (List Fent)) (x1 : Int) (x2 : Int) (x3 : Int) : Option ((List Fent)) :=
  ((spec_l8AtF n x0 x1 x2).bind fun r1 => ((spec_FdbOkF n x0).bind fun r2 => (bif (!r2) then ((spec_l8CopyF n x0).bind fun r13 => (some r13)) else ((spec_l8EntF n (⟨x1,x2,x3,0,false⟩ : Fent)).bind fun r3 => (bif (!r3) then ((spec_l8CopyF n x0).bind fun r12 => (some r12)) else (bif (decide (r1 ≥ 0)) then ((idx x0 r1).bind fun v7 => (bif v7.Static then ((spec_l8CopyF n x0).bind fun r11 => (some r11)) else (bif (decide (r1 < 0)) then (bif (decide ((x0.length : Int) ≥ 12)) then ((spec_l8CopyF n x0).bind fun r10 => (some r10)) else ((spec_l8PutF n x0 (⟨x1,x2,x3,0,false⟩ : Fent)).bind fun r9 => (some r9))) else ((spec_l8PutF n x0 (⟨x1,x2,x3,0,false⟩ : Fent)).bind fun r8 => (some r8))))) else (bif (decide (r1 < 0)) then (bif (decide ((x0.length : Int) ≥ 12)) then ((spec_l8CopyF n x0).bind fun r6 => (some r6)) else ((spec_l8PutF n x0 (⟨x1,x2,x3,0,false⟩ : Fent)).bind fun r5 => (some r5))) else ((spec_l8PutF n x0 (⟨x1,x2,x3,0,false⟩ : Fent)).bind fun r4 => (some r4)))))))))
noncomputable abbrev G75 (k : Nat) := Rg Tryz.f75 k
theorem spec_Learn (n : Nat) (x0 : (List Fent)) (x1 : Int) (x2 : Int) (x3 : Int) (r : (List Fent)) (H : spec_LearnF n x0 x1 x2 x3 = some r) : LCall Tryz.prog 75 [.val false [.sl false 5 (CV.frzEs (x0.map Fent.row))],.val false [.lit (.int .i64 x1)],.val false [.lit (.int .i64 x2)],.val false [.lit (.int .i64 x3)]] [.val false [.sl true 5 (r.map Fent.row)]] [] := by
 refine LCall.of_body tOk Tryz.func75 rfl (c := (.seq (G75 0) (.seq (G75 1) (.seq (G75 2) (.seq (.seq (G75 3) (.cond (.tmp 46) (.seq (G75 4) .ret) .skip)) (.seq (G75 5) .ret)))))) kr (Nat.le_of_ble_eq_true kr) 0 (rs := [.tmp 8]) rfl [] .nil [(false,[.sl true 5 (r.map Fent.row)])] [] [] fun cx => ?_
 show Tr _ _ _ ⟨52,0,[sC 0 (cF 5 x0 Fent.row),sI 1 x1,sI 2 x2,sI 3 x3],[]⟩ _
 unfold spec_LearnF at H
 refine tG tOk 1 15 0 kr kr ?_
 refine tG tOk 6 519 512 kr kr ?_
 refine rU tOk 3 kr ?_
 obtain ⟨r1,er1,H⟩ := bind_some H
 refine lV tOk [.rd,.rd,.rd] [] (spec_l8At n x0 x1 x2 r1 er1) kr kr kr kr (.inl rfl) ?_
 refine uD tOk 1 1537 512 kr kr ?_
 refine tS ?_
 refine rU tOk 1 kr ?_
 obtain ⟨r2,er2,H⟩ := bind_some H
 refine lV tOk [.rd] [] (spec_FdbOk n x0 r2 er2) kr kr kr kr (.inl rfl) ?_
 refine lU tOk 2 kr ?_
 refine lT ⟨52,0,[sB 22 (!r2),sB 21 (!r2),sB 20 r2,sC 19 (cF 5 x0 Fent.row),sI 10 r1,sA 9 9 5 0,sC 0 (cF 5 x0 Fent.row)],[(9,[cI x1,cI x2,cI x3,cI 0,cB false])]⟩ kr ?_
 cases h1 : (!r2)
 ·have H := bifF h1 H
  refine lU tOk 1 kr ?_
  obtain ⟨r3,er3,H⟩ := bind_some H
  refine lV tOk [.rd] [] (spec_l8Ent n (⟨x1,x2,x3,0,false⟩ : Fent) r3 er3) kr kr kr kr (.inl rfl) ?_
  refine lU tOk 3 kr ?_
  refine lT ⟨52,0,[sB 27 (!r3),sB 26 (!r3),sB 25 (!r3),sB 24 r3,sV 23 [cI x1,cI x2,cI x3,cI 0,cB false],sB 22 false,sB 21 false,sB 20 r2,sC 19 (cF 5 x0 Fent.row),sI 10 r1,sA 9 9 5 0,sC 0 (cF 5 x0 Fent.row)],[(9,[cI x1,cI x2,cI x3,cI 0,cB false])]⟩ kr ?_
  cases h2 : (!r3)
  ·have H := bifF h2 H
   refine lU tOk 3 kr ?_
   refine lT ⟨52,0,[sB 30 (decide (r1 ≥ 0)),sB 29 (decide (r1 ≥ 0)),sI 28 r1,sB 27 false,sB 26 false,sB 25 false,sB 24 r3,sV 23 [cI x1,cI x2,cI x3,cI 0,cB false],sB 22 false,sB 21 false,sB 20 r2,sC 19 (cF 5 x0 Fent.row),sI 10 r1,sA 9 9 5 0,sC 0 (cF 5 x0 Fent.row)],[(9,[cI x1,cI x2,cI x3,cI 0,cB false])]⟩ kr ?_
   cases h3 : (decide (r1 ≥ 0))
   ·have H := bifF h3 H
    refine lU tOk 11 kr ?_
    refine lT ⟨52,0,[sB 41 (decide (r1 < 0)),sB 40 (decide (r1 < 0)),sI 39 r1,sB 38 false,sB 37 false,sB 36 false,(35,.tup []),(34,.tup []),(33,.tup []),(32,.tup []),(31,.tup []),sB 30 false,sB 29 false,sI 28 r1,sB 27 false,sB 26 false,sB 25 false,sB 24 r3,sV 23 [cI x1,cI x2,cI x3,cI 0,cB false],sB 22 false,sB 21 false,sB 20 r2,sC 19 (cF 5 x0 Fent.row),sI 10 r1,sA 9 9 5 0,sC 0 (cF 5 x0 Fent.row)],[(9,[cI x1,cI x2,cI x3,cI 0,cB false])]⟩ kr ?_
    cases h4 : (decide (r1 < 0))
    ·have H := bifF h4 H
     refine uD tOk 5 70368744178177 512 kr kr ?_
     refine tf kr ?_
     refine tK ?_
     refine rU tOk 2 kr ?_
     obtain ⟨r4,er4,H⟩ := bind_some H
     refine lV tOk [.rd,.rd] [] (spec_l8Put n x0 (⟨x1,x2,x3,0,false⟩ : Fent) r4 er4) kr kr kr kr (.inl rfl) ?_
     refine LAt.moveU (T := lk tab) (ty := 36) (x := (.tmp 51)) (d := 8) (g := none) false [cL 5 r4 Fent.row] kr kr kr kr kr ?_
     refine lD 256 0 kr ?_
     exact te (by obtain rfl := si H; exact fO [(false,[cL 5 r4 Fent.row])] kr rfl rfl)
    have H := bifT h4 H
    refine lU tOk 1 kr ?_
    refine lL tOk 36 3 169 42 43 (some (22,true)) ⟨(.slot 42),[],0,false,5,(CV.frzEs (x0.map Fent.row))⟩ (x0).length _ kr kr kr kr kr (frz_len _ _) rfl ?_
    refine uD tOk 3 70368744178177 512 kr kr ?_
    obtain ⟨h5,H⟩ | ⟨h5,H⟩ := bC H
    ·refine tF h5 kr ?_
     refine tK ?_
     refine rU tOk 2 kr ?_
     obtain ⟨r5,er5,H⟩ := bind_some H
     refine lV tOk [.rd,.rd] [] (spec_l8Put n x0 (⟨x1,x2,x3,0,false⟩ : Fent) r5 er5) kr kr kr kr (.inl rfl) ?_
     refine LAt.moveU (T := lk tab) (ty := 36) (x := (.tmp 51)) (d := 8) (g := none) false [cL 5 r5 Fent.row] kr kr kr kr kr ?_
     refine lD 256 0 kr ?_
     exact te (by obtain rfl := si H; exact fO [(false,[cL 5 r5 Fent.row])] kr rfl rfl)
    refine tT h5 kr ?_
    refine rU tOk 1 kr ?_
    obtain ⟨r6,er6,H⟩ := bind_some H
    refine lV tOk [.rd] [] (spec_l8Copy n x0 r6 er6) kr kr kr kr (.inl rfl) ?_
    refine LAt.moveU (T := lk tab) (ty := 36) (x := (.tmp 48)) (d := 8) (g := none) false [cL 5 r6 Fent.row] kr kr kr kr kr ?_
    refine lD 256 0 kr ?_
    exact te (by obtain rfl := si H; exact fO [(false,[cL 5 r6 Fent.row])] kr rfl rfl)
   have H := bifT h3 H
   refine lU tOk 2 kr ?_
   obtain ⟨v7,ev7,H⟩ := bind_some H
   refine lI tOk 36 0 31 32 33 (some (11,true)) ⟨(.slot 31),[],0,false,5,(CV.frzEs (x0.map Fent.row))⟩ r1 (Fent.row v7) _ kr kr kr kr rfl (idx_isF ev7) rfl ?_
   refine lU tOk 5 kr ?_
   refine lT ⟨52,0,[sB 38 v7.Static,sB 37 v7.Static,sB 36 v7.Static,sB 35 v7.Static,(34,.fad ([cB v7.Static])),(33,.fad ((Fent.row v7))),sI 32 r1,sC 31 (cF 5 x0 Fent.row),sB 30 true,sB 29 true,sI 28 r1,sB 27 false,sB 26 false,sB 25 false,sB 24 r3,sV 23 [cI x1,cI x2,cI x3,cI 0,cB false],sB 22 false,sB 21 false,sB 20 r2,sC 19 (cF 5 x0 Fent.row),sI 10 r1,sA 9 9 5 0,sC 0 (cF 5 x0 Fent.row)],[(9,[cI x1,cI x2,cI x3,cI 0,cB false])]⟩ kr ?_
   cases h6 : v7.Static
   ·have H := bifF h6 H
    refine lU tOk 3 kr ?_
    refine lT ⟨52,0,[sB 41 (decide (r1 < 0)),sB 40 (decide (r1 < 0)),sI 39 r1,sB 38 false,sB 37 false,sB 36 false,sB 35 false,(34,.fad ([cB false])),(33,.fad ((Fent.row v7))),sI 32 r1,sC 31 (cF 5 x0 Fent.row),sB 30 true,sB 29 true,sI 28 r1,sB 27 false,sB 26 false,sB 25 false,sB 24 r3,sV 23 [cI x1,cI x2,cI x3,cI 0,cB false],sB 22 false,sB 21 false,sB 20 r2,sC 19 (cF 5 x0 Fent.row),sI 10 r1,sA 9 9 5 0,sC 0 (cF 5 x0 Fent.row)],[(9,[cI x1,cI x2,cI x3,cI 0,cB false])]⟩ kr ?_
    cases h7 : (decide (r1 < 0))
    ·have H := bifF h7 H
     refine uD tOk 5 70368744178177 512 kr kr ?_
     refine tf kr ?_
     refine tK ?_
     refine rU tOk 2 kr ?_
     obtain ⟨r8,er8,H⟩ := bind_some H
     refine lV tOk [.rd,.rd] [] (spec_l8Put n x0 (⟨x1,x2,x3,0,false⟩ : Fent) r8 er8) kr kr kr kr (.inl rfl) ?_
     refine LAt.moveU (T := lk tab) (ty := 36) (x := (.tmp 51)) (d := 8) (g := none) false [cL 5 r8 Fent.row] kr kr kr kr kr ?_
     refine lD 256 0 kr ?_
     exact te (by obtain rfl := si H; exact fO [(false,[cL 5 r8 Fent.row])] kr rfl rfl)
    have H := bifT h7 H
    refine lU tOk 1 kr ?_
    refine lL tOk 36 3 169 42 43 (some (22,true)) ⟨(.slot 42),[],0,false,5,(CV.frzEs (x0.map Fent.row))⟩ (x0).length _ kr kr kr kr kr (frz_len _ _) rfl ?_
    refine uD tOk 3 70368744178177 512 kr kr ?_
    obtain ⟨h8,H⟩ | ⟨h8,H⟩ := bC H
    ·refine tF h8 kr ?_
     refine tK ?_
     refine rU tOk 2 kr ?_
     obtain ⟨r9,er9,H⟩ := bind_some H
     refine lV tOk [.rd,.rd] [] (spec_l8Put n x0 (⟨x1,x2,x3,0,false⟩ : Fent) r9 er9) kr kr kr kr (.inl rfl) ?_
     refine LAt.moveU (T := lk tab) (ty := 36) (x := (.tmp 51)) (d := 8) (g := none) false [cL 5 r9 Fent.row] kr kr kr kr kr ?_
     refine lD 256 0 kr ?_
     exact te (by obtain rfl := si H; exact fO [(false,[cL 5 r9 Fent.row])] kr rfl rfl)
    refine tT h8 kr ?_
    refine rU tOk 1 kr ?_
    obtain ⟨r10,er10,H⟩ := bind_some H
    refine lV tOk [.rd] [] (spec_l8Copy n x0 r10 er10) kr kr kr kr (.inl rfl) ?_
    refine LAt.moveU (T := lk tab) (ty := 36) (x := (.tmp 48)) (d := 8) (g := none) false [cL 5 r10 Fent.row] kr kr kr kr kr ?_
    refine lD 256 0 kr ?_
    exact te (by obtain rfl := si H; exact fO [(false,[cL 5 r10 Fent.row])] kr rfl rfl)
   have H := bifT h6 H
   refine uD tOk 8 70368744178177 512 kr kr ?_
   refine tt kr ?_
   refine rU tOk 1 kr ?_
   obtain ⟨r11,er11,H⟩ := bind_some H
   refine lV tOk [.rd] [] (spec_l8Copy n x0 r11 er11) kr kr kr kr (.inl rfl) ?_
   refine LAt.moveU (T := lk tab) (ty := 36) (x := (.tmp 48)) (d := 8) (g := none) false [cL 5 r11 Fent.row] kr kr kr kr kr ?_
   refine lD 256 0 kr ?_
   exact te (by obtain rfl := si H; exact fO [(false,[cL 5 r11 Fent.row])] kr rfl rfl)
  have H := bifT h2 H
  refine uD tOk 19 70368744178177 512 kr kr ?_
  refine tt kr ?_
  refine rU tOk 1 kr ?_
  obtain ⟨r12,er12,H⟩ := bind_some H
  refine lV tOk [.rd] [] (spec_l8Copy n x0 r12 er12) kr kr kr kr (.inl rfl) ?_
  refine LAt.moveU (T := lk tab) (ty := 36) (x := (.tmp 48)) (d := 8) (g := none) false [cL 5 r12 Fent.row] kr kr kr kr kr ?_
  refine lD 256 0 kr ?_
  exact te (by obtain rfl := si H; exact fO [(false,[cL 5 r12 Fent.row])] kr rfl rfl)
 have H := bifT h1 H
 refine uD tOk 24 70368744178177 512 kr kr ?_
 refine tt kr ?_
 refine rU tOk 1 kr ?_
 obtain ⟨r13,er13,H⟩ := bind_some H
 refine lV tOk [.rd] [] (spec_l8Copy n x0 r13 er13) kr kr kr kr (.inl rfl) ?_
 refine LAt.moveU (T := lk tab) (ty := 36) (x := (.tmp 48)) (d := 8) (g := none) false [cL 5 r13 Fent.row] kr kr kr kr kr ?_
 refine lD 256 0 kr ?_
 exact te (by obtain rfl := si H; exact fO [(false,[cL 5 r13 Fent.row])] kr rfl rfl)
def spec_EgressOfF (n : Nat) (x0 : Vtab) (x1 : Int) : Option (Int) :=
  ((spec_RowAtF n x0 x1).bind fun r1 => (bif (decide (r1 < 0)) then (some 0) else ((idx x0.Rows r1).bind fun v2 => (some v2.Members))))
noncomputable abbrev G76 (k : Nat) := Rg Tryz.f76 k
theorem spec_EgressOf (n : Nat) (x0 : Vtab) (x1 : Int) (r : Int) (H : spec_EgressOfF n x0 x1 = some r) : LCall Tryz.prog 76 [.val true (CV.frzRow (Vtab.row x0)),.val false [.lit (.int .i64 x1)]] [.val false [.lit (.int .i64 r)]] [] := by
 refine LCall.of_body tOk Tryz.func76 rfl (c := (.seq (G76 0) (.seq (G76 1) (.seq (.seq (G76 2) (.cond (.tmp 10) (.seq (G76 3) .ret) .skip)) (.seq (G76 4) .ret))))) kr (Nat.le_of_ble_eq_true kr) 0 (rs := [.tmp 4]) rfl [] .nil [(false,[.lit (.int .i64 r)])] [] [] fun cx => ?_
 show Tr _ _ _ ⟨17,0,[sV 0 (CV.frzRow (Vtab.row x0)),sI 1 x1],[]⟩ _
 unfold spec_EgressOfF at H
 refine tG tOk 2 6 4 kr kr ?_
 refine rU tOk 2 kr ?_
 obtain ⟨r1,er1,H⟩ := bind_some H
 refine lV tOk [.rd,.rd] [] (spec_RowAt n x0 x1 r1 er1) kr kr kr kr (.inl rfl) ?_
 refine uD tOk 1 36 4 kr kr ?_
 refine tS ?_
 refine tG tOk 2 1060 4 kr kr ?_
 obtain ⟨h1,H⟩ | ⟨h1,H⟩ := bC H
 ·refine tF h1 kr ?_
  refine tK ?_
  refine rU tOk 3 kr ?_
  obtain ⟨v2,ev2,H⟩ := bind_some H
  refine lI tOk 37 0 12 13 14 none ⟨(.slot 12),[],0,false,3,(CV.frzEs (x0.Rows.map Vrow.row))⟩ r1 (Vrow.row v2) _ kr kr kr kr rfl (idx_isF ev2) rfl ?_
  refine uD tOk 3 16 0 kr kr ?_
  exact te (by obtain rfl := si H; exact fO [(false,[cI v2.Members])] kr rfl rfl)
 refine tT h1 kr ?_
 refine tG tOk 1 16 0 kr kr ?_
 exact te (by obtain rfl := si H; exact fO [(false,[cI 0])] kr rfl rfl)
def spec_LookUpF (n : Nat) (x0 : (List Fent)) (x1 : Int) (x2 : Int) : Option (Int) :=
  ((spec_l8AtF n x0 x1 x2).bind fun r1 => (bif (decide (r1 < 0)) then (some (-1)) else ((idx x0 r1).bind fun v2 => (some v2.Port))))
noncomputable abbrev G77 (k : Nat) := Rg Tryz.f77 k
theorem spec_LookUp (n : Nat) (x0 : (List Fent)) (x1 : Int) (x2 : Int) (r : Int) (H : spec_LookUpF n x0 x1 x2 = some r) : LCall Tryz.prog 77 [.val false [.sl false 5 (CV.frzEs (x0.map Fent.row))],.val false [.lit (.int .i64 x1)],.val false [.lit (.int .i64 x2)]] [.val false [.lit (.int .i64 r)]] [] := by
 refine LCall.of_body tOk Tryz.func77 rfl (c := (.seq (G77 0) (.seq (G77 1) (.seq (.seq (G77 2) (.cond (.tmp 13) (.seq (G77 3) .ret) .skip)) (.seq (G77 4) .ret))))) kr (Nat.le_of_ble_eq_true kr) 0 (rs := [.tmp 6]) rfl [] .nil [(false,[.lit (.int .i64 r)])] [] [] fun cx => ?_
 show Tr _ _ _ ⟨19,0,[sC 0 (cF 5 x0 Fent.row),sI 1 x1,sI 2 x2],[]⟩ _
 unfold spec_LookUpF at H
 refine tG tOk 1 7 0 kr kr ?_
 refine rU tOk 3 kr ?_
 obtain ⟨r1,er1,H⟩ := bind_some H
 refine lV tOk [.rd,.rd,.rd] [] (spec_l8At n x0 x1 x2 r1 er1) kr kr kr kr (.inl rfl) ?_
 refine uD tOk 1 129 0 kr kr ?_
 refine tS ?_
 refine tG tOk 2 8321 0 kr kr ?_
 obtain ⟨h1,H⟩ | ⟨h1,H⟩ := bC H
 ·refine tF h1 kr ?_
  refine tK ?_
  refine rU tOk 2 kr ?_
  obtain ⟨v2,ev2,H⟩ := bind_some H
  refine lI tOk 36 0 14 15 16 none ⟨(.slot 14),[],0,false,5,(CV.frzEs (x0.map Fent.row))⟩ r1 (Fent.row v2) _ kr kr kr kr rfl (idx_isF ev2) rfl ?_
  refine uD tOk 3 64 0 kr kr ?_
  exact te (by obtain rfl := si H; exact fO [(false,[cI v2.Port])] kr rfl rfl)
 refine tT h1 kr ?_
 refine tG tOk 1 64 0 kr kr ?_
 exact te (by obtain rfl := si H; exact fO [(false,[cI (-1)])] kr rfl rfl)
def spec_ShownTagF (n : Nat) (x0 : Vtab) (x1 : Int) (x2 : Int) : Option (Int) :=
  ((spec_RowAtF n x0 x1).bind fun r1 => (bif (decide (r1 < 0)) then (some 0) else ((idx x0.Rows r1).bind fun v2 => ((spec_l9BitF n v2.Bare x2).bind fun r3 => (bif r3 then (some 0) else (some x1))))))
noncomputable abbrev G176 (k : Nat) := Rg Tryz.f176 k
theorem spec_ShownTag (n : Nat) (x0 : Vtab) (x1 : Int) (x2 : Int) (r : Int) (H : spec_ShownTagF n x0 x1 x2 = some r) : LCall Tryz.prog 176 [.val true (CV.frzRow (Vtab.row x0)),.val false [.lit (.int .i64 x1)],.val false [.lit (.int .i64 x2)]] [.val false [.lit (.int .i64 r)]] [] := by
 refine LCall.of_body tOk Tryz.func176 rfl (c := (.seq (G176 0) (.seq (G176 1) (.seq (.seq (G176 2) (.cond (.tmp 22) (.seq (G176 3) .ret) .skip)) (.seq (G176 4) .ret))))) kr (Nat.le_of_ble_eq_true kr) 0 (rs := [.tmp 6]) rfl [] .nil [(false,[.lit (.int .i64 r)])] [] [] fun cx => ?_
 show Tr _ _ _ ⟨24,0,[sV 0 (CV.frzRow (Vtab.row x0)),sI 1 x1,sI 2 x2],[]⟩ _
 unfold spec_ShownTagF at H
 refine tG tOk 2 14 8 kr kr ?_
 refine rU tOk 2 kr ?_
 obtain ⟨r1,er1,H⟩ := bind_some H
 refine lV tOk [.rd,.rd] [] (spec_RowAt n x0 x1 r1 er1) kr kr kr kr (.inl rfl) ?_
 refine uD tOk 1 142 8 kr kr ?_
 refine tS ?_
 refine rU tOk 3 kr ?_
 refine lT ⟨24,0,[sB 13 (decide (r1 < 0)),sB 12 (decide (r1 < 0)),sI 11 r1,sI 7 r1,sA 3 3 2 0,sI 1 x1,sI 2 x2],[(3,(CV.frzRow (Vtab.row x0)))]⟩ kr ?_
 cases h1 : (decide (r1 < 0))
 ·have H := bifF h1 H
  refine lU tOk 3 kr ?_
  obtain ⟨v2,ev2,H⟩ := bind_some H
  refine lI tOk 37 0 15 16 17 (some (2,false)) ⟨(.slot 15),[],0,false,3,(CV.frzEs (x0.Rows.map Vrow.row))⟩ r1 (Vrow.row v2) _ kr kr kr kr rfl (idx_isF ev2) rfl ?_
  refine lU tOk 3 kr ?_
  obtain ⟨r3,er3,H⟩ := bind_some H
  refine lV tOk [.rd,.rd] [] (spec_l9Bit n v2.Bare x2 r3 er3) kr kr kr kr (.inl rfl) ?_
  refine uD tOk 1 4194306 0 kr kr ?_
  cases h2 : r3
  ·have H := bifF h2 H
   refine tf kr ?_
   refine tK ?_
   refine tG tOk 2 64 0 kr kr ?_
   exact te (by obtain rfl := si H; exact fO [(false,[cI x1])] kr rfl rfl)
  have H := bifT h2 H
  refine tt kr ?_
  refine tG tOk 1 64 0 kr kr ?_
  exact te (by obtain rfl := si H; exact fO [(false,[cI 0])] kr rfl rfl)
 have H := bifT h1 H
 refine uD tOk 9 4194306 0 kr kr ?_
 refine tt kr ?_
 refine tG tOk 1 64 0 kr kr ?_
 exact te (by obtain rfl := si H; exact fO [(false,[cI 0])] kr rfl rfl)
def spec_l6CopyF (n : Nat) (x0 : Frame) : Option (Frame) :=
  (bif (decide (([] : List Int).length + x0.Data.length ≤ 268435456)) then (some (⟨x0.Dst,x0.Src,x0.Tag,(([] : List Int) ++ x0.Data)⟩ : Frame)) else none)
noncomputable abbrev G233 (k : Nat) := Rg Tryz.f233 k
theorem spec_l6Copy (n : Nat) (x0 : Frame) (r : Frame) (H : spec_l6CopyF n x0 = some r) : LCall Tryz.prog 233 [.val true (CV.frzRow (Frame.row x0))] [.val true (Frame.row r)] [] := by
 refine LCall.of_body tOk Tryz.func233 rfl (c := (.seq (G233 0) (.seq (G233 1) (.seq (G233 2) (.seq (G233 3) .ret))))) kr (Nat.le_of_ble_eq_true kr) 0 (rs := [.cell 2 46]) rfl [] .nil [(true,(Frame.row r))] [] [] fun cx => ?_
 show Tr _ _ _ ⟨11,0,[sV 0 (CV.frzRow (Frame.row x0))],[]⟩ _
 unfold spec_l6CopyF at H
 refine tG tOk 2 6 6 kr kr ?_
 refine tG tOk 3 14 14 kr kr ?_
 refine rU tOk 3 kr ?_
 obtain ⟨hg1,H⟩ := guard_some H
 refine LAt.appCU tOk (t := 30) (ty := 30) (e := 5) (x := (.tmp 5)) (y := (.tmp 7)) (d := 8) (g := none) (tI 5) byteRow ([] : List Int) x0.Data ⟨(.slot 7),[],0,false,1,(CV.frzEs (x0.Data.map byteRow))⟩ kr kr kr kr kr kr kr kr kr kr kr (.inr rfl) (fun _ => rfl) (fun _ => rfl) hg1 ?_
 refine uD tOk 2 12 12 kr kr ?_
 refine tG tOk 2 4 4 kr kr ?_
 exact te (by obtain rfl := si H; exact fO [(true,[cI x0.Dst,cI x0.Src,cI x0.Tag,cL 1 (([] : List Int) ++ x0.Data) byteRow])] kr rfl rfl)
def spec_TaggedF (n : Nat) (x0 : Frame) (x1 : Int) : Option (Frame) :=
  ((spec_l6CopyF n x0).bind fun r1 => (some (⟨r1.Dst,r1.Src,x1,r1.Data⟩ : Frame)))
noncomputable abbrev G175 (k : Nat) := Rg Tryz.f175 k
theorem spec_Tagged (n : Nat) (x0 : Frame) (x1 : Int) (r : Frame) (H : spec_TaggedF n x0 x1 = some r) : LCall Tryz.prog 175 [.val true (CV.frzRow (Frame.row x0)),.val false [.lit (.int .i64 x1)]] [.val true (Frame.row r)] [] := by
 refine LCall.of_body tOk Tryz.func175 rfl (c := (.seq (G175 0) (.seq (G175 1) (.seq (G175 2) (.seq (G175 3) .ret))))) kr (Nat.le_of_ble_eq_true kr) 0 (rs := [.cell 4 46]) rfl [] .nil [(true,(Frame.row r))] [] [] fun cx => ?_
 show Tr _ _ _ ⟨11,0,[sV 0 (CV.frzRow (Frame.row x0)),sI 1 x1],[]⟩ _
 unfold spec_TaggedF at H
 refine tG tOk 2 22 20 kr kr ?_
 refine rU tOk 1 kr ?_
 obtain ⟨r1,er1,H⟩ := bind_some H
 refine lV tOk [.rd] [] (spec_l6Copy n x0 r1 er1) kr kr kr kr (.inl rfl) ?_
 refine uD tOk 2 50 48 kr kr ?_
 refine tG tOk 3 48 48 kr kr ?_
 refine tG tOk 2 16 16 kr kr ?_
 exact te (by obtain rfl := si H; exact fO [(true,[cI r1.Dst,cI r1.Src,cI x1,cL 1 r1.Data byteRow])] kr rfl rfl)
def spec_l12Outs_J1 (n : Nat) (y3 : (List Out)) : Option ((List Out)) :=
  (some y3)
def spec_l12Outs_L2 (n : Nat) : Nat → Bridge → Int → Int → Frame → Int → (List Out) → Option (((List Out)) ⊕ ((List Out)))
  | 0,_,_,_,_,_,_ => none
  | mo4 + 1,x0,x1,x2,x3,y1,y2 => (bif (decide (y1 < (x0.Ports.length : Int))) then ((spec_l9BitF n x2 y1).bind fun r5 => (bif r5 then ((spec_ShownTagF n x0.V x1 y1).bind fun r6 => ((spec_TaggedF n x3 r6).bind fun r7 => (bif (decide (y2.length + [(⟨y1,r7⟩ : Out)].length ≤ 268435456)) then (spec_l12Outs_L2 n mo4 x0 x1 x2 x3 (IntKind.wrap .i64 (y1 + 1)) (y2 ++ [(⟨y1,r7⟩ : Out)])) else none))) else (spec_l12Outs_L2 n mo4 x0 x1 x2 x3 (IntKind.wrap .i64 (y1 + 1)) y2))) else (some (Sum.inl y2)))
def spec_l12OutsF (n : Nat) (x0 : Bridge) (x1 : Int) (x2 : Int) (x3 : Frame) : Option ((List Out)) :=
  ((spec_l12Outs_L2 n n x0 x1 x2 x3 0 ([] : List Out)).bind fun o => match o with | .inl y3 => (spec_l12Outs_J1 n y3) | .inr r => some r)
noncomputable abbrev G78 (k : Nat) := Rg Tryz.f78 k
noncomputable abbrev D78 (k : Nat) := Rd Tryz.f78 k
theorem spec_l12Outs (n : Nat) (x0 : Bridge) (x1 : Int) (x2 : Int) (x3 : Frame) (r : (List Out)) (H : spec_l12OutsF n x0 x1 x2 x3 = some r) : LCall Tryz.prog 78 [.val true (CV.frzRow (Bridge.row x0)),.val false [.lit (.int .i64 x1)],.val false [.lit (.int .i64 x2)],.val true (CV.frzRow (Frame.row x3))] [.val false [.sl true 5 (r.map Out.row)]] [] := by
 refine LCall.of_body tOk Tryz.func78 rfl (c := (.seq (G78 0) (.seq (G78 1) (.seq (.seq (G78 2) (.block 0 (.loop (.seq (.seq (G78 3) (.cond (.tmp 16) .skip (.exit 0))) (.seq (.block 1 (.seq (G78 5) (.cond (.tmp 21) (D78 6) .skip))) (G78 4)))))) (.seq (G78 7) .ret))))) kr (Nat.le_of_ble_eq_true kr) 0 (rs := [.tmp 8]) rfl [] .nil [(false,[.sl true 5 (r.map Out.row)])] [] [] fun cx => ?_
 show Tr _ _ _ ⟨35,0,[sV 0 (CV.frzRow (Bridge.row x0)),sI 1 x1,sI 2 x2,sV 3 (CV.frzRow (Frame.row x3))],[]⟩ _
 unfold spec_l12OutsF at H
 refine tG tOk 3 150 144 kr kr ?_
 refine rU tOk 1 kr ?_
 refine LAt.moveU (T := lk tab) (ty := 42) (x := (.tmp 11)) (d := 9) (g := none) false [cL 5 ([] : List Out) Out.row] kr kr kr kr kr ?_
 refine lD 662 144 kr ?_
 refine tS ?_
 refine tG tOk 1 1686 144 kr kr ?_
 obtain ⟨o4,eo4,Ho4⟩ := bind_some H
 clear H
 refine Tr.mid (ι := (List Out)) (fun v => ⟨35,0,[sC 9 (cL 5 v Out.row)],[]⟩) (fun v => spec_l12Outs_J1 n v = some r) ?_ ?_
 ·refine tB ?_
  refine Tr.loop (ι := Nat × (Int × (List Out))) (fun v => ⟨35,0,[sI 10 v.2.1,sC 9 (cL 5 v.2.2 Out.row),sA 7 7 4 0,sA 4 4 11 0,sI 1 x1,sI 2 x2],[(7,(CV.frzRow (Frame.row x3))),(4,(CV.frzRow (Bridge.row x0)))]⟩) (fun v => spec_l12Outs_L2 n v.1 x0 x1 x2 x3 v.2.1 v.2.2 = some o4) (fun v => v.1) (n,(0,([] : List Out))) eo4 (St.sub_of [10,9,7,4,1,2] [7,4] kr) ?_
  rintro ⟨mo4,y1,y2⟩ H
  have H : spec_l12Outs_L2 n mo4 x0 x1 x2 x3 y1 y2 = some o4 := H
  obtain _ | mo4 := mo4
  ·cases (show (none : Option _) = some o4 from H)
  rw [spec_l12Outs_L2] at H
  refine tS ?_
  refine rU tOk 3 kr ?_
  refine lL tOk 35 3 167 14 15 none ⟨(.slot 14),[],0,false,8,(CV.frzEs (x0.Ports.map Pt.row))⟩ (x0.Ports).length _ kr kr kr kr kr (frz_len _ _) rfl ?_
  refine uD tOk 1 67222 144 kr kr ?_
  obtain ⟨h1,H⟩ | ⟨h1,H⟩ := bC H
  ·refine tF h1 kr ?_
   refine Tr.exit ?_
   refine And.intro (fun _ => ?_) (fun h => absurd rfl h)
   obtain rfl := si H
   have H := Ho4
   dsimp only at H
   exact jn y2 H (sB_ [9] [] kr)
  refine tT h1 kr ?_
  refine tK ?_
  refine tS ?_
  refine tB ?_
  refine rU tOk 2 kr ?_
  obtain ⟨r5,er5,H⟩ := bind_some H
  refine lV tOk [.rd,.rd] [] (spec_l9Bit n x2 y1 r5 er5) kr kr kr kr (.inl rfl) ?_
  refine lD 2098838 144 kr ?_
  cases h2 : r5
  ·have H := bifF h2 H
   refine tf kr ?_
   refine tK ?_
   refine tE tOk 3 1686 144 kr kr ?_
   exact jn (mo4,((IntKind.wrap .i64 (y1 + 1)),y2)) H (sM mo4 [10,9,7,4,1,2] [7,4] kr)
  have H := bifT h2 H
  refine tt kr ?_
  obtain ⟨r6,er6,H⟩ := bind_some H
  obtain ⟨r7,er7,H⟩ := bind_some H
  obtain ⟨hg8,H⟩ := guard_some H
  refine Tr.draw mixed 13 kr ⟨35,0,[sC 9 (cL 5 (y2 ++ [(⟨y1,r7⟩ : Out)]) Out.row),sI 10 y1,sA 7 7 4 0,sA 4 4 11 0,sI 1 x1,sI 2 x2],[(7,(CV.frzRow (Frame.row x3))),(4,(CV.frzRow (Bridge.row x0)))]⟩ (fun cx => ?_) ?_
  ·refine aU tOk [(0,[]),(1,[]),(2,[8,9,10,11]),(3,[]),(4,[7,8,9,10,11]),(5,[]),(6,[])] 6 [⟨[7,8,9,10,11],39,25,26⟩,⟨[8,9,10,11],46,7,24⟩] [6,5,4,3,2,1,0] rfl kr (fun cx => ?_)
   refine AT.big1 tOk 7 kr kr ?_
   refine lV tOk [.rd,.rd,.rd] [] (spec_ShownTag n x0.V x1 y1 r6 er6) kr kr kr kr (.inl rfl) ?_
   refine lF kr kr kr ?_
   refine AT.big1 tOk 8 kr kr ?_
   refine lV tOk [.rd,.rd] [] (spec_Tagged n x3 r6 r7 er7) kr kr kr kr (.inl rfl) ?_
   refine lF kr kr kr ?_
   refine AT.big1 tOk 9 kr kr ?_
   refine lU tOk 1 kr ?_
   refine lF kr kr kr ?_
   refine AT.big1 tOk 10 kr kr ?_
   refine lU tOk 1 kr ?_
   refine lF kr kr kr ?_
   refine AT.big1 tOk 11 kr kr ?_
   refine LAt.appMU tOk (t := 42) (ty := 42) (e := 94) (x := (.tmp 22)) (y := (.tmp 32)) (d := 33) (g := none) (tI 94) Out.row y2 [(⟨y1,r7⟩ : Out)] kr kr kr kr kr kr kr kr kr kr hg8 ?_
   refine lF kr kr kr ?_
   refine AT.big1 tOk 12 kr kr ?_
   refine LAt.moveU (T := lk tab) (ty := 42) (x := (.tmp 33)) (d := 9) (g := none) false [cL 5 (y2 ++ [(⟨y1,r7⟩ : Out)]) Out.row] kr kr kr kr kr ?_
   refine lF kr kr kr ?_
   exact AT.done [9,10,7,4,1,2] [7,4] _ kr kr rfl
  refine tE tOk 3 1686 144 kr kr ?_
  exact jn (mo4,((IntKind.wrap .i64 (y1 + 1)),(y2 ++ [(⟨y1,r7⟩ : Out)]))) H (sM mo4 [10,9,7,4,1,2] [7,4] kr)
 rintro y3 H
 have H : (spec_l12Outs_J1 n y3) = some r := H
 unfold spec_l12Outs_J1 at H
 refine tG tOk 2 768 0 kr kr ?_
 exact te (by obtain rfl := si H; exact fO [(false,[cL 5 y3 Out.row])] kr rfl rfl)
def spec_Forward_J1 (n : Nat) (r1 : Bridge) (r4 : Int) (r5 : Int × Bool) (r7 : (List Fent)) (r8 : Int) (r9 : Int) (x0 : Bridge) (x1 : Int) (x2 : Frame) (y11 : Int) : Option (Bridge × (List Out)) :=
  (bif (decide (y11 ≥ 0)) then (bif (decide ((0 : Int) ≤ (IntKind.wrap .u64 y11))) then ((spec_l12OutsF n x0 r5.1 (IntKind.wrap .i64 (BitVec.ofInt (IntKind.bits .i64) (IntKind.wrap .i64 (BitVec.ofInt (IntKind.bits .i64) (IntKind.wrap .i64 (BitVec.ofInt (IntKind.bits .i64) r4 &&& BitVec.ofInt (IntKind.bits .i64) r9).toNat) &&& ~~~BitVec.ofInt (IntKind.bits .i64) (IntKind.wrap .i64 (1 * 2 ^ min (((IntKind.wrap .u64 x1) : Int)).toNat (IntKind.bits .i64)))).toNat) &&& BitVec.ofInt (IntKind.bits .i64) (IntKind.wrap .i64 (1 * 2 ^ min (((IntKind.wrap .u64 y11) : Int)).toNat (IntKind.bits .i64)))).toNat) x2).bind fun r14 => (some ((⟨r1.Id,r1.Name,r1.Ports,r7,r1.V,r1.Ticks,r1.Parse,r1.Word,r1.Drops,r8⟩ : Bridge),r14))) else none) else ((spec_l12OutsF n x0 r5.1 (IntKind.wrap .i64 (BitVec.ofInt (IntKind.bits .i64) (IntKind.wrap .i64 (BitVec.ofInt (IntKind.bits .i64) r4 &&& BitVec.ofInt (IntKind.bits .i64) r9).toNat) &&& ~~~BitVec.ofInt (IntKind.bits .i64) (IntKind.wrap .i64 (1 * 2 ^ min (((IntKind.wrap .u64 x1) : Int)).toNat (IntKind.bits .i64)))).toNat) x2).bind fun r12 => (some ((⟨r1.Id,r1.Name,r1.Ports,r7,r1.V,r1.Ticks,r1.Parse,r1.Word,r1.Drops,r8⟩ : Bridge),r12))))
def spec_ForwardF (n : Nat) (x0 : Bridge) (x1 : Int) (x2 : Frame) : Option (Bridge × (List Out)) :=
  ((spec_l11CopyF n x0).bind fun r1 => ((spec_l11ThereF n x0 x1).bind fun r2 => (bif (!r2) then (some (r1,([] : List Out))) else ((spec_FrameOkF n x2).bind fun r3 => (bif (!r3) then (some (r1,([] : List Out))) else ((spec_SendsF n x0.Id x0.Ports).bind fun r4 => ((spec_ClassOfF n x0.V x1 x2.Tag).bind fun r5 => ((spec_l9BitF n r4 x1).bind fun r6 => (bif (!r6) then ((spec_l11OneF n x0.Drops).bind fun r17 => (some ((⟨r1.Id,r1.Name,r1.Ports,r1.F,r1.V,r1.Ticks,r1.Parse,r1.Word,r17,r1.Vers⟩ : Bridge),([] : List Out)))) else (bif (!r5.2) then ((spec_l11OneF n x0.Drops).bind fun r16 => (some ((⟨r1.Id,r1.Name,r1.Ports,r1.F,r1.V,r1.Ticks,r1.Parse,r1.Word,r16,r1.Vers⟩ : Bridge),([] : List Out)))) else ((spec_LearnF n x0.F r5.1 x2.Src x1).bind fun r7 => ((spec_l11OneF n x0.Vers).bind fun r8 => ((spec_EgressOfF n x0.V r5.1).bind fun r9 => (bif (decide ((0 : Int) ≤ (IntKind.wrap .u64 x1))) then (bif (x2.Dst != 0) then ((spec_LookUpF n r7 r5.1 x2.Dst).bind fun r15 => (spec_Forward_J1 n r1 r4 r5 r7 r8 r9 x0 x1 x2 r15)) else (spec_Forward_J1 n r1 r4 r5 r7 r8 r9 x0 x1 x2 (-1))) else none))))))))))))))
noncomputable abbrev G11 (k : Nat) := Rg Tryz.f11 k
noncomputable abbrev D11 (k : Nat) := Rd Tryz.f11 k
theorem spec_Forward (n : Nat) (x0 : Bridge) (x1 : Int) (x2 : Frame) (r : Bridge × (List Out)) (H : spec_ForwardF n x0 x1 x2 = some r) : LCall Tryz.prog 11 [.val true (CV.frzRow (Bridge.row x0)),.val false [.lit (.int .i64 x1)],.val true (CV.frzRow (Frame.row x2))] [.val true (Bridge.row r.1),.val false [.sl true 5 (r.2.map Out.row)]] [] := by
 refine LCall.of_body tOk Tryz.func11 rfl (c := (.seq (G11 0) (.seq (G11 1) (.seq (G11 2) (.seq (.seq (G11 3) (.cond (.tmp 26) (.seq (G11 4) .ret) .skip)) (.seq (G11 5) (.seq (G11 6) (.seq (.seq (G11 7) (.cond (.tmp 50) (.seq (G11 8) (.seq (G11 9) .ret)) .skip)) (.seq (G11 10) (.seq (G11 11) (.seq (G11 12) (.seq (G11 13) (.seq (.seq (G11 14) (.cond (.tmp 81) (G11 15) .skip)) (.seq (.seq (G11 16) (.cond (.tmp 89) (G11 17) .skip)) (.seq (D11 18) .ret))))))))))))))) kr (Nat.le_of_ble_eq_true kr) 0 (rs := [.cell 6 41,.tmp 7]) rfl [] .nil [(true,(Bridge.row r.1)),(false,[.sl true 5 (r.2.map Out.row)])] [] [] fun cx => ?_
 show Tr _ _ _ ⟨101,0,[sV 0 (CV.frzRow (Bridge.row x0)),sI 1 x1,sV 2 (CV.frzRow (Frame.row x2))],[]⟩ _
 unfold spec_ForwardF at H
 refine tG tOk 4 106 104 kr kr ?_
 refine rU tOk 1 kr ?_
 obtain ⟨r1,er1,H⟩ := bind_some H
 refine lV tOk [.rd] [] (spec_l11Copy n x0 r1 er1) kr kr kr kr (.inl rfl) ?_
 refine uD tOk 2 362 360 kr kr ?_
 refine rU tOk 1 kr ?_
 refine LAt.moveU (T := lk tab) (ty := 42) (x := (.tmp 17)) (d := 9) (g := none) false [cL 5 ([] : List Out) Out.row] kr kr kr kr kr ?_
 refine lD 874 360 kr ?_
 refine tS ?_
 refine rU tOk 2 kr ?_
 obtain ⟨r2,er2,H⟩ := bind_some H
 refine lV tOk [.rd,.rd] [] (spec_l11There n x0 x1 r2 er2) kr kr kr kr (.inl rfl) ?_
 refine lU tOk 2 kr ?_
 refine lT ⟨101,0,[sB 22 (!r2),sB 21 (!r2),sB 20 r2,sI 19 x1,sV 18 (CV.frzRow (Bridge.row x0)),sC 9 (cL 5 ([] : List Out) Out.row),sA 8 8 11 0,sA 6 6 11 0,sA 5 5 4 0,sA 3 3 11 0,sI 1 x1],[(8,(Bridge.row r1)),(6,[cI 0,cS (⟨#[]⟩ : ByteArray),cL 8 ([] : List Pt) Pt.row,cL 5 ([] : List Fent) Fent.row,cL 3 ([] : List Vrow) Vrow.row,cL 1 ([] : List Int) intRow,cI 0,cI 0,cI 0,cI 0,cI 0]),(5,(CV.frzRow (Frame.row x2))),(3,(CV.frzRow (Bridge.row x0)))]⟩ kr ?_
 cases h1 : (!r2)
 ·have H := bifF h1 H
  refine lU tOk 1 kr ?_
  obtain ⟨r3,er3,H⟩ := bind_some H
  refine lV tOk [.rd] [] (spec_FrameOk n x2 r3 er3) kr kr kr kr (.inl rfl) ?_
  refine uD tOk 2 67109738 360 kr kr ?_
  obtain ⟨h2,H⟩ | ⟨h2,H⟩ := bC H
  ·refine tF h2 kr ?_
   refine tK ?_
   refine rU tOk 4 kr ?_
   obtain ⟨r4,er4,H⟩ := bind_some H
   refine lV tOk [.rd,.rd] [] (spec_Sends n x0.Id x0.Ports r4 er4) kr kr kr kr (.inl rfl) ?_
   refine uD tOk 1 1898 360 kr kr ?_
   refine rU tOk 5 kr ?_
   obtain ⟨r5,er5,H⟩ := bind_some H
   refine lV tOk [.rd,.rd,.rd] [] (spec_ClassOf n x0.V x1 x2.Tag r5 er5) kr kr kr kr (.inl rfl) ?_
   refine LAt.movT tOk (ty := 88) (t := 40) (d := 34) (g := none) [(false,[cI r5.1]),(false,[cB r5.2])] _ kr (.inl rfl) kr kr kr kr rfl ?_
   refine uD tOk 4 8042 360 kr kr ?_
   refine tS ?_
   refine tS ?_
   refine Tr.at ?_
   refine lU tOk 2 kr ?_
   obtain ⟨r6,er6,H⟩ := bind_some H
   refine lV tOk [.rd,.rd] [] (spec_l9Bit n r4 x1 r6 er6) kr kr kr kr (.inl rfl) ?_
   refine lU tOk 2 kr ?_
   refine lT ⟨101,0,[sB 47 (!r6),sB 46 (!r6),sB 45 r6,sI 44 x1,sI 43 r4,sB 12 r5.2,sI 11 r5.1,sI 10 r4,sC 9 (cL 5 ([] : List Out) Out.row),sA 8 8 11 0,sA 6 6 11 0,sA 5 5 4 0,sA 3 3 11 0,sI 1 x1],[(8,(Bridge.row r1)),(6,[cI 0,cS (⟨#[]⟩ : ByteArray),cL 8 ([] : List Pt) Pt.row,cL 5 ([] : List Fent) Fent.row,cL 3 ([] : List Vrow) Vrow.row,cL 1 ([] : List Int) intRow,cI 0,cI 0,cI 0,cI 0,cI 0]),(5,(CV.frzRow (Frame.row x2))),(3,(CV.frzRow (Bridge.row x0)))]⟩ kr ?_
   cases h3 : (!r6)
   ·have H := bifF h3 H
    refine uD tOk 3 0x4000000000f6a 360 kr kr ?_
    obtain ⟨h4,H⟩ | ⟨h4,H⟩ := bC H
    ·refine tF h4 kr ?_
     refine tK ?_
     refine rU tOk 6 kr ?_
     obtain ⟨r7,er7,H⟩ := bind_some H
     refine lV tOk [.rd,.rd,.rd,.rd] [] (spec_Learn n x0.F r5.1 x2.Src x1 r7 er7) kr kr kr kr (.inl rfl) ?_
     refine uD tOk 2 3434 360 kr kr ?_
     refine rU tOk 2 kr ?_
     obtain ⟨r8,er8,H⟩ := bind_some H
     refine lV tOk [.rd] [] (spec_l11One n x0.Vers r8 er8) kr kr kr kr (.inl rfl) ?_
     refine uD tOk 2 3434 360 kr kr ?_
     refine rU tOk 4 kr ?_
     obtain ⟨r9,er9,H⟩ := bind_some H
     refine lV tOk [.rd,.rd] [] (spec_EgressOf n x0.V r5.1 r9 er9) kr kr kr kr (.inl rfl) ?_
     refine lU tOk 3 kr ?_
     obtain ⟨hg10,H⟩ := guard_some H
     refine LAt.binC tOk (op := .shl) (t := 3) (ty := 124) (ty' := 3) (x := (.const (.int .i64 1))) (y := (.tmp 76)) (d := 77) (g := none) (.int .i64 1) (.int .u64 (IntKind.wrap .u64 x1)) (.int .i64 (IntKind.wrap .i64 (1 * 2 ^ min (((IntKind.wrap .u64 x1) : Int)).toNat (IntKind.bits .i64)))) _ kr kr kr kr kr (φ := (0 : Int) ≤ (IntKind.wrap .u64 x1)) kr (of_decide_eq_true hg10) rfl ?_
     refine uD tOk 2 10600 360 kr kr ?_
     refine tG tOk 1 26984 360 kr kr ?_
     refine tS ?_
     refine Tr.mid (ι := Int) (fun v => ⟨101,0,[sI 14 v,sI 13 (IntKind.wrap .i64 (BitVec.ofInt (IntKind.bits .i64) (IntKind.wrap .i64 (BitVec.ofInt (IntKind.bits .i64) r4 &&& BitVec.ofInt (IntKind.bits .i64) r9).toNat) &&& ~~~BitVec.ofInt (IntKind.bits .i64) (IntKind.wrap .i64 (1 * 2 ^ min (((IntKind.wrap .u64 x1) : Int)).toNat (IntKind.bits .i64)))).toNat),sI 11 r5.1,sA 8 8 11 0,sA 6 6 11 0,sA 5 5 4 0,sA 3 3 11 0],[(8,[cI r1.Id,cS r1.Name,cL 8 r1.Ports Pt.row,cL 5 r7 Fent.row,cL 3 r1.V.Rows Vrow.row,cL 1 r1.V.Pvid intRow,cI r1.Ticks,cI r1.Parse,cI r1.Word,cI r1.Drops,cI r8]),(6,[cI 0,cS (⟨#[]⟩ : ByteArray),cL 8 ([] : List Pt) Pt.row,cL 5 ([] : List Fent) Fent.row,cL 3 ([] : List Vrow) Vrow.row,cL 1 ([] : List Int) intRow,cI 0,cI 0,cI 0,cI 0,cI 0]),(5,(CV.frzRow (Frame.row x2))),(3,(CV.frzRow (Bridge.row x0)))]⟩) (fun v => spec_Forward_J1 n r1 r4 r5 r7 r8 r9 x0 x1 x2 v = some r) ?_ ?_
     ·refine tG tOk 3 0x200000000000000006968 360 kr kr ?_
      refine tO ⟨101,0,[sB 81 (x2.Dst != 0),sI 14 (-1),sI 13 (IntKind.wrap .i64 (BitVec.ofInt (IntKind.bits .i64) (IntKind.wrap .i64 (BitVec.ofInt (IntKind.bits .i64) r4 &&& BitVec.ofInt (IntKind.bits .i64) r9).toNat) &&& ~~~BitVec.ofInt (IntKind.bits .i64) (IntKind.wrap .i64 (1 * 2 ^ min (((IntKind.wrap .u64 x1) : Int)).toNat (IntKind.bits .i64)))).toNat),sI 11 r5.1,sA 8 8 11 0,sA 6 6 11 0,sA 5 5 4 0,sA 3 3 11 0],[(8,[cI r1.Id,cS r1.Name,cL 8 r1.Ports Pt.row,cL 5 r7 Fent.row,cL 3 r1.V.Rows Vrow.row,cL 1 r1.V.Pvid intRow,cI r1.Ticks,cI r1.Parse,cI r1.Word,cI r1.Drops,cI r8]),(6,[cI 0,cS (⟨#[]⟩ : ByteArray),cL 8 ([] : List Pt) Pt.row,cL 5 ([] : List Fent) Fent.row,cL 3 ([] : List Vrow) Vrow.row,cL 1 ([] : List Int) intRow,cI 0,cI 0,cI 0,cI 0,cI 0]),(5,(CV.frzRow (Frame.row x2))),(3,(CV.frzRow (Bridge.row x0)))]⟩ kr ?_
      cases h6 : (x2.Dst != 0)
      ·have H := bifF h6 H
       refine tf kr ?_
       refine tK ?_
       exact jn (-1) H (sB_ [14,13,11,8,6,5,3] [8,6,5,3] kr)
      have H := bifT h6 H
      refine tt kr ?_
      refine Tr.at ?_
      refine lU tOk 5 kr ?_
      obtain ⟨r15,er15,H⟩ := bind_some H
      refine lV tOk [.rd,.rd,.rd] [.box 8] (spec_LookUp n r7 r5.1 x2.Dst r15 er15) kr kr kr kr (.inr (rets_cons (mine_cons mine_lit mine_nil) rets_nil)) ?_
      refine uD tOk 1 26984 360 kr kr ?_
      exact jn r15 H (sB_ [14,13,11,8,6,5,3] [8,6,5,3] kr)
     rintro y11 H
     have H : (spec_Forward_J1 n r1 r4 r5 r7 r8 r9 x0 x1 x2 y11) = some r := H
     unfold spec_Forward_J1 at H
     refine tS ?_
     refine tG tOk 2 0x20000000000000000006968 360 kr kr ?_
     obtain ⟨h5,H⟩ | ⟨h5,H⟩ := bC H
     ·refine tF h5 kr ?_
      refine tK ?_
      obtain ⟨r12,er12,H⟩ := bind_some H
      refine Tr.draws mixed 8 kr ⟨101,0,[sC 7 (cL 5 r12 Out.row),sA 6 6 11 0],[(6,[cI r1.Id,cS r1.Name,cL 8 r1.Ports Pt.row,cL 5 r7 Fent.row,cL 3 r1.V.Rows Vrow.row,cL 1 r1.V.Pvid intRow,cI r1.Ticks,cI r1.Parse,cI r1.Word,cI r1.Drops,cI r8])]⟩ (fun cx => ?_) ?_
      ·refine aU tOk [(0,[6]),(1,[5,6]),(2,[]),(3,[]),(4,[5,6])] 3 [⟨[5,6],46,5,99⟩,⟨[5,6],41,3,96⟩,⟨[6],41,8,95⟩] [4,3,2,1,0] rfl kr (fun cx => ?_)
       refine AT.big1 tOk 5 kr kr ?_
       refine lV tOk [.rd,.rd,.rd,.rd] [] (spec_l12Outs n x0 r5.1 (IntKind.wrap .i64 (BitVec.ofInt (IntKind.bits .i64) (IntKind.wrap .i64 (BitVec.ofInt (IntKind.bits .i64) r4 &&& BitVec.ofInt (IntKind.bits .i64) r9).toNat) &&& ~~~BitVec.ofInt (IntKind.bits .i64) (IntKind.wrap .i64 (1 * 2 ^ min (((IntKind.wrap .u64 x1) : Int)).toNat (IntKind.bits .i64)))).toNat) x2 r12 er12) kr kr kr kr (.inl rfl) ?_
       refine lF kr kr kr ?_
       refine AT.big1 tOk 6 kr kr ?_
       refine lU tOk 1 kr ?_
       refine lF kr kr kr ?_
       refine AT.big1 tOk 7 kr kr ?_
       refine LAt.moveU (T := lk tab) (ty := 42) (x := (.tmp 100)) (d := 7) (g := none) false [cL 5 r12 Out.row] kr kr kr kr kr ?_
       refine lF kr kr kr ?_
       exact AT.done [7,6] [6] _ kr kr rfl
      exact te (by obtain rfl := si H; exact fO [(true,[cI r1.Id,cS r1.Name,cL 8 r1.Ports Pt.row,cL 5 r7 Fent.row,cL 3 r1.V.Rows Vrow.row,cL 1 r1.V.Pvid intRow,cI r1.Ticks,cI r1.Parse,cI r1.Word,cI r1.Drops,cI r8]),(false,[cL 5 r12 Out.row])] kr rfl rfl)
     refine tT h5 kr ?_
     refine Tr.at ?_
     refine lU tOk 3 kr ?_
     obtain ⟨hg13,H⟩ := guard_some H
     refine LAt.binC tOk (op := .shl) (t := 3) (ty := 124) (ty' := 3) (x := (.const (.int .i64 1))) (y := (.tmp 92)) (d := 93) (g := none) (.int .i64 1) (.int .u64 (IntKind.wrap .u64 y11)) (.int .i64 (IntKind.wrap .i64 (1 * 2 ^ min (((IntKind.wrap .u64 y11) : Int)).toNat (IntKind.bits .i64)))) _ kr kr kr kr kr (φ := (0 : Int) ≤ (IntKind.wrap .u64 y11)) kr (of_decide_eq_true hg13) rfl ?_
     refine uD tOk 2 10600 360 kr kr ?_
     obtain ⟨r14,er14,H⟩ := bind_some H
     refine Tr.draws mixed 8 kr ⟨101,0,[sC 7 (cL 5 r14 Out.row),sA 6 6 11 0],[(6,[cI r1.Id,cS r1.Name,cL 8 r1.Ports Pt.row,cL 5 r7 Fent.row,cL 3 r1.V.Rows Vrow.row,cL 1 r1.V.Pvid intRow,cI r1.Ticks,cI r1.Parse,cI r1.Word,cI r1.Drops,cI r8])]⟩ (fun cx => ?_) ?_
     ·refine aU tOk [(0,[6]),(1,[5,6]),(2,[]),(3,[]),(4,[5,6])] 3 [⟨[5,6],46,5,99⟩,⟨[5,6],41,3,96⟩,⟨[6],41,8,95⟩] [4,3,2,1,0] rfl kr (fun cx => ?_)
      refine AT.big1 tOk 5 kr kr ?_
      refine lV tOk [.rd,.rd,.rd,.rd] [] (spec_l12Outs n x0 r5.1 (IntKind.wrap .i64 (BitVec.ofInt (IntKind.bits .i64) (IntKind.wrap .i64 (BitVec.ofInt (IntKind.bits .i64) (IntKind.wrap .i64 (BitVec.ofInt (IntKind.bits .i64) r4 &&& BitVec.ofInt (IntKind.bits .i64) r9).toNat) &&& ~~~BitVec.ofInt (IntKind.bits .i64) (IntKind.wrap .i64 (1 * 2 ^ min (((IntKind.wrap .u64 x1) : Int)).toNat (IntKind.bits .i64)))).toNat) &&& BitVec.ofInt (IntKind.bits .i64) (IntKind.wrap .i64 (1 * 2 ^ min (((IntKind.wrap .u64 y11) : Int)).toNat (IntKind.bits .i64)))).toNat) x2 r14 er14) kr kr kr kr (.inl rfl) ?_
      refine lF kr kr kr ?_
      refine AT.big1 tOk 6 kr kr ?_
      refine lU tOk 1 kr ?_
      refine lF kr kr kr ?_
      refine AT.big1 tOk 7 kr kr ?_
      refine LAt.moveU (T := lk tab) (ty := 42) (x := (.tmp 100)) (d := 7) (g := none) false [cL 5 r14 Out.row] kr kr kr kr kr ?_
      refine lF kr kr kr ?_
      exact AT.done [7,6] [6] _ kr kr rfl
     exact te (by obtain rfl := si H; exact fO [(true,[cI r1.Id,cS r1.Name,cL 8 r1.Ports Pt.row,cL 5 r7 Fent.row,cL 3 r1.V.Rows Vrow.row,cL 1 r1.V.Pvid intRow,cI r1.Ticks,cI r1.Parse,cI r1.Word,cI r1.Drops,cI r8]),(false,[cL 5 r14 Out.row])] kr rfl rfl)
    refine tT h4 kr ?_
    refine rU tOk 2 kr ?_
    obtain ⟨r16,er16,H⟩ := bind_some H
    refine lV tOk [.rd] [] (spec_l11One n x0.Drops r16 er16) kr kr kr kr (.inl rfl) ?_
    refine uD tOk 2 832 320 kr kr ?_
    refine tG tOk 4 704 64 kr kr ?_
    exact te (by obtain rfl := si H; exact fO [(true,[cI r1.Id,cS r1.Name,cL 8 r1.Ports Pt.row,cL 5 r1.F Fent.row,cL 3 r1.V.Rows Vrow.row,cL 1 r1.V.Pvid intRow,cI r1.Ticks,cI r1.Parse,cI r1.Word,cI r16,cI r1.Vers]),(false,[cL 5 ([] : List Out) Out.row])] kr rfl rfl)
   have H := bifT h3 H
   refine uD tOk 3 0x4000000000f6a 360 kr kr ?_
   refine tt kr ?_
   refine rU tOk 2 kr ?_
   obtain ⟨r17,er17,H⟩ := bind_some H
   refine lV tOk [.rd] [] (spec_l11One n x0.Drops r17 er17) kr kr kr kr (.inl rfl) ?_
   refine uD tOk 2 832 320 kr kr ?_
   refine tG tOk 4 704 64 kr kr ?_
   exact te (by obtain rfl := si H; exact fO [(true,[cI r1.Id,cS r1.Name,cL 8 r1.Ports Pt.row,cL 5 r1.F Fent.row,cL 3 r1.V.Rows Vrow.row,cL 1 r1.V.Pvid intRow,cI r1.Ticks,cI r1.Parse,cI r1.Word,cI r17,cI r1.Vers]),(false,[cL 5 ([] : List Out) Out.row])] kr rfl rfl)
  refine tT h2 kr ?_
  refine tG tOk 4 704 64 kr kr ?_
  exact te (by obtain rfl := si H; exact fO [(true,(Bridge.row r1)),(false,[cL 5 ([] : List Out) Out.row])] kr rfl rfl)
 have H := bifT h1 H
 refine uD tOk 4 67109738 360 kr kr ?_
 refine tt kr ?_
 refine tG tOk 4 704 64 kr kr ?_
 exact te (by obtain rfl := si H; exact fO [(true,(Bridge.row r1)),(false,[cL 5 ([] : List Out) Out.row])] kr rfl rfl)
def impl_copyFdbF (n : Nat) (x0 : (List Fent)) : Option ((List Fent)) :=
  (bif (decide (([] : List Fent).length + x0.length ≤ 268435456)) then (some (([] : List Fent) ++ x0)) else none)
noncomputable abbrev G181 (k : Nat) := Rg Tryz.f181 k
theorem impl_copyFdb (n : Nat) (x0 : (List Fent)) (r : (List Fent)) (H : impl_copyFdbF n x0 = some r) : LCall Tryz.prog 181 [.val false [.sl false 5 (CV.frzEs (x0.map Fent.row))]] [.val false [.sl true 5 (r.map Fent.row)]] [] := by
 refine LCall.of_body tOk Tryz.func181 rfl (c := (.seq (G181 0) (.seq (G181 1) .ret))) kr (Nat.le_of_ble_eq_true kr) 0 (rs := [.tmp 2]) rfl [] .nil [(false,[.sl true 5 (r.map Fent.row)])] [] [] fun cx => ?_
 show Tr _ _ _ ⟨5,0,[sC 0 (cF 5 x0 Fent.row)],[]⟩ _
 unfold impl_copyFdbF at H
 refine tG tOk 1 1 0 kr kr ?_
 refine rU tOk 1 kr ?_
 obtain ⟨hg1,H⟩ := guard_some H
 refine LAt.appCU tOk (t := 36) (ty := 36) (e := 169) (x := (.const (.slice none 0 0))) (y := (.tmp 3)) (d := 4) (g := none) (tI 169) Fent.row ([] : List Fent) x0 ⟨(.slot 3),[],0,false,5,(CV.frzEs (x0.map Fent.row))⟩ kr kr kr kr kr kr kr kr kr kr kr (.inr rfl) (fun _ => rfl) (fun _ => rfl) hg1 ?_
 refine LAt.moveU (T := lk tab) (ty := 36) (x := (.tmp 4)) (d := 2) (g := none) false [cL 5 (([] : List Fent) ++ x0) Fent.row] kr kr kr kr kr ?_
 refine lD 4 0 kr ?_
 exact te (by obtain rfl := si H; exact fO [(false,[cL 5 (([] : List Fent) ++ x0) Fent.row])] kr rfl rfl)
def impl_copyIntsF (n : Nat) (x0 : (List Int)) : Option ((List Int)) :=
  (bif (decide (([] : List Int).length + x0.length ≤ 268435456)) then (some (([] : List Int) ++ x0)) else none)
noncomputable abbrev G236 (k : Nat) := Rg Tryz.f236 k
theorem impl_copyInts (n : Nat) (x0 : (List Int)) (r : (List Int)) (H : impl_copyIntsF n x0 = some r) : LCall Tryz.prog 236 [.val false [.sl false 1 (CV.frzEs (x0.map intRow))]] [.val false [.sl true 1 (r.map intRow)]] [] := by
 refine LCall.of_body tOk Tryz.func236 rfl (c := (.seq (G236 0) (.seq (G236 1) .ret))) kr (Nat.le_of_ble_eq_true kr) 0 (rs := [.tmp 2]) rfl [] .nil [(false,[.sl true 1 (r.map intRow)])] [] [] fun cx => ?_
 show Tr _ _ _ ⟨5,0,[sC 0 (cF 1 x0 intRow)],[]⟩ _
 unfold impl_copyIntsF at H
 refine tG tOk 1 1 0 kr kr ?_
 refine rU tOk 1 kr ?_
 obtain ⟨hg1,H⟩ := guard_some H
 refine LAt.appCU tOk (t := 25) (ty := 25) (e := 3) (x := (.const (.slice none 0 0))) (y := (.tmp 3)) (d := 4) (g := none) (tI 3) intRow ([] : List Int) x0 ⟨(.slot 3),[],0,false,1,(CV.frzEs (x0.map intRow))⟩ kr kr kr kr kr kr kr kr kr kr kr (.inr rfl) (fun _ => rfl) (fun _ => rfl) hg1 ?_
 refine LAt.moveU (T := lk tab) (ty := 25) (x := (.tmp 4)) (d := 2) (g := none) false [cL 1 (([] : List Int) ++ x0) intRow] kr kr kr kr kr ?_
 refine lD 4 0 kr ?_
 exact te (by obtain rfl := si H; exact fO [(false,[cL 1 (([] : List Int) ++ x0) intRow])] kr rfl rfl)
def impl_copyVtabF (n : Nat) (x0 : Vtab) : Option (Vtab) :=
  (bif (decide (([] : List Vrow).length + x0.Rows.length ≤ 268435456)) then ((impl_copyIntsF n x0.Pvid).bind fun r2 => (some (⟨(([] : List Vrow) ++ x0.Rows),r2⟩ : Vtab))) else none)
noncomputable abbrev G182 (k : Nat) := Rg Tryz.f182 k
noncomputable abbrev D182 (k : Nat) := Rd Tryz.f182 k
theorem impl_copyVtab (n : Nat) (x0 : Vtab) (r : Vtab) (H : impl_copyVtabF n x0 = some r) : LCall Tryz.prog 182 [.val true (CV.frzRow (Vtab.row x0))] [.val true (Vtab.row r)] [] := by
 refine LCall.of_body tOk Tryz.func182 rfl (c := (.seq (G182 0) (.seq (D182 1) .ret))) kr (Nat.le_of_ble_eq_true kr) 0 (rs := [.cell 2 39]) rfl [] .nil [(true,(Vtab.row r))] [] [] fun cx => ?_
 show Tr _ _ _ ⟨10,0,[sV 0 (CV.frzRow (Vtab.row x0))],[]⟩ _
 unfold impl_copyVtabF at H
 refine tG tOk 2 6 6 kr kr ?_
 obtain ⟨hg1,H⟩ := guard_some H
 obtain ⟨r2,er2,H⟩ := bind_some H
 refine Tr.draws mixed 8 kr ⟨10,0,[sA 2 2 2 0],[(2,[cL 3 (([] : List Vrow) ++ x0.Rows) Vrow.row,cL 1 r2 intRow])]⟩ (fun cx => ?_) ?_
 ·refine aU tOk [(0,[]),(1,[2,5,6,7]),(3,[]),(4,[5,6,7])] 4 [⟨[5,6,7],25,6,7⟩,⟨[2,5,6,7],37,3,4⟩] [4,3,1,0] rfl kr (fun cx => ?_)
  refine AT.big1 tOk 2 kr kr ?_
  refine LAt.appCU tOk (t := 37) (ty := 37) (e := 175) (x := (.const (.slice none 0 0))) (y := (.tmp 4)) (d := 5) (g := none) (tI 175) Vrow.row ([] : List Vrow) x0.Rows ⟨(.box 1),[(0,0)],0,false,3,(CV.frzEs (x0.Rows.map Vrow.row))⟩ kr kr kr kr kr kr kr kr kr kr kr (.inr rfl) (fun _ => rfl) (fun _ => rfl) hg1 ?_
  refine lF kr kr kr ?_
  refine AT.big1 tOk 5 kr kr ?_
  refine lV tOk [.rd] [] (impl_copyInts n x0.Pvid r2 er2) kr kr kr kr (.inl rfl) ?_
  refine lF kr kr kr ?_
  refine AT.big1 tOk 6 kr kr ?_
  refine lU tOk 1 kr ?_
  refine lF kr kr kr ?_
  refine AT.big1 tOk 7 kr kr ?_
  refine lU tOk 1 kr ?_
  refine lF kr kr kr ?_
  exact AT.done [2] [2] _ kr kr rfl
 exact te (by obtain rfl := si H; exact fO [(true,[cL 3 (([] : List Vrow) ++ x0.Rows) Vrow.row,cL 1 r2 intRow])] kr rfl rfl)
def impl_copyBridgeF (n : Nat) (x0 : Bridge) : Option (Bridge) :=
  (bif (decide (([] : List Pt).length + x0.Ports.length ≤ 268435456)) then ((impl_copyFdbF n x0.F).bind fun r2 => ((impl_copyVtabF n x0.V).bind fun r3 => (some (⟨x0.Id,x0.Name,(([] : List Pt) ++ x0.Ports),r2,r3,x0.Ticks,x0.Parse,x0.Word,x0.Drops,x0.Vers⟩ : Bridge)))) else none)
noncomputable abbrev G83 (k : Nat) := Rg Tryz.f83 k
noncomputable abbrev D83 (k : Nat) := Rd Tryz.f83 k
theorem impl_copyBridge (n : Nat) (x0 : Bridge) (r : Bridge) (H : impl_copyBridgeF n x0 = some r) : LCall Tryz.prog 83 [.val true (CV.frzRow (Bridge.row x0))] [.val true (Bridge.row r)] [] := by
 refine LCall.of_body tOk Tryz.func83 rfl (c := (.seq (G83 0) (.seq (G83 1) (.seq (D83 2) (.seq (G83 3) .ret))))) kr (Nat.le_of_ble_eq_true kr) 0 (rs := [.cell 2 41]) rfl [] .nil [(true,(Bridge.row r))] [] [] fun cx => ?_
 show Tr _ _ _ ⟨16,0,[sV 0 (CV.frzRow (Bridge.row x0))],[]⟩ _
 unfold impl_copyBridgeF at H
 refine tG tOk 2 6 6 kr kr ?_
 refine rU tOk 2 kr ?_
 obtain ⟨hg1,H⟩ := guard_some H
 refine LAt.appCU tOk (t := 35) (ty := 35) (e := 167) (x := (.const (.slice none 0 0))) (y := (.tmp 4)) (d := 5) (g := none) (tI 167) Pt.row ([] : List Pt) x0.Ports ⟨(.slot 4),[],0,false,8,(CV.frzEs (x0.Ports.map Pt.row))⟩ kr kr kr kr kr kr kr kr kr kr kr (.inr rfl) (fun _ => rfl) (fun _ => rfl) hg1 ?_
 refine uD tOk 2 6 6 kr kr ?_
 obtain ⟨r2,er2,H⟩ := bind_some H
 obtain ⟨r3,er3,H⟩ := bind_some H
 refine Tr.draws mixed 10 kr ⟨16,0,[sA 2 2 11 0,sA 1 1 11 0],[(1,[cI x0.Id,cS x0.Name,cL 8 (([] : List Pt) ++ x0.Ports) Pt.row,cL 5 r2 Fent.row,cL 3 r3.Rows Vrow.row,cL 1 r3.Pvid intRow,cI x0.Ticks,cI x0.Parse,cI x0.Word,cI x0.Drops,cI x0.Vers]),(2,[cI 0,cS (⟨#[]⟩ : ByteArray),cL 8 ([] : List Pt) Pt.row,cL 5 ([] : List Fent) Fent.row,cL 3 ([] : List Vrow) Vrow.row,cL 1 ([] : List Int) intRow,cI 0,cI 0,cI 0,cI 0,cI 0])]⟩ (fun cx => ?_) ?_
 ·refine aU tOk [(0,[]),(1,[2,5,7,9]),(3,[]),(4,[5,7,9])] 6 [⟨[5,7,9],39,10,11⟩,⟨[2,5,7,9],36,7,8⟩] [4,3,1,0] rfl kr (fun cx => ?_)
  refine AT.big1 tOk 2 kr kr ?_
  refine lV tOk [.rd] [] (impl_copyFdb n x0.F r2 er2) kr kr kr kr (.inl rfl) ?_
  refine lF kr kr kr ?_
  refine aU tOk [(6,[])] 4 [⟨[5,7,9],39,10,11⟩,⟨[2,5,7,9],36,7,8⟩] [6,2,4,3,1,0] rfl kr (fun cx => ?_)
  refine AT.big1 tOk 5 kr kr ?_
  refine lV tOk [.rd] [] (impl_copyVtab n x0.V r3 er3) kr kr kr kr (.inl rfl) ?_
  refine lF kr kr kr ?_
  refine AT.big1 tOk 7 kr kr ?_
  refine lU tOk 1 kr ?_
  refine lF kr kr kr ?_
  refine aU tOk [(8,[])] 1 [⟨[5,7,9],39,10,11⟩,⟨[2,5,7,9],36,7,8⟩] [8,7,5,6,2,4,3,1,0] rfl kr (fun cx => ?_)
  refine AT.big1 tOk 9 kr kr ?_
  refine lU tOk 1 kr ?_
  refine lF kr kr kr ?_
  exact AT.done [2,1] [1,2] _ kr kr rfl
 refine tG tOk 2 4 4 kr kr ?_
 exact te (by obtain rfl := si H; exact fO [(true,[cI x0.Id,cS x0.Name,cL 8 (([] : List Pt) ++ x0.Ports) Pt.row,cL 5 r2 Fent.row,cL 3 r3.Rows Vrow.row,cL 1 r3.Pvid intRow,cI x0.Ticks,cI x0.Parse,cI x0.Word,cI x0.Drops,cI x0.Vers])] kr rfl rfl)
def impl_inF (n : Nat) (x0 : Int) (x1 : Int) (x2 : Int) : Option (Bool) :=
  (bif (decide (x0 ≥ x1)) then (some (decide (x0 ≤ x2))) else (some false))
noncomputable abbrev G116 (k : Nat) := Rg Tryz.f116 k
theorem impl_in (n : Nat) (x0 : Int) (x1 : Int) (x2 : Int) (r : Bool) (H : impl_inF n x0 x1 x2 = some r) : LCall Tryz.prog 116 [.val false [.lit (.int .i64 x0)],.val false [.lit (.int .i64 x1)],.val false [.lit (.int .i64 x2)]] [.val false [.lit (.bool r)]] [] := by
 refine LCall.of_body tOk Tryz.func116 rfl (c := (.seq (G116 0) (.seq (G116 1) .ret))) kr (Nat.le_of_ble_eq_true kr) 0 (rs := [.tmp 6]) rfl [] .nil [(false,[.lit (.bool r)])] [] [] fun cx => ?_
 show Tr _ _ _ ⟨15,0,[sI 0 x0,sI 1 x1,sI 2 x2],[]⟩ _
 unfold impl_inF at H
 refine tG tOk 1 7 0 kr kr ?_
 refine rU tOk 4 kr ?_
 refine lT ⟨15,0,[sB 10 (decide (x0 ≥ x1)),sB 9 (decide (x0 ≥ x1)),sI 8 x1,sI 7 x0,sI 0 x0,sI 1 x1,sI 2 x2],[]⟩ kr ?_
 cases h1 : (decide (x0 ≥ x1))
 ·have H := bifF h1 H
  refine uD tOk 5 64 0 kr kr ?_
  exact te (by obtain rfl := si H; exact fO [(false,[cB false])] kr rfl rfl)
 have H := bifT h1 H
 refine uD tOk 5 64 0 kr kr ?_
 exact te (by obtain rfl := si H; exact fO [(false,[cB (decide (x0 ≤ x2))])] kr rfl rfl)
def impl_VecOkF (n : Nat) (x0 : Vec) : Option (Bool) :=
  ((impl_inF n x0.Root 1 99).bind fun r1 => (bif r1 then ((impl_inF n x0.Cost 0 100000).bind fun r2 => (bif r2 then ((impl_inF n x0.Hops 0 10).bind fun r3 => (bif r3 then ((impl_inF n x0.Bridge 1 99).bind fun r4 => (bif r4 then ((impl_inF n x0.Port 0 7).bind fun r5 => (some r5)) else (some false))) else (some false))) else (some false))) else (some false)))
noncomputable abbrev G149 (k : Nat) := Rg Tryz.f149 k
theorem impl_VecOk (n : Nat) (x0 : Vec) (r : Bool) (H : impl_VecOkF n x0 = some r) : LCall Tryz.prog 149 [.val true (CV.frzRow (Vec.row x0))] [.val false [.lit (.bool r)]] [] := by
 refine LCall.of_body tOk Tryz.func149 rfl (c := (.seq (G149 0) (.seq (G149 1) .ret))) kr (Nat.le_of_ble_eq_true kr) 0 (rs := [.tmp 2]) rfl [] .nil [(false,[.lit (.bool r)])] [] [] fun cx => ?_
 show Tr _ _ _ ⟨26,0,[sV 0 (Vec.row x0)],[]⟩ _
 unfold impl_VecOkF at H
 refine tG tOk 2 2 2 kr kr ?_
 refine rU tOk 2 kr ?_
 obtain ⟨r1,er1,H⟩ := bind_some H
 refine lV tOk [.rd,.rd,.rd] [] (impl_in n x0.Root 1 99 r1 er1) kr kr kr kr (.inl rfl) ?_
 refine lU tOk 1 kr ?_
 refine lT ⟨26,0,[sB 6 r1,sB 5 r1,sI 4 x0.Root,sA 3 1 5 0,sA 1 1 5 0],[(1,(Vec.row x0))]⟩ kr ?_
 cases h1 : r1
 ·have H := bifF h1 H
  refine uD tOk 20 4 0 kr kr ?_
  exact te (by obtain rfl := si H; exact fO [(false,[cB false])] kr rfl rfl)
 have H := bifT h1 H
 refine lU tOk 2 kr ?_
 obtain ⟨r2,er2,H⟩ := bind_some H
 refine lV tOk [.rd,.rd,.rd] [] (impl_in n x0.Cost 0 100000 r2 er2) kr kr kr kr (.inl rfl) ?_
 refine lU tOk 2 kr ?_
 refine lT ⟨26,0,[sB 11 r2,sB 10 r2,sB 9 r2,sI 8 x0.Cost,sA 7 1 5 1,sB 6 true,sB 5 true,sI 4 x0.Root,sA 3 1 5 0,sA 1 1 5 0],[(1,(Vec.row x0))]⟩ kr ?_
 cases h2 : r2
 ·have H := bifF h2 H
  refine uD tOk 15 4 0 kr kr ?_
  exact te (by obtain rfl := si H; exact fO [(false,[cB false])] kr rfl rfl)
 have H := bifT h2 H
 refine lU tOk 2 kr ?_
 obtain ⟨r3,er3,H⟩ := bind_some H
 refine lV tOk [.rd,.rd,.rd] [] (impl_in n x0.Hops 0 10 r3 er3) kr kr kr kr (.inl rfl) ?_
 refine lU tOk 2 kr ?_
 refine lT ⟨26,0,[sB 16 r3,sB 15 r3,sB 14 r3,sI 13 x0.Hops,sA 12 1 5 2,sB 11 true,sB 10 true,sB 9 true,sI 8 x0.Cost,sA 7 1 5 1,sB 6 true,sB 5 true,sI 4 x0.Root,sA 3 1 5 0,sA 1 1 5 0],[(1,(Vec.row x0))]⟩ kr ?_
 cases h3 : r3
 ·have H := bifF h3 H
  refine uD tOk 10 4 0 kr kr ?_
  exact te (by obtain rfl := si H; exact fO [(false,[cB false])] kr rfl rfl)
 have H := bifT h3 H
 refine lU tOk 2 kr ?_
 obtain ⟨r4,er4,H⟩ := bind_some H
 refine lV tOk [.rd,.rd,.rd] [] (impl_in n x0.Bridge 1 99 r4 er4) kr kr kr kr (.inl rfl) ?_
 refine lU tOk 2 kr ?_
 refine lT ⟨26,0,[sB 21 r4,sB 20 r4,sB 19 r4,sI 18 x0.Bridge,sA 17 1 5 3,sB 16 true,sB 15 true,sB 14 true,sI 13 x0.Hops,sA 12 1 5 2,sB 11 true,sB 10 true,sB 9 true,sI 8 x0.Cost,sA 7 1 5 1,sB 6 true,sB 5 true,sI 4 x0.Root,sA 3 1 5 0,sA 1 1 5 0],[(1,(Vec.row x0))]⟩ kr ?_
 cases h4 : r4
 ·have H := bifF h4 H
  refine uD tOk 5 4 0 kr kr ?_
  exact te (by obtain rfl := si H; exact fO [(false,[cB false])] kr rfl rfl)
 have H := bifT h4 H
 refine lU tOk 2 kr ?_
 obtain ⟨r5,er5,H⟩ := bind_some H
 refine lV tOk [.rd,.rd,.rd] [] (impl_in n x0.Port 0 7 r5 er5) kr kr kr kr (.inl rfl) ?_
 refine uD tOk 2 4 0 kr kr ?_
 exact te (by obtain rfl := si H; exact fO [(false,[cB r5])] kr rfl rfl)
def impl_PtOkF (n : Nat) (x0 : Pt) : Option (Bool) :=
  ((impl_inF n x0.Cost 1 1000).bind fun r1 => (bif (!r1) then (some false) else (bif x0.Has then (bif (!x0.Up) then (some false) else ((impl_VecOkF n x0.Heard).bind fun r2 => (some r2))) else (some ((x0.Heard.Root == 0) && ((x0.Heard.Cost == 0) && ((x0.Heard.Hops == 0) && ((x0.Heard.Bridge == 0) && ((x0.Heard.Port == 0) && true)))))))))
noncomputable abbrev G138 (k : Nat) := Rg Tryz.f138 k
theorem impl_PtOk (n : Nat) (x0 : Pt) (r : Bool) (H : impl_PtOkF n x0 = some r) : LCall Tryz.prog 138 [.val true (CV.frzRow (Pt.row x0))] [.val false [.lit (.bool r)]] [] := by
 refine LCall.of_body tOk Tryz.func138 rfl (c := (.seq (G138 0) (.seq (.seq (G138 1) (.cond (.tmp 15) (.seq (G138 2) .ret) .skip)) (.seq (.seq (G138 3) (.cond (.tmp 17) (.seq (G138 4) .ret) .skip)) (.seq (G138 5) .ret))))) kr (Nat.le_of_ble_eq_true kr) 0 (rs := [.tmp 2]) rfl [] .nil [(false,[.lit (.bool r)])] [] [] fun cx => ?_
 show Tr _ _ _ ⟨25,0,[sV 0 (Pt.row x0)],[]⟩ _
 unfold impl_PtOkF at H
 refine tG tOk 2 2 2 kr kr ?_
 refine tS ?_
 refine rU tOk 2 kr ?_
 obtain ⟨r1,er1,H⟩ := bind_some H
 refine lV tOk [.rd,.rd,.rd] [] (impl_in n x0.Cost 1 1000 r1 er1) kr kr kr kr (.inl rfl) ?_
 refine lU tOk 2 kr ?_
 refine lT ⟨25,0,[sB 7 (!r1),sB 6 (!r1),sB 5 r1,sI 4 x0.Cost,sA 3 1 8 1,sA 1 1 8 0],[(1,(Pt.row x0))]⟩ kr ?_
 cases h1 : (!r1)
 ·have H := bifF h1 H
  refine lU tOk 3 kr ?_
  refine lT ⟨25,0,[sB 10 x0.Has,sB 9 x0.Has,sA 8 1 8 2,sB 7 false,sB 6 false,sB 5 r1,sI 4 x0.Cost,sA 3 1 8 1,sA 1 1 8 0],[(1,(Pt.row x0))]⟩ kr ?_
  cases h2 : x0.Has
  ·have H := bifF h2 H
   refine uD tOk 5 32770 2 kr kr ?_
   refine tf kr ?_
   refine tK ?_
   refine tS ?_
   refine tG tOk 2 131074 2 kr kr ?_
   refine tO ⟨25,0,[sB 17 x0.Has,sA 1 1 8 0],[(1,(Pt.row x0))]⟩ kr ?_
   rw [h2]
   refine tf kr ?_
   refine tK ?_
   refine rU tOk 3 kr ?_
   refine LAt.eqSG false (t := 165) (ty := 165) (ty' := 4) (x := (.tmp 22)) (y := (.tmp 23)) (d := 24) (g := none) ((x0.Heard.Root == 0) && ((x0.Heard.Cost == 0) && ((x0.Heard.Hops == 0) && ((x0.Heard.Bridge == 0) && ((x0.Heard.Port == 0) && true))))) _ kr kr kr kr rfl ?_
   refine uD tOk 1 4 0 kr kr ?_
   exact te (by obtain rfl := si H; exact fO [(false,[cB ((x0.Heard.Root == 0) && ((x0.Heard.Cost == 0) && ((x0.Heard.Hops == 0) && ((x0.Heard.Bridge == 0) && ((x0.Heard.Port == 0) && true)))))])] kr rfl rfl)
  have H := bifT h2 H
  refine uD tOk 5 32770 2 kr kr ?_
  obtain ⟨h3,H⟩ | ⟨h3,H⟩ := bC H
  ·refine tF h3 kr ?_
   refine tK ?_
   refine tS ?_
   refine tG tOk 2 131074 2 kr kr ?_
   refine tO ⟨25,0,[sB 17 x0.Has,sA 1 1 8 0],[(1,(Pt.row x0))]⟩ kr ?_
   rw [h2]
   refine tt kr ?_
   refine rU tOk 2 kr ?_
   obtain ⟨r2,er2,H⟩ := bind_some H
   refine lV tOk [.rd] [] (impl_VecOk n x0.Heard r2 er2) kr kr kr kr (.inl rfl) ?_
   refine uD tOk 1 4 0 kr kr ?_
   exact te (by obtain rfl := si H; exact fO [(false,[cB r2])] kr rfl rfl)
  refine tT h3 kr ?_
  refine tG tOk 1 4 0 kr kr ?_
  exact te (by obtain rfl := si H; exact fO [(false,[cB false])] kr rfl rfl)
 have H := bifT h1 H
 refine uD tOk 8 32770 2 kr kr ?_
 refine tt kr ?_
 refine tG tOk 1 4 0 kr kr ?_
 exact te (by obtain rfl := si H; exact fO [(false,[cB false])] kr rfl rfl)
def impl_fentOkF (n : Nat) (x0 : Fent) : Option (Bool) :=
  ((impl_inF n x0.Tag 1 99).bind fun r1 => (bif r1 then ((impl_inF n x0.Mac 1 9999).bind fun r2 => (bif r2 then ((impl_inF n x0.Port 0 7).bind fun r3 => (bif r3 then ((impl_inF n x0.Age 0 4).bind fun r4 => (bif r4 then (bif (!x0.Static) then (some true) else (some (x0.Age == 0))) else (some false))) else (some false))) else (some false))) else (some false)))
noncomputable abbrev G183 (k : Nat) := Rg Tryz.f183 k
theorem impl_fentOk (n : Nat) (x0 : Fent) (r : Bool) (H : impl_fentOkF n x0 = some r) : LCall Tryz.prog 183 [.val true (CV.frzRow (Fent.row x0))] [.val false [.lit (.bool r)]] [] := by
 refine LCall.of_body tOk Tryz.func183 rfl (c := (.seq (G183 0) (.seq (G183 1) .ret))) kr (Nat.le_of_ble_eq_true kr) 0 (rs := [.tmp 2]) rfl [] .nil [(false,[.lit (.bool r)])] [] [] fun cx => ?_
 show Tr _ _ _ ⟨31,0,[sV 0 (Fent.row x0)],[]⟩ _
 unfold impl_fentOkF at H
 refine tG tOk 2 2 2 kr kr ?_
 refine rU tOk 2 kr ?_
 obtain ⟨r1,er1,H⟩ := bind_some H
 refine lV tOk [.rd,.rd,.rd] [] (impl_in n x0.Tag 1 99 r1 er1) kr kr kr kr (.inl rfl) ?_
 refine lU tOk 1 kr ?_
 refine lT ⟨31,0,[sB 6 r1,sB 5 r1,sI 4 x0.Tag,sA 3 1 5 0,sA 1 1 5 0],[(1,(Fent.row x0))]⟩ kr ?_
 cases h1 : r1
 ·have H := bifF h1 H
  refine uD tOk 25 4 0 kr kr ?_
  exact te (by obtain rfl := si H; exact fO [(false,[cB false])] kr rfl rfl)
 have H := bifT h1 H
 refine lU tOk 2 kr ?_
 obtain ⟨r2,er2,H⟩ := bind_some H
 refine lV tOk [.rd,.rd,.rd] [] (impl_in n x0.Mac 1 9999 r2 er2) kr kr kr kr (.inl rfl) ?_
 refine lU tOk 2 kr ?_
 refine lT ⟨31,0,[sB 11 r2,sB 10 r2,sB 9 r2,sI 8 x0.Mac,sA 7 1 5 1,sB 6 true,sB 5 true,sI 4 x0.Tag,sA 3 1 5 0,sA 1 1 5 0],[(1,(Fent.row x0))]⟩ kr ?_
 cases h2 : r2
 ·have H := bifF h2 H
  refine uD tOk 20 4 0 kr kr ?_
  exact te (by obtain rfl := si H; exact fO [(false,[cB false])] kr rfl rfl)
 have H := bifT h2 H
 refine lU tOk 2 kr ?_
 obtain ⟨r3,er3,H⟩ := bind_some H
 refine lV tOk [.rd,.rd,.rd] [] (impl_in n x0.Port 0 7 r3 er3) kr kr kr kr (.inl rfl) ?_
 refine lU tOk 2 kr ?_
 refine lT ⟨31,0,[sB 16 r3,sB 15 r3,sB 14 r3,sI 13 x0.Port,sA 12 1 5 2,sB 11 true,sB 10 true,sB 9 true,sI 8 x0.Mac,sA 7 1 5 1,sB 6 true,sB 5 true,sI 4 x0.Tag,sA 3 1 5 0,sA 1 1 5 0],[(1,(Fent.row x0))]⟩ kr ?_
 cases h3 : r3
 ·have H := bifF h3 H
  refine uD tOk 15 4 0 kr kr ?_
  exact te (by obtain rfl := si H; exact fO [(false,[cB false])] kr rfl rfl)
 have H := bifT h3 H
 refine lU tOk 2 kr ?_
 obtain ⟨r4,er4,H⟩ := bind_some H
 refine lV tOk [.rd,.rd,.rd] [] (impl_in n x0.Age 0 4 r4 er4) kr kr kr kr (.inl rfl) ?_
 refine lU tOk 2 kr ?_
 refine lT ⟨31,0,[sB 21 r4,sB 20 r4,sB 19 r4,sI 18 x0.Age,sA 17 1 5 3,sB 16 true,sB 15 true,sB 14 true,sI 13 x0.Port,sA 12 1 5 2,sB 11 true,sB 10 true,sB 9 true,sI 8 x0.Mac,sA 7 1 5 1,sB 6 true,sB 5 true,sI 4 x0.Tag,sA 3 1 5 0,sA 1 1 5 0],[(1,(Fent.row x0))]⟩ kr ?_
 cases h4 : r4
 ·have H := bifF h4 H
  refine uD tOk 10 4 0 kr kr ?_
  exact te (by obtain rfl := si H; exact fO [(false,[cB false])] kr rfl rfl)
 have H := bifT h4 H
 refine lU tOk 4 kr ?_
 refine lT ⟨31,0,[sB 25 (!x0.Static),sB 24 (!x0.Static),sB 23 x0.Static,sA 22 1 5 4,sB 21 true,sB 20 true,sB 19 true,sI 18 x0.Age,sA 17 1 5 3,sB 16 true,sB 15 true,sB 14 true,sI 13 x0.Port,sA 12 1 5 2,sB 11 true,sB 10 true,sB 9 true,sI 8 x0.Mac,sA 7 1 5 1,sB 6 true,sB 5 true,sI 4 x0.Tag,sA 3 1 5 0,sA 1 1 5 0],[(1,(Fent.row x0))]⟩ kr ?_
 cases h5 : (!x0.Static)
 ·have H := bifF h5 H
  refine uD tOk 6 4 0 kr kr ?_
  exact te (by obtain rfl := si H; exact fO [(false,[cB (x0.Age == 0)])] kr rfl rfl)
 have H := bifT h5 H
 refine uD tOk 6 4 0 kr kr ?_
 exact te (by obtain rfl := si H; exact fO [(false,[cB true])] kr rfl rfl)
def impl_behindF (n : Nat) (x0 : Fent) (x1 : Int) (x2 : Int) : Option (Bool) :=
  (bif (decide (x0.Tag > x1)) then (some true) else (bif (x0.Tag == x1) then (some (decide (x0.Mac > x2))) else (some false)))
noncomputable abbrev G215 (k : Nat) := Rg Tryz.f215 k
theorem impl_behind (n : Nat) (x0 : Fent) (x1 : Int) (x2 : Int) (r : Bool) (H : impl_behindF n x0 x1 x2 = some r) : LCall Tryz.prog 215 [.val true (CV.frzRow (Fent.row x0)),.val false [.lit (.int .i64 x1)],.val false [.lit (.int .i64 x2)]] [.val false [.lit (.bool r)]] [] := by
 refine LCall.of_body tOk Tryz.func215 rfl (c := (.seq (G215 0) (.seq (G215 1) .ret))) kr (Nat.le_of_ble_eq_true kr) 0 (rs := [.tmp 6]) rfl [] .nil [(false,[.lit (.bool r)])] [] [] fun cx => ?_
 show Tr _ _ _ ⟨23,0,[sV 0 (Fent.row x0),sI 1 x1,sI 2 x2],[]⟩ _
 unfold impl_behindF at H
 refine tG tOk 2 14 8 kr kr ?_
 refine rU tOk 5 kr ?_
 refine lT ⟨23,0,[sB 11 (decide (x0.Tag > x1)),sB 10 (decide (x0.Tag > x1)),sI 9 x1,sI 8 x0.Tag,sA 7 3 5 0,sA 3 3 5 0,sI 1 x1,sI 2 x2],[(3,(Fent.row x0))]⟩ kr ?_
 cases h1 : (decide (x0.Tag > x1))
 ·have H := bifF h1 H
  refine lU tOk 5 kr ?_
  refine lT ⟨23,0,[sB 16 (x0.Tag == x1),sB 15 (x0.Tag == x1),sI 14 x1,sI 13 x0.Tag,sA 12 3 5 0,sB 11 false,sB 10 false,sI 9 x1,sI 8 x0.Tag,sA 7 3 5 0,sA 3 3 5 0,sI 1 x1,sI 2 x2],[(3,(Fent.row x0))]⟩ kr ?_
  cases h2 : (x0.Tag == x1)
  ·have H := bifF h2 H
   refine uD tOk 7 64 0 kr kr ?_
   exact te (by obtain rfl := si H; exact fO [(false,[cB false])] kr rfl rfl)
  have H := bifT h2 H
  refine uD tOk 7 64 0 kr kr ?_
  exact te (by obtain rfl := si H; exact fO [(false,[cB (decide (x0.Mac > x2))])] kr rfl rfl)
 have H := bifT h1 H
 refine uD tOk 12 64 0 kr kr ?_
 exact te (by obtain rfl := si H; exact fO [(false,[cB true])] kr rfl rfl)
def impl_FdbOk_J1 (n : Nat) (x0 : (List Fent)) : Option (Bool) :=
  (some (decide ((x0.length : Int) ≤ 12)))
def impl_FdbOk_L2 (n : Nat) : Nat → (List Fent) → Int → Option ((Unit) ⊕ (Bool))
  | 0,_,_ => none
  | mo2 + 1,x0,y1 => (bif (decide (y1 < (x0.length : Int))) then ((idx x0 y1).bind fun v3 => ((impl_fentOkF n v3).bind fun r4 => (bif (!r4) then (some (Sum.inr false)) else (bif (decide (y1 > 0)) then ((idx x0 (IntKind.wrap .i64 (y1 - 1))).bind fun v5 => ((idx x0 (IntKind.wrap .i64 (y1 - 1))).bind fun v6 => ((impl_behindF n v3 v5.Tag v6.Mac).bind fun r7 => (bif (!r7) then (some (Sum.inr false)) else (impl_FdbOk_L2 n mo2 x0 (IntKind.wrap .i64 (y1 + 1))))))) else (impl_FdbOk_L2 n mo2 x0 (IntKind.wrap .i64 (y1 + 1))))))) else (some (Sum.inl ())))
def impl_FdbOkF (n : Nat) (x0 : (List Fent)) : Option (Bool) :=
  ((impl_FdbOk_L2 n n x0 0).bind fun o => match o with | .inl _ => (impl_FdbOk_J1 n x0) | .inr r => some r)
noncomputable abbrev G139 (k : Nat) := Rg Tryz.f139 k
noncomputable abbrev D139 (k : Nat) := Rd Tryz.f139 k
theorem impl_FdbOk (n : Nat) (x0 : (List Fent)) (r : Bool) (H : impl_FdbOkF n x0 = some r) : LCall Tryz.prog 139 [.val false [.sl false 5 (CV.frzEs (x0.map Fent.row))]] [.val false [.lit (.bool r)]] [] := by
 refine LCall.of_body tOk Tryz.func139 rfl (c := (.seq (G139 0) (.seq (.seq (G139 1) (.block 0 (.loop (.seq (G139 2) (.seq (.cond (.tmp 8) .skip (.exit 0)) (.seq (.block 1 (.seq (G139 3) (.seq (D139 4) (.cond (.tmp 35) (.seq (G139 5) .ret) .skip)))) (G139 6))))))) (.seq (G139 7) .ret)))) kr (Nat.le_of_ble_eq_true kr) 0 (rs := [.tmp 2]) rfl [] .nil [(false,[.lit (.bool r)])] [] [] fun cx => ?_
 show Tr _ _ _ ⟨40,0,[sC 0 (cF 5 x0 Fent.row)],[]⟩ _
 unfold impl_FdbOkF at H
 refine tG tOk 1 1 0 kr kr ?_
 refine tS ?_
 refine rU tOk 1 kr ?_
 refine lL tOk 36 3 169 5 6 none ⟨(.slot 5),[],0,false,5,(CV.frzEs (x0.map Fent.row))⟩ (x0).length _ kr kr kr kr kr (frz_len _ _) rfl ?_
 refine uD tOk 1 225 0 kr kr ?_
 obtain ⟨o2,eo2,Ho2⟩ := bind_some H
 clear H
 refine Tr.mid (ι := Unit) (fun v => ⟨40,0,[sC 0 (cF 5 x0 Fent.row)],[]⟩) (fun v => impl_FdbOk_J1 n x0 = some r) ?_ ?_
 ·refine tB ?_
  refine Tr.loop (ι := Nat × (Int)) (fun v => ⟨40,0,[sI 7 v.2,sI 6 (x0.length : Int),sC 5 (cF 5 x0 Fent.row),sC 0 (cF 5 x0 Fent.row)],[]⟩) (fun v => impl_FdbOk_L2 n v.1 x0 v.2 = some o2) (fun v => v.1) (n,0) eo2 (St.sub_of [7,6,5,0] [] kr) ?_
  rintro ⟨mo2,y1⟩ H
  have H : impl_FdbOk_L2 n mo2 x0 y1 = some o2 := H
  obtain _ | mo2 := mo2
  ·cases (show (none : Option _) = some o2 from H)
  rw [impl_FdbOk_L2] at H
  refine tG tOk 1 481 0 kr kr ?_
  refine tS ?_
  obtain ⟨h1,H⟩ | ⟨h1,H⟩ := bC H
  ·refine tF h1 kr ?_
   refine Tr.exit ?_
   refine And.intro (fun _ => ?_) (fun h => absurd rfl h)
   obtain rfl := si H
   have H := Ho2
   dsimp only at H
   exact jn () H (sB_ [0] [] kr)
  refine tT h1 kr ?_
  refine tK ?_
  refine tS ?_
  refine tB ?_
  refine rU tOk 1 kr ?_
  obtain ⟨v3,ev3,H⟩ := bind_some H
  refine lI tOk 36 0 5 7 10 none ⟨(.slot 5),[],0,false,5,(CV.frzEs (x0.map Fent.row))⟩ y1 (Fent.row v3) _ kr kr kr kr rfl (idx_isF ev3) rfl ?_
  refine uD tOk 4 249 16 kr kr ?_
  obtain ⟨r4,er4,H⟩ := bind_some H
  refine tO ⟨40,0,[sI 3 y1,sA 4 4 5 0,sI 7 y1,sI 6 (x0.length : Int),sC 5 (cF 5 x0 Fent.row),sC 0 (cF 5 x0 Fent.row)],[(4,(Fent.row v3))]⟩ kr ?_
  cases h2 : (!r4)
  ·have H := bifF h2 H
   refine tO ⟨40,0,[sI 3 y1,sA 4 4 5 0,sI 7 y1,sI 6 (x0.length : Int),sC 5 (cF 5 x0 Fent.row),sC 0 (cF 5 x0 Fent.row)],[(4,(Fent.row v3))]⟩ kr ?_
   cases h3 : (decide (y1 > 0))
   ·have H := bifF h3 H
    refine Tr.draws mixed 24 kr ⟨40,0,[sB 35 false,sI 7 y1,sI 6 (x0.length : Int),sC 5 (cF 5 x0 Fent.row),sC 0 (cF 5 x0 Fent.row)],[]⟩ (fun cx => ?_) ?_
    ·refine aU tOk [(0,[1])] 23 [⟨[1],169,4,12⟩] [0] rfl kr (fun cx => ?_)
     refine AT.big1 tOk 1 kr kr ?_
     refine lV tOk [.rd] [] (impl_fentOk n v3 r4 er4) kr kr kr kr (.inl rfl) ?_
     refine lF kr kr kr ?_
     refine aU tOk [(2,[]),(3,[])] 20 [⟨[1],169,4,12⟩] [3,2,1,0] rfl kr (fun cx => ?_)
     refine aT ⟨40,0,[sB 15 (!r4),sB 14 (!r4),sB 13 r4,sV 12 (Fent.row v3),sI 3 y1,sA 4 4 5 0,sI 7 y1,sI 6 (x0.length : Int),sC 5 (cF 5 x0 Fent.row),sC 0 (cF 5 x0 Fent.row)],[(4,(Fent.row v3))]⟩ kr ?_
     rw [h2]
     refine aU tOk [(4,[]),(5,[]),(6,[])] 17 [⟨[1],169,4,12⟩] [6,5,4,3,2,1,0] rfl kr (fun cx => ?_)
     refine aT ⟨40,0,[sB 18 (decide (y1 > 0)),sB 17 (decide (y1 > 0)),sI 16 y1,sB 15 false,sB 14 false,sB 13 r4,sV 12 (Fent.row v3),sI 3 y1,sA 4 4 5 0,sI 7 y1,sI 6 (x0.length : Int),sC 5 (cF 5 x0 Fent.row),sC 0 (cF 5 x0 Fent.row)],[(4,(Fent.row v3))]⟩ kr ?_
     rw [h3]
     refine aU tOk [(7,[]),(8,[]),(9,[]),(10,[]),(11,[]),(12,[]),(13,[]),(14,[]),(15,[]),(16,[]),(17,[]),(18,[]),(19,[]),(20,[]),(21,[]),(22,[]),(23,[])] 0 [⟨[1],169,4,12⟩] [23,22,21,20,19,18,17,16,15,14,13,12,11,10,9,8,7,6,5,4,3,2,1,0] rfl kr (fun cx => ?_)
     exact AT.done [35,7,6,5,0] [] _ kr kr rfl
    refine tf kr ?_
    refine tK ?_
    refine tE tOk 2 225 0 kr kr ?_
    exact jn (mo2,(IntKind.wrap .i64 (y1 + 1))) H (sM mo2 [7,6,5,0] [] kr)
   have H := bifT h3 H
   obtain ⟨v5,ev5,H⟩ := bind_some H
   obtain ⟨v6,ev6,H⟩ := bind_some H
   obtain ⟨r7,er7,H⟩ := bind_some H
   refine Tr.draws mixed 24 kr ⟨40,0,[sB 35 (!r7),sI 7 y1,sI 6 (x0.length : Int),sC 5 (cF 5 x0 Fent.row),sC 0 (cF 5 x0 Fent.row)],[]⟩ (fun cx => ?_) ?_
   ·refine aU tOk [(0,[1,20])] 23 [⟨[1,20],169,4,12⟩] [0] rfl kr (fun cx => ?_)
    refine AT.big1 tOk 1 kr kr ?_
    refine lV tOk [.rd] [] (impl_fentOk n v3 r4 er4) kr kr kr kr (.inl rfl) ?_
    refine lF kr kr kr ?_
    refine aU tOk [(2,[]),(3,[])] 20 [⟨[1,20],169,4,12⟩] [3,2,1,0] rfl kr (fun cx => ?_)
    refine aT ⟨40,0,[sB 15 (!r4),sB 14 (!r4),sB 13 r4,sV 12 (Fent.row v3),sI 3 y1,sA 4 4 5 0,sI 7 y1,sI 6 (x0.length : Int),sC 5 (cF 5 x0 Fent.row),sC 0 (cF 5 x0 Fent.row)],[(4,(Fent.row v3))]⟩ kr ?_
    rw [h2]
    refine aU tOk [(4,[]),(5,[]),(6,[])] 17 [⟨[1,20],169,4,12⟩] [6,5,4,3,2,1,0] rfl kr (fun cx => ?_)
    refine aT ⟨40,0,[sB 18 (decide (y1 > 0)),sB 17 (decide (y1 > 0)),sI 16 y1,sB 15 false,sB 14 false,sB 13 r4,sV 12 (Fent.row v3),sI 3 y1,sA 4 4 5 0,sI 7 y1,sI 6 (x0.length : Int),sC 5 (cF 5 x0 Fent.row),sC 0 (cF 5 x0 Fent.row)],[(4,(Fent.row v3))]⟩ kr ?_
    rw [h3]
    refine aU tOk [(7,[20]),(8,[]),(9,[]),(10,[])] 13 [⟨[20],169,4,19⟩,⟨[1,20],169,4,12⟩] [10,9,8,7,6,5,4,3,2,1,0] rfl kr (fun cx => ?_)
    refine aI tOk 11 36 0 20 22 23 (some (6,true)) ⟨(.slot 20),[],0,false,5,(CV.frzEs (x0.map Fent.row))⟩ (IntKind.wrap .i64 (y1 - 1)) (Fent.row v5) _ kr kr kr kr kr kr rfl (idx_isF ev5) rfl (fun cx => ?_)
    refine aU tOk [(12,[]),(13,[]),(14,[]),(15,[]),(16,[])] 7 [⟨[20],169,4,19⟩,⟨[1,20],169,4,12⟩] [16,15,14,13,12,11,10,9,8,7,6,5,4,3,2,1,0] rfl kr (fun cx => ?_)
    refine aI tOk 17 36 0 26 28 29 (some (6,true)) ⟨(.slot 26),[],0,false,5,(CV.frzEs (x0.map Fent.row))⟩ (IntKind.wrap .i64 (y1 - 1)) (Fent.row v6) _ kr kr kr kr kr kr rfl (idx_isF ev6) rfl (fun cx => ?_)
    refine aU tOk [(18,[]),(19,[])] 4 [⟨[20],169,4,19⟩,⟨[1,20],169,4,12⟩] [19,18,17,16,15,14,13,12,11,10,9,8,7,6,5,4,3,2,1,0] rfl kr (fun cx => ?_)
    refine AT.big1 tOk 20 kr kr ?_
    refine lV tOk [.rd,.rd,.rd] [] (impl_behind n v3 v5.Tag v6.Mac r7 er7) kr kr kr kr (.inl rfl) ?_
    refine lF kr kr kr ?_
    refine aU tOk [(21,[]),(22,[]),(23,[])] 0 [⟨[20],169,4,19⟩,⟨[1,20],169,4,12⟩] [23,22,21,20,19,18,17,16,15,14,13,12,11,10,9,8,7,6,5,4,3,2,1,0] rfl kr (fun cx => ?_)
    exact AT.done [35,7,6,5,0] [] _ kr kr rfl
   refine tO ⟨40,0,[sB 35 (!r7),sI 7 y1,sI 6 (x0.length : Int),sC 5 (cF 5 x0 Fent.row),sC 0 (cF 5 x0 Fent.row)],[]⟩ kr ?_
   cases h4 : (!r7)
   ·have H := bifF h4 H
    refine tf kr ?_
    refine tK ?_
    refine tE tOk 2 225 0 kr kr ?_
    exact jn (mo2,(IntKind.wrap .i64 (y1 + 1))) H (sM mo2 [7,6,5,0] [] kr)
   have H := bifT h4 H
   refine tt kr ?_
   refine tG tOk 1 4 0 kr kr ?_
   refine te ?_
   obtain rfl := si H
   have H := Ho2
   dsimp only at H
   obtain rfl := si H
   exact fO [(false,[cB false])] kr rfl rfl
  have H := bifT h2 H
  refine Tr.draws mixed 24 kr ⟨40,0,[sB 35 true,sI 7 y1,sI 6 (x0.length : Int),sC 5 (cF 5 x0 Fent.row),sC 0 (cF 5 x0 Fent.row)],[]⟩ (fun cx => ?_) ?_
  ·refine aU tOk [(0,[1])] 23 [⟨[1],169,4,12⟩] [0] rfl kr (fun cx => ?_)
   refine AT.big1 tOk 1 kr kr ?_
   refine lV tOk [.rd] [] (impl_fentOk n v3 r4 er4) kr kr kr kr (.inl rfl) ?_
   refine lF kr kr kr ?_
   refine aU tOk [(2,[]),(3,[])] 20 [⟨[1],169,4,12⟩] [3,2,1,0] rfl kr (fun cx => ?_)
   refine aT ⟨40,0,[sB 15 (!r4),sB 14 (!r4),sB 13 r4,sV 12 (Fent.row v3),sI 3 y1,sA 4 4 5 0,sI 7 y1,sI 6 (x0.length : Int),sC 5 (cF 5 x0 Fent.row),sC 0 (cF 5 x0 Fent.row)],[(4,(Fent.row v3))]⟩ kr ?_
   rw [h2]
   refine aU tOk [(4,[]),(5,[]),(6,[]),(7,[]),(8,[]),(9,[]),(10,[]),(11,[]),(12,[]),(13,[]),(14,[]),(15,[]),(16,[]),(17,[]),(18,[]),(19,[]),(20,[]),(21,[]),(22,[]),(23,[])] 0 [⟨[1],169,4,12⟩] [23,22,21,20,19,18,17,16,15,14,13,12,11,10,9,8,7,6,5,4,3,2,1,0] rfl kr (fun cx => ?_)
   exact AT.done [35,7,6,5,0] [] _ kr kr rfl
  refine tt kr ?_
  refine tG tOk 1 4 0 kr kr ?_
  refine te ?_
  obtain rfl := si H
  have H := Ho2
  dsimp only at H
  obtain rfl := si H
  exact fO [(false,[cB false])] kr rfl rfl
 rintro _ H
 have H : (impl_FdbOk_J1 n x0) = some r := H
 unfold impl_FdbOk_J1 at H
 refine rU tOk 1 kr ?_
 refine lL tOk 36 3 169 37 38 none ⟨(.slot 37),[],0,false,5,(CV.frzEs (x0.map Fent.row))⟩ (x0).length _ kr kr kr kr kr (frz_len _ _) rfl ?_
 refine uD tOk 2 4 0 kr kr ?_
 exact te (by obtain rfl := si H; exact fO [(false,[cB (decide ((x0.length : Int) ≤ 12))])] kr rfl rfl)
def impl_allPortsF (n : Nat) (x0 : Int) : Option (Int) :=
  (bif (decide ((0 : Int) ≤ x0)) then (some (IntKind.wrap .i64 ((IntKind.wrap .i64 (1 * 2 ^ min ((x0 : Int)).toNat (IntKind.bits .i64))) - 1))) else none)
noncomputable abbrev G216 (k : Nat) := Rg Tryz.f216 k
theorem impl_allPorts (n : Nat) (x0 : Int) (r : Int) (H : impl_allPortsF n x0 = some r) : LCall Tryz.prog 216 [.val false [.lit (.int .i64 x0)]] [.val false [.lit (.int .i64 r)]] [] := by
 refine LCall.of_body tOk Tryz.func216 rfl (c := (.seq (G216 0) (.seq (G216 1) .ret))) kr (Nat.le_of_ble_eq_true kr) 0 (rs := [.tmp 2]) rfl [] .nil [(false,[.lit (.int .i64 r)])] [] [] fun cx => ?_
 show Tr _ _ _ ⟨6,0,[sI 0 x0],[]⟩ _
 unfold impl_allPortsF at H
 refine tG tOk 1 1 0 kr kr ?_
 refine rU tOk 1 kr ?_
 obtain ⟨hg1,H⟩ := guard_some H
 refine LAt.binC tOk (op := .shl) (t := 3) (ty := 3) (ty' := 3) (x := (.const (.int .i64 1))) (y := (.tmp 3)) (d := 4) (g := none) (.int .i64 1) (.int .i64 x0) (.int .i64 (IntKind.wrap .i64 (1 * 2 ^ min ((x0 : Int)).toNat (IntKind.bits .i64)))) _ kr kr kr kr kr (φ := (0 : Int) ≤ x0) kr (of_decide_eq_true hg1) rfl ?_
 refine uD tOk 2 4 0 kr kr ?_
 exact te (by obtain rfl := si H; exact fO [(false,[cI (IntKind.wrap .i64 ((IntKind.wrap .i64 (1 * 2 ^ min ((x0 : Int)).toNat (IntKind.bits .i64))) - 1))])] kr rfl rfl)
def impl_RowAt_J1 (n : Nat) : Option (Int) :=
  (some (-1))
def impl_RowAt_L2 (n : Nat) : Nat → Vtab → Int → Int → Option ((Unit) ⊕ (Int))
  | 0,_,_,_ => none
  | mo2 + 1,x0,x1,y1 => (bif (decide (y1 < (x0.Rows.length : Int))) then ((idx x0.Rows y1).bind fun v3 => (bif (v3.Id == x1) then (some (Sum.inr y1)) else (impl_RowAt_L2 n mo2 x0 x1 (IntKind.wrap .i64 (y1 + 1))))) else (some (Sum.inl ())))
def impl_RowAtF (n : Nat) (x0 : Vtab) (x1 : Int) : Option (Int) :=
  ((impl_RowAt_L2 n n x0 x1 0).bind fun o => match o with | .inl _ => (impl_RowAt_J1 n) | .inr r => some r)
noncomputable abbrev G142 (k : Nat) := Rg Tryz.f142 k
theorem impl_RowAt (n : Nat) (x0 : Vtab) (x1 : Int) (r : Int) (H : impl_RowAtF n x0 x1 = some r) : LCall Tryz.prog 142 [.val true (CV.frzRow (Vtab.row x0)),.val false [.lit (.int .i64 x1)]] [.val false [.lit (.int .i64 r)]] [] := by
 refine LCall.of_body tOk Tryz.func142 rfl (c := (.seq (G142 0) (.seq (.seq (G142 1) (.block 0 (.loop (.seq (G142 2) (.seq (.cond (.tmp 11) .skip (.exit 0)) (.seq (.block 1 (.seq (G142 3) (.seq (G142 4) (.cond (.tmp 18) (.seq (G142 5) .ret) .skip)))) (G142 6))))))) (.seq (G142 7) .ret)))) kr (Nat.le_of_ble_eq_true kr) 0 (rs := [.tmp 4]) rfl [] .nil [(false,[.lit (.int .i64 r)])] [] [] fun cx => ?_
 show Tr _ _ _ ⟨21,0,[sV 0 (CV.frzRow (Vtab.row x0)),sI 1 x1],[]⟩ _
 unfold impl_RowAtF at H
 refine tG tOk 2 6 4 kr kr ?_
 refine tS ?_
 refine rU tOk 2 kr ?_
 refine lL tOk 37 3 175 8 9 none ⟨(.slot 8),[],0,false,3,(CV.frzEs (x0.Rows.map Vrow.row))⟩ (x0.Rows).length _ kr kr kr kr kr (frz_len _ _) rfl ?_
 refine uD tOk 1 1794 0 kr kr ?_
 obtain ⟨o2,eo2,Ho2⟩ := bind_some H
 clear H
 refine Tr.mid (ι := Unit) (fun v => ⟨21,0,[],[]⟩) (fun v => impl_RowAt_J1 n = some r) ?_ ?_
 ·refine tB ?_
  refine Tr.loop (ι := Nat × (Int)) (fun v => ⟨21,0,[sI 10 v.2,sI 9 (x0.Rows.length : Int),sC 8 (cF 3 x0.Rows Vrow.row),sI 1 x1],[]⟩) (fun v => impl_RowAt_L2 n v.1 x0 x1 v.2 = some o2) (fun v => v.1) (n,0) eo2 (St.sub_of [10,9,8,1] [] kr) ?_
  rintro ⟨mo2,y1⟩ H
  have H : impl_RowAt_L2 n mo2 x0 x1 y1 = some o2 := H
  obtain _ | mo2 := mo2
  ·cases (show (none : Option _) = some o2 from H)
  rw [impl_RowAt_L2] at H
  refine tG tOk 1 3842 0 kr kr ?_
  refine tS ?_
  obtain ⟨h1,H⟩ | ⟨h1,H⟩ := bC H
  ·refine tF h1 kr ?_
   refine Tr.exit ?_
   refine And.intro (fun _ => ?_) (fun h => absurd rfl h)
   obtain rfl := si H
   have H := Ho2
   dsimp only at H
   exact jn () H (sB_ [] [] kr)
  refine tT h1 kr ?_
  refine tK ?_
  refine tS ?_
  refine tB ?_
  refine rU tOk 1 kr ?_
  obtain ⟨v3,ev3,H⟩ := bind_some H
  refine lI tOk 37 0 8 10 13 none ⟨(.slot 8),[],0,false,3,(CV.frzEs (x0.Rows.map Vrow.row))⟩ y1 (Vrow.row v3) _ kr kr kr kr rfl (idx_isF ev3) rfl ?_
  refine uD tOk 4 1890 64 kr kr ?_
  refine tG tOk 4 263970 0 kr kr ?_
  obtain ⟨h2,H⟩ | ⟨h2,H⟩ := bC H
  ·refine tF h2 kr ?_
   refine tK ?_
   refine tE tOk 2 1794 0 kr kr ?_
   exact jn (mo2,(IntKind.wrap .i64 (y1 + 1))) H (sM mo2 [10,9,8,1] [] kr)
  refine tT h2 kr ?_
  refine tG tOk 2 16 0 kr kr ?_
  refine te ?_
  obtain rfl := si H
  have H := Ho2
  dsimp only at H
  obtain rfl := si H
  exact fO [(false,[cI y1])] kr rfl rfl
 rintro _ H
 have H : (impl_RowAt_J1 n) = some r := H
 unfold impl_RowAt_J1 at H
 refine tG tOk 1 16 0 kr kr ?_
 exact te (by obtain rfl := si H; exact fO [(false,[cI (-1)])] kr rfl rfl)
def impl_VtabOk_J2 (n : Nat) : Option (Bool) :=
  (some true)
def impl_VtabOk_L3 (n : Nat) : Nat → Vtab → Int → Option ((Unit) ⊕ (Bool))
  | 0,_,_ => none
  | mo4 + 1,x0,y3 => (bif (decide (y3 < (x0.Pvid.length : Int))) then ((idx x0.Pvid y3).bind fun v5 => ((impl_RowAtF n x0 v5).bind fun r6 => (bif (decide (r6 < 0)) then (some (Sum.inr false)) else (impl_VtabOk_L3 n mo4 x0 (IntKind.wrap .i64 (y3 + 1)))))) else (some (Sum.inl ())))
def impl_VtabOk_J1 (n : Nat) (x0 : Vtab) : Option (Bool) :=
  ((impl_VtabOk_L3 n n x0 0).bind fun o => match o with | .inl _ => (impl_VtabOk_J2 n) | .inr r => some r)
def impl_VtabOk_L4 (n : Nat) : Nat → Vtab → Int → Int → Option ((Unit) ⊕ (Bool))
  | 0,_,_,_ => none
  | mo7 + 1,x0,x1,y2 => (bif (decide (y2 < (x0.Rows.length : Int))) then ((idx x0.Rows y2).bind fun v8 => ((impl_inF n v8.Id 1 99).bind fun r9 => (bif (!r9) then (some (Sum.inr false)) else (bif (decide (y2 > 0)) then ((idx x0.Rows (IntKind.wrap .i64 (y2 - 1))).bind fun v12 => (bif (decide (v12.Id ≥ v8.Id)) then (some (Sum.inr false)) else ((impl_allPortsF n x1).bind fun r13 => ((impl_inF n v8.Members 0 r13).bind fun r14 => (bif (!r14) then (some (Sum.inr false)) else (bif ((IntKind.wrap .i64 (BitVec.ofInt (IntKind.bits .i64) v8.Bare &&& ~~~BitVec.ofInt (IntKind.bits .i64) v8.Members).toNat) != 0) then (some (Sum.inr false)) else (impl_VtabOk_L4 n mo7 x0 x1 (IntKind.wrap .i64 (y2 + 1))))))))) else ((impl_allPortsF n x1).bind fun r10 => ((impl_inF n v8.Members 0 r10).bind fun r11 => (bif (!r11) then (some (Sum.inr false)) else (bif ((IntKind.wrap .i64 (BitVec.ofInt (IntKind.bits .i64) v8.Bare &&& ~~~BitVec.ofInt (IntKind.bits .i64) v8.Members).toNat) != 0) then (some (Sum.inr false)) else (impl_VtabOk_L4 n mo7 x0 x1 (IntKind.wrap .i64 (y2 + 1))))))))))) else (some (Sum.inl ())))
def impl_VtabOkF (n : Nat) (x0 : Vtab) (x1 : Int) : Option (Bool) :=
  ((impl_inF n x1 1 6).bind fun r1 => (bif (!r1) then (some false) else (bif ((x0.Pvid.length : Int) != x1) then (some false) else (bif (decide ((x0.Rows.length : Int) > 6)) then (some false) else ((impl_VtabOk_L4 n n x0 x1 0).bind fun o => match o with | .inl _ => (impl_VtabOk_J1 n x0) | .inr r => some r)))))
noncomputable abbrev G140 (k : Nat) := Rg Tryz.f140 k
noncomputable abbrev D140 (k : Nat) := Rd Tryz.f140 k
theorem impl_VtabOk (n : Nat) (x0 : Vtab) (x1 : Int) (r : Bool) (H : impl_VtabOkF n x0 x1 = some r) : LCall Tryz.prog 140 [.val true (CV.frzRow (Vtab.row x0)),.val false [.lit (.int .i64 x1)]] [.val false [.lit (.bool r)]] [] := by
 refine LCall.of_body tOk Tryz.func140 rfl (c := (.seq (G140 0) (.seq (.seq (G140 1) (.cond (.tmp 24) (.seq (G140 2) .ret) .skip)) (.seq (.seq (G140 3) (.block 0 (.loop (.seq (G140 4) (.seq (.cond (.tmp 29) .skip (.exit 0)) (.seq (.block 1 (.seq (G140 5) (.seq (D140 6) (.cond (.tmp 68) (.seq (G140 7) .ret) .skip)))) (G140 8))))))) (.seq (.seq (G140 9) (.block 2 (.loop (.seq (G140 10) (.seq (.cond (.tmp 74) .skip (.exit 2)) (.seq (.block 3 (.seq (G140 11) (.seq (G140 12) (.cond (.tmp 80) (.seq (G140 13) .ret) .skip)))) (G140 14))))))) (.seq (G140 15) .ret)))))) kr (Nat.le_of_ble_eq_true kr) 0 (rs := [.tmp 4]) rfl [] .nil [(false,[.lit (.bool r)])] [] [] fun cx => ?_
 show Tr _ _ _ ⟨82,0,[sV 0 (CV.frzRow (Vtab.row x0)),sI 1 x1],[]⟩ _
 unfold impl_VtabOkF at H
 refine tG tOk 2 6 4 kr kr ?_
 refine tS ?_
 refine rU tOk 1 kr ?_
 obtain ⟨r1,er1,H⟩ := bind_some H
 refine lV tOk [.rd,.rd,.rd] [] (impl_in n x1 1 6 r1 er1) kr kr kr kr (.inl rfl) ?_
 refine lU tOk 2 kr ?_
 refine lT ⟨82,0,[sB 12 (!r1),sB 11 (!r1),sB 10 r1,sI 9 x1,sA 2 2 2 0,sI 1 x1],[(2,(CV.frzRow (Vtab.row x0)))]⟩ kr ?_
 cases h1 : (!r1)
 ·have H := bifF h1 H
  refine lU tOk 2 kr ?_
  refine lL tOk 25 3 3 14 15 (some (3,false)) ⟨(.slot 14),[],0,false,1,(CV.frzEs (x0.Pvid.map intRow))⟩ (x0.Pvid).length _ kr kr kr kr kr (frz_len _ _) rfl ?_
  refine lU tOk 4 kr ?_
  refine lT ⟨82,0,[sB 19 ((x0.Pvid.length : Int) != x1),sB 18 ((x0.Pvid.length : Int) != x1),sB 17 ((x0.Pvid.length : Int) != x1),sI 16 x1,sI 15 (x0.Pvid.length : Int),sC 14 (cF 1 x0.Pvid intRow),sA 13 2 2 1,sB 12 false,sB 11 false,sB 10 r1,sI 9 x1,sA 2 2 2 0,sI 1 x1],[(2,(CV.frzRow (Vtab.row x0)))]⟩ kr ?_
  cases h2 : ((x0.Pvid.length : Int) != x1)
  ·have H := bifF h2 H
   refine lU tOk 2 kr ?_
   refine lL tOk 37 3 175 21 22 (some (10,false)) ⟨(.slot 21),[],0,false,3,(CV.frzEs (x0.Rows.map Vrow.row))⟩ (x0.Rows).length _ kr kr kr kr kr (frz_len _ _) rfl ?_
   refine uD tOk 2 16777222 4 kr kr ?_
   obtain ⟨h3,H⟩ | ⟨h3,H⟩ := bC H
   ·refine tF h3 kr ?_
    refine tK ?_
    refine tS ?_
    refine rU tOk 2 kr ?_
    refine lL tOk 37 3 175 26 27 none ⟨(.slot 26),[],0,false,3,(CV.frzEs (x0.Rows.map Vrow.row))⟩ (x0.Rows).length _ kr kr kr kr kr (frz_len _ _) rfl ?_
    refine uD tOk 1 469762054 4 kr kr ?_
    obtain ⟨o7,eo7,Ho7⟩ := bind_some H
    clear H
    refine Tr.mid (ι := Unit) (fun v => ⟨82,0,[sA 2 2 2 0],[(2,(CV.frzRow (Vtab.row x0)))]⟩) (fun v => impl_VtabOk_J1 n x0 = some r) ?_ ?_
    ·refine tB ?_
     refine Tr.loop (ι := Nat × (Int)) (fun v => ⟨82,0,[sI 28 v.2,sI 27 (x0.Rows.length : Int),sC 26 (cF 3 x0.Rows Vrow.row),sA 2 2 2 0,sI 1 x1],[(2,(CV.frzRow (Vtab.row x0)))]⟩) (fun v => impl_VtabOk_L4 n v.1 x0 x1 v.2 = some o7) (fun v => v.1) (n,0) eo7 (St.sub_of [28,27,26,2,1] [2] kr) ?_
     rintro ⟨mo7,y2⟩ H
     have H : impl_VtabOk_L4 n mo7 x0 x1 y2 = some o7 := H
     obtain _ | mo7 := mo7
     ·cases (show (none : Option _) = some o7 from H)
     rw [impl_VtabOk_L4] at H
     refine tG tOk 1 1006632966 4 kr kr ?_
     refine tS ?_
     obtain ⟨h6,H⟩ | ⟨h6,H⟩ := bC H
     ·refine tF h6 kr ?_
      refine Tr.exit ?_
      refine And.intro (fun _ => ?_) (fun h => absurd rfl h)
      obtain rfl := si H
      have H := Ho7
      dsimp only at H
      exact jn () H (sB_ [2] [2] kr)
     refine tT h6 kr ?_
     refine tK ?_
     refine tS ?_
     refine tB ?_
     refine rU tOk 1 kr ?_
     obtain ⟨v8,ev8,H⟩ := bind_some H
     refine lI tOk 37 0 26 28 31 none ⟨(.slot 26),[],0,false,3,(CV.frzEs (x0.Rows.map Vrow.row))⟩ y2 (Vrow.row v8) _ kr kr kr kr rfl (idx_isF ev8) rfl ?_
     refine uD tOk 4 469762150 68 kr kr ?_
     obtain ⟨r9,er9,H⟩ := bind_some H
     refine tO ⟨82,0,[sI 5 y2,sA 6 6 3 0,sI 28 y2,sI 27 (x0.Rows.length : Int),sC 26 (cF 3 x0.Rows Vrow.row),sA 2 2 2 0,sI 1 x1],[(6,(Vrow.row v8)),(2,(CV.frzRow (Vtab.row x0)))]⟩ kr ?_
     cases h7 : (!r9)
     ·have H := bifF h7 H
      refine tO ⟨82,0,[sI 5 y2,sA 6 6 3 0,sI 28 y2,sI 27 (x0.Rows.length : Int),sC 26 (cF 3 x0.Rows Vrow.row),sA 2 2 2 0,sI 1 x1],[(6,(Vrow.row v8)),(2,(CV.frzRow (Vtab.row x0)))]⟩ kr ?_
      cases h8 : (decide (y2 > 0))
      ·have H := bifF h8 H
       obtain ⟨r10,er10,H⟩ := bind_some H
       obtain ⟨r11,er11,H⟩ := bind_some H
       refine tO ⟨82,0,[sI 5 y2,sA 6 6 3 0,sI 28 y2,sI 27 (x0.Rows.length : Int),sC 26 (cF 3 x0.Rows Vrow.row),sA 2 2 2 0,sI 1 x1],[(6,(Vrow.row v8)),(2,(CV.frzRow (Vtab.row x0)))]⟩ kr ?_
       cases h9 : (!r11)
       ·have H := bifF h9 H
        refine Tr.draws mixed 36 kr ⟨82,0,[sB 68 ((IntKind.wrap .i64 (BitVec.ofInt (IntKind.bits .i64) v8.Bare &&& ~~~BitVec.ofInt (IntKind.bits .i64) v8.Members).toNat) != 0),sI 28 y2,sI 27 (x0.Rows.length : Int),sC 26 (cF 3 x0.Rows Vrow.row),sA 2 2 2 0,sI 1 x1],[(2,(CV.frzRow (Vtab.row x0)))]⟩ (fun cx => ?_) ?_
        ·refine aU tOk [(0,[]),(1,[2,24,25])] 34 [⟨[2,24,25],3,33,34⟩] [1,0] rfl kr (fun cx => ?_)
         refine AT.big1 tOk 2 kr kr ?_
         refine lV tOk [.rd,.rd,.rd] [] (impl_in n v8.Id 1 99 r9 er9) kr kr kr kr (.inl rfl) ?_
         refine lF kr kr kr ?_
         refine aU tOk [(3,[]),(4,[])] 31 [⟨[2,24,25],3,33,34⟩] [4,3,2,1,0] rfl kr (fun cx => ?_)
         refine aT ⟨82,0,[sB 37 (!r9),sB 36 (!r9),sB 35 r9,sI 34 v8.Id,sA 33 6 3 0,sI 5 y2,sA 6 6 3 0,sI 28 y2,sI 27 (x0.Rows.length : Int),sC 26 (cF 3 x0.Rows Vrow.row),sA 2 2 2 0,sI 1 x1],[(6,(Vrow.row v8)),(2,(CV.frzRow (Vtab.row x0)))]⟩ kr ?_
         rw [h7]
         refine aU tOk [(5,[]),(6,[]),(7,[])] 28 [⟨[2,24,25],3,33,34⟩] [7,6,5,4,3,2,1,0] rfl kr (fun cx => ?_)
         refine aT ⟨82,0,[sB 40 (decide (y2 > 0)),sB 39 (decide (y2 > 0)),sI 38 y2,sB 37 false,sB 36 false,sB 35 r9,sI 34 v8.Id,sA 33 6 3 0,sI 5 y2,sA 6 6 3 0,sI 28 y2,sI 27 (x0.Rows.length : Int),sC 26 (cF 3 x0.Rows Vrow.row),sA 2 2 2 0,sI 1 x1],[(6,(Vrow.row v8)),(2,(CV.frzRow (Vtab.row x0)))]⟩ kr ?_
         rw [h8]
         refine aU tOk [(8,[]),(9,[]),(10,[]),(11,[]),(12,[]),(13,[]),(14,[]),(15,[]),(16,[]),(17,[]),(18,[]),(19,[]),(20,[]),(21,[]),(22,[25]),(23,[])] 12 [⟨[25],3,54,55⟩,⟨[2,24,25],3,33,34⟩] [23,22,21,20,19,18,17,16,15,14,13,12,11,10,9,8,7,6,5,4,3,2,1,0] rfl kr (fun cx => ?_)
         refine AT.big1 tOk 24 kr kr ?_
         refine lV tOk [.rd] [] (impl_allPorts n x1 r10 er10) kr kr kr kr (.inl rfl) ?_
         refine lF kr kr kr ?_
         refine AT.big1 tOk 25 kr kr ?_
         refine lV tOk [.rd,.rd,.rd] [] (impl_in n v8.Members 0 r10 r11 er11) kr kr kr kr (.inl rfl) ?_
         refine lF kr kr kr ?_
         refine aU tOk [(26,[]),(27,[]),(28,[])] 7 [⟨[25],3,54,55⟩,⟨[2,24,25],3,33,34⟩] [28,27,26,25,24,23,22,21,20,19,18,17,16,15,14,13,12,11,10,9,8,7,6,5,4,3,2,1,0] rfl kr (fun cx => ?_)
         refine aT ⟨82,0,[sB 61 (!r11),sB 60 (!r11),sB 59 (!r11),sB 58 r11,sI 57 r10,sI 56 x1,sI 55 v8.Members,sA 54 6 3 1,sB 53 false,sB 52 false,sB 51 false,(50,.tup []),(49,.tup []),(48,.tup []),(47,.tup []),(46,.tup []),(45,.tup []),(44,.tup []),(43,.tup []),(42,.tup []),(41,.tup []),sB 40 false,sB 39 false,sI 38 y2,sB 37 false,sB 36 false,sB 35 r9,sI 34 v8.Id,sA 33 6 3 0,sI 5 y2,sA 6 6 3 0,sI 28 y2,sI 27 (x0.Rows.length : Int),sC 26 (cF 3 x0.Rows Vrow.row),sA 2 2 2 0,sI 1 x1],[(6,(Vrow.row v8)),(2,(CV.frzRow (Vtab.row x0)))]⟩ kr ?_
         rw [h9]
         refine aU tOk [(29,[]),(30,[]),(31,[]),(32,[]),(33,[]),(34,[]),(35,[])] 0 [⟨[],3,64,65⟩,⟨[],3,62,63⟩,⟨[25],3,54,55⟩,⟨[2,24,25],3,33,34⟩] [35,34,33,32,31,30,29,28,27,26,25,24,23,22,21,20,19,18,17,16,15,14,13,12,11,10,9,8,7,6,5,4,3,2,1,0] rfl kr (fun cx => ?_)
         exact AT.done [68,28,27,26,2,1] [2] _ kr kr rfl
        refine tO ⟨82,0,[sB 68 ((IntKind.wrap .i64 (BitVec.ofInt (IntKind.bits .i64) v8.Bare &&& ~~~BitVec.ofInt (IntKind.bits .i64) v8.Members).toNat) != 0),sI 28 y2,sI 27 (x0.Rows.length : Int),sC 26 (cF 3 x0.Rows Vrow.row),sA 2 2 2 0,sI 1 x1],[(2,(CV.frzRow (Vtab.row x0)))]⟩ kr ?_
        cases h10 : ((IntKind.wrap .i64 (BitVec.ofInt (IntKind.bits .i64) v8.Bare &&& ~~~BitVec.ofInt (IntKind.bits .i64) v8.Members).toNat) != 0)
        ·have H := bifF h10 H
         refine tf kr ?_
         refine tK ?_
         refine tE tOk 2 469762054 4 kr kr ?_
         exact jn (mo7,(IntKind.wrap .i64 (y2 + 1))) H (sM mo7 [28,27,26,2,1] [2] kr)
        have H := bifT h10 H
        refine tt kr ?_
        refine tG tOk 1 16 0 kr kr ?_
        refine te ?_
        obtain rfl := si H
        have H := Ho7
        dsimp only at H
        obtain rfl := si H
        exact fO [(false,[cB false])] kr rfl rfl
       have H := bifT h9 H
       refine Tr.draws mixed 36 kr ⟨82,0,[sB 68 true,sI 28 y2,sI 27 (x0.Rows.length : Int),sC 26 (cF 3 x0.Rows Vrow.row),sA 2 2 2 0,sI 1 x1],[(2,(CV.frzRow (Vtab.row x0)))]⟩ (fun cx => ?_) ?_
       ·refine aU tOk [(0,[]),(1,[2,24,25])] 34 [⟨[2,24,25],3,33,34⟩] [1,0] rfl kr (fun cx => ?_)
        refine AT.big1 tOk 2 kr kr ?_
        refine lV tOk [.rd,.rd,.rd] [] (impl_in n v8.Id 1 99 r9 er9) kr kr kr kr (.inl rfl) ?_
        refine lF kr kr kr ?_
        refine aU tOk [(3,[]),(4,[])] 31 [⟨[2,24,25],3,33,34⟩] [4,3,2,1,0] rfl kr (fun cx => ?_)
        refine aT ⟨82,0,[sB 37 (!r9),sB 36 (!r9),sB 35 r9,sI 34 v8.Id,sA 33 6 3 0,sI 5 y2,sA 6 6 3 0,sI 28 y2,sI 27 (x0.Rows.length : Int),sC 26 (cF 3 x0.Rows Vrow.row),sA 2 2 2 0,sI 1 x1],[(6,(Vrow.row v8)),(2,(CV.frzRow (Vtab.row x0)))]⟩ kr ?_
        rw [h7]
        refine aU tOk [(5,[]),(6,[]),(7,[])] 28 [⟨[2,24,25],3,33,34⟩] [7,6,5,4,3,2,1,0] rfl kr (fun cx => ?_)
        refine aT ⟨82,0,[sB 40 (decide (y2 > 0)),sB 39 (decide (y2 > 0)),sI 38 y2,sB 37 false,sB 36 false,sB 35 r9,sI 34 v8.Id,sA 33 6 3 0,sI 5 y2,sA 6 6 3 0,sI 28 y2,sI 27 (x0.Rows.length : Int),sC 26 (cF 3 x0.Rows Vrow.row),sA 2 2 2 0,sI 1 x1],[(6,(Vrow.row v8)),(2,(CV.frzRow (Vtab.row x0)))]⟩ kr ?_
        rw [h8]
        refine aU tOk [(8,[]),(9,[]),(10,[]),(11,[]),(12,[]),(13,[]),(14,[]),(15,[]),(16,[]),(17,[]),(18,[]),(19,[]),(20,[]),(21,[]),(22,[25]),(23,[])] 12 [⟨[25],3,54,55⟩,⟨[2,24,25],3,33,34⟩] [23,22,21,20,19,18,17,16,15,14,13,12,11,10,9,8,7,6,5,4,3,2,1,0] rfl kr (fun cx => ?_)
        refine AT.big1 tOk 24 kr kr ?_
        refine lV tOk [.rd] [] (impl_allPorts n x1 r10 er10) kr kr kr kr (.inl rfl) ?_
        refine lF kr kr kr ?_
        refine AT.big1 tOk 25 kr kr ?_
        refine lV tOk [.rd,.rd,.rd] [] (impl_in n v8.Members 0 r10 r11 er11) kr kr kr kr (.inl rfl) ?_
        refine lF kr kr kr ?_
        refine aU tOk [(26,[]),(27,[]),(28,[])] 7 [⟨[25],3,54,55⟩,⟨[2,24,25],3,33,34⟩] [28,27,26,25,24,23,22,21,20,19,18,17,16,15,14,13,12,11,10,9,8,7,6,5,4,3,2,1,0] rfl kr (fun cx => ?_)
        refine aT ⟨82,0,[sB 61 (!r11),sB 60 (!r11),sB 59 (!r11),sB 58 r11,sI 57 r10,sI 56 x1,sI 55 v8.Members,sA 54 6 3 1,sB 53 false,sB 52 false,sB 51 false,(50,.tup []),(49,.tup []),(48,.tup []),(47,.tup []),(46,.tup []),(45,.tup []),(44,.tup []),(43,.tup []),(42,.tup []),(41,.tup []),sB 40 false,sB 39 false,sI 38 y2,sB 37 false,sB 36 false,sB 35 r9,sI 34 v8.Id,sA 33 6 3 0,sI 5 y2,sA 6 6 3 0,sI 28 y2,sI 27 (x0.Rows.length : Int),sC 26 (cF 3 x0.Rows Vrow.row),sA 2 2 2 0,sI 1 x1],[(6,(Vrow.row v8)),(2,(CV.frzRow (Vtab.row x0)))]⟩ kr ?_
        rw [h9]
        refine aU tOk [(29,[]),(30,[]),(31,[]),(32,[]),(33,[]),(34,[]),(35,[])] 0 [⟨[25],3,54,55⟩,⟨[2,24,25],3,33,34⟩] [35,34,33,32,31,30,29,28,27,26,25,24,23,22,21,20,19,18,17,16,15,14,13,12,11,10,9,8,7,6,5,4,3,2,1,0] rfl kr (fun cx => ?_)
        exact AT.done [68,28,27,26,2,1] [2] _ kr kr rfl
       refine tt kr ?_
       refine tG tOk 1 16 0 kr kr ?_
       refine te ?_
       obtain rfl := si H
       have H := Ho7
       dsimp only at H
       obtain rfl := si H
       exact fO [(false,[cB false])] kr rfl rfl
      have H := bifT h8 H
      obtain ⟨v12,ev12,H⟩ := bind_some H
      refine tO ⟨82,0,[sI 5 y2,sA 6 6 3 0,sI 28 y2,sI 27 (x0.Rows.length : Int),sC 26 (cF 3 x0.Rows Vrow.row),sA 2 2 2 0,sI 1 x1],[(6,(Vrow.row v8)),(2,(CV.frzRow (Vtab.row x0)))]⟩ kr ?_
      cases h11 : (decide (v12.Id ≥ v8.Id))
      ·have H := bifF h11 H
       obtain ⟨r13,er13,H⟩ := bind_some H
       obtain ⟨r14,er14,H⟩ := bind_some H
       refine tO ⟨82,0,[sI 5 y2,sA 6 6 3 0,sI 28 y2,sI 27 (x0.Rows.length : Int),sC 26 (cF 3 x0.Rows Vrow.row),sA 2 2 2 0,sI 1 x1],[(6,(Vrow.row v8)),(2,(CV.frzRow (Vtab.row x0)))]⟩ kr ?_
       cases h12 : (!r14)
       ·have H := bifF h12 H
        refine Tr.draws mixed 36 kr ⟨82,0,[sB 68 ((IntKind.wrap .i64 (BitVec.ofInt (IntKind.bits .i64) v8.Bare &&& ~~~BitVec.ofInt (IntKind.bits .i64) v8.Members).toNat) != 0),sI 28 y2,sI 27 (x0.Rows.length : Int),sC 26 (cF 3 x0.Rows Vrow.row),sA 2 2 2 0,sI 1 x1],[(2,(CV.frzRow (Vtab.row x0)))]⟩ (fun cx => ?_) ?_
        ·refine aU tOk [(0,[]),(1,[2,24,25])] 34 [⟨[2,24,25],3,33,34⟩] [1,0] rfl kr (fun cx => ?_)
         refine AT.big1 tOk 2 kr kr ?_
         refine lV tOk [.rd,.rd,.rd] [] (impl_in n v8.Id 1 99 r9 er9) kr kr kr kr (.inl rfl) ?_
         refine lF kr kr kr ?_
         refine aU tOk [(3,[]),(4,[])] 31 [⟨[2,24,25],3,33,34⟩] [4,3,2,1,0] rfl kr (fun cx => ?_)
         refine aT ⟨82,0,[sB 37 (!r9),sB 36 (!r9),sB 35 r9,sI 34 v8.Id,sA 33 6 3 0,sI 5 y2,sA 6 6 3 0,sI 28 y2,sI 27 (x0.Rows.length : Int),sC 26 (cF 3 x0.Rows Vrow.row),sA 2 2 2 0,sI 1 x1],[(6,(Vrow.row v8)),(2,(CV.frzRow (Vtab.row x0)))]⟩ kr ?_
         rw [h7]
         refine aU tOk [(5,[]),(6,[]),(7,[])] 28 [⟨[2,24,25],3,33,34⟩] [7,6,5,4,3,2,1,0] rfl kr (fun cx => ?_)
         refine aT ⟨82,0,[sB 40 (decide (y2 > 0)),sB 39 (decide (y2 > 0)),sI 38 y2,sB 37 false,sB 36 false,sB 35 r9,sI 34 v8.Id,sA 33 6 3 0,sI 5 y2,sA 6 6 3 0,sI 28 y2,sI 27 (x0.Rows.length : Int),sC 26 (cF 3 x0.Rows Vrow.row),sA 2 2 2 0,sI 1 x1],[(6,(Vrow.row v8)),(2,(CV.frzRow (Vtab.row x0)))]⟩ kr ?_
         rw [h8]
         refine aU tOk [(8,[]),(9,[24,25]),(10,[]),(11,[])] 24 [⟨[24,25],37,41,42⟩,⟨[2,24,25],3,33,34⟩] [11,10,9,8,7,6,5,4,3,2,1,0] rfl kr (fun cx => ?_)
         refine aI tOk 12 37 0 42 44 45 (some (7,true)) ⟨(.box 2),[(0,0)],0,false,3,(CV.frzEs (x0.Rows.map Vrow.row))⟩ (IntKind.wrap .i64 (y2 - 1)) (Vrow.row v12) _ kr kr kr kr kr kr rfl (idx_isF ev12) rfl (fun cx => ?_)
         refine aU tOk [(13,[]),(14,[]),(15,[]),(16,[24,25]),(17,[]),(18,[]),(19,[]),(20,[])] 15 [⟨[24,25],3,48,49⟩,⟨[24,25],37,41,42⟩,⟨[2,24,25],3,33,34⟩] [20,19,18,17,16,15,14,13,12,11,10,9,8,7,6,5,4,3,2,1,0] rfl kr (fun cx => ?_)
         refine aT ⟨82,0,[sB 53 (decide (v12.Id ≥ v8.Id)),sB 52 (decide (v12.Id ≥ v8.Id)),sB 51 (decide (v12.Id ≥ v8.Id)),sB 50 (decide (v12.Id ≥ v8.Id)),sI 49 v8.Id,sA 48 6 3 0,sI 47 v12.Id,(46,.fad ((Vrow.row v12))),(45,.fad ((Vrow.row v12))),sI 44 (IntKind.wrap .i64 (y2 - 1)),sI 43 y2,sR 42 2 2 0 1 false,sA 41 2 2 0,sB 40 true,sB 39 true,sI 38 y2,sB 37 false,sB 36 false,sB 35 r9,sI 34 v8.Id,sA 33 6 3 0,sI 5 y2,sA 6 6 3 0,sI 28 y2,sI 27 (x0.Rows.length : Int),sC 26 (cF 3 x0.Rows Vrow.row),sA 2 2 2 0,sI 1 x1],[(6,(Vrow.row v8)),(2,(CV.frzRow (Vtab.row x0)))]⟩ kr ?_
         rw [h11]
         refine aU tOk [(21,[]),(22,[25]),(23,[])] 12 [⟨[25],3,54,55⟩,⟨[24,25],3,48,49⟩,⟨[24,25],37,41,42⟩,⟨[2,24,25],3,33,34⟩] [23,22,21,20,19,18,17,16,15,14,13,12,11,10,9,8,7,6,5,4,3,2,1,0] rfl kr (fun cx => ?_)
         refine AT.big1 tOk 24 kr kr ?_
         refine lV tOk [.rd] [] (impl_allPorts n x1 r13 er13) kr kr kr kr (.inl rfl) ?_
         refine lF kr kr kr ?_
         refine AT.big1 tOk 25 kr kr ?_
         refine lV tOk [.rd,.rd,.rd] [] (impl_in n v8.Members 0 r13 r14 er14) kr kr kr kr (.inl rfl) ?_
         refine lF kr kr kr ?_
         refine aU tOk [(26,[]),(27,[]),(28,[])] 7 [⟨[25],3,54,55⟩,⟨[24,25],3,48,49⟩,⟨[24,25],37,41,42⟩,⟨[2,24,25],3,33,34⟩] [28,27,26,25,24,23,22,21,20,19,18,17,16,15,14,13,12,11,10,9,8,7,6,5,4,3,2,1,0] rfl kr (fun cx => ?_)
         refine aT ⟨82,0,[sB 61 (!r14),sB 60 (!r14),sB 59 (!r14),sB 58 r14,sI 57 r13,sI 56 x1,sI 55 v8.Members,sA 54 6 3 1,sB 53 false,sB 52 false,sB 51 false,sB 50 false,sI 49 v8.Id,sA 48 6 3 0,sI 47 v12.Id,(46,.fad ((Vrow.row v12))),(45,.fad ((Vrow.row v12))),sI 44 (IntKind.wrap .i64 (y2 - 1)),sI 43 y2,sR 42 2 2 0 1 false,sA 41 2 2 0,sB 40 true,sB 39 true,sI 38 y2,sB 37 false,sB 36 false,sB 35 r9,sI 34 v8.Id,sA 33 6 3 0,sI 5 y2,sA 6 6 3 0,sI 28 y2,sI 27 (x0.Rows.length : Int),sC 26 (cF 3 x0.Rows Vrow.row),sA 2 2 2 0,sI 1 x1],[(6,(Vrow.row v8)),(2,(CV.frzRow (Vtab.row x0)))]⟩ kr ?_
         rw [h12]
         refine aU tOk [(29,[]),(30,[]),(31,[]),(32,[]),(33,[]),(34,[]),(35,[])] 0 [⟨[],3,64,65⟩,⟨[],3,62,63⟩,⟨[25],3,54,55⟩,⟨[24,25],3,48,49⟩,⟨[24,25],37,41,42⟩,⟨[2,24,25],3,33,34⟩] [35,34,33,32,31,30,29,28,27,26,25,24,23,22,21,20,19,18,17,16,15,14,13,12,11,10,9,8,7,6,5,4,3,2,1,0] rfl kr (fun cx => ?_)
         exact AT.done [68,28,27,26,2,1] [2] _ kr kr rfl
        refine tO ⟨82,0,[sB 68 ((IntKind.wrap .i64 (BitVec.ofInt (IntKind.bits .i64) v8.Bare &&& ~~~BitVec.ofInt (IntKind.bits .i64) v8.Members).toNat) != 0),sI 28 y2,sI 27 (x0.Rows.length : Int),sC 26 (cF 3 x0.Rows Vrow.row),sA 2 2 2 0,sI 1 x1],[(2,(CV.frzRow (Vtab.row x0)))]⟩ kr ?_
        cases h13 : ((IntKind.wrap .i64 (BitVec.ofInt (IntKind.bits .i64) v8.Bare &&& ~~~BitVec.ofInt (IntKind.bits .i64) v8.Members).toNat) != 0)
        ·have H := bifF h13 H
         refine tf kr ?_
         refine tK ?_
         refine tE tOk 2 469762054 4 kr kr ?_
         exact jn (mo7,(IntKind.wrap .i64 (y2 + 1))) H (sM mo7 [28,27,26,2,1] [2] kr)
        have H := bifT h13 H
        refine tt kr ?_
        refine tG tOk 1 16 0 kr kr ?_
        refine te ?_
        obtain rfl := si H
        have H := Ho7
        dsimp only at H
        obtain rfl := si H
        exact fO [(false,[cB false])] kr rfl rfl
       have H := bifT h12 H
       refine Tr.draws mixed 36 kr ⟨82,0,[sB 68 true,sI 28 y2,sI 27 (x0.Rows.length : Int),sC 26 (cF 3 x0.Rows Vrow.row),sA 2 2 2 0,sI 1 x1],[(2,(CV.frzRow (Vtab.row x0)))]⟩ (fun cx => ?_) ?_
       ·refine aU tOk [(0,[]),(1,[2,24,25])] 34 [⟨[2,24,25],3,33,34⟩] [1,0] rfl kr (fun cx => ?_)
        refine AT.big1 tOk 2 kr kr ?_
        refine lV tOk [.rd,.rd,.rd] [] (impl_in n v8.Id 1 99 r9 er9) kr kr kr kr (.inl rfl) ?_
        refine lF kr kr kr ?_
        refine aU tOk [(3,[]),(4,[])] 31 [⟨[2,24,25],3,33,34⟩] [4,3,2,1,0] rfl kr (fun cx => ?_)
        refine aT ⟨82,0,[sB 37 (!r9),sB 36 (!r9),sB 35 r9,sI 34 v8.Id,sA 33 6 3 0,sI 5 y2,sA 6 6 3 0,sI 28 y2,sI 27 (x0.Rows.length : Int),sC 26 (cF 3 x0.Rows Vrow.row),sA 2 2 2 0,sI 1 x1],[(6,(Vrow.row v8)),(2,(CV.frzRow (Vtab.row x0)))]⟩ kr ?_
        rw [h7]
        refine aU tOk [(5,[]),(6,[]),(7,[])] 28 [⟨[2,24,25],3,33,34⟩] [7,6,5,4,3,2,1,0] rfl kr (fun cx => ?_)
        refine aT ⟨82,0,[sB 40 (decide (y2 > 0)),sB 39 (decide (y2 > 0)),sI 38 y2,sB 37 false,sB 36 false,sB 35 r9,sI 34 v8.Id,sA 33 6 3 0,sI 5 y2,sA 6 6 3 0,sI 28 y2,sI 27 (x0.Rows.length : Int),sC 26 (cF 3 x0.Rows Vrow.row),sA 2 2 2 0,sI 1 x1],[(6,(Vrow.row v8)),(2,(CV.frzRow (Vtab.row x0)))]⟩ kr ?_
        rw [h8]
        refine aU tOk [(8,[]),(9,[24,25]),(10,[]),(11,[])] 24 [⟨[24,25],37,41,42⟩,⟨[2,24,25],3,33,34⟩] [11,10,9,8,7,6,5,4,3,2,1,0] rfl kr (fun cx => ?_)
        refine aI tOk 12 37 0 42 44 45 (some (7,true)) ⟨(.box 2),[(0,0)],0,false,3,(CV.frzEs (x0.Rows.map Vrow.row))⟩ (IntKind.wrap .i64 (y2 - 1)) (Vrow.row v12) _ kr kr kr kr kr kr rfl (idx_isF ev12) rfl (fun cx => ?_)
        refine aU tOk [(13,[]),(14,[]),(15,[]),(16,[24,25]),(17,[]),(18,[]),(19,[]),(20,[])] 15 [⟨[24,25],3,48,49⟩,⟨[24,25],37,41,42⟩,⟨[2,24,25],3,33,34⟩] [20,19,18,17,16,15,14,13,12,11,10,9,8,7,6,5,4,3,2,1,0] rfl kr (fun cx => ?_)
        refine aT ⟨82,0,[sB 53 (decide (v12.Id ≥ v8.Id)),sB 52 (decide (v12.Id ≥ v8.Id)),sB 51 (decide (v12.Id ≥ v8.Id)),sB 50 (decide (v12.Id ≥ v8.Id)),sI 49 v8.Id,sA 48 6 3 0,sI 47 v12.Id,(46,.fad ((Vrow.row v12))),(45,.fad ((Vrow.row v12))),sI 44 (IntKind.wrap .i64 (y2 - 1)),sI 43 y2,sR 42 2 2 0 1 false,sA 41 2 2 0,sB 40 true,sB 39 true,sI 38 y2,sB 37 false,sB 36 false,sB 35 r9,sI 34 v8.Id,sA 33 6 3 0,sI 5 y2,sA 6 6 3 0,sI 28 y2,sI 27 (x0.Rows.length : Int),sC 26 (cF 3 x0.Rows Vrow.row),sA 2 2 2 0,sI 1 x1],[(6,(Vrow.row v8)),(2,(CV.frzRow (Vtab.row x0)))]⟩ kr ?_
        rw [h11]
        refine aU tOk [(21,[]),(22,[25]),(23,[])] 12 [⟨[25],3,54,55⟩,⟨[24,25],3,48,49⟩,⟨[24,25],37,41,42⟩,⟨[2,24,25],3,33,34⟩] [23,22,21,20,19,18,17,16,15,14,13,12,11,10,9,8,7,6,5,4,3,2,1,0] rfl kr (fun cx => ?_)
        refine AT.big1 tOk 24 kr kr ?_
        refine lV tOk [.rd] [] (impl_allPorts n x1 r13 er13) kr kr kr kr (.inl rfl) ?_
        refine lF kr kr kr ?_
        refine AT.big1 tOk 25 kr kr ?_
        refine lV tOk [.rd,.rd,.rd] [] (impl_in n v8.Members 0 r13 r14 er14) kr kr kr kr (.inl rfl) ?_
        refine lF kr kr kr ?_
        refine aU tOk [(26,[]),(27,[]),(28,[])] 7 [⟨[25],3,54,55⟩,⟨[24,25],3,48,49⟩,⟨[24,25],37,41,42⟩,⟨[2,24,25],3,33,34⟩] [28,27,26,25,24,23,22,21,20,19,18,17,16,15,14,13,12,11,10,9,8,7,6,5,4,3,2,1,0] rfl kr (fun cx => ?_)
        refine aT ⟨82,0,[sB 61 (!r14),sB 60 (!r14),sB 59 (!r14),sB 58 r14,sI 57 r13,sI 56 x1,sI 55 v8.Members,sA 54 6 3 1,sB 53 false,sB 52 false,sB 51 false,sB 50 false,sI 49 v8.Id,sA 48 6 3 0,sI 47 v12.Id,(46,.fad ((Vrow.row v12))),(45,.fad ((Vrow.row v12))),sI 44 (IntKind.wrap .i64 (y2 - 1)),sI 43 y2,sR 42 2 2 0 1 false,sA 41 2 2 0,sB 40 true,sB 39 true,sI 38 y2,sB 37 false,sB 36 false,sB 35 r9,sI 34 v8.Id,sA 33 6 3 0,sI 5 y2,sA 6 6 3 0,sI 28 y2,sI 27 (x0.Rows.length : Int),sC 26 (cF 3 x0.Rows Vrow.row),sA 2 2 2 0,sI 1 x1],[(6,(Vrow.row v8)),(2,(CV.frzRow (Vtab.row x0)))]⟩ kr ?_
        rw [h12]
        refine aU tOk [(29,[]),(30,[]),(31,[]),(32,[]),(33,[]),(34,[]),(35,[])] 0 [⟨[25],3,54,55⟩,⟨[24,25],3,48,49⟩,⟨[24,25],37,41,42⟩,⟨[2,24,25],3,33,34⟩] [35,34,33,32,31,30,29,28,27,26,25,24,23,22,21,20,19,18,17,16,15,14,13,12,11,10,9,8,7,6,5,4,3,2,1,0] rfl kr (fun cx => ?_)
        exact AT.done [68,28,27,26,2,1] [2] _ kr kr rfl
       refine tt kr ?_
       refine tG tOk 1 16 0 kr kr ?_
       refine te ?_
       obtain rfl := si H
       have H := Ho7
       dsimp only at H
       obtain rfl := si H
       exact fO [(false,[cB false])] kr rfl rfl
      have H := bifT h11 H
      refine Tr.draws mixed 36 kr ⟨82,0,[sB 68 true,sI 28 y2,sI 27 (x0.Rows.length : Int),sC 26 (cF 3 x0.Rows Vrow.row),sA 2 2 2 0,sI 1 x1],[(2,(CV.frzRow (Vtab.row x0)))]⟩ (fun cx => ?_) ?_
      ·refine aU tOk [(0,[]),(1,[2])] 34 [⟨[2],3,33,34⟩] [1,0] rfl kr (fun cx => ?_)
       refine AT.big1 tOk 2 kr kr ?_
       refine lV tOk [.rd,.rd,.rd] [] (impl_in n v8.Id 1 99 r9 er9) kr kr kr kr (.inl rfl) ?_
       refine lF kr kr kr ?_
       refine aU tOk [(3,[]),(4,[])] 31 [⟨[2],3,33,34⟩] [4,3,2,1,0] rfl kr (fun cx => ?_)
       refine aT ⟨82,0,[sB 37 (!r9),sB 36 (!r9),sB 35 r9,sI 34 v8.Id,sA 33 6 3 0,sI 5 y2,sA 6 6 3 0,sI 28 y2,sI 27 (x0.Rows.length : Int),sC 26 (cF 3 x0.Rows Vrow.row),sA 2 2 2 0,sI 1 x1],[(6,(Vrow.row v8)),(2,(CV.frzRow (Vtab.row x0)))]⟩ kr ?_
       rw [h7]
       refine aU tOk [(5,[]),(6,[]),(7,[])] 28 [⟨[2],3,33,34⟩] [7,6,5,4,3,2,1,0] rfl kr (fun cx => ?_)
       refine aT ⟨82,0,[sB 40 (decide (y2 > 0)),sB 39 (decide (y2 > 0)),sI 38 y2,sB 37 false,sB 36 false,sB 35 r9,sI 34 v8.Id,sA 33 6 3 0,sI 5 y2,sA 6 6 3 0,sI 28 y2,sI 27 (x0.Rows.length : Int),sC 26 (cF 3 x0.Rows Vrow.row),sA 2 2 2 0,sI 1 x1],[(6,(Vrow.row v8)),(2,(CV.frzRow (Vtab.row x0)))]⟩ kr ?_
       rw [h8]
       refine aU tOk [(8,[]),(9,[]),(10,[]),(11,[])] 24 [⟨[],37,41,42⟩,⟨[2],3,33,34⟩] [11,10,9,8,7,6,5,4,3,2,1,0] rfl kr (fun cx => ?_)
       refine aI tOk 12 37 0 42 44 45 (some (7,true)) ⟨(.box 2),[(0,0)],0,false,3,(CV.frzEs (x0.Rows.map Vrow.row))⟩ (IntKind.wrap .i64 (y2 - 1)) (Vrow.row v12) _ kr kr kr kr kr kr rfl (idx_isF ev12) rfl (fun cx => ?_)
       refine aU tOk [(13,[]),(14,[]),(15,[]),(16,[]),(17,[]),(18,[]),(19,[]),(20,[])] 15 [⟨[],3,48,49⟩,⟨[],37,41,42⟩,⟨[2],3,33,34⟩] [20,19,18,17,16,15,14,13,12,11,10,9,8,7,6,5,4,3,2,1,0] rfl kr (fun cx => ?_)
       refine aT ⟨82,0,[sB 53 (decide (v12.Id ≥ v8.Id)),sB 52 (decide (v12.Id ≥ v8.Id)),sB 51 (decide (v12.Id ≥ v8.Id)),sB 50 (decide (v12.Id ≥ v8.Id)),sI 49 v8.Id,sA 48 6 3 0,sI 47 v12.Id,(46,.fad ((Vrow.row v12))),(45,.fad ((Vrow.row v12))),sI 44 (IntKind.wrap .i64 (y2 - 1)),sI 43 y2,sR 42 2 2 0 1 false,sA 41 2 2 0,sB 40 true,sB 39 true,sI 38 y2,sB 37 false,sB 36 false,sB 35 r9,sI 34 v8.Id,sA 33 6 3 0,sI 5 y2,sA 6 6 3 0,sI 28 y2,sI 27 (x0.Rows.length : Int),sC 26 (cF 3 x0.Rows Vrow.row),sA 2 2 2 0,sI 1 x1],[(6,(Vrow.row v8)),(2,(CV.frzRow (Vtab.row x0)))]⟩ kr ?_
       rw [h11]
       refine aU tOk [(21,[]),(22,[]),(23,[]),(24,[]),(25,[]),(26,[]),(27,[]),(28,[]),(29,[]),(30,[]),(31,[]),(32,[]),(33,[]),(34,[]),(35,[])] 0 [⟨[],3,48,49⟩,⟨[],37,41,42⟩,⟨[2],3,33,34⟩] [35,34,33,32,31,30,29,28,27,26,25,24,23,22,21,20,19,18,17,16,15,14,13,12,11,10,9,8,7,6,5,4,3,2,1,0] rfl kr (fun cx => ?_)
       exact AT.done [68,28,27,26,2,1] [2] _ kr kr rfl
      refine tt kr ?_
      refine tG tOk 1 16 0 kr kr ?_
      refine te ?_
      obtain rfl := si H
      have H := Ho7
      dsimp only at H
      obtain rfl := si H
      exact fO [(false,[cB false])] kr rfl rfl
     have H := bifT h7 H
     refine Tr.draws mixed 36 kr ⟨82,0,[sB 68 true,sI 28 y2,sI 27 (x0.Rows.length : Int),sC 26 (cF 3 x0.Rows Vrow.row),sA 2 2 2 0,sI 1 x1],[(2,(CV.frzRow (Vtab.row x0)))]⟩ (fun cx => ?_) ?_
     ·refine aU tOk [(0,[]),(1,[2])] 34 [⟨[2],3,33,34⟩] [1,0] rfl kr (fun cx => ?_)
      refine AT.big1 tOk 2 kr kr ?_
      refine lV tOk [.rd,.rd,.rd] [] (impl_in n v8.Id 1 99 r9 er9) kr kr kr kr (.inl rfl) ?_
      refine lF kr kr kr ?_
      refine aU tOk [(3,[]),(4,[])] 31 [⟨[2],3,33,34⟩] [4,3,2,1,0] rfl kr (fun cx => ?_)
      refine aT ⟨82,0,[sB 37 (!r9),sB 36 (!r9),sB 35 r9,sI 34 v8.Id,sA 33 6 3 0,sI 5 y2,sA 6 6 3 0,sI 28 y2,sI 27 (x0.Rows.length : Int),sC 26 (cF 3 x0.Rows Vrow.row),sA 2 2 2 0,sI 1 x1],[(6,(Vrow.row v8)),(2,(CV.frzRow (Vtab.row x0)))]⟩ kr ?_
      rw [h7]
      refine aU tOk [(5,[]),(6,[]),(7,[]),(8,[]),(9,[]),(10,[]),(11,[]),(12,[]),(13,[]),(14,[]),(15,[]),(16,[]),(17,[]),(18,[]),(19,[]),(20,[]),(21,[]),(22,[]),(23,[]),(24,[]),(25,[]),(26,[]),(27,[]),(28,[]),(29,[]),(30,[]),(31,[]),(32,[]),(33,[]),(34,[]),(35,[])] 0 [⟨[2],3,33,34⟩] [35,34,33,32,31,30,29,28,27,26,25,24,23,22,21,20,19,18,17,16,15,14,13,12,11,10,9,8,7,6,5,4,3,2,1,0] rfl kr (fun cx => ?_)
      exact AT.done [68,28,27,26,2,1] [2] _ kr kr rfl
     refine tt kr ?_
     refine tG tOk 1 16 0 kr kr ?_
     refine te ?_
     obtain rfl := si H
     have H := Ho7
     dsimp only at H
     obtain rfl := si H
     exact fO [(false,[cB false])] kr rfl rfl
    rintro _ H
    have H : (impl_VtabOk_J1 n x0) = some r := H
    unfold impl_VtabOk_J1 at H
    refine tS ?_
    refine rU tOk 2 kr ?_
    refine lL tOk 25 3 3 71 72 none ⟨(.slot 71),[],0,false,1,(CV.frzEs (x0.Pvid.map intRow))⟩ (x0.Pvid).length _ kr kr kr kr kr (frz_len _ _) rfl ?_
    refine uD tOk 1 0x3800000000000000004 4 kr kr ?_
    obtain ⟨o4,eo4,Ho4⟩ := bind_some H
    clear H
    refine Tr.mid (ι := Unit) (fun v => ⟨82,0,[],[]⟩) (fun v => impl_VtabOk_J2 n = some r) ?_ ?_
    ·refine tB ?_
     refine Tr.loop (ι := Nat × (Int)) (fun v => ⟨82,0,[sI 73 v.2,sI 72 (x0.Pvid.length : Int),sC 71 (cF 1 x0.Pvid intRow),sA 2 2 2 0],[(2,(CV.frzRow (Vtab.row x0)))]⟩) (fun v => impl_VtabOk_L3 n v.1 x0 v.2 = some o4) (fun v => v.1) (n,0) eo4 (St.sub_of [73,72,71,2] [2] kr) ?_
     rintro ⟨mo4,y3⟩ H
     have H : impl_VtabOk_L3 n mo4 x0 y3 = some o4 := H
     obtain _ | mo4 := mo4
     ·cases (show (none : Option _) = some o4 from H)
     rw [impl_VtabOk_L3] at H
     refine tG tOk 1 0x7800000000000000004 4 kr kr ?_
     refine tS ?_
     obtain ⟨h4,H⟩ | ⟨h4,H⟩ := bC H
     ·refine tF h4 kr ?_
      refine Tr.exit ?_
      refine And.intro (fun _ => ?_) (fun h => absurd rfl h)
      obtain rfl := si H
      have H := Ho4
      dsimp only at H
      exact jn () H (sB_ [] [] kr)
     refine tT h4 kr ?_
     refine tK ?_
     refine tS ?_
     refine tB ?_
     refine tR ?_
     obtain ⟨v5,ev5,H⟩ := bind_some H
     refine lI tOk 25 0 71 73 75 none ⟨(.slot 71),[],0,false,1,(CV.frzEs (x0.Pvid.map intRow))⟩ y3 [cI v5] _ kr kr kr kr rfl (idx_isF ev5) rfl ?_
     refine uD tOk 2 0x3800000000000000104 4 kr kr ?_
     refine rU tOk 2 kr ?_
     obtain ⟨r6,er6,H⟩ := bind_some H
     refine lV tOk [.rd,.rd] [] (impl_RowAt n x0 v5 r6 er6) kr kr kr kr (.inl rfl) ?_
     refine uD tOk 1 0x103800000000000000004 4 kr kr ?_
     obtain ⟨h5,H⟩ | ⟨h5,H⟩ := bC H
     ·refine tF h5 kr ?_
      refine tK ?_
      refine tE tOk 2 0x3800000000000000004 4 kr kr ?_
      exact jn (mo4,(IntKind.wrap .i64 (y3 + 1))) H (sM mo4 [73,72,71,2] [2] kr)
     refine tT h5 kr ?_
     refine tG tOk 1 16 0 kr kr ?_
     refine te ?_
     obtain rfl := si H
     have H := Ho4
     dsimp only at H
     obtain rfl := si H
     exact fO [(false,[cB false])] kr rfl rfl
    rintro _ H
    have H : (impl_VtabOk_J2 n) = some r := H
    unfold impl_VtabOk_J2 at H
    refine tG tOk 1 16 0 kr kr ?_
    exact te (by obtain rfl := si H; exact fO [(false,[cB true])] kr rfl rfl)
   refine tT h3 kr ?_
   refine tG tOk 1 16 0 kr kr ?_
   exact te (by obtain rfl := si H; exact fO [(false,[cB false])] kr rfl rfl)
  have H := bifT h2 H
  refine uD tOk 5 16777222 4 kr kr ?_
  refine tt kr ?_
  refine tG tOk 1 16 0 kr kr ?_
  exact te (by obtain rfl := si H; exact fO [(false,[cB false])] kr rfl rfl)
 have H := bifT h1 H
 refine uD tOk 12 16777222 4 kr kr ?_
 refine tt kr ?_
 refine tG tOk 1 16 0 kr kr ?_
 exact te (by obtain rfl := si H; exact fO [(false,[cB false])] kr rfl rfl)
def impl_isCountF (n : Nat) (x0 : Int) : Option (Bool) :=
  ((impl_inF n x0 0 1000000).bind fun r1 => (some r1))
noncomputable abbrev G141 (k : Nat) := Rg Tryz.f141 k
theorem impl_isCount (n : Nat) (x0 : Int) (r : Bool) (H : impl_isCountF n x0 = some r) : LCall Tryz.prog 141 [.val false [.lit (.int .i64 x0)]] [.val false [.lit (.bool r)]] [] := by
 refine LCall.of_body tOk Tryz.func141 rfl (c := (.seq (G141 0) (.seq (G141 1) .ret))) kr (Nat.le_of_ble_eq_true kr) 0 (rs := [.tmp 2]) rfl [] .nil [(false,[.lit (.bool r)])] [] [] fun cx => ?_
 show Tr _ _ _ ⟨5,0,[sI 0 x0],[]⟩ _
 unfold impl_isCountF at H
 refine tG tOk 1 1 0 kr kr ?_
 refine rU tOk 1 kr ?_
 obtain ⟨r1,er1,H⟩ := bind_some H
 refine lV tOk [.rd,.rd,.rd] [] (impl_in n x0 0 1000000 r1 er1) kr kr kr kr (.inl rfl) ?_
 refine uD tOk 1 4 0 kr kr ?_
 exact te (by obtain rfl := si H; exact fO [(false,[cB r1])] kr rfl rfl)
def impl_BridgeOk_J1 (n : Nat) (x0 : Bridge) : Option (Bool) :=
  ((impl_inF n x0.Id 1 99).bind fun r2 => (bif (!r2) then (some false) else (bif (decide ((x0.Name.size : Int) > 10)) then (some false) else ((impl_inF n (x0.Ports.length : Int) 1 6).bind fun r3 => (bif (!r3) then (some false) else ((impl_FdbOkF n x0.F).bind fun r4 => (bif (!r4) then (some false) else ((impl_VtabOkF n x0.V (x0.Ports.length : Int)).bind fun r5 => (bif (!r5) then (some false) else ((impl_isCountF n x0.Ticks).bind fun r6 => (bif r6 then ((impl_isCountF n x0.Parse).bind fun r7 => (bif r7 then ((impl_isCountF n x0.Word).bind fun r8 => (bif r8 then ((impl_isCountF n x0.Drops).bind fun r9 => (bif r9 then ((impl_isCountF n x0.Vers).bind fun r10 => (some r10)) else (some false))) else (some false))) else (some false))) else (some false))))))))))))
def impl_BridgeOk_L2 (n : Nat) : Nat → Bridge → Int → Option ((Unit) ⊕ (Bool))
  | 0,_,_ => none
  | mo11 + 1,x0,y1 => (bif (decide (y1 < (x0.Ports.length : Int))) then ((idx x0.Ports y1).bind fun v12 => ((impl_PtOkF n v12).bind fun r13 => (bif (!r13) then (some (Sum.inr false)) else (impl_BridgeOk_L2 n mo11 x0 (IntKind.wrap .i64 (y1 + 1)))))) else (some (Sum.inl ())))
def impl_BridgeOkF (n : Nat) (x0 : Bridge) : Option (Bool) :=
  ((impl_BridgeOk_L2 n n x0 0).bind fun o => match o with | .inl _ => (impl_BridgeOk_J1 n x0) | .inr r => some r)
noncomputable abbrev G41 (k : Nat) := Rg Tryz.f41 k
theorem impl_BridgeOk (n : Nat) (x0 : Bridge) (r : Bool) (H : impl_BridgeOkF n x0 = some r) : LCall Tryz.prog 41 [.val true (CV.frzRow (Bridge.row x0))] [.val false [.lit (.bool r)]] [] := by
 refine LCall.of_body tOk Tryz.func41 rfl (c := (.seq (G41 0) (.seq (.seq (G41 1) (.block 0 (.loop (.seq (G41 2) (.seq (.cond (.tmp 9) .skip (.exit 0)) (.seq (.block 1 (.seq (G41 3) (.seq (G41 4) (.cond (.tmp 14) (.seq (G41 5) .ret) .skip)))) (G41 6))))))) (.seq (.seq (G41 7) (.cond (.tmp 47) (.seq (G41 8) .ret) .skip)) (.seq (G41 9) .ret))))) kr (Nat.le_of_ble_eq_true kr) 0 (rs := [.tmp 2]) rfl [] .nil [(false,[.lit (.bool r)])] [] [] fun cx => ?_
 show Tr _ _ _ ⟨71,0,[sV 0 (CV.frzRow (Bridge.row x0))],[]⟩ _
 unfold impl_BridgeOkF at H
 refine tG tOk 2 2 2 kr kr ?_
 refine tS ?_
 refine rU tOk 2 kr ?_
 refine lL tOk 35 3 167 6 7 none ⟨(.slot 6),[],0,false,8,(CV.frzEs (x0.Ports.map Pt.row))⟩ (x0.Ports).length _ kr kr kr kr kr (frz_len _ _) rfl ?_
 refine uD tOk 1 450 2 kr kr ?_
 obtain ⟨o11,eo11,Ho11⟩ := bind_some H
 clear H
 refine Tr.mid (ι := Unit) (fun v => ⟨71,0,[sA 1 1 11 0],[(1,(CV.frzRow (Bridge.row x0)))]⟩) (fun v => impl_BridgeOk_J1 n x0 = some r) ?_ ?_
 ·refine tB ?_
  refine Tr.loop (ι := Nat × (Int)) (fun v => ⟨71,0,[sI 8 v.2,sI 7 (x0.Ports.length : Int),sC 6 (cF 8 x0.Ports Pt.row),sA 1 1 11 0],[(1,(CV.frzRow (Bridge.row x0)))]⟩) (fun v => impl_BridgeOk_L2 n v.1 x0 v.2 = some o11) (fun v => v.1) (n,0) eo11 (St.sub_of [8,7,6,1] [1] kr) ?_
  rintro ⟨mo11,y1⟩ H
  have H : impl_BridgeOk_L2 n mo11 x0 y1 = some o11 := H
  obtain _ | mo11 := mo11
  ·cases (show (none : Option _) = some o11 from H)
  rw [impl_BridgeOk_L2] at H
  refine tG tOk 1 962 2 kr kr ?_
  refine tS ?_
  obtain ⟨h10,H⟩ | ⟨h10,H⟩ := bC H
  ·refine tF h10 kr ?_
   refine Tr.exit ?_
   refine And.intro (fun _ => ?_) (fun h => absurd rfl h)
   obtain rfl := si H
   have H := Ho11
   dsimp only at H
   exact jn () H (sB_ [1] [1] kr)
  refine tT h10 kr ?_
  refine tK ?_
  refine tS ?_
  refine tB ?_
  refine tR ?_
  obtain ⟨v12,ev12,H⟩ := bind_some H
  refine lI tOk 35 0 6 8 10 none ⟨(.slot 6),[],0,false,8,(CV.frzEs (x0.Ports.map Pt.row))⟩ y1 (Pt.row v12) _ kr kr kr kr rfl (idx_isF ev12) rfl ?_
  refine uD tOk 3 466 18 kr kr ?_
  refine rU tOk 1 kr ?_
  obtain ⟨r13,er13,H⟩ := bind_some H
  refine lV tOk [.rd] [] (impl_PtOk n v12 r13 er13) kr kr kr kr (.inl rfl) ?_
  refine uD tOk 1 16834 2 kr kr ?_
  obtain ⟨h11,H⟩ | ⟨h11,H⟩ := bC H
  ·refine tF h11 kr ?_
   refine tK ?_
   refine tE tOk 2 450 2 kr kr ?_
   exact jn (mo11,(IntKind.wrap .i64 (y1 + 1))) H (sM mo11 [8,7,6,1] [1] kr)
  refine tT h11 kr ?_
  refine tG tOk 1 4 0 kr kr ?_
  refine te ?_
  obtain rfl := si H
  have H := Ho11
  dsimp only at H
  obtain rfl := si H
  exact fO [(false,[cB false])] kr rfl rfl
 rintro _ H
 have H : (impl_BridgeOk_J1 n x0) = some r := H
 unfold impl_BridgeOk_J1 at H
 refine tS ?_
 refine rU tOk 2 kr ?_
 obtain ⟨r2,er2,H⟩ := bind_some H
 refine lV tOk [.rd,.rd,.rd] [] (impl_in n x0.Id 1 99 r2 er2) kr kr kr kr (.inl rfl) ?_
 refine lU tOk 2 kr ?_
 refine lT ⟨71,0,[sB 20 (!r2),sB 19 (!r2),sB 18 r2,sI 17 x0.Id,sA 16 1 11 0,sA 1 1 11 0],[(1,(CV.frzRow (Bridge.row x0)))]⟩ kr ?_
 cases h1 : (!r2)
 ·have H := bifF h1 H
  refine lU tOk 6 kr ?_
  refine lT ⟨71,0,[sB 26 (decide ((x0.Name.size : Int) > 10)),sB 25 (decide ((x0.Name.size : Int) > 10)),sB 24 (decide ((x0.Name.size : Int) > 10)),sI 23 (x0.Name.size : Int),sC 22 (cS x0.Name),sA 21 1 11 1,sB 20 false,sB 19 false,sB 18 r2,sI 17 x0.Id,sA 16 1 11 0,sA 1 1 11 0],[(1,(CV.frzRow (Bridge.row x0)))]⟩ kr ?_
  cases h2 : (decide ((x0.Name.size : Int) > 10))
  ·have H := bifF h2 H
   refine lU tOk 2 kr ?_
   refine lL tOk 35 3 167 28 29 (some (10,false)) ⟨(.slot 28),[],0,false,8,(CV.frzEs (x0.Ports.map Pt.row))⟩ (x0.Ports).length _ kr kr kr kr kr (frz_len _ _) rfl ?_
   obtain ⟨r3,er3,H⟩ := bind_some H
   refine lV tOk [.rd,.rd,.rd] [] (impl_in n (x0.Ports.length : Int) 1 6 r3 er3) kr kr kr kr (.inl rfl) ?_
   refine lU tOk 3 kr ?_
   refine lT ⟨71,0,[sB 33 (!r3),sB 32 (!r3),sB 31 (!r3),sB 30 r3,sI 29 (x0.Ports.length : Int),sC 28 (cF 8 x0.Ports Pt.row),sA 27 1 11 2,sB 26 false,sB 25 false,sB 24 false,sI 23 (x0.Name.size : Int),sC 22 (cS x0.Name),sA 21 1 11 1,sB 20 false,sB 19 false,sB 18 r2,sI 17 x0.Id,sA 16 1 11 0,sA 1 1 11 0],[(1,(CV.frzRow (Bridge.row x0)))]⟩ kr ?_
   cases h3 : (!r3)
   ·have H := bifF h3 H
    refine lU tOk 2 kr ?_
    obtain ⟨r4,er4,H⟩ := bind_some H
    refine lV tOk [.rd] [] (impl_FdbOk n x0.F r4 er4) kr kr kr kr (.inl rfl) ?_
    refine lU tOk 3 kr ?_
    refine lT ⟨71,0,[sB 39 (!r4),sB 38 (!r4),sB 37 (!r4),sB 36 r4,sC 35 (cF 5 x0.F Fent.row),sA 34 1 11 3,sB 33 false,sB 32 false,sB 31 false,sB 30 r3,sI 29 (x0.Ports.length : Int),sC 28 (cF 8 x0.Ports Pt.row),sA 27 1 11 2,sB 26 false,sB 25 false,sB 24 false,sI 23 (x0.Name.size : Int),sC 22 (cS x0.Name),sA 21 1 11 1,sB 20 false,sB 19 false,sB 18 r2,sI 17 x0.Id,sA 16 1 11 0,sA 1 1 11 0],[(1,(CV.frzRow (Bridge.row x0)))]⟩ kr ?_
    cases h4 : (!r4)
    ·have H := bifF h4 H
     refine lU tOk 4 kr ?_
     refine lL tOk 35 3 167 43 44 (some (23,false)) ⟨(.slot 43),[],0,false,8,(CV.frzEs (x0.Ports.map Pt.row))⟩ (x0.Ports).length _ kr kr kr kr kr (frz_len _ _) rfl ?_
     obtain ⟨r5,er5,H⟩ := bind_some H
     refine lV tOk [.rd,.rd] [] (impl_VtabOk n x0.V (x0.Ports.length : Int) r5 er5) kr kr kr kr (.inl rfl) ?_
     refine uD tOk 2 0x800000000002 2 kr kr ?_
     obtain ⟨h5,H⟩ | ⟨h5,H⟩ := bC H
     ·refine tF h5 kr ?_
      refine tK ?_
      refine rU tOk 2 kr ?_
      obtain ⟨r6,er6,H⟩ := bind_some H
      refine lV tOk [.rd] [] (impl_isCount n x0.Ticks r6 er6) kr kr kr kr (.inl rfl) ?_
      refine lU tOk 1 kr ?_
      refine lT ⟨71,0,[sB 51 r6,sB 50 r6,sI 49 x0.Ticks,sA 48 1 11 6,sB 47 (!r5),sA 1 1 11 0],[(1,(CV.frzRow (Bridge.row x0)))]⟩ kr ?_
      cases h6 : r6
      ·have H := bifF h6 H
       refine uD tOk 20 4 0 kr kr ?_
       exact te (by obtain rfl := si H; exact fO [(false,[cB false])] kr rfl rfl)
      have H := bifT h6 H
      refine lU tOk 2 kr ?_
      obtain ⟨r7,er7,H⟩ := bind_some H
      refine lV tOk [.rd] [] (impl_isCount n x0.Parse r7 er7) kr kr kr kr (.inl rfl) ?_
      refine lU tOk 2 kr ?_
      refine lT ⟨71,0,[sB 56 r7,sB 55 r7,sB 54 r7,sI 53 x0.Parse,sA 52 1 11 7,sB 51 true,sB 50 true,sI 49 x0.Ticks,sA 48 1 11 6,sB 47 (!r5),sA 1 1 11 0],[(1,(CV.frzRow (Bridge.row x0)))]⟩ kr ?_
      cases h7 : r7
      ·have H := bifF h7 H
       refine uD tOk 15 4 0 kr kr ?_
       exact te (by obtain rfl := si H; exact fO [(false,[cB false])] kr rfl rfl)
      have H := bifT h7 H
      refine lU tOk 2 kr ?_
      obtain ⟨r8,er8,H⟩ := bind_some H
      refine lV tOk [.rd] [] (impl_isCount n x0.Word r8 er8) kr kr kr kr (.inl rfl) ?_
      refine lU tOk 2 kr ?_
      refine lT ⟨71,0,[sB 61 r8,sB 60 r8,sB 59 r8,sI 58 x0.Word,sA 57 1 11 8,sB 56 true,sB 55 true,sB 54 true,sI 53 x0.Parse,sA 52 1 11 7,sB 51 true,sB 50 true,sI 49 x0.Ticks,sA 48 1 11 6,sB 47 (!r5),sA 1 1 11 0],[(1,(CV.frzRow (Bridge.row x0)))]⟩ kr ?_
      cases h8 : r8
      ·have H := bifF h8 H
       refine uD tOk 10 4 0 kr kr ?_
       exact te (by obtain rfl := si H; exact fO [(false,[cB false])] kr rfl rfl)
      have H := bifT h8 H
      refine lU tOk 2 kr ?_
      obtain ⟨r9,er9,H⟩ := bind_some H
      refine lV tOk [.rd] [] (impl_isCount n x0.Drops r9 er9) kr kr kr kr (.inl rfl) ?_
      refine lU tOk 2 kr ?_
      refine lT ⟨71,0,[sB 66 r9,sB 65 r9,sB 64 r9,sI 63 x0.Drops,sA 62 1 11 9,sB 61 true,sB 60 true,sB 59 true,sI 58 x0.Word,sA 57 1 11 8,sB 56 true,sB 55 true,sB 54 true,sI 53 x0.Parse,sA 52 1 11 7,sB 51 true,sB 50 true,sI 49 x0.Ticks,sA 48 1 11 6,sB 47 (!r5),sA 1 1 11 0],[(1,(CV.frzRow (Bridge.row x0)))]⟩ kr ?_
      cases h9 : r9
      ·have H := bifF h9 H
       refine uD tOk 5 4 0 kr kr ?_
       exact te (by obtain rfl := si H; exact fO [(false,[cB false])] kr rfl rfl)
      have H := bifT h9 H
      refine lU tOk 2 kr ?_
      obtain ⟨r10,er10,H⟩ := bind_some H
      refine lV tOk [.rd] [] (impl_isCount n x0.Vers r10 er10) kr kr kr kr (.inl rfl) ?_
      refine uD tOk 2 4 0 kr kr ?_
      exact te (by obtain rfl := si H; exact fO [(false,[cB r10])] kr rfl rfl)
     refine tT h5 kr ?_
     refine tG tOk 1 4 0 kr kr ?_
     exact te (by obtain rfl := si H; exact fO [(false,[cB false])] kr rfl rfl)
    have H := bifT h4 H
    refine uD tOk 8 0x800000000002 2 kr kr ?_
    refine tt kr ?_
    refine tG tOk 1 4 0 kr kr ?_
    exact te (by obtain rfl := si H; exact fO [(false,[cB false])] kr rfl rfl)
   have H := bifT h3 H
   refine uD tOk 14 0x800000000002 2 kr kr ?_
   refine tt kr ?_
   refine tG tOk 1 4 0 kr kr ?_
   exact te (by obtain rfl := si H; exact fO [(false,[cB false])] kr rfl rfl)
  have H := bifT h2 H
  refine uD tOk 21 0x800000000002 2 kr kr ?_
  refine tt kr ?_
  refine tG tOk 1 4 0 kr kr ?_
  exact te (by obtain rfl := si H; exact fO [(false,[cB false])] kr rfl rfl)
 have H := bifT h1 H
 refine uD tOk 27 0x800000000002 2 kr kr ?_
 refine tt kr ?_
 refine tG tOk 1 4 0 kr kr ?_
 exact te (by obtain rfl := si H; exact fO [(false,[cB false])] kr rfl rfl)
def impl_isPortF (n : Nat) (x0 : Bridge) (x1 : Int) : Option (Bool) :=
  ((impl_BridgeOkF n x0).bind fun r1 => (bif r1 then ((impl_inF n x1 0 (IntKind.wrap .i64 ((x0.Ports.length : Int) - 1))).bind fun r2 => (some r2)) else (some false)))
noncomputable abbrev G84 (k : Nat) := Rg Tryz.f84 k
theorem impl_isPort (n : Nat) (x0 : Bridge) (x1 : Int) (r : Bool) (H : impl_isPortF n x0 x1 = some r) : LCall Tryz.prog 84 [.val true (CV.frzRow (Bridge.row x0)),.val false [.lit (.int .i64 x1)]] [.val false [.lit (.bool r)]] [] := by
 refine LCall.of_body tOk Tryz.func84 rfl (c := (.seq (G84 0) (.seq (G84 1) .ret))) kr (Nat.le_of_ble_eq_true kr) 0 (rs := [.tmp 4]) rfl [] .nil [(false,[.lit (.bool r)])] [] [] fun cx => ?_
 show Tr _ _ _ ⟨15,0,[sV 0 (CV.frzRow (Bridge.row x0)),sI 1 x1],[]⟩ _
 unfold impl_isPortF at H
 refine tG tOk 2 6 4 kr kr ?_
 refine rU tOk 1 kr ?_
 obtain ⟨r1,er1,H⟩ := bind_some H
 refine lV tOk [.rd] [] (impl_BridgeOk n x0 r1 er1) kr kr kr kr (.inl rfl) ?_
 refine lU tOk 1 kr ?_
 refine lT ⟨15,0,[sB 7 r1,sB 6 r1,sV 5 (CV.frzRow (Bridge.row x0)),sA 2 2 11 0,sI 1 x1],[(2,(CV.frzRow (Bridge.row x0)))]⟩ kr ?_
 cases h1 : r1
 ·have H := bifF h1 H
  refine uD tOk 8 16 0 kr kr ?_
  exact te (by obtain rfl := si H; exact fO [(false,[cB false])] kr rfl rfl)
 have H := bifT h1 H
 refine lU tOk 3 kr ?_
 refine lL tOk 35 3 167 10 11 (some (2,true)) ⟨(.slot 10),[],0,false,8,(CV.frzEs (x0.Ports.map Pt.row))⟩ (x0.Ports).length _ kr kr kr kr kr (frz_len _ _) rfl ?_
 refine lU tOk 1 kr ?_
 obtain ⟨r2,er2,H⟩ := bind_some H
 refine lV tOk [.rd,.rd,.rd] [] (impl_in n x1 0 (IntKind.wrap .i64 ((x0.Ports.length : Int) - 1)) r2 er2) kr kr kr kr (.inl rfl) ?_
 refine uD tOk 2 16 0 kr kr ?_
 exact te (by obtain rfl := si H; exact fO [(false,[cB r2])] kr rfl rfl)
def impl_FrameOkF (n : Nat) (x0 : Frame) : Option (Bool) :=
  ((impl_inF n x0.Dst 0 9999).bind fun r1 => (bif r1 then ((impl_inF n x0.Src 1 9999).bind fun r2 => (bif r2 then ((impl_inF n x0.Tag 0 99).bind fun r3 => (bif r3 then (some (decide ((x0.Data.length : Int) ≤ 20))) else (some false))) else (some false))) else (some false)))
noncomputable abbrev G85 (k : Nat) := Rg Tryz.f85 k
theorem impl_FrameOk (n : Nat) (x0 : Frame) (r : Bool) (H : impl_FrameOkF n x0 = some r) : LCall Tryz.prog 85 [.val true (CV.frzRow (Frame.row x0))] [.val false [.lit (.bool r)]] [] := by
 refine LCall.of_body tOk Tryz.func85 rfl (c := (.seq (G85 0) (.seq (G85 1) .ret))) kr (Nat.le_of_ble_eq_true kr) 0 (rs := [.tmp 2]) rfl [] .nil [(false,[.lit (.bool r)])] [] [] fun cx => ?_
 show Tr _ _ _ ⟨22,0,[sV 0 (CV.frzRow (Frame.row x0))],[]⟩ _
 unfold impl_FrameOkF at H
 refine tG tOk 2 2 2 kr kr ?_
 refine rU tOk 2 kr ?_
 obtain ⟨r1,er1,H⟩ := bind_some H
 refine lV tOk [.rd,.rd,.rd] [] (impl_in n x0.Dst 0 9999 r1 er1) kr kr kr kr (.inl rfl) ?_
 refine lU tOk 1 kr ?_
 refine lT ⟨22,0,[sB 6 r1,sB 5 r1,sI 4 x0.Dst,sA 3 1 4 0,sA 1 1 4 0],[(1,(CV.frzRow (Frame.row x0)))]⟩ kr ?_
 cases h1 : r1
 ·have H := bifF h1 H
  refine uD tOk 16 4 0 kr kr ?_
  exact te (by obtain rfl := si H; exact fO [(false,[cB false])] kr rfl rfl)
 have H := bifT h1 H
 refine lU tOk 2 kr ?_
 obtain ⟨r2,er2,H⟩ := bind_some H
 refine lV tOk [.rd,.rd,.rd] [] (impl_in n x0.Src 1 9999 r2 er2) kr kr kr kr (.inl rfl) ?_
 refine lU tOk 2 kr ?_
 refine lT ⟨22,0,[sB 11 r2,sB 10 r2,sB 9 r2,sI 8 x0.Src,sA 7 1 4 1,sB 6 true,sB 5 true,sI 4 x0.Dst,sA 3 1 4 0,sA 1 1 4 0],[(1,(CV.frzRow (Frame.row x0)))]⟩ kr ?_
 cases h2 : r2
 ·have H := bifF h2 H
  refine uD tOk 11 4 0 kr kr ?_
  exact te (by obtain rfl := si H; exact fO [(false,[cB false])] kr rfl rfl)
 have H := bifT h2 H
 refine lU tOk 2 kr ?_
 obtain ⟨r3,er3,H⟩ := bind_some H
 refine lV tOk [.rd,.rd,.rd] [] (impl_in n x0.Tag 0 99 r3 er3) kr kr kr kr (.inl rfl) ?_
 refine lU tOk 2 kr ?_
 refine lT ⟨22,0,[sB 16 r3,sB 15 r3,sB 14 r3,sI 13 x0.Tag,sA 12 1 4 2,sB 11 true,sB 10 true,sB 9 true,sI 8 x0.Src,sA 7 1 4 1,sB 6 true,sB 5 true,sI 4 x0.Dst,sA 3 1 4 0,sA 1 1 4 0],[(1,(CV.frzRow (Frame.row x0)))]⟩ kr ?_
 cases h3 : r3
 ·have H := bifF h3 H
  refine uD tOk 6 4 0 kr kr ?_
  exact te (by obtain rfl := si H; exact fO [(false,[cB false])] kr rfl rfl)
 have H := bifT h3 H
 refine lU tOk 2 kr ?_
 refine lL tOk 30 3 5 18 19 (some (13,true)) ⟨(.slot 18),[],0,false,1,(CV.frzEs (x0.Data.map byteRow))⟩ (x0.Data).length _ kr kr kr kr kr (frz_len _ _) rfl ?_
 refine uD tOk 3 4 0 kr kr ?_
 exact te (by obtain rfl := si H; exact fO [(false,[cB (decide ((x0.Data.length : Int) ≤ 20))])] kr rfl rfl)
def impl_StepVecF (n : Nat) (x0 : Vec) (x1 : Int) : Option (Vec × Bool) :=
  ((impl_VecOkF n x0).bind fun r1 => (bif (!r1) then (some (x0,false)) else ((impl_inF n x1 1 1000).bind fun r2 => (bif (!r2) then (some (x0,false)) else ((impl_VecOkF n (⟨x0.Root,(IntKind.wrap .i64 (x0.Cost + x1)),(IntKind.wrap .i64 (x0.Hops + 1)),x0.Bridge,x0.Port⟩ : Vec)).bind fun r3 => (bif (!r3) then (some (x0,false)) else (some ((⟨x0.Root,(IntKind.wrap .i64 (x0.Cost + x1)),(IntKind.wrap .i64 (x0.Hops + 1)),x0.Bridge,x0.Port⟩ : Vec),true))))))))
noncomputable abbrev G249 (k : Nat) := Rg Tryz.f249 k
theorem impl_StepVec (n : Nat) (x0 : Vec) (x1 : Int) (r : Vec × Bool) (H : impl_StepVecF n x0 x1 = some r) : LCall Tryz.prog 249 [.val true (CV.frzRow (Vec.row x0)),.val false [.lit (.int .i64 x1)]] [.val true (Vec.row r.1),.val false [.lit (.bool r.2)]] [] := by
 refine LCall.of_body tOk Tryz.func249 rfl (c := (.seq (G249 0) (.seq (.seq (G249 1) (.cond (.tmp 14) (.seq (G249 2) .ret) .skip)) (.seq (G249 3) (.seq (G249 4) (.seq (G249 5) (.seq (.seq (G249 6) (.cond (.tmp 28) (.seq (G249 7) .ret) .skip)) (.seq (G249 8) .ret)))))))) kr (Nat.le_of_ble_eq_true kr) 0 (rs := [.cell 4 165,.tmp 5]) rfl [] .nil [(true,(Vec.row r.1)),(false,[.lit (.bool r.2)])] [] [] fun cx => ?_
 show Tr _ _ _ ⟨31,0,[sV 0 (Vec.row x0),sI 1 x1],[]⟩ _
 unfold impl_StepVecF at H
 refine tG tOk 3 22 20 kr kr ?_
 refine tS ?_
 refine rU tOk 1 kr ?_
 obtain ⟨r1,er1,H⟩ := bind_some H
 refine lV tOk [.rd] [] (impl_VecOk n x0 r1 er1) kr kr kr kr (.inl rfl) ?_
 refine lU tOk 2 kr ?_
 refine lT ⟨31,0,[sB 10 (!r1),sB 9 (!r1),sB 8 r1,sV 7 (Vec.row x0),sA 4 4 5 0,sA 2 2 5 0,sI 1 x1],[(4,[cI 0,cI 0,cI 0,cI 0,cI 0]),(2,(Vec.row x0))]⟩ kr ?_
 cases h1 : (!r1)
 ·have H := bifF h1 H
  refine lU tOk 1 kr ?_
  obtain ⟨r2,er2,H⟩ := bind_some H
  refine lV tOk [.rd,.rd,.rd] [] (impl_in n x1 1 1000 r2 er2) kr kr kr kr (.inl rfl) ?_
  refine uD tOk 2 16406 20 kr kr ?_
  obtain ⟨h2,H⟩ | ⟨h2,H⟩ := bC H
  ·refine tF h2 kr ?_
   refine tK ?_
   refine tG tOk 3 86 84 kr kr ?_
   refine tG tOk 6 84 84 kr kr ?_
   refine tG tOk 5 84 84 kr kr ?_
   refine tS ?_
   refine rU tOk 1 kr ?_
   obtain ⟨r3,er3,H⟩ := bind_some H
   refine lV tOk [.rd] [] (impl_VecOk n (⟨x0.Root,(IntKind.wrap .i64 (x0.Cost + x1)),(IntKind.wrap .i64 (x0.Hops + 1)),x0.Bridge,x0.Port⟩ : Vec) r3 er3) kr kr kr kr (.inl rfl) ?_
   refine uD tOk 1 268435540 84 kr kr ?_
   obtain ⟨h3,H⟩ | ⟨h3,H⟩ := bC H
   ·refine tF h3 kr ?_
    refine tK ?_
    refine tG tOk 3 48 16 kr kr ?_
    exact te (by obtain rfl := si H; exact fO [(true,[cI x0.Root,cI (IntKind.wrap .i64 (x0.Cost + x1)),cI (IntKind.wrap .i64 (x0.Hops + 1)),cI x0.Bridge,cI x0.Port]),(false,[cB true])] kr rfl rfl)
   refine tT h3 kr ?_
   refine tG tOk 3 48 16 kr kr ?_
   exact te (by obtain rfl := si H; exact fO [(true,(Vec.row x0)),(false,[cB false])] kr rfl rfl)
  refine tT h2 kr ?_
  refine tG tOk 3 48 16 kr kr ?_
  exact te (by obtain rfl := si H; exact fO [(true,(Vec.row x0)),(false,[cB false])] kr rfl rfl)
 have H := bifT h1 H
 refine uD tOk 4 16406 20 kr kr ?_
 refine tt kr ?_
 refine tG tOk 3 48 16 kr kr ?_
 exact te (by obtain rfl := si H; exact fO [(true,(Vec.row x0)),(false,[cB false])] kr rfl rfl)
def impl_LessVecF (n : Nat) (x0 : Vec) (x1 : Vec) : Option (Bool) :=
  (bif (x0.Root != x1.Root) then (some (decide (x0.Root < x1.Root))) else (bif (x0.Cost != x1.Cost) then (some (decide (x0.Cost < x1.Cost))) else (bif (x0.Bridge != x1.Bridge) then (some (decide (x0.Bridge < x1.Bridge))) else (some (decide (x0.Port < x1.Port))))))
noncomputable abbrev G218 (k : Nat) := Rg Tryz.f218 k
theorem impl_LessVec (n : Nat) (x0 : Vec) (x1 : Vec) (r : Bool) (H : impl_LessVecF n x0 x1 = some r) : LCall Tryz.prog 218 [.val true (CV.frzRow (Vec.row x0)),.val true (CV.frzRow (Vec.row x1))] [.val false [.lit (.bool r)]] [] := by
 refine LCall.of_body tOk Tryz.func218 rfl (c := (.seq (G218 0) (.seq (.block 0 (.seq (G218 1) (.cond (.tmp 5) (.seq (G218 2) .ret) (.seq (G218 3) (.cond (.tmp 16) (.seq (G218 4) .ret) (.seq (G218 5) (.cond (.tmp 27) (.seq (G218 6) .ret) .skip))))))) (.seq (G218 7) .ret)))) kr (Nat.le_of_ble_eq_true kr) 0 (rs := [.tmp 4]) rfl [] .nil [(false,[.lit (.bool r)])] [] [] fun cx => ?_
 show Tr _ _ _ ⟨43,0,[sV 0 (Vec.row x0),sV 1 (Vec.row x1)],[]⟩ _
 unfold impl_LessVecF at H
 refine tG tOk 3 12 12 kr kr ?_
 refine tS ?_
 refine tB ?_
 refine tG tOk 6 44 12 kr kr ?_
 obtain ⟨h1,H⟩ | ⟨h1,H⟩ := bC H
 ·refine tF h1 kr ?_
  refine tG tOk 6 65548 12 kr kr ?_
  obtain ⟨h2,H⟩ | ⟨h2,H⟩ := bC H
  ·refine tF h2 kr ?_
   refine tG tOk 6 134217740 12 kr kr ?_
   obtain ⟨h3,H⟩ | ⟨h3,H⟩ := bC H
   ·refine tF h3 kr ?_
    refine tK ?_
    refine tG tOk 6 16 0 kr kr ?_
    exact te (by obtain rfl := si H; exact fO [(false,[cB (decide (x0.Port < x1.Port))])] kr rfl rfl)
   refine tT h3 kr ?_
   refine tG tOk 6 16 0 kr kr ?_
   exact te (by obtain rfl := si H; exact fO [(false,[cB (decide (x0.Bridge < x1.Bridge))])] kr rfl rfl)
  refine tT h2 kr ?_
  refine tG tOk 6 16 0 kr kr ?_
  exact te (by obtain rfl := si H; exact fO [(false,[cB (decide (x0.Cost < x1.Cost))])] kr rfl rfl)
 refine tT h1 kr ?_
 refine tG tOk 6 16 0 kr kr ?_
 exact te (by obtain rfl := si H; exact fO [(false,[cB (decide (x0.Root < x1.Root))])] kr rfl rfl)
def impl_BestVec_J1 (n : Nat) (x0 : Int) (y11 : Int) (y12 : Int) (y13 : Int) (y14 : Int) : Option (Vec × Int) :=
  (some ((⟨y12,y13,y14,x0,0⟩ : Vec),y11))
def impl_BestVec_J3 (n : Nat) (k : (Int × Int × Int × Int × Int × Int × Int × Int × Int × Int → Option ((Int × Int × Int × Int) ⊕ (Vec × Int)))) (r17 : Vec × Bool) (y1 : Int) (y10 : Int) (y2 : Int) (y3 : Int) (y4 : Int) (y5 : Int) (y6 : Int) (y7 : Int) (y8 : Int) (y9 : Int) (y18 : Bool) (y19 : Bool) (y20 : Bool) (y21 : Bool) (y22 : Bool) (y23 : Bool) (y24 : Bool) : Option ((Int × Int × Int × Int) ⊕ (Vec × Int)) :=
  (bif y18 then (k ((IntKind.wrap .i64 (y1 + 1)),y1,r17.1.Root,r17.1.Cost,r17.1.Hops,r17.1.Bridge,r17.1.Port,r17.1.Root,r17.1.Cost,r17.1.Hops)) else (k ((IntKind.wrap .i64 (y1 + 1)),y2,y3,y4,y5,y6,y7,y8,y9,y10)))
def impl_BestVec_L2 (n : Nat) : Nat → Int → (List Pt) → Int → Int → Int → Int → Int → Int → Int → Int → Int → Int → Option ((Int × Int × Int × Int) ⊕ (Vec × Int))
  | 0,_,_,_,_,_,_,_,_,_,_,_,_ => none
  | mo15 + 1,x0,x1,y1,y2,y3,y4,y5,y6,y7,y8,y9,y10 => (bif (decide (y1 < (x1.length : Int))) then ((idx x1 y1).bind fun v16 => (bif (!v16.Up) then (impl_BestVec_L2 n mo15 x0 x1 (IntKind.wrap .i64 (y1 + 1)) y2 y3 y4 y5 y6 y7 y8 y9 y10) else (bif (!v16.Has) then (impl_BestVec_L2 n mo15 x0 x1 (IntKind.wrap .i64 (y1 + 1)) y2 y3 y4 y5 y6 y7 y8 y9 y10) else ((impl_StepVecF n v16.Heard v16.Cost).bind fun r17 => (bif r17.2 then (bif (decide (r17.1.Root < x0)) then (bif (decide (y2 < 0)) then (impl_BestVec_J3 n (fun v => impl_BestVec_L2 n mo15 x0 x1 v.1 v.2.1 v.2.2.1 v.2.2.2.1 v.2.2.2.2.1 v.2.2.2.2.2.1 v.2.2.2.2.2.2.1 v.2.2.2.2.2.2.2.1 v.2.2.2.2.2.2.2.2.1 v.2.2.2.2.2.2.2.2.2) r17 y1 y10 y2 y3 y4 y5 y6 y7 y8 y9 true true true true true true true) else ((impl_LessVecF n r17.1 (⟨y3,y4,y5,y6,y7⟩ : Vec)).bind fun r25 => (impl_BestVec_J3 n (fun v => impl_BestVec_L2 n mo15 x0 x1 v.1 v.2.1 v.2.2.1 v.2.2.2.1 v.2.2.2.2.1 v.2.2.2.2.2.1 v.2.2.2.2.2.2.1 v.2.2.2.2.2.2.2.1 v.2.2.2.2.2.2.2.2.1 v.2.2.2.2.2.2.2.2.2) r17 y1 y10 y2 y3 y4 y5 y6 y7 y8 y9 r25 true true true true true true))) else (impl_BestVec_J3 n (fun v => impl_BestVec_L2 n mo15 x0 x1 v.1 v.2.1 v.2.2.1 v.2.2.2.1 v.2.2.2.2.1 v.2.2.2.2.2.1 v.2.2.2.2.2.2.1 v.2.2.2.2.2.2.2.1 v.2.2.2.2.2.2.2.2.1 v.2.2.2.2.2.2.2.2.2) r17 y1 y10 y2 y3 y4 y5 y6 y7 y8 y9 false false false true true true true)) else (impl_BestVec_J3 n (fun v => impl_BestVec_L2 n mo15 x0 x1 v.1 v.2.1 v.2.2.1 v.2.2.2.1 v.2.2.2.2.1 v.2.2.2.2.2.1 v.2.2.2.2.2.2.1 v.2.2.2.2.2.2.2.1 v.2.2.2.2.2.2.2.2.1 v.2.2.2.2.2.2.2.2.2) r17 y1 y10 y2 y3 y4 y5 y6 y7 y8 y9 false false false false false false false)))))) else (some (Sum.inl (y2,y8,y9,y10))))
def impl_BestVecF (n : Nat) (x0 : Int) (x1 : (List Pt)) : Option (Vec × Int) :=
  ((impl_BestVec_L2 n n x0 x1 0 (-1) 0 0 0 0 0 x0 0 0).bind fun o => match o with | .inl (y11,y12,y13,y14) => (impl_BestVec_J1 n x0 y11 y12 y13 y14) | .inr r => some r)
noncomputable abbrev G217 (k : Nat) := Rg Tryz.f217 k
theorem impl_BestVec (n : Nat) (x0 : Int) (x1 : (List Pt)) (r : Vec × Int) (H : impl_BestVecF n x0 x1 = some r) : LCall Tryz.prog 217 [.val false [.lit (.int .i64 x0)],.val false [.sl false 8 (CV.frzEs (x1.map Pt.row))]] [.val true (Vec.row r.1),.val false [.lit (.int .i64 r.2)]] [] := by
 refine LCall.of_body tOk Tryz.func217 rfl (c := (.seq (G217 0) (.seq (G217 1) (.seq (G217 2) (.seq (.seq (G217 3) (.block 0 (.loop (.seq (G217 4) (.seq (.cond (.tmp 19) .skip (.exit 0)) (.seq (.block 1 (.seq (G217 5) (.seq (.seq (G217 6) (.cond (.tmp 30) (.exit 1) .skip)) (.seq (G217 7) (.seq (G217 8) (.cond (.tmp 54) (.seq (G217 9) (G217 10)) .skip)))))) (G217 11))))))) (.seq (G217 12) .ret)))))) kr (Nat.le_of_ble_eq_true kr) 0 (rs := [.cell 4 165,.tmp 5]) rfl [] .nil [(true,(Vec.row r.1)),(false,[.lit (.int .i64 r.2)])] [] [] fun cx => ?_
 show Tr _ _ _ ⟨68,0,[sI 0 x0,sC 1 (cF 8 x1 Pt.row)],[]⟩ _
 unfold impl_BestVecF at H
 refine tG tOk 2 51 16 kr kr ?_
 refine tG tOk 6 243 80 kr kr ?_
 refine tG tOk 1 499 336 kr kr ?_
 refine tS ?_
 refine rU tOk 1 kr ?_
 refine lL tOk 35 3 167 16 17 none ⟨(.slot 16),[],0,false,8,(CV.frzEs (x1.map Pt.row))⟩ (x1).length _ kr kr kr kr kr (frz_len _ _) rfl ?_
 refine uD tOk 1 459249 336 kr kr ?_
 obtain ⟨o15,eo15,Ho15⟩ := bind_some H
 clear H
 refine Tr.mid (ι := Int × Int × Int × Int) (fun v => ⟨68,0,[sI 7 v.1,sA 6 6 5 0,sI 5 0,sA 4 4 5 0],[(6,[cI v.2.1,cI v.2.2.1,cI v.2.2.2,cI x0,cI 0]),(4,[cI 0,cI 0,cI 0,cI 0,cI 0])]⟩) (fun v => impl_BestVec_J1 n x0 v.1 v.2.1 v.2.2.1 v.2.2.2 = some r) ?_ ?_
 ·refine tB ?_
  refine Tr.loop (ι := Nat × (Int × Int × Int × Int × Int × Int × Int × Int × Int × Int)) (fun v => ⟨68,0,[sI 18 v.2.1,sI 17 (x1.length : Int),sC 16 (cF 8 x1 Pt.row),sA 8 8 5 0,sI 7 v.2.2.1,sA 6 6 5 0,sI 5 0,sA 4 4 5 0,sI 0 x0],[(8,[cI v.2.2.2.1,cI v.2.2.2.2.1,cI v.2.2.2.2.2.1,cI v.2.2.2.2.2.2.1,cI v.2.2.2.2.2.2.2.1]),(6,[cI v.2.2.2.2.2.2.2.2.1,cI v.2.2.2.2.2.2.2.2.2.1,cI v.2.2.2.2.2.2.2.2.2.2,cI x0,cI 0]),(4,[cI 0,cI 0,cI 0,cI 0,cI 0])]⟩) (fun v => impl_BestVec_L2 n v.1 x0 x1 v.2.1 v.2.2.1 v.2.2.2.1 v.2.2.2.2.1 v.2.2.2.2.2.1 v.2.2.2.2.2.2.1 v.2.2.2.2.2.2.2.1 v.2.2.2.2.2.2.2.2.1 v.2.2.2.2.2.2.2.2.2.1 v.2.2.2.2.2.2.2.2.2.2 = some o15) (fun v => v.1) (n,(0,(-1),0,0,0,0,0,x0,0,0)) eo15 (St.sub_of [18,17,16,8,7,6,5,4,0] [8,6,4] kr) ?_
  rintro ⟨mo15,y1,y2,y3,y4,y5,y6,y7,y8,y9,y10⟩ H
  have H : impl_BestVec_L2 n mo15 x0 x1 y1 y2 y3 y4 y5 y6 y7 y8 y9 y10 = some o15 := H
  obtain _ | mo15 := mo15
  ·cases (show (none : Option _) = some o15 from H)
  rw [impl_BestVec_L2] at H
  refine tG tOk 1 983537 336 kr kr ?_
  refine tS ?_
  obtain ⟨h1,H⟩ | ⟨h1,H⟩ := bC H
  ·refine tF h1 kr ?_
   refine Tr.exit ?_
   refine And.intro (fun _ => ?_) (fun h => absurd rfl h)
   obtain rfl := si H
   have H := Ho15
   dsimp only at H
   exact jn (y2,y8,y9,y10) H (sB_ [7,6,5,4] [6,4] kr)
  refine tT h1 kr ?_
  refine tK ?_
  refine tS ?_
  refine tB ?_
  refine rU tOk 1 kr ?_
  obtain ⟨v16,ev16,H⟩ := bind_some H
  refine lI tOk 35 0 16 18 21 none ⟨(.slot 16),[],0,false,8,(CV.frzEs (x1.map Pt.row))⟩ y1 (Pt.row v16) _ kr kr kr kr rfl (idx_isF ev16) rfl ?_
  refine uD tOk 4 8325105 1360 kr kr ?_
  refine tS ?_
  refine rU tOk 4 kr ?_
  refine lT ⟨68,0,[sB 26 (!v16.Up),sB 25 (!v16.Up),sB 24 v16.Up,sA 23 10 8 0,sI 9 y1,sA 10 10 8 0,sV 22 (Pt.row v16),(21,.fad ((Pt.row v16))),sI 20 y1,sB 19 (decide (y1 < (x1.length : Int))),sI 18 y1,sI 17 (x1.length : Int),sC 16 (cF 8 x1 Pt.row),sA 8 8 5 0,sI 7 y2,sA 6 6 5 0,sI 5 0,sA 4 4 5 0,sI 0 x0],[(10,(Pt.row v16)),(8,[cI y3,cI y4,cI y5,cI y6,cI y7]),(6,[cI y8,cI y9,cI y10,cI x0,cI 0]),(4,[cI 0,cI 0,cI 0,cI 0,cI 0])]⟩ kr ?_
  cases h2 : (!v16.Up)
  ·have H := bifF h2 H
   refine uD tOk 4 2147420145 1360 kr kr ?_
   obtain ⟨h3,H⟩ | ⟨h3,H⟩ := bC H
   ·refine tF h3 kr ?_
    refine tK ?_
    refine rU tOk 4 kr ?_
    obtain ⟨r17,er17,H⟩ := bind_some H
    refine lV tOk [.rd,.rd] [] (impl_StepVec n v16.Heard v16.Cost r17 er17) kr kr kr kr (.inl rfl) ?_
    refine LAt.movT tOk (ty := 255) (t := 36) (d := 31) (g := none) [(true,(Vec.row r17.1)),(false,[cB r17.2])] _ kr (.inl rfl) kr kr kr kr rfl ?_
    refine uD tOk 5 481036279793 3408 kr kr ?_
    refine tS ?_
    refine Tr.mid (ι := Bool × Bool × Bool × Bool × Bool × Bool × Bool) (fun v => ⟨68,0,[sB 54 v.1,sB 46 v.2.1,sB 45 v.2.2.1,sB 40 v.2.2.2.1,sB 39 v.2.2.2.2.1,sB 12 v.2.2.2.2.2.1,sA 11 11 5 0,sB 38 v.2.2.2.2.2.2,(31,.tup [(true,[.dead,.dead,.dead,.dead,.dead]),(false,[.dead])]),sV 37 (Vec.row r17.1),sI 35 v16.Cost,sA 34 10 8 1,sV 33 ((Pt.row v16).drop 3),sA 32 10 8 3,sB 30 false,sB 29 false,sB 28 v16.Has,sA 27 10 8 2,sB 26 false,sB 25 false,sB 24 v16.Up,sA 23 10 8 0,sI 9 y1,sA 10 10 8 0,sV 22 (Pt.row v16),(21,.fad ((Pt.row v16))),sI 20 y1,sB 19 true,sI 18 y1,sI 17 (x1.length : Int),sC 16 (cF 8 x1 Pt.row),sA 8 8 5 0,sI 7 y2,sA 6 6 5 0,sI 5 0,sA 4 4 5 0,sI 0 x0],[(11,(Vec.row r17.1)),(10,(Pt.row v16)),(8,[cI y3,cI y4,cI y5,cI y6,cI y7]),(6,[cI y8,cI y9,cI y10,cI x0,cI 0]),(4,[cI 0,cI 0,cI 0,cI 0,cI 0])]⟩) (fun v => impl_BestVec_J3 n (fun v => impl_BestVec_L2 n mo15 x0 x1 v.1 v.2.1 v.2.2.1 v.2.2.2.1 v.2.2.2.2.1 v.2.2.2.2.2.1 v.2.2.2.2.2.2.1 v.2.2.2.2.2.2.2.1 v.2.2.2.2.2.2.2.2.1 v.2.2.2.2.2.2.2.2.2) r17 y1 y10 y2 y3 y4 y5 y6 y7 y8 y9 v.1 v.2.1 v.2.2.1 v.2.2.2.1 v.2.2.2.2.1 v.2.2.2.2.2.1 v.2.2.2.2.2.2 = some o15) ?_ ?_
    ·refine Tr.at ?_
     refine lU tOk 2 kr ?_
     refine lT ⟨68,0,[sB 40 r17.2,sB 39 r17.2,sB 12 r17.2,sA 11 11 5 0,sB 38 r17.2,(31,.tup [(true,[.dead,.dead,.dead,.dead,.dead]),(false,[.dead])]),sV 37 (Vec.row r17.1),sI 35 v16.Cost,sA 34 10 8 1,sV 33 ((Pt.row v16).drop 3),sA 32 10 8 3,sB 30 (!v16.Has),sB 29 (!v16.Has),sB 28 v16.Has,sA 27 10 8 2,sB 26 false,sB 25 false,sB 24 v16.Up,sA 23 10 8 0,sI 9 y1,sA 10 10 8 0,sV 22 (Pt.row v16),(21,.fad ((Pt.row v16))),sI 20 y1,sB 19 (decide (y1 < (x1.length : Int))),sI 18 y1,sI 17 (x1.length : Int),sC 16 (cF 8 x1 Pt.row),sA 8 8 5 0,sI 7 y2,sA 6 6 5 0,sI 5 0,sA 4 4 5 0,sI 0 x0],[(11,(Vec.row r17.1)),(10,(Pt.row v16)),(8,[cI y3,cI y4,cI y5,cI y6,cI y7]),(6,[cI y8,cI y9,cI y10,cI x0,cI 0]),(4,[cI 0,cI 0,cI 0,cI 0,cI 0])]⟩ kr ?_
     cases h5 : r17.2
     ·have H := bifF h5 H
      refine uD tOk 14 0x7fffefffff1ff1 3408 kr kr ?_
      refine Sb.to ⟨68,0,[sB 54 false,(53,.tup []),(52,.tup []),(51,.tup []),(50,.tup []),(49,.tup []),(48,.tup []),(47,.tup []),sB 46 false,sB 45 false,(44,.tup []),(43,.tup []),(42,.tup []),(41,.tup []),sB 40 false,sB 39 false,sB 12 false,sA 11 11 5 0,sB 38 false,(31,.tup [(true,[.dead,.dead,.dead,.dead,.dead]),(false,[.dead])]),sV 37 (Vec.row r17.1),sI 35 v16.Cost,sA 34 10 8 1,sV 33 ((Pt.row v16).drop 3),sA 32 10 8 3,sB 30 (!v16.Has),sB 29 (!v16.Has),sB 28 v16.Has,sA 27 10 8 2,sB 26 false,sB 25 false,sB 24 v16.Up,sA 23 10 8 0,sI 9 y1,sA 10 10 8 0,sV 22 (Pt.row v16),(21,.fad ((Pt.row v16))),sI 20 y1,sB 19 (decide (y1 < (x1.length : Int))),sI 18 y1,sI 17 (x1.length : Int),sC 16 (cF 8 x1 Pt.row),sA 8 8 5 0,sI 7 y2,sA 6 6 5 0,sI 5 0,sA 4 4 5 0,sI 0 x0],[(11,(Vec.row r17.1)),(10,(Pt.row v16)),(8,[cI y3,cI y4,cI y5,cI y6,cI y7]),(6,[cI y8,cI y9,cI y10,cI x0,cI 0]),(4,[cI 0,cI 0,cI 0,cI 0,cI 0])]⟩ kr ?_
      rw [h1]
      rw [h3]
      exact jn (false,false,false,false,false,false,false) H (sB_ [54,46,45,40,39,12,11,38,31,37,35,34,33,32,30,29,28,27,26,25,24,23,9,10,22,21,20,19,18,17,16,8,7,6,5,4,0] [11,10,8,6,4] kr)
     have H := bifT h5 H
     refine lU tOk 6 kr ?_
     refine lT ⟨68,0,[sB 46 (decide (r17.1.Root < x0)),sB 45 (decide (r17.1.Root < x0)),sB 44 (decide (r17.1.Root < x0)),sI 43 x0,sI 42 r17.1.Root,sA 41 11 5 0,sB 40 true,sB 39 true,sB 12 true,sA 11 11 5 0,sB 38 true,(31,.tup [(true,[.dead,.dead,.dead,.dead,.dead]),(false,[.dead])]),sV 37 (Vec.row r17.1),sI 35 v16.Cost,sA 34 10 8 1,sV 33 ((Pt.row v16).drop 3),sA 32 10 8 3,sB 30 (!v16.Has),sB 29 (!v16.Has),sB 28 v16.Has,sA 27 10 8 2,sB 26 false,sB 25 false,sB 24 v16.Up,sA 23 10 8 0,sI 9 y1,sA 10 10 8 0,sV 22 (Pt.row v16),(21,.fad ((Pt.row v16))),sI 20 y1,sB 19 (decide (y1 < (x1.length : Int))),sI 18 y1,sI 17 (x1.length : Int),sC 16 (cF 8 x1 Pt.row),sA 8 8 5 0,sI 7 y2,sA 6 6 5 0,sI 5 0,sA 4 4 5 0,sI 0 x0],[(11,(Vec.row r17.1)),(10,(Pt.row v16)),(8,[cI y3,cI y4,cI y5,cI y6,cI y7]),(6,[cI y8,cI y9,cI y10,cI x0,cI 0]),(4,[cI 0,cI 0,cI 0,cI 0,cI 0])]⟩ kr ?_
     cases h6 : (decide (r17.1.Root < x0))
     ·have H := bifF h6 H
      refine uD tOk 8 0x7fffefffff1ff1 3408 kr kr ?_
      refine Sb.to ⟨68,0,[sB 54 false,(53,.tup []),(52,.tup []),(51,.tup []),(50,.tup []),(49,.tup []),(48,.tup []),(47,.tup []),sB 46 false,sB 45 false,sB 44 false,sI 43 x0,sI 42 r17.1.Root,sA 41 11 5 0,sB 40 true,sB 39 true,sB 12 true,sA 11 11 5 0,sB 38 true,(31,.tup [(true,[.dead,.dead,.dead,.dead,.dead]),(false,[.dead])]),sV 37 (Vec.row r17.1),sI 35 v16.Cost,sA 34 10 8 1,sV 33 ((Pt.row v16).drop 3),sA 32 10 8 3,sB 30 (!v16.Has),sB 29 (!v16.Has),sB 28 v16.Has,sA 27 10 8 2,sB 26 false,sB 25 false,sB 24 v16.Up,sA 23 10 8 0,sI 9 y1,sA 10 10 8 0,sV 22 (Pt.row v16),(21,.fad ((Pt.row v16))),sI 20 y1,sB 19 (decide (y1 < (x1.length : Int))),sI 18 y1,sI 17 (x1.length : Int),sC 16 (cF 8 x1 Pt.row),sA 8 8 5 0,sI 7 y2,sA 6 6 5 0,sI 5 0,sA 4 4 5 0,sI 0 x0],[(11,(Vec.row r17.1)),(10,(Pt.row v16)),(8,[cI y3,cI y4,cI y5,cI y6,cI y7]),(6,[cI y8,cI y9,cI y10,cI x0,cI 0]),(4,[cI 0,cI 0,cI 0,cI 0,cI 0])]⟩ kr ?_
      rw [h1]
      rw [h3]
      exact jn (false,false,false,true,true,true,true) H (sB_ [54,46,45,40,39,12,11,38,31,37,35,34,33,32,30,29,28,27,26,25,24,23,9,10,22,21,20,19,18,17,16,8,7,6,5,4,0] [11,10,8,6,4] kr)
     have H := bifT h6 H
     refine lU tOk 3 kr ?_
     refine lT ⟨68,0,[sB 49 (decide (y2 < 0)),sB 48 (decide (y2 < 0)),sI 47 y2,sB 46 true,sB 45 true,sB 44 true,sI 43 x0,sI 42 r17.1.Root,sA 41 11 5 0,sB 40 true,sB 39 true,sB 12 true,sA 11 11 5 0,sB 38 true,(31,.tup [(true,[.dead,.dead,.dead,.dead,.dead]),(false,[.dead])]),sV 37 (Vec.row r17.1),sI 35 v16.Cost,sA 34 10 8 1,sV 33 ((Pt.row v16).drop 3),sA 32 10 8 3,sB 30 (!v16.Has),sB 29 (!v16.Has),sB 28 v16.Has,sA 27 10 8 2,sB 26 false,sB 25 false,sB 24 v16.Up,sA 23 10 8 0,sI 9 y1,sA 10 10 8 0,sV 22 (Pt.row v16),(21,.fad ((Pt.row v16))),sI 20 y1,sB 19 (decide (y1 < (x1.length : Int))),sI 18 y1,sI 17 (x1.length : Int),sC 16 (cF 8 x1 Pt.row),sA 8 8 5 0,sI 7 y2,sA 6 6 5 0,sI 5 0,sA 4 4 5 0,sI 0 x0],[(11,(Vec.row r17.1)),(10,(Pt.row v16)),(8,[cI y3,cI y4,cI y5,cI y6,cI y7]),(6,[cI y8,cI y9,cI y10,cI x0,cI 0]),(4,[cI 0,cI 0,cI 0,cI 0,cI 0])]⟩ kr ?_
     cases h7 : (decide (y2 < 0))
     ·have H := bifF h7 H
      refine lU tOk 2 kr ?_
      obtain ⟨r25,er25,H⟩ := bind_some H
      refine lV tOk [.rd,.rd] [] (impl_LessVec n r17.1 (⟨y3,y4,y5,y6,y7⟩ : Vec) r25 er25) kr kr kr kr (.inl rfl) ?_
      refine uD tOk 2 0x7fffefffff1ff1 3408 kr kr ?_
      refine Sb.to ⟨68,0,[sB 54 r25,sB 53 r25,sB 52 r25,sV 51 [cI y3,cI y4,cI y5,cI y6,cI y7],sV 50 (Vec.row r17.1),sB 49 false,sB 48 false,sI 47 y2,sB 46 true,sB 45 true,sB 44 true,sI 43 x0,sI 42 r17.1.Root,sA 41 11 5 0,sB 40 true,sB 39 true,sB 12 true,sA 11 11 5 0,sB 38 true,(31,.tup [(true,[.dead,.dead,.dead,.dead,.dead]),(false,[.dead])]),sV 37 (Vec.row r17.1),sI 35 v16.Cost,sA 34 10 8 1,sV 33 ((Pt.row v16).drop 3),sA 32 10 8 3,sB 30 (!v16.Has),sB 29 (!v16.Has),sB 28 v16.Has,sA 27 10 8 2,sB 26 false,sB 25 false,sB 24 v16.Up,sA 23 10 8 0,sI 9 y1,sA 10 10 8 0,sV 22 (Pt.row v16),(21,.fad ((Pt.row v16))),sI 20 y1,sB 19 (decide (y1 < (x1.length : Int))),sI 18 y1,sI 17 (x1.length : Int),sC 16 (cF 8 x1 Pt.row),sA 8 8 5 0,sI 7 y2,sA 6 6 5 0,sI 5 0,sA 4 4 5 0,sI 0 x0],[(11,(Vec.row r17.1)),(10,(Pt.row v16)),(8,[cI y3,cI y4,cI y5,cI y6,cI y7]),(6,[cI y8,cI y9,cI y10,cI x0,cI 0]),(4,[cI 0,cI 0,cI 0,cI 0,cI 0])]⟩ kr ?_
      rw [h1]
      rw [h3]
      exact jn (r25,true,true,true,true,true,true) H (sB_ [54,46,45,40,39,12,11,38,31,37,35,34,33,32,30,29,28,27,26,25,24,23,9,10,22,21,20,19,18,17,16,8,7,6,5,4,0] [11,10,8,6,4] kr)
     have H := bifT h7 H
     refine uD tOk 5 0x7fffefffff1ff1 3408 kr kr ?_
     refine Sb.to ⟨68,0,[sB 54 true,sB 53 true,(52,.tup []),(51,.tup []),(50,.tup []),sB 49 true,sB 48 true,sI 47 y2,sB 46 true,sB 45 true,sB 44 true,sI 43 x0,sI 42 r17.1.Root,sA 41 11 5 0,sB 40 true,sB 39 true,sB 12 true,sA 11 11 5 0,sB 38 true,(31,.tup [(true,[.dead,.dead,.dead,.dead,.dead]),(false,[.dead])]),sV 37 (Vec.row r17.1),sI 35 v16.Cost,sA 34 10 8 1,sV 33 ((Pt.row v16).drop 3),sA 32 10 8 3,sB 30 (!v16.Has),sB 29 (!v16.Has),sB 28 v16.Has,sA 27 10 8 2,sB 26 false,sB 25 false,sB 24 v16.Up,sA 23 10 8 0,sI 9 y1,sA 10 10 8 0,sV 22 (Pt.row v16),(21,.fad ((Pt.row v16))),sI 20 y1,sB 19 (decide (y1 < (x1.length : Int))),sI 18 y1,sI 17 (x1.length : Int),sC 16 (cF 8 x1 Pt.row),sA 8 8 5 0,sI 7 y2,sA 6 6 5 0,sI 5 0,sA 4 4 5 0,sI 0 x0],[(11,(Vec.row r17.1)),(10,(Pt.row v16)),(8,[cI y3,cI y4,cI y5,cI y6,cI y7]),(6,[cI y8,cI y9,cI y10,cI x0,cI 0]),(4,[cI 0,cI 0,cI 0,cI 0,cI 0])]⟩ kr ?_
     rw [h1]
     rw [h3]
     exact jn (true,true,true,true,true,true,true) H (sB_ [54,46,45,40,39,12,11,38,31,37,35,34,33,32,30,29,28,27,26,25,24,23,9,10,22,21,20,19,18,17,16,8,7,6,5,4,0] [11,10,8,6,4] kr)
    rintro ⟨y18,y19,y20,y21,y22,y23,y24⟩ H
    have H : (impl_BestVec_J3 n (fun v => impl_BestVec_L2 n mo15 x0 x1 v.1 v.2.1 v.2.2.1 v.2.2.2.1 v.2.2.2.2.1 v.2.2.2.2.2.1 v.2.2.2.2.2.2.1 v.2.2.2.2.2.2.2.1 v.2.2.2.2.2.2.2.2.1 v.2.2.2.2.2.2.2.2.2) r17 y1 y10 y2 y3 y4 y5 y6 y7 y8 y9 y18 y19 y20 y21 y22 y23 y24) = some o15 := H
    unfold impl_BestVec_J3 at H
    cases h4 : y18
    ·have H := bifF h4 H
     refine tf kr ?_
     refine tK ?_
     refine tE tOk 2 0x2004061efffff1ff1 3408 kr kr ?_
     exact jn (mo15,((IntKind.wrap .i64 (y1 + 1)),y2,y3,y4,y5,y6,y7,y8,y9,y10)) H (sM mo15 [18,17,16,8,7,6,5,4,0] [8,6,4] kr)
    have H := bifT h4 H
    refine tt kr ?_
    refine tG tOk 4 0x1c061efffff1ff1 3408 kr kr ?_
    refine tE tOk 9 0x1ffc061efffff1ff1 3408 kr kr ?_
    refine tE tOk 2 0x3ffc061efffff1ff1 3408 kr kr ?_
    exact jn (mo15,((IntKind.wrap .i64 (y1 + 1)),y1,r17.1.Root,r17.1.Cost,r17.1.Hops,r17.1.Bridge,r17.1.Port,r17.1.Root,r17.1.Cost,r17.1.Hops)) H (sM mo15 [18,17,16,8,7,6,5,4,0] [8,6,4] kr)
   refine tT h3 kr ?_
   refine Tr.exit ?_
   refine And.intro (fun _ => ?_) (fun h => absurd rfl h)
   refine tE tOk 2 0x2000000007fff07f1 1360 kr kr ?_
   exact jn (mo15,((IntKind.wrap .i64 (y1 + 1)),y2,y3,y4,y5,y6,y7,y8,y9,y10)) H (sM mo15 [18,17,16,8,7,6,5,4,0] [8,6,4] kr)
  have H := bifT h2 H
  refine uD tOk 4 2147420145 1360 kr kr ?_
  refine tt kr ?_
  refine Tr.exit ?_
  refine And.intro (fun _ => ?_) (fun h => absurd rfl h)
  refine tE tOk 2 0x2000000007fff07f1 1360 kr kr ?_
  exact jn (mo15,((IntKind.wrap .i64 (y1 + 1)),y2,y3,y4,y5,y6,y7,y8,y9,y10)) H (sM mo15 [18,17,16,8,7,6,5,4,0] [8,6,4] kr)
 rintro ⟨y11,y12,y13,y14⟩ H
 have H : (impl_BestVec_J1 n x0 y11 y12 y13 y14) = some r := H
 unfold impl_BestVec_J1 at H
 refine tG tOk 4 48 16 kr kr ?_
 exact te (by obtain rfl := si H; exact fO [(true,[cI y12,cI y13,cI y14,cI x0,cI 0]),(false,[cI y11])] kr rfl rfl)
def impl_SayVecF (n : Nat) (x0 : Int) (x1 : (List Pt)) (x2 : Int) : Option (Vec) :=
  ((impl_BestVecF n x0 x1).bind fun r1 => (some (⟨r1.1.Root,r1.1.Cost,r1.1.Hops,r1.1.Bridge,x2⟩ : Vec)))
noncomputable abbrev G219 (k : Nat) := Rg Tryz.f219 k
theorem impl_SayVec (n : Nat) (x0 : Int) (x1 : (List Pt)) (x2 : Int) (r : Vec) (H : impl_SayVecF n x0 x1 x2 = some r) : LCall Tryz.prog 219 [.val false [.lit (.int .i64 x0)],.val false [.sl false 8 (CV.frzEs (x1.map Pt.row))],.val false [.lit (.int .i64 x2)]] [.val true (Vec.row r)] [] := by
 refine LCall.of_body tOk Tryz.func219 rfl (c := (.seq (G219 0) (.seq (G219 1) (.seq (G219 2) (.seq (G219 3) .ret))))) kr (Nat.le_of_ble_eq_true kr) 0 (rs := [.cell 6 165]) rfl [] .nil [(true,(Vec.row r))] [] [] fun cx => ?_
 show Tr _ _ _ ⟨18,0,[sI 0 x0,sC 1 (cF 8 x1 Pt.row),sI 2 x2],[]⟩ _
 unfold impl_SayVecF at H
 refine tG tOk 1 71 64 kr kr ?_
 refine rU tOk 2 kr ?_
 obtain ⟨r1,er1,H⟩ := bind_some H
 refine lV tOk [.rd,.rd] [] (impl_BestVec n x0 x1 r1 er1) kr kr kr kr (.inl rfl) ?_
 refine LAt.movT tOk (ty := 233) (t := 12) (d := 9) (g := none) [(true,(Vec.row r1.1)),(false,[cI r1.2])] _ kr (.inl rfl) kr kr kr kr rfl ?_
 refine uD tOk 5 196 192 kr kr ?_
 refine tG tOk 3 192 192 kr kr ?_
 refine tG tOk 2 64 64 kr kr ?_
 exact te (by obtain rfl := si H; exact fO [(true,[cI r1.1.Root,cI r1.1.Cost,cI r1.1.Hops,cI r1.1.Bridge,cI x2])] kr rfl rfl)
def impl_RoleOfF (n : Nat) (x0 : Int) (x1 : (List Pt)) (x2 : Int) : Option (Int) :=
  ((impl_inF n x2 0 (IntKind.wrap .i64 ((x1.length : Int) - 1))).bind fun r1 => (bif (!r1) then (some 4) else ((idx x1 x2).bind fun v2 => (bif (!v2.Up) then (some 4) else ((impl_BestVecF n x0 x1).bind fun r3 => (bif (r3.2 == x2) then (some 1) else ((idx x1 x2).bind fun v4 => (bif (!v4.Has) then (some 2) else ((impl_SayVecF n x0 x1 x2).bind fun r5 => ((idx x1 x2).bind fun v6 => ((impl_LessVecF n r5 v6.Heard).bind fun r7 => (bif r7 then (some 2) else (some 3)))))))))))))
noncomputable abbrev G143 (k : Nat) := Rg Tryz.f143 k
noncomputable abbrev D143 (k : Nat) := Rd Tryz.f143 k
theorem impl_RoleOf (n : Nat) (x0 : Int) (x1 : (List Pt)) (x2 : Int) (r : Int) (H : impl_RoleOfF n x0 x1 x2 = some r) : LCall Tryz.prog 143 [.val false [.lit (.int .i64 x0)],.val false [.sl false 8 (CV.frzEs (x1.map Pt.row))],.val false [.lit (.int .i64 x2)]] [.val false [.lit (.int .i64 r)]] [] := by
 refine LCall.of_body tOk Tryz.func143 rfl (c := (.seq (G143 0) (.seq (.seq (G143 1) (.cond (.tmp 22) (.seq (G143 2) .ret) .skip)) (.seq (G143 3) (.seq (.block 0 (.seq (G143 4) (.cond (.tmp 29) (.seq (G143 5) .ret) (.seq (D143 6) (.cond (.tmp 33) (.seq (G143 7) .ret) .skip))))) (.seq (G143 8) .ret)))))) kr (Nat.le_of_ble_eq_true kr) 0 (rs := [.tmp 6]) rfl [] .nil [(false,[.lit (.int .i64 r)])] [] [] fun cx => ?_
 show Tr _ _ _ ⟨52,0,[sI 0 x0,sC 1 (cF 8 x1 Pt.row),sI 2 x2],[]⟩ _
 unfold impl_RoleOfF at H
 refine tG tOk 1 7 0 kr kr ?_
 refine tS ?_
 refine rU tOk 2 kr ?_
 refine lL tOk 35 3 167 10 11 none ⟨(.slot 10),[],0,false,8,(CV.frzEs (x1.map Pt.row))⟩ (x1).length _ kr kr kr kr kr (frz_len _ _) rfl ?_
 refine lU tOk 1 kr ?_
 obtain ⟨r1,er1,H⟩ := bind_some H
 refine lV tOk [.rd,.rd,.rd] [] (impl_in n x2 0 (IntKind.wrap .i64 ((x1.length : Int) - 1)) r1 er1) kr kr kr kr (.inl rfl) ?_
 refine lU tOk 2 kr ?_
 refine lT ⟨52,0,[sB 15 (!r1),sB 14 (!r1),sB 13 r1,sI 12 (IntKind.wrap .i64 ((x1.length : Int) - 1)),sI 11 (x1.length : Int),sC 10 (cF 8 x1 Pt.row),sI 9 x2,sI 0 x0,sC 1 (cF 8 x1 Pt.row),sI 2 x2],[]⟩ kr ?_
 cases h1 : (!r1)
 ·have H := bifF h1 H
  refine lU tOk 2 kr ?_
  obtain ⟨v2,ev2,H⟩ := bind_some H
  refine lI tOk 35 0 16 17 18 (some (6,false)) ⟨(.slot 16),[],0,false,8,(CV.frzEs (x1.map Pt.row))⟩ x2 (Pt.row v2) _ kr kr kr kr rfl (idx_isF ev2) rfl ?_
  refine uD tOk 4 4194311 0 kr kr ?_
  obtain ⟨h2,H⟩ | ⟨h2,H⟩ := bC H
  ·refine tF h2 kr ?_
   refine tK ?_
   refine rU tOk 2 kr ?_
   obtain ⟨r3,er3,H⟩ := bind_some H
   refine lV tOk [.rd,.rd] [] (impl_BestVec n x0 x1 r3 er3) kr kr kr kr (.inl rfl) ?_
   refine LAt.movT tOk (ty := 233) (t := 26) (d := 23) (g := none) [(true,(Vec.row r3.1)),(false,[cI r3.2])] _ kr (.inl rfl) kr kr kr kr rfl ?_
   refine uD tOk 5 263 0 kr kr ?_
   refine tS ?_
   refine tB ?_
   refine tG tOk 4 536870919 0 kr kr ?_
   obtain ⟨h3,H⟩ | ⟨h3,H⟩ := bC H
   ·refine tF h3 kr ?_
    obtain ⟨v4,ev4,H⟩ := bind_some H
    refine tO ⟨52,0,[sB 29 (r3.2 == x2),sI 0 x0,sC 1 (cF 8 x1 Pt.row),sI 2 x2],[]⟩ kr ?_
    cases h4 : (!v4.Has)
    ·have H := bifF h4 H
     obtain ⟨r5,er5,H⟩ := bind_some H
     obtain ⟨v6,ev6,H⟩ := bind_some H
     obtain ⟨r7,er7,H⟩ := bind_some H
     refine Tr.draws mixed 19 kr ⟨52,0,[sB 33 r7],[]⟩ (fun cx => ?_) ?_
     ·refine aU tOk [(0,[]),(1,[])] 17 [] [1,0] rfl kr (fun cx => ?_)
      refine aI tOk 2 35 0 34 35 36 none ⟨(.slot 34),[],0,false,8,(CV.frzEs (x1.map Pt.row))⟩ x2 (Pt.row v4) _ kr kr kr kr kr kr rfl (idx_isF ev4) rfl (fun cx => ?_)
      refine aU tOk [(3,[]),(4,[]),(5,[]),(6,[])] 12 [] [6,5,4,3,2,1,0] rfl kr (fun cx => ?_)
      refine aT ⟨52,0,[sB 40 (!v4.Has),sB 39 (!v4.Has),sB 38 v4.Has,(37,.fad (((Pt.row v4).drop 2))),(36,.fad ((Pt.row v4))),sI 35 x2,sC 34 (cF 8 x1 Pt.row),sB 29 (r3.2 == x2),sI 0 x0,sC 1 (cF 8 x1 Pt.row),sI 2 x2],[]⟩ kr ?_
      rw [h4]
      refine aU tOk [(7,[]),(8,[]),(9,[]),(11,[]),(12,[])] 7 [] [12,11,9,8,7,6,5,4,3,2,1,0] rfl kr (fun cx => ?_)
      refine aI tOk 13 35 0 45 46 47 (some (6,false)) ⟨(.slot 45),[],0,false,8,(CV.frzEs (x1.map Pt.row))⟩ x2 (Pt.row v6) _ kr kr kr kr kr kr rfl (idx_isF ev6) rfl (fun cx => ?_)
      refine aU tOk [(14,[]),(15,[])] 4 [] [15,14,13,12,11,9,8,7,6,5,4,3,2,1,0] rfl kr (fun cx => ?_)
      refine AT.big1 tOk 10 kr kr ?_
      refine lV tOk [.rd,.rd,.rd] [] (impl_SayVec n x0 x1 x2 r5 er5) kr kr kr kr (.inl rfl) ?_
      refine lF kr kr kr ?_
      refine AT.big1 tOk 16 kr kr ?_
      refine lV tOk [.rd,.rd] [] (impl_LessVec n r5 v6.Heard r7 er7) kr kr kr kr (.inl rfl) ?_
      refine lF kr kr kr ?_
      refine aU tOk [(17,[]),(18,[])] 0 [] [18,17,16,10,15,14,13,12,11,9,8,7,6,5,4,3,2,1,0] rfl kr (fun cx => ?_)
      exact AT.done [33] [] _ kr kr rfl
     cases h5 : r7
     ·have H := bifF h5 H
      refine tf kr ?_
      refine tK ?_
      refine tG tOk 1 64 0 kr kr ?_
      exact te (by obtain rfl := si H; exact fO [(false,[cI 3])] kr rfl rfl)
     have H := bifT h5 H
     refine tt kr ?_
     refine tG tOk 1 64 0 kr kr ?_
     exact te (by obtain rfl := si H; exact fO [(false,[cI 2])] kr rfl rfl)
    have H := bifT h4 H
    refine Tr.draws mixed 19 kr ⟨52,0,[sB 33 true],[]⟩ (fun cx => ?_) ?_
    ·refine aU tOk [(0,[]),(1,[])] 17 [] [1,0] rfl kr (fun cx => ?_)
     refine aI tOk 2 35 0 34 35 36 none ⟨(.slot 34),[],0,false,8,(CV.frzEs (x1.map Pt.row))⟩ x2 (Pt.row v4) _ kr kr kr kr kr kr rfl (idx_isF ev4) rfl (fun cx => ?_)
     refine aU tOk [(3,[]),(4,[]),(5,[]),(6,[])] 12 [] [6,5,4,3,2,1,0] rfl kr (fun cx => ?_)
     refine aT ⟨52,0,[sB 40 (!v4.Has),sB 39 (!v4.Has),sB 38 v4.Has,(37,.fad (((Pt.row v4).drop 2))),(36,.fad ((Pt.row v4))),sI 35 x2,sC 34 (cF 8 x1 Pt.row),sB 29 (r3.2 == x2),sI 0 x0,sC 1 (cF 8 x1 Pt.row),sI 2 x2],[]⟩ kr ?_
     rw [h4]
     refine aU tOk [(7,[]),(8,[]),(9,[]),(10,[]),(11,[]),(12,[]),(13,[]),(14,[]),(15,[]),(16,[]),(17,[]),(18,[])] 0 [] [18,17,16,15,14,13,12,11,10,9,8,7,6,5,4,3,2,1,0] rfl kr (fun cx => ?_)
     exact AT.done [33] [] _ kr kr rfl
    refine tt kr ?_
    refine tG tOk 1 64 0 kr kr ?_
    exact te (by obtain rfl := si H; exact fO [(false,[cI 2])] kr rfl rfl)
   refine tT h3 kr ?_
   refine tG tOk 1 64 0 kr kr ?_
   exact te (by obtain rfl := si H; exact fO [(false,[cI 1])] kr rfl rfl)
  refine tT h2 kr ?_
  refine tG tOk 1 64 0 kr kr ?_
  exact te (by obtain rfl := si H; exact fO [(false,[cI 4])] kr rfl rfl)
 have H := bifT h1 H
 refine uD tOk 7 4194311 0 kr kr ?_
 refine tt kr ?_
 refine tG tOk 1 64 0 kr kr ?_
 exact te (by obtain rfl := si H; exact fO [(false,[cI 4])] kr rfl rfl)
def impl_Sends_J1 (n : Nat) (y3 : Int) : Option (Int) :=
  (some y3)
def impl_Sends_L2 (n : Nat) : Nat → Int → (List Pt) → Int → Int → Option ((Int) ⊕ (Int))
  | 0,_,_,_,_ => none
  | mo4 + 1,x0,x1,y1,y2 => (bif (decide (y1 < (x1.length : Int))) then (bif (decide (y1 < 6)) then ((impl_RoleOfF n x0 x1 y1).bind fun r5 => (bif (r5 == 1) then (bif (decide ((0 : Int) ≤ y1)) then (impl_Sends_L2 n mo4 x0 x1 (IntKind.wrap .i64 (y1 + 1)) (IntKind.wrap .i64 (BitVec.ofInt (IntKind.bits .i64) y2 ||| BitVec.ofInt (IntKind.bits .i64) (IntKind.wrap .i64 (1 * 2 ^ min ((y1 : Int)).toNat (IntKind.bits .i64)))).toNat)) else none) else (bif (r5 == 2) then (bif (decide ((0 : Int) ≤ y1)) then (impl_Sends_L2 n mo4 x0 x1 (IntKind.wrap .i64 (y1 + 1)) (IntKind.wrap .i64 (BitVec.ofInt (IntKind.bits .i64) y2 ||| BitVec.ofInt (IntKind.bits .i64) (IntKind.wrap .i64 (1 * 2 ^ min ((y1 : Int)).toNat (IntKind.bits .i64)))).toNat)) else none) else (impl_Sends_L2 n mo4 x0 x1 (IntKind.wrap .i64 (y1 + 1)) y2)))) else (some (Sum.inl y2))) else (some (Sum.inl y2)))
def impl_SendsF (n : Nat) (x0 : Int) (x1 : (List Pt)) : Option (Int) :=
  ((impl_Sends_L2 n n x0 x1 0 0).bind fun o => match o with | .inl y3 => (impl_Sends_J1 n y3) | .inr r => some r)
noncomputable abbrev G43 (k : Nat) := Rg Tryz.f43 k
theorem impl_Sends (n : Nat) (x0 : Int) (x1 : (List Pt)) (r : Int) (H : impl_SendsF n x0 x1 = some r) : LCall Tryz.prog 43 [.val false [.lit (.int .i64 x0)],.val false [.sl false 8 (CV.frzEs (x1.map Pt.row))]] [.val false [.lit (.int .i64 r)]] [] := by
 refine LCall.of_body tOk Tryz.func43 rfl (c := (.seq (G43 0) (.seq (G43 1) (.seq (.seq (G43 2) (.block 0 (.loop (.seq (.seq (G43 3) (.cond (.tmp 15) .skip (.exit 0))) (.seq (.block 1 (.seq (G43 5) (.seq (G43 6) (.cond (.tmp 27) (G43 7) .skip)))) (G43 4)))))) (.seq (G43 8) .ret))))) kr (Nat.le_of_ble_eq_true kr) 0 (rs := [.tmp 4]) rfl [] .nil [(false,[.lit (.int .i64 r)])] [] [] fun cx => ?_
 show Tr _ _ _ ⟨33,0,[sI 0 x0,sC 1 (cF 8 x1 Pt.row)],[]⟩ _
 unfold impl_SendsF at H
 refine tG tOk 1 3 0 kr kr ?_
 refine tG tOk 1 35 0 kr kr ?_
 refine tS ?_
 refine tG tOk 1 99 0 kr kr ?_
 obtain ⟨o4,eo4,Ho4⟩ := bind_some H
 clear H
 refine Tr.mid (ι := Int) (fun v => ⟨33,0,[sI 5 v],[]⟩) (fun v => impl_Sends_J1 n v = some r) ?_ ?_
 ·refine tB ?_
  refine Tr.loop (ι := Nat × (Int × Int)) (fun v => ⟨33,0,[sI 6 v.2.1,sI 5 v.2.2,sI 0 x0,sC 1 (cF 8 x1 Pt.row)],[]⟩) (fun v => impl_Sends_L2 n v.1 x0 x1 v.2.1 v.2.2 = some o4) (fun v => v.1) (n,(0,0)) eo4 (St.sub_of [6,5,0,1] [] kr) ?_
  rintro ⟨mo4,y1,y2⟩ H
  have H : impl_Sends_L2 n mo4 x0 x1 y1 y2 = some o4 := H
  obtain _ | mo4 := mo4
  ·cases (show (none : Option _) = some o4 from H)
  rw [impl_Sends_L2] at H
  refine tS ?_
  refine rU tOk 2 kr ?_
  refine lL tOk 35 3 167 9 10 none ⟨(.slot 9),[],0,false,8,(CV.frzEs (x1.map Pt.row))⟩ (x1).length _ kr kr kr kr kr (frz_len _ _) rfl ?_
  refine lU tOk 2 kr ?_
  refine lT ⟨33,0,[sB 12 (decide (y1 < (x1.length : Int))),sB 11 (decide (y1 < (x1.length : Int))),sI 10 (x1.length : Int),sC 9 (cF 8 x1 Pt.row),sI 8 y1,sI 6 y1,sI 5 y2,sI 0 x0,sC 1 (cF 8 x1 Pt.row)],[]⟩ kr ?_
  cases h1 : (decide (y1 < (x1.length : Int)))
  ·have H := bifF h1 H
   refine uD tOk 3 32867 0 kr kr ?_
   refine tf kr ?_
   refine Tr.exit ?_
   refine And.intro (fun _ => ?_) (fun h => absurd rfl h)
   obtain rfl := si H
   have H := Ho4
   dsimp only at H
   exact jn y2 H (sB_ [5] [] kr)
  have H := bifT h1 H
  refine uD tOk 3 32867 0 kr kr ?_
  obtain ⟨h2,H⟩ | ⟨h2,H⟩ := bC H
  ·refine tF h2 kr ?_
   refine Tr.exit ?_
   refine And.intro (fun _ => ?_) (fun h => absurd rfl h)
   obtain rfl := si H
   have H := Ho4
   dsimp only at H
   exact jn y2 H (sB_ [5] [] kr)
  refine tT h2 kr ?_
  refine tK ?_
  refine tS ?_
  refine tB ?_
  refine rU tOk 3 kr ?_
  obtain ⟨r5,er5,H⟩ := bind_some H
  refine lV tOk [.rd,.rd,.rd] [] (impl_RoleOf n x0 x1 y1 r5 er5) kr kr kr kr (.inl rfl) ?_
  refine uD tOk 1 227 0 kr kr ?_
  refine rU tOk 3 kr ?_
  refine lT ⟨33,0,[sB 24 (r5 == 1),sB 23 (r5 == 1),sI 22 r5,sI 7 r5,sI 6 y1,sI 5 y2,sI 0 x0,sC 1 (cF 8 x1 Pt.row)],[]⟩ kr ?_
  cases h3 : (r5 == 1)
  ·have H := bifF h3 H
   refine uD tOk 3 134217827 0 kr kr ?_
   obtain ⟨h4,H⟩ | ⟨h4,H⟩ := bC H
   ·refine tF h4 kr ?_
    refine tK ?_
    refine tE tOk 3 99 0 kr kr ?_
    exact jn (mo4,((IntKind.wrap .i64 (y1 + 1)),y2)) H (sM mo4 [6,5,0,1] [] kr)
   refine tT h4 kr ?_
   refine Tr.at ?_
   refine lU tOk 2 kr ?_
   obtain ⟨hg6,H⟩ := guard_some H
   refine LAt.binC tOk (op := .shl) (t := 3) (ty := 3) (ty' := 3) (x := (.const (.int .i64 1))) (y := (.tmp 29)) (d := 30) (g := none) (.int .i64 1) (.int .i64 y1) (.int .i64 (IntKind.wrap .i64 (1 * 2 ^ min ((y1 : Int)).toNat (IntKind.bits .i64)))) _ kr kr kr kr kr (φ := (0 : Int) ≤ y1) kr (of_decide_eq_true hg6) rfl ?_
   refine uD tOk 2 99 0 kr kr ?_
   refine tE tOk 3 99 0 kr kr ?_
   exact jn (mo4,((IntKind.wrap .i64 (y1 + 1)),(IntKind.wrap .i64 (BitVec.ofInt (IntKind.bits .i64) y2 ||| BitVec.ofInt (IntKind.bits .i64) (IntKind.wrap .i64 (1 * 2 ^ min ((y1 : Int)).toNat (IntKind.bits .i64)))).toNat))) H (sM mo4 [6,5,0,1] [] kr)
  have H := bifT h3 H
  refine uD tOk 3 134217827 0 kr kr ?_
  refine tt kr ?_
  refine Tr.at ?_
  refine lU tOk 2 kr ?_
  obtain ⟨hg7,H⟩ := guard_some H
  refine LAt.binC tOk (op := .shl) (t := 3) (ty := 3) (ty' := 3) (x := (.const (.int .i64 1))) (y := (.tmp 29)) (d := 30) (g := none) (.int .i64 1) (.int .i64 y1) (.int .i64 (IntKind.wrap .i64 (1 * 2 ^ min ((y1 : Int)).toNat (IntKind.bits .i64)))) _ kr kr kr kr kr (φ := (0 : Int) ≤ y1) kr (of_decide_eq_true hg7) rfl ?_
  refine uD tOk 2 99 0 kr kr ?_
  refine tE tOk 3 99 0 kr kr ?_
  exact jn (mo4,((IntKind.wrap .i64 (y1 + 1)),(IntKind.wrap .i64 (BitVec.ofInt (IntKind.bits .i64) y2 ||| BitVec.ofInt (IntKind.bits .i64) (IntKind.wrap .i64 (1 * 2 ^ min ((y1 : Int)).toNat (IntKind.bits .i64)))).toNat))) H (sM mo4 [6,5,0,1] [] kr)
 rintro y3 H
 have H : (impl_Sends_J1 n y3) = some r := H
 unfold impl_Sends_J1 at H
 refine tG tOk 2 16 0 kr kr ?_
 exact te (by obtain rfl := si H; exact fO [(false,[cI y3])] kr rfl rfl)
def impl_hasPortF (n : Nat) (x0 : Int) (x1 : Int) : Option (Bool) :=
  ((impl_inF n x1 0 62).bind fun r1 => (bif r1 then (bif (decide ((0 : Int) ≤ x1)) then (some ((IntKind.wrap .i64 (BitVec.ofInt (IntKind.bits .i64) (Int.fdiv x0 (2 ^ min ((x1 : Int)).toNat (IntKind.bits .i64))) &&& BitVec.ofInt (IntKind.bits .i64) 1).toNat) == 1)) else none) else (some false)))
noncomputable abbrev G86 (k : Nat) := Rg Tryz.f86 k
theorem impl_hasPort (n : Nat) (x0 : Int) (x1 : Int) (r : Bool) (H : impl_hasPortF n x0 x1 = some r) : LCall Tryz.prog 86 [.val false [.lit (.int .i64 x0)],.val false [.lit (.int .i64 x1)]] [.val false [.lit (.bool r)]] [] := by
 refine LCall.of_body tOk Tryz.func86 rfl (c := (.seq (G86 0) (.seq (G86 1) .ret))) kr (Nat.le_of_ble_eq_true kr) 0 (rs := [.tmp 4]) rfl [] .nil [(false,[.lit (.bool r)])] [] [] fun cx => ?_
 show Tr _ _ _ ⟨14,0,[sI 0 x0,sI 1 x1],[]⟩ _
 unfold impl_hasPortF at H
 refine tG tOk 1 3 0 kr kr ?_
 refine rU tOk 1 kr ?_
 obtain ⟨r1,er1,H⟩ := bind_some H
 refine lV tOk [.rd,.rd,.rd] [] (impl_in n x1 0 62 r1 er1) kr kr kr kr (.inl rfl) ?_
 refine lU tOk 1 kr ?_
 refine lT ⟨14,0,[sB 7 r1,sB 6 r1,sI 5 x1,sI 0 x0,sI 1 x1],[]⟩ kr ?_
 cases h1 : r1
 ·have H := bifF h1 H
  refine uD tOk 7 16 0 kr kr ?_
  exact te (by obtain rfl := si H; exact fO [(false,[cB false])] kr rfl rfl)
 have H := bifT h1 H
 refine lU tOk 2 kr ?_
 obtain ⟨hg2,H⟩ := guard_some H
 refine LAt.binC tOk (op := .shr) (t := 3) (ty := 3) (ty' := 3) (x := (.tmp 8)) (y := (.tmp 9)) (d := 10) (g := (some (2,true))) (.int .i64 x0) (.int .i64 x1) (.int .i64 (Int.fdiv x0 (2 ^ min ((x1 : Int)).toNat (IntKind.bits .i64)))) _ kr kr kr kr kr (φ := (0 : Int) ≤ x1) kr (of_decide_eq_true hg2) rfl ?_
 refine uD tOk 4 16 0 kr kr ?_
 exact te (by obtain rfl := si H; exact fO [(false,[cB ((IntKind.wrap .i64 (BitVec.ofInt (IntKind.bits .i64) (Int.fdiv x0 (2 ^ min ((x1 : Int)).toNat (IntKind.bits .i64))) &&& BitVec.ofInt (IntKind.bits .i64) 1).toNat) == 1)])] kr rfl rfl)
def impl_ClassOf_J1 (n : Nat) (x0 : Vtab) (x1 : Int) (y2 : Int) : Option (Int × Bool) :=
  ((impl_RowAtF n x0 y2).bind fun r3 => (bif (decide (r3 < 0)) then (some (0,false)) else ((idx x0.Rows r3).bind fun v4 => ((impl_hasPortF n v4.Members x1).bind fun r5 => (bif (!r5) then (some (0,false)) else (some (y2,true)))))))
def impl_ClassOfF (n : Nat) (x0 : Vtab) (x1 : Int) (x2 : Int) : Option (Int × Bool) :=
  ((impl_inF n x1 0 (IntKind.wrap .i64 ((x0.Pvid.length : Int) - 1))).bind fun r1 => (bif (!r1) then (some (0,false)) else (bif (x2 == 0) then ((idx x0.Pvid x1).bind fun v6 => (impl_ClassOf_J1 n x0 x1 v6)) else (impl_ClassOf_J1 n x0 x1 x2))))
noncomputable abbrev G42 (k : Nat) := Rg Tryz.f42 k
theorem impl_ClassOf (n : Nat) (x0 : Vtab) (x1 : Int) (x2 : Int) (r : Int × Bool) (H : impl_ClassOfF n x0 x1 x2 = some r) : LCall Tryz.prog 42 [.val true (CV.frzRow (Vtab.row x0)),.val false [.lit (.int .i64 x1)],.val false [.lit (.int .i64 x2)]] [.val false [.lit (.int .i64 r.1)],.val false [.lit (.bool r.2)]] [] := by
 refine LCall.of_body tOk Tryz.func42 rfl (c := (.seq (G42 0) (.seq (.seq (G42 1) (.cond (.tmp 16) (.seq (G42 2) .ret) .skip)) (.seq (G42 3) (.seq (.seq (G42 4) (.cond (.tmp 19) (G42 5) .skip)) (.seq (.seq (G42 6) (.seq (G42 7) (.cond (.tmp 40) (.seq (G42 8) .ret) .skip))) (.seq (G42 9) .ret))))))) kr (Nat.le_of_ble_eq_true kr) 0 (rs := [.tmp 6,.tmp 7]) rfl [] .nil [(false,[.lit (.int .i64 r.1)]),(false,[.lit (.bool r.2)])] [] [] fun cx => ?_
 show Tr _ _ _ ⟨42,0,[sV 0 (CV.frzRow (Vtab.row x0)),sI 1 x1,sI 2 x2],[]⟩ _
 unfold impl_ClassOfF at H
 refine tG tOk 3 14 8 kr kr ?_
 refine tS ?_
 refine rU tOk 3 kr ?_
 refine lL tOk 25 3 3 12 13 none ⟨(.slot 12),[],0,false,1,(CV.frzEs (x0.Pvid.map intRow))⟩ (x0.Pvid).length _ kr kr kr kr kr (frz_len _ _) rfl ?_
 refine lU tOk 1 kr ?_
 obtain ⟨r1,er1,H⟩ := bind_some H
 refine lV tOk [.rd,.rd,.rd] [] (impl_in n x1 0 (IntKind.wrap .i64 ((x0.Pvid.length : Int) - 1)) r1 er1) kr kr kr kr (.inl rfl) ?_
 refine uD tOk 1 65550 8 kr kr ?_
 obtain ⟨h1,H⟩ | ⟨h1,H⟩ := bC H
 ·refine tF h1 kr ?_
  refine tK ?_
  refine tG tOk 2 270 8 kr kr ?_
  refine tS ?_
  refine Tr.mid (ι := Int) (fun v => ⟨42,0,[sI 8 v,sA 3 3 2 0,sI 1 x1],[(3,(CV.frzRow (Vtab.row x0)))]⟩) (fun v => impl_ClassOf_J1 n x0 x1 v = some r) ?_ ?_
  ·refine tG tOk 2 524554 8 kr kr ?_
   obtain ⟨h4,H⟩ | ⟨h4,H⟩ := bC H
   ·refine tF h4 kr ?_
    refine tK ?_
    exact jn x2 H (sB_ [8,3,1] [3] kr)
   refine tT h4 kr ?_
   refine Tr.at ?_
   refine lU tOk 3 kr ?_
   obtain ⟨v6,ev6,H⟩ := bind_some H
   refine lI tOk 25 0 21 22 23 none ⟨(.slot 21),[],0,false,1,(CV.frzEs (x0.Pvid.map intRow))⟩ x1 [cI v6] _ kr kr kr kr rfl (idx_isF ev6) rfl ?_
   refine uD tOk 2 266 8 kr kr ?_
   exact jn v6 H (sB_ [8,3,1] [3] kr)
  rintro y2 H
  have H : (impl_ClassOf_J1 n x0 x1 y2) = some r := H
  unfold impl_ClassOf_J1 at H
  refine tS ?_
  refine rU tOk 2 kr ?_
  obtain ⟨r3,er3,H⟩ := bind_some H
  refine lV tOk [.rd,.rd] [] (impl_RowAt n x0 y2 r3 er3) kr kr kr kr (.inl rfl) ?_
  refine uD tOk 1 778 8 kr kr ?_
  refine rU tOk 3 kr ?_
  refine lT ⟨42,0,[sB 30 (decide (r3 < 0)),sB 29 (decide (r3 < 0)),sI 28 r3,sI 9 r3,sI 8 y2,sA 3 3 2 0,sI 1 x1],[(3,(CV.frzRow (Vtab.row x0)))]⟩ kr ?_
  cases h2 : (decide (r3 < 0))
  ·have H := bifF h2 H
   refine lU tOk 3 kr ?_
   obtain ⟨v4,ev4,H⟩ := bind_some H
   refine lI tOk 37 0 32 33 34 (some (2,false)) ⟨(.slot 32),[],0,false,3,(CV.frzEs (x0.Rows.map Vrow.row))⟩ r3 (Vrow.row v4) _ kr kr kr kr rfl (idx_isF ev4) rfl ?_
   refine lU tOk 3 kr ?_
   obtain ⟨r5,er5,H⟩ := bind_some H
   refine lV tOk [.rd,.rd] [] (impl_hasPort n v4.Members x1 r5 er5) kr kr kr kr (.inl rfl) ?_
   refine uD tOk 2 1099511628032 0 kr kr ?_
   obtain ⟨h3,H⟩ | ⟨h3,H⟩ := bC H
   ·refine tF h3 kr ?_
    refine tK ?_
    refine tG tOk 3 192 0 kr kr ?_
    exact te (by obtain rfl := si H; exact fO [(false,[cI y2]),(false,[cB true])] kr rfl rfl)
   refine tT h3 kr ?_
   refine tG tOk 2 192 0 kr kr ?_
   exact te (by obtain rfl := si H; exact fO [(false,[cI 0]),(false,[cB false])] kr rfl rfl)
  have H := bifT h2 H
  refine uD tOk 10 1099511628032 0 kr kr ?_
  refine tt kr ?_
  refine tG tOk 2 192 0 kr kr ?_
  exact te (by obtain rfl := si H; exact fO [(false,[cI 0]),(false,[cB false])] kr rfl rfl)
 refine tT h1 kr ?_
 refine tG tOk 2 192 0 kr kr ?_
 exact te (by obtain rfl := si H; exact fO [(false,[cI 0]),(false,[cB false])] kr rfl rfl)
def impl_moreF (n : Nat) (x0 : Int) : Option (Int) :=
  (some (if 1000000 < (IntKind.wrap .i64 (x0 + 1)) then 1000000 else (IntKind.wrap .i64 (x0 + 1))))
noncomputable abbrev G87 (k : Nat) := Rg Tryz.f87 k
theorem impl_more (n : Nat) (x0 : Int) (r : Int) (H : impl_moreF n x0 = some r) : LCall Tryz.prog 87 [.val false [.lit (.int .i64 x0)]] [.val false [.lit (.int .i64 r)]] [] := by
 refine LCall.of_body tOk Tryz.func87 rfl (c := (.seq (G87 0) (.seq (G87 1) .ret))) kr (Nat.le_of_ble_eq_true kr) 0 (rs := [.tmp 2]) rfl [] .nil [(false,[.lit (.int .i64 r)])] [] [] fun cx => ?_
 show Tr _ _ _ ⟨6,0,[sI 0 x0],[]⟩ _
 unfold impl_moreF at H
 refine tG tOk 1 1 0 kr kr ?_
 refine tG tOk 4 4 0 kr kr ?_
 exact te (by obtain rfl := si H; exact fO [(false,[cI (if 1000000 < (IntKind.wrap .i64 (x0 + 1)) then 1000000 else (IntKind.wrap .i64 (x0 + 1)))])] kr rfl rfl)
def impl_entAt_J1 (n : Nat) : Option (Int) :=
  (some (-1))
def impl_entAt_L2 (n : Nat) : Nat → (List Fent) → Int → Int → Int → Option ((Unit) ⊕ (Int))
  | 0,_,_,_,_ => none
  | mo2 + 1,x0,x1,x2,y1 => (bif (decide (y1 < (x0.length : Int))) then ((idx x0 y1).bind fun v3 => (bif (v3.Tag == x1) then (bif (v3.Mac == x2) then (some (Sum.inr y1)) else (impl_entAt_L2 n mo2 x0 x1 x2 (IntKind.wrap .i64 (y1 + 1)))) else (impl_entAt_L2 n mo2 x0 x1 x2 (IntKind.wrap .i64 (y1 + 1))))) else (some (Sum.inl ())))
def impl_entAtF (n : Nat) (x0 : (List Fent)) (x1 : Int) (x2 : Int) : Option (Int) :=
  ((impl_entAt_L2 n n x0 x1 x2 0).bind fun o => match o with | .inl _ => (impl_entAt_J1 n) | .inr r => some r)
noncomputable abbrev G144 (k : Nat) := Rg Tryz.f144 k
theorem impl_entAt (n : Nat) (x0 : (List Fent)) (x1 : Int) (x2 : Int) (r : Int) (H : impl_entAtF n x0 x1 x2 = some r) : LCall Tryz.prog 144 [.val false [.sl false 5 (CV.frzEs (x0.map Fent.row))],.val false [.lit (.int .i64 x1)],.val false [.lit (.int .i64 x2)]] [.val false [.lit (.int .i64 r)]] [] := by
 refine LCall.of_body tOk Tryz.func144 rfl (c := (.seq (G144 0) (.seq (.seq (G144 1) (.block 0 (.loop (.seq (G144 2) (.seq (.cond (.tmp 12) .skip (.exit 0)) (.seq (.block 1 (.seq (G144 3) (.seq (G144 4) (.cond (.tmp 25) (.seq (G144 5) .ret) .skip)))) (G144 6))))))) (.seq (G144 7) .ret)))) kr (Nat.le_of_ble_eq_true kr) 0 (rs := [.tmp 6]) rfl [] .nil [(false,[.lit (.int .i64 r)])] [] [] fun cx => ?_
 show Tr _ _ _ ⟨28,0,[sC 0 (cF 5 x0 Fent.row),sI 1 x1,sI 2 x2],[]⟩ _
 unfold impl_entAtF at H
 refine tG tOk 1 7 0 kr kr ?_
 refine tS ?_
 refine rU tOk 1 kr ?_
 refine lL tOk 36 3 169 9 10 none ⟨(.slot 9),[],0,false,5,(CV.frzEs (x0.map Fent.row))⟩ (x0).length _ kr kr kr kr kr (frz_len _ _) rfl ?_
 refine uD tOk 1 3590 0 kr kr ?_
 obtain ⟨o2,eo2,Ho2⟩ := bind_some H
 clear H
 refine Tr.mid (ι := Unit) (fun v => ⟨28,0,[],[]⟩) (fun v => impl_entAt_J1 n = some r) ?_ ?_
 ·refine tB ?_
  refine Tr.loop (ι := Nat × (Int)) (fun v => ⟨28,0,[sI 11 v.2,sI 10 (x0.length : Int),sC 9 (cF 5 x0 Fent.row),sI 1 x1,sI 2 x2],[]⟩) (fun v => impl_entAt_L2 n v.1 x0 x1 x2 v.2 = some o2) (fun v => v.1) (n,0) eo2 (St.sub_of [11,10,9,1,2] [] kr) ?_
  rintro ⟨mo2,y1⟩ H
  have H : impl_entAt_L2 n mo2 x0 x1 x2 y1 = some o2 := H
  obtain _ | mo2 := mo2
  ·cases (show (none : Option _) = some o2 from H)
  rw [impl_entAt_L2] at H
  refine tG tOk 1 7686 0 kr kr ?_
  refine tS ?_
  obtain ⟨h1,H⟩ | ⟨h1,H⟩ := bC H
  ·refine tF h1 kr ?_
   refine Tr.exit ?_
   refine And.intro (fun _ => ?_) (fun h => absurd rfl h)
   obtain rfl := si H
   have H := Ho2
   dsimp only at H
   exact jn () H (sB_ [] [] kr)
  refine tT h1 kr ?_
  refine tK ?_
  refine tS ?_
  refine tB ?_
  refine rU tOk 1 kr ?_
  obtain ⟨v3,ev3,H⟩ := bind_some H
  refine lI tOk 36 0 9 11 14 none ⟨(.slot 9),[],0,false,5,(CV.frzEs (x0.map Fent.row))⟩ y1 (Fent.row v3) _ kr kr kr kr rfl (idx_isF ev3) rfl ?_
  refine uD tOk 4 3974 256 kr kr ?_
  refine rU tOk 5 kr ?_
  refine lT ⟨28,0,[sB 20 (v3.Tag == x1),sB 19 (v3.Tag == x1),sI 18 x1,sI 17 v3.Tag,sA 16 8 5 0,sI 7 y1,sA 8 8 5 0,sI 11 y1,sI 10 (x0.length : Int),sC 9 (cF 5 x0 Fent.row),sI 1 x1,sI 2 x2],[(8,(Fent.row v3))]⟩ kr ?_
  cases h2 : (v3.Tag == x1)
  ·have H := bifF h2 H
   refine uD tOk 5 33558150 0 kr kr ?_
   refine tf kr ?_
   refine tK ?_
   refine tE tOk 2 3590 0 kr kr ?_
   exact jn (mo2,(IntKind.wrap .i64 (y1 + 1))) H (sM mo2 [11,10,9,1,2] [] kr)
  have H := bifT h2 H
  refine uD tOk 5 33558150 0 kr kr ?_
  obtain ⟨h3,H⟩ | ⟨h3,H⟩ := bC H
  ·refine tF h3 kr ?_
   refine tK ?_
   refine tE tOk 2 3590 0 kr kr ?_
   exact jn (mo2,(IntKind.wrap .i64 (y1 + 1))) H (sM mo2 [11,10,9,1,2] [] kr)
  refine tT h3 kr ?_
  refine tG tOk 2 64 0 kr kr ?_
  refine te ?_
  obtain rfl := si H
  have H := Ho2
  dsimp only at H
  obtain rfl := si H
  exact fO [(false,[cI y1])] kr rfl rfl
 rintro _ H
 have H : (impl_entAt_J1 n) = some r := H
 unfold impl_entAt_J1 at H
 refine tG tOk 1 64 0 kr kr ?_
 exact te (by obtain rfl := si H; exact fO [(false,[cI (-1)])] kr rfl rfl)
def impl_put_J1 (n : Nat) (x0 : (List Fent)) (x1 : Fent) (y4 : Int) : Option ((List Fent) × Bool) :=
  (bif (decide ((0 : Int) ≤ 0) && (decide ((0 : Int) ≤ y4) && decide ((y4 : Int) ≤ (x0.length : Int)))) then ((impl_copyFdbF n ((x0.drop ((0 : Int)).toNat).take (((y4 : Int)).toNat - ((0 : Int)).toNat))).bind fun r6 => (bif (decide (r6.length + [x1].length ≤ 268435456)) then (bif (decide ((0 : Int) ≤ y4) && (decide ((y4 : Int) ≤ (x0.length : Int)) && decide (((x0.length : Int) : Int) ≤ (x0.length : Int)))) then (bif (decide ((r6 ++ [x1]).length + ((x0.drop ((y4 : Int)).toNat).take ((((x0.length : Int) : Int)).toNat - ((y4 : Int)).toNat)).length ≤ 268435456)) then (some (((r6 ++ [x1]) ++ ((x0.drop ((y4 : Int)).toNat).take ((((x0.length : Int) : Int)).toNat - ((y4 : Int)).toNat))),true)) else none) else none) else none)) else none)
def impl_put_L2 (n : Nat) : Nat → (List Fent) → Fent → Int → Option ((Int) ⊕ ((List Fent) × Bool))
  | 0,_,_,_ => none
  | mo10 + 1,x0,x1,y3 => (bif (decide (y3 < (x0.length : Int))) then ((idx x0 y3).bind fun v11 => ((impl_behindF n v11 x1.Tag x1.Mac).bind fun r12 => (bif (!r12) then (impl_put_L2 n mo10 x0 x1 (IntKind.wrap .i64 (y3 + 1))) else (some (Sum.inl y3))))) else (some (Sum.inl y3)))
def impl_putF (n : Nat) (x0 : (List Fent)) (x1 : Fent) : Option ((List Fent) × Bool) :=
  ((impl_copyFdbF n x0).bind fun r1 => ((impl_entAtF n x0 x1.Tag x1.Mac).bind fun r2 => (bif (decide (r2 ≥ 0)) then ((idx r1 r2).bind fun v13 => (some ((r1.set (r2.toNat) x1),true))) else (bif (decide ((x0.length : Int) ≥ 12)) then (some (r1,false)) else ((impl_put_L2 n n x0 x1 0).bind fun o => match o with | .inl y4 => (impl_put_J1 n x0 x1 y4) | .inr r => some r)))))
noncomputable abbrev G184 (k : Nat) := Rg Tryz.f184 k
noncomputable abbrev D184 (k : Nat) := Rd Tryz.f184 k
theorem impl_put (n : Nat) (x0 : (List Fent)) (x1 : Fent) (r : (List Fent) × Bool) (H : impl_putF n x0 x1 = some r) : LCall Tryz.prog 184 [.val false [.sl false 5 (CV.frzEs (x0.map Fent.row))],.val true (CV.frzRow (Fent.row x1))] [.val false [.sl true 5 (r.1.map Fent.row)],.val false [.lit (.bool r.2)]] [] := by
 refine LCall.of_body tOk Tryz.func184 rfl (c := (.seq (G184 0) (.seq (G184 1) (.seq (.seq (G184 2) (.seq (G184 3) (.cond (.tmp 18) (.seq (G184 4) (.seq (G184 5) .ret)) .skip))) (.seq (.seq (G184 6) (.cond (.tmp 26) (.seq (G184 7) .ret) .skip)) (.seq (G184 8) (.seq (.block 0 (.loop (.seq (.seq (D184 9) (.cond (.tmp 43) .skip (.exit 0))) (.block 1 (G184 10))))) (.seq (D184 11) .ret)))))))) kr (Nat.le_of_ble_eq_true kr) 0 (rs := [.tmp 4,.tmp 5]) rfl [] .nil [(false,[.sl true 5 (r.1.map Fent.row)]),(false,[.lit (.bool r.2)])] [] [] fun cx => ?_
 show Tr _ _ _ ⟨57,0,[sC 0 (cF 5 x0 Fent.row),sV 1 (Fent.row x1)],[]⟩ _
 unfold impl_putF at H
 refine tG tOk 3 9 8 kr kr ?_
 refine rU tOk 1 kr ?_
 obtain ⟨r1,er1,H⟩ := bind_some H
 refine lV tOk [.rd] [] (impl_copyFdb n x0 r1 er1) kr kr kr kr (.inl rfl) ?_
 refine LAt.moveU (T := lk tab) (ty := 36) (x := (.tmp 10)) (d := 6) (g := none) false [cL 5 r1 Fent.row] kr kr kr kr kr ?_
 refine lD 73 8 kr ?_
 refine tS ?_
 refine rU tOk 5 kr ?_
 obtain ⟨r2,er2,H⟩ := bind_some H
 refine lV tOk [.rd,.rd,.rd] [] (impl_entAt n x0 x1.Tag x1.Mac r2 er2) kr kr kr kr (.inl rfl) ?_
 refine uD tOk 1 201 8 kr kr ?_
 refine tG tOk 2 262345 8 kr kr ?_
 obtain ⟨h1,H⟩ | ⟨h1,H⟩ := bC H
 ·refine tF h1 kr ?_
  refine tK ?_
  refine tS ?_
  refine rU tOk 1 kr ?_
  refine lL tOk 36 3 169 24 25 none ⟨(.slot 24),[],0,false,5,(CV.frzEs (x0.map Fent.row))⟩ (x0).length _ kr kr kr kr kr (frz_len _ _) rfl ?_
  refine uD tOk 1 67108937 8 kr kr ?_
  obtain ⟨h2,H⟩ | ⟨h2,H⟩ := bC H
  ·refine tF h2 kr ?_
   refine tK ?_
   refine tG tOk 1 265 8 kr kr ?_
   refine tS ?_
   obtain ⟨o10,eo10,Ho10⟩ := bind_some H
   clear H
   refine Tr.mid (ι := Int) (fun v => ⟨57,0,[sI 8 v,sA 3 3 5 0,sC 0 (cF 5 x0 Fent.row)],[(3,(Fent.row x1))]⟩) (fun v => impl_put_J1 n x0 x1 v = some r) ?_ ?_
   ·refine tB ?_
    refine Tr.loop (ι := Nat × (Int)) (fun v => ⟨57,0,[sI 8 v.2,sA 3 3 5 0,sC 0 (cF 5 x0 Fent.row)],[(3,(Fent.row x1))]⟩) (fun v => impl_put_L2 n v.1 x0 x1 v.2 = some o10) (fun v => v.1) (n,0) eo10 (St.sub_of [8,3,0] [3] kr) ?_
    rintro ⟨mo10,y3⟩ H
    have H : impl_put_L2 n mo10 x0 x1 y3 = some o10 := H
    obtain _ | mo10 := mo10
    ·cases (show (none : Option _) = some o10 from H)
    rw [impl_put_L2] at H
    refine tS ?_
    refine tO ⟨57,0,[sI 8 y3,sA 3 3 5 0,sC 0 (cF 5 x0 Fent.row)],[(3,(Fent.row x1))]⟩ kr ?_
    cases h3 : (decide (y3 < (x0.length : Int)))
    ·have H := bifF h3 H
     refine Tr.draws mixed 16 kr ⟨57,0,[sB 43 false,sI 8 y3,sA 3 3 5 0,sC 0 (cF 5 x0 Fent.row)],[(3,(Fent.row x1))]⟩ (fun cx => ?_) ?_
     ·refine aU tOk [(0,[]),(1,[])] 14 [] [1,0] rfl kr (fun cx => ?_)
      refine aL tOk 2 36 3 169 29 30 none ⟨(.slot 29),[],0,false,5,(CV.frzEs (x0.map Fent.row))⟩ (x0).length _ kr kr kr kr kr kr kr (frz_len _ _) rfl (fun cx => ?_)
      refine aU tOk [(3,[]),(4,[])] 11 [] [4,3,2,1,0] rfl kr (fun cx => ?_)
      refine aT ⟨57,0,[sB 32 (decide (y3 < (x0.length : Int))),sB 31 (decide (y3 < (x0.length : Int))),sI 30 (x0.length : Int),sC 29 (cF 5 x0 Fent.row),sI 28 y3,sI 8 y3,sA 3 3 5 0,sC 0 (cF 5 x0 Fent.row)],[(3,(Fent.row x1))]⟩ kr ?_
      rw [h3]
      refine aU tOk [(5,[]),(6,[]),(7,[]),(8,[]),(9,[]),(10,[]),(11,[]),(12,[]),(13,[]),(14,[]),(15,[])] 0 [] [15,14,13,12,11,10,9,8,7,6,5,4,3,2,1,0] rfl kr (fun cx => ?_)
      exact AT.done [43,8,3,0] [3] _ kr kr rfl
     refine tf kr ?_
     refine Tr.exit ?_
     refine And.intro (fun _ => ?_) (fun h => absurd rfl h)
     obtain rfl := si H
     have H := Ho10
     dsimp only at H
     exact jn y3 H (sB_ [8,3,0] [3] kr)
    have H := bifT h3 H
    obtain ⟨v11,ev11,H⟩ := bind_some H
    obtain ⟨r12,er12,H⟩ := bind_some H
    refine Tr.draws mixed 16 kr ⟨57,0,[sB 43 (!r12),sI 8 y3,sA 3 3 5 0,sC 0 (cF 5 x0 Fent.row)],[(3,(Fent.row x1))]⟩ (fun cx => ?_) ?_
    ·refine aU tOk [(0,[]),(1,[])] 14 [] [1,0] rfl kr (fun cx => ?_)
     refine aL tOk 2 36 3 169 29 30 none ⟨(.slot 29),[],0,false,5,(CV.frzEs (x0.map Fent.row))⟩ (x0).length _ kr kr kr kr kr kr kr (frz_len _ _) rfl (fun cx => ?_)
     refine aU tOk [(3,[]),(4,[])] 11 [] [4,3,2,1,0] rfl kr (fun cx => ?_)
     refine aT ⟨57,0,[sB 32 (decide (y3 < (x0.length : Int))),sB 31 (decide (y3 < (x0.length : Int))),sI 30 (x0.length : Int),sC 29 (cF 5 x0 Fent.row),sI 28 y3,sI 8 y3,sA 3 3 5 0,sC 0 (cF 5 x0 Fent.row)],[(3,(Fent.row x1))]⟩ kr ?_
     rw [h3]
     refine aU tOk [(5,[]),(6,[])] 9 [] [6,5,4,3,2,1,0] rfl kr (fun cx => ?_)
     refine aI tOk 7 36 0 33 34 35 (some (4,true)) ⟨(.slot 33),[],0,false,5,(CV.frzEs (x0.map Fent.row))⟩ y3 (Fent.row v11) _ kr kr kr kr kr kr rfl (idx_isF ev11) rfl (fun cx => ?_)
     refine aU tOk [(8,[]),(9,[]),(10,[13]),(11,[]),(12,[13])] 3 [⟨[13],3,39,40⟩,⟨[13],3,37,38⟩] [12,11,10,9,8,7,6,5,4,3,2,1,0] rfl kr (fun cx => ?_)
     refine AT.big1 tOk 13 kr kr ?_
     refine lV tOk [.rd,.rd,.rd] [] (impl_behind n v11 x1.Tag x1.Mac r12 er12) kr kr kr kr (.inl rfl) ?_
     refine lF kr kr kr ?_
     refine aU tOk [(14,[]),(15,[])] 0 [⟨[13],3,39,40⟩,⟨[13],3,37,38⟩] [15,14,13,12,11,10,9,8,7,6,5,4,3,2,1,0] rfl kr (fun cx => ?_)
     exact AT.done [43,8,3,0] [3] _ kr kr rfl
    refine tO ⟨57,0,[sB 43 (!r12),sI 8 y3,sA 3 3 5 0,sC 0 (cF 5 x0 Fent.row)],[(3,(Fent.row x1))]⟩ kr ?_
    cases h4 : (!r12)
    ·have H := bifF h4 H
     refine tf kr ?_
     refine Tr.exit ?_
     refine And.intro (fun _ => ?_) (fun h => absurd rfl h)
     obtain rfl := si H
     have H := Ho10
     dsimp only at H
     exact jn y3 H (sB_ [8,3,0] [3] kr)
    have H := bifT h4 H
    refine tt kr ?_
    refine tK ?_
    refine tB ?_
    refine tE tOk 3 265 8 kr kr ?_
    exact jn (mo10,(IntKind.wrap .i64 (y3 + 1))) H (sM mo10 [8,3,0] [3] kr)
   rintro y4 H
   have H : (impl_put_J1 n x0 x1 y4) = some r := H
   unfold impl_put_J1 at H
   obtain ⟨hg5,H⟩ := guard_some H
   obtain ⟨r6,er6,H⟩ := bind_some H
   obtain ⟨hg7,H⟩ := guard_some H
   obtain ⟨hg8,H⟩ := guard_some H
   obtain ⟨hg9,H⟩ := guard_some H
   refine Tr.draws mixed 13 kr ⟨57,0,[sB 5 true,sC 4 (cL 5 ((r6 ++ [x1]) ++ ((x0.drop ((y4 : Int)).toNat).take ((((x0.length : Int) : Int)).toNat - ((y4 : Int)).toNat))) Fent.row)],[]⟩ (fun cx => ?_) ?_
   ·refine aU tOk [(0,[]),(1,[]),(4,[5,6,10]),(7,[]),(8,[])] 8 [⟨[5,6,10],169,3,50⟩] [8,7,4,1,0] rfl kr (fun cx => ?_)
    refine AT.big3 tOk 2 5 9 kr (And.intro kr ?_) (And.intro kr ?_) (And.intro kr ?_)
    ·refine LAt.cutG tOk (t := 36) (ty := 36) (e := 169) (x := (.tmp 46)) (lo := none) (hi := (some (.tmp 47))) (d := 48) (g := none) (tI 169) Fent.row x0 ⟨(.slot 46),[],0,false,5,(CV.frzEs (x0.map Fent.row))⟩ 0 y4 kr kr kr kr kr kr rfl kr rfl kr kr hg5 ?_
     refine lF kr kr kr ?_
     refine AT.big3 tOk 3 5 9 kr (And.intro kr ?_) (And.intro kr ?_) (And.intro kr ?_)
     ·refine lV tOk [.rd] [] (impl_copyFdb n ((x0.drop ((0 : Int)).toNat).take (((y4 : Int)).toNat - ((0 : Int)).toNat)) r6 er6) kr kr kr kr (.inl rfl) ?_
      refine lF kr kr kr ?_
      refine AT.big2 tOk 5 9 kr (And.intro kr ?_) (And.intro kr ?_)
      ·refine lU tOk 1 kr ?_
       refine lF kr kr kr ?_
       refine AT.big2 tOk 6 9 kr (And.intro kr ?_) (And.intro kr ?_)
       ·refine LAt.appMU tOk (t := 36) (ty := 36) (e := 169) (x := (.tmp 49)) (y := (.tmp 51)) (d := 52) (g := none) (tI 169) Fent.row r6 [x1] kr kr kr kr kr kr kr kr kr kr hg7 ?_
        refine lF kr kr kr ?_
        refine AT.big1 tOk 9 kr kr ?_
        refine LAt.cutG tOk (t := 36) (ty := 36) (e := 169) (x := (.tmp 53)) (lo := (some (.tmp 54))) (hi := none) (d := 55) (g := none) (tI 169) Fent.row x0 ⟨(.slot 53),[],0,false,5,(CV.frzEs (x0.map Fent.row))⟩ y4 (x0.length : Int) kr kr kr kr kr kr rfl kr rfl kr kr hg8 ?_
        refine lF kr kr kr ?_
        refine AT.big1 tOk 10 kr kr ?_
        refine LAt.appCU tOk (t := 36) (ty := 36) (e := 169) (x := (.tmp 52)) (y := (.tmp 55)) (d := 56) (g := none) (tI 169) Fent.row (r6 ++ [x1]) ((x0.drop ((y4 : Int)).toNat).take ((((x0.length : Int) : Int)).toNat - ((y4 : Int)).toNat)) ⟨(.slot 55),[],0,false,5,(CV.frzEs (((x0.drop ((y4 : Int)).toNat).take ((((x0.length : Int) : Int)).toNat - ((y4 : Int)).toNat)).map Fent.row))⟩ kr kr kr kr kr kr kr kr kr kr kr (.inr rfl) (fun _ => rfl) (fun _ => rfl) hg9 ?_
        refine lF kr kr kr ?_
        refine AT.big1 tOk 11 kr kr ?_
        refine LAt.moveU (T := lk tab) (ty := 36) (x := (.tmp 56)) (d := 4) (g := none) false [cL 5 ((r6 ++ [x1]) ++ ((x0.drop ((y4 : Int)).toNat).take ((((x0.length : Int) : Int)).toNat - ((y4 : Int)).toNat))) Fent.row] kr kr kr kr kr ?_
        refine lF kr kr kr ?_
        refine aU tOk [(12,[])] 0 [⟨[5,6,10],169,3,50⟩] [12,11,10,9,6,5,3,2,8,7,4,1,0] rfl kr (fun cx => ?_)
        exact AT.done [5,4] [] _ kr kr rfl
       ·refine LAt.cutG tOk (t := 36) (ty := 36) (e := 169) (x := (.tmp 53)) (lo := (some (.tmp 54))) (hi := none) (d := 55) (g := none) (tI 169) Fent.row x0 ⟨(.slot 53),[],0,false,5,(CV.frzEs (x0.map Fent.row))⟩ y4 (x0.length : Int) kr kr kr kr kr kr rfl kr rfl kr kr hg8 ?_
        refine lF kr kr kr ?_
        refine AT.big1 tOk 6 kr kr ?_
        refine LAt.appMU tOk (t := 36) (ty := 36) (e := 169) (x := (.tmp 49)) (y := (.tmp 51)) (d := 52) (g := none) (tI 169) Fent.row r6 [x1] kr kr kr kr kr kr kr kr kr kr hg7 ?_
        refine lF kr kr kr ?_
        refine AT.big1 tOk 10 kr kr ?_
        refine LAt.appCU tOk (t := 36) (ty := 36) (e := 169) (x := (.tmp 52)) (y := (.tmp 55)) (d := 56) (g := none) (tI 169) Fent.row (r6 ++ [x1]) ((x0.drop ((y4 : Int)).toNat).take ((((x0.length : Int) : Int)).toNat - ((y4 : Int)).toNat)) ⟨(.slot 55),[],0,false,5,(CV.frzEs (((x0.drop ((y4 : Int)).toNat).take ((((x0.length : Int) : Int)).toNat - ((y4 : Int)).toNat)).map Fent.row))⟩ kr kr kr kr kr kr kr kr kr kr kr (.inr rfl) (fun _ => rfl) (fun _ => rfl) hg9 ?_
        refine lF kr kr kr ?_
        refine AT.big1 tOk 11 kr kr ?_
        refine LAt.moveU (T := lk tab) (ty := 36) (x := (.tmp 56)) (d := 4) (g := none) false [cL 5 ((r6 ++ [x1]) ++ ((x0.drop ((y4 : Int)).toNat).take ((((x0.length : Int) : Int)).toNat - ((y4 : Int)).toNat))) Fent.row] kr kr kr kr kr ?_
        refine lF kr kr kr ?_
        refine aU tOk [(12,[])] 0 [⟨[5,6,10],169,3,50⟩] [12,11,10,6,9,5,3,2,8,7,4,1,0] rfl kr (fun cx => ?_)
        exact AT.done [5,4] [] _ kr kr rfl
      ·refine LAt.cutG tOk (t := 36) (ty := 36) (e := 169) (x := (.tmp 53)) (lo := (some (.tmp 54))) (hi := none) (d := 55) (g := none) (tI 169) Fent.row x0 ⟨(.slot 53),[],0,false,5,(CV.frzEs (x0.map Fent.row))⟩ y4 (x0.length : Int) kr kr kr kr kr kr rfl kr rfl kr kr hg8 ?_
       refine lF kr kr kr ?_
       refine AT.big1 tOk 5 kr kr ?_
       refine lU tOk 1 kr ?_
       refine lF kr kr kr ?_
       refine AT.big1 tOk 6 kr kr ?_
       refine LAt.appMU tOk (t := 36) (ty := 36) (e := 169) (x := (.tmp 49)) (y := (.tmp 51)) (d := 52) (g := none) (tI 169) Fent.row r6 [x1] kr kr kr kr kr kr kr kr kr kr hg7 ?_
       refine lF kr kr kr ?_
       refine AT.big1 tOk 10 kr kr ?_
       refine LAt.appCU tOk (t := 36) (ty := 36) (e := 169) (x := (.tmp 52)) (y := (.tmp 55)) (d := 56) (g := none) (tI 169) Fent.row (r6 ++ [x1]) ((x0.drop ((y4 : Int)).toNat).take ((((x0.length : Int) : Int)).toNat - ((y4 : Int)).toNat)) ⟨(.slot 55),[],0,false,5,(CV.frzEs (((x0.drop ((y4 : Int)).toNat).take ((((x0.length : Int) : Int)).toNat - ((y4 : Int)).toNat)).map Fent.row))⟩ kr kr kr kr kr kr kr kr kr kr kr (.inr rfl) (fun _ => rfl) (fun _ => rfl) hg9 ?_
       refine lF kr kr kr ?_
       refine AT.big1 tOk 11 kr kr ?_
       refine LAt.moveU (T := lk tab) (ty := 36) (x := (.tmp 56)) (d := 4) (g := none) false [cL 5 ((r6 ++ [x1]) ++ ((x0.drop ((y4 : Int)).toNat).take ((((x0.length : Int) : Int)).toNat - ((y4 : Int)).toNat))) Fent.row] kr kr kr kr kr ?_
       refine lF kr kr kr ?_
       refine aU tOk [(12,[])] 0 [⟨[5,6,10],169,3,50⟩] [12,11,10,6,5,9,3,2,8,7,4,1,0] rfl kr (fun cx => ?_)
       exact AT.done [5,4] [] _ kr kr rfl
     ·refine lU tOk 1 kr ?_
      refine lF kr kr kr ?_
      refine AT.big2 tOk 3 9 kr (And.intro kr ?_) (And.intro kr ?_)
      ·refine lV tOk [.rd] [] (impl_copyFdb n ((x0.drop ((0 : Int)).toNat).take (((y4 : Int)).toNat - ((0 : Int)).toNat)) r6 er6) kr kr kr kr (.inl rfl) ?_
       refine lF kr kr kr ?_
       refine AT.big2 tOk 6 9 kr (And.intro kr ?_) (And.intro kr ?_)
       ·refine LAt.appMU tOk (t := 36) (ty := 36) (e := 169) (x := (.tmp 49)) (y := (.tmp 51)) (d := 52) (g := none) (tI 169) Fent.row r6 [x1] kr kr kr kr kr kr kr kr kr kr hg7 ?_
        refine lF kr kr kr ?_
        refine AT.big1 tOk 9 kr kr ?_
        refine LAt.cutG tOk (t := 36) (ty := 36) (e := 169) (x := (.tmp 53)) (lo := (some (.tmp 54))) (hi := none) (d := 55) (g := none) (tI 169) Fent.row x0 ⟨(.slot 53),[],0,false,5,(CV.frzEs (x0.map Fent.row))⟩ y4 (x0.length : Int) kr kr kr kr kr kr rfl kr rfl kr kr hg8 ?_
        refine lF kr kr kr ?_
        refine AT.big1 tOk 10 kr kr ?_
        refine LAt.appCU tOk (t := 36) (ty := 36) (e := 169) (x := (.tmp 52)) (y := (.tmp 55)) (d := 56) (g := none) (tI 169) Fent.row (r6 ++ [x1]) ((x0.drop ((y4 : Int)).toNat).take ((((x0.length : Int) : Int)).toNat - ((y4 : Int)).toNat)) ⟨(.slot 55),[],0,false,5,(CV.frzEs (((x0.drop ((y4 : Int)).toNat).take ((((x0.length : Int) : Int)).toNat - ((y4 : Int)).toNat)).map Fent.row))⟩ kr kr kr kr kr kr kr kr kr kr kr (.inr rfl) (fun _ => rfl) (fun _ => rfl) hg9 ?_
        refine lF kr kr kr ?_
        refine AT.big1 tOk 11 kr kr ?_
        refine LAt.moveU (T := lk tab) (ty := 36) (x := (.tmp 56)) (d := 4) (g := none) false [cL 5 ((r6 ++ [x1]) ++ ((x0.drop ((y4 : Int)).toNat).take ((((x0.length : Int) : Int)).toNat - ((y4 : Int)).toNat))) Fent.row] kr kr kr kr kr ?_
        refine lF kr kr kr ?_
        refine aU tOk [(12,[])] 0 [⟨[5,6,10],169,3,50⟩] [12,11,10,9,6,3,5,2,8,7,4,1,0] rfl kr (fun cx => ?_)
        exact AT.done [5,4] [] _ kr kr rfl
       ·refine LAt.cutG tOk (t := 36) (ty := 36) (e := 169) (x := (.tmp 53)) (lo := (some (.tmp 54))) (hi := none) (d := 55) (g := none) (tI 169) Fent.row x0 ⟨(.slot 53),[],0,false,5,(CV.frzEs (x0.map Fent.row))⟩ y4 (x0.length : Int) kr kr kr kr kr kr rfl kr rfl kr kr hg8 ?_
        refine lF kr kr kr ?_
        refine AT.big1 tOk 6 kr kr ?_
        refine LAt.appMU tOk (t := 36) (ty := 36) (e := 169) (x := (.tmp 49)) (y := (.tmp 51)) (d := 52) (g := none) (tI 169) Fent.row r6 [x1] kr kr kr kr kr kr kr kr kr kr hg7 ?_
        refine lF kr kr kr ?_
        refine AT.big1 tOk 10 kr kr ?_
        refine LAt.appCU tOk (t := 36) (ty := 36) (e := 169) (x := (.tmp 52)) (y := (.tmp 55)) (d := 56) (g := none) (tI 169) Fent.row (r6 ++ [x1]) ((x0.drop ((y4 : Int)).toNat).take ((((x0.length : Int) : Int)).toNat - ((y4 : Int)).toNat)) ⟨(.slot 55),[],0,false,5,(CV.frzEs (((x0.drop ((y4 : Int)).toNat).take ((((x0.length : Int) : Int)).toNat - ((y4 : Int)).toNat)).map Fent.row))⟩ kr kr kr kr kr kr kr kr kr kr kr (.inr rfl) (fun _ => rfl) (fun _ => rfl) hg9 ?_
        refine lF kr kr kr ?_
        refine AT.big1 tOk 11 kr kr ?_
        refine LAt.moveU (T := lk tab) (ty := 36) (x := (.tmp 56)) (d := 4) (g := none) false [cL 5 ((r6 ++ [x1]) ++ ((x0.drop ((y4 : Int)).toNat).take ((((x0.length : Int) : Int)).toNat - ((y4 : Int)).toNat))) Fent.row] kr kr kr kr kr ?_
        refine lF kr kr kr ?_
        refine aU tOk [(12,[])] 0 [⟨[5,6,10],169,3,50⟩] [12,11,10,6,9,3,5,2,8,7,4,1,0] rfl kr (fun cx => ?_)
        exact AT.done [5,4] [] _ kr kr rfl
      ·refine LAt.cutG tOk (t := 36) (ty := 36) (e := 169) (x := (.tmp 53)) (lo := (some (.tmp 54))) (hi := none) (d := 55) (g := none) (tI 169) Fent.row x0 ⟨(.slot 53),[],0,false,5,(CV.frzEs (x0.map Fent.row))⟩ y4 (x0.length : Int) kr kr kr kr kr kr rfl kr rfl kr kr hg8 ?_
       refine lF kr kr kr ?_
       refine AT.big1 tOk 3 kr kr ?_
       refine lV tOk [.rd] [] (impl_copyFdb n ((x0.drop ((0 : Int)).toNat).take (((y4 : Int)).toNat - ((0 : Int)).toNat)) r6 er6) kr kr kr kr (.inl rfl) ?_
       refine lF kr kr kr ?_
       refine AT.big1 tOk 6 kr kr ?_
       refine LAt.appMU tOk (t := 36) (ty := 36) (e := 169) (x := (.tmp 49)) (y := (.tmp 51)) (d := 52) (g := none) (tI 169) Fent.row r6 [x1] kr kr kr kr kr kr kr kr kr kr hg7 ?_
       refine lF kr kr kr ?_
       refine AT.big1 tOk 10 kr kr ?_
       refine LAt.appCU tOk (t := 36) (ty := 36) (e := 169) (x := (.tmp 52)) (y := (.tmp 55)) (d := 56) (g := none) (tI 169) Fent.row (r6 ++ [x1]) ((x0.drop ((y4 : Int)).toNat).take ((((x0.length : Int) : Int)).toNat - ((y4 : Int)).toNat)) ⟨(.slot 55),[],0,false,5,(CV.frzEs (((x0.drop ((y4 : Int)).toNat).take ((((x0.length : Int) : Int)).toNat - ((y4 : Int)).toNat)).map Fent.row))⟩ kr kr kr kr kr kr kr kr kr kr kr (.inr rfl) (fun _ => rfl) (fun _ => rfl) hg9 ?_
       refine lF kr kr kr ?_
       refine AT.big1 tOk 11 kr kr ?_
       refine LAt.moveU (T := lk tab) (ty := 36) (x := (.tmp 56)) (d := 4) (g := none) false [cL 5 ((r6 ++ [x1]) ++ ((x0.drop ((y4 : Int)).toNat).take ((((x0.length : Int) : Int)).toNat - ((y4 : Int)).toNat))) Fent.row] kr kr kr kr kr ?_
       refine lF kr kr kr ?_
       refine aU tOk [(12,[])] 0 [⟨[5,6,10],169,3,50⟩] [12,11,10,6,3,9,5,2,8,7,4,1,0] rfl kr (fun cx => ?_)
       exact AT.done [5,4] [] _ kr kr rfl
     ·refine LAt.cutG tOk (t := 36) (ty := 36) (e := 169) (x := (.tmp 53)) (lo := (some (.tmp 54))) (hi := none) (d := 55) (g := none) (tI 169) Fent.row x0 ⟨(.slot 53),[],0,false,5,(CV.frzEs (x0.map Fent.row))⟩ y4 (x0.length : Int) kr kr kr kr kr kr rfl kr rfl kr kr hg8 ?_
      refine lF kr kr kr ?_
      refine AT.big2 tOk 3 5 kr (And.intro kr ?_) (And.intro kr ?_)
      ·refine lV tOk [.rd] [] (impl_copyFdb n ((x0.drop ((0 : Int)).toNat).take (((y4 : Int)).toNat - ((0 : Int)).toNat)) r6 er6) kr kr kr kr (.inl rfl) ?_
       refine lF kr kr kr ?_
       refine AT.big1 tOk 5 kr kr ?_
       refine lU tOk 1 kr ?_
       refine lF kr kr kr ?_
       refine AT.big1 tOk 6 kr kr ?_
       refine LAt.appMU tOk (t := 36) (ty := 36) (e := 169) (x := (.tmp 49)) (y := (.tmp 51)) (d := 52) (g := none) (tI 169) Fent.row r6 [x1] kr kr kr kr kr kr kr kr kr kr hg7 ?_
       refine lF kr kr kr ?_
       refine AT.big1 tOk 10 kr kr ?_
       refine LAt.appCU tOk (t := 36) (ty := 36) (e := 169) (x := (.tmp 52)) (y := (.tmp 55)) (d := 56) (g := none) (tI 169) Fent.row (r6 ++ [x1]) ((x0.drop ((y4 : Int)).toNat).take ((((x0.length : Int) : Int)).toNat - ((y4 : Int)).toNat)) ⟨(.slot 55),[],0,false,5,(CV.frzEs (((x0.drop ((y4 : Int)).toNat).take ((((x0.length : Int) : Int)).toNat - ((y4 : Int)).toNat)).map Fent.row))⟩ kr kr kr kr kr kr kr kr kr kr kr (.inr rfl) (fun _ => rfl) (fun _ => rfl) hg9 ?_
       refine lF kr kr kr ?_
       refine AT.big1 tOk 11 kr kr ?_
       refine LAt.moveU (T := lk tab) (ty := 36) (x := (.tmp 56)) (d := 4) (g := none) false [cL 5 ((r6 ++ [x1]) ++ ((x0.drop ((y4 : Int)).toNat).take ((((x0.length : Int) : Int)).toNat - ((y4 : Int)).toNat))) Fent.row] kr kr kr kr kr ?_
       refine lF kr kr kr ?_
       refine aU tOk [(12,[])] 0 [⟨[5,6,10],169,3,50⟩] [12,11,10,6,5,3,9,2,8,7,4,1,0] rfl kr (fun cx => ?_)
       exact AT.done [5,4] [] _ kr kr rfl
      ·refine lU tOk 1 kr ?_
       refine lF kr kr kr ?_
       refine AT.big1 tOk 3 kr kr ?_
       refine lV tOk [.rd] [] (impl_copyFdb n ((x0.drop ((0 : Int)).toNat).take (((y4 : Int)).toNat - ((0 : Int)).toNat)) r6 er6) kr kr kr kr (.inl rfl) ?_
       refine lF kr kr kr ?_
       refine AT.big1 tOk 6 kr kr ?_
       refine LAt.appMU tOk (t := 36) (ty := 36) (e := 169) (x := (.tmp 49)) (y := (.tmp 51)) (d := 52) (g := none) (tI 169) Fent.row r6 [x1] kr kr kr kr kr kr kr kr kr kr hg7 ?_
       refine lF kr kr kr ?_
       refine AT.big1 tOk 10 kr kr ?_
       refine LAt.appCU tOk (t := 36) (ty := 36) (e := 169) (x := (.tmp 52)) (y := (.tmp 55)) (d := 56) (g := none) (tI 169) Fent.row (r6 ++ [x1]) ((x0.drop ((y4 : Int)).toNat).take ((((x0.length : Int) : Int)).toNat - ((y4 : Int)).toNat)) ⟨(.slot 55),[],0,false,5,(CV.frzEs (((x0.drop ((y4 : Int)).toNat).take ((((x0.length : Int) : Int)).toNat - ((y4 : Int)).toNat)).map Fent.row))⟩ kr kr kr kr kr kr kr kr kr kr kr (.inr rfl) (fun _ => rfl) (fun _ => rfl) hg9 ?_
       refine lF kr kr kr ?_
       refine AT.big1 tOk 11 kr kr ?_
       refine LAt.moveU (T := lk tab) (ty := 36) (x := (.tmp 56)) (d := 4) (g := none) false [cL 5 ((r6 ++ [x1]) ++ ((x0.drop ((y4 : Int)).toNat).take ((((x0.length : Int) : Int)).toNat - ((y4 : Int)).toNat))) Fent.row] kr kr kr kr kr ?_
       refine lF kr kr kr ?_
       refine aU tOk [(12,[])] 0 [⟨[5,6,10],169,3,50⟩] [12,11,10,6,3,5,9,2,8,7,4,1,0] rfl kr (fun cx => ?_)
       exact AT.done [5,4] [] _ kr kr rfl
    ·refine lU tOk 1 kr ?_
     refine lF kr kr kr ?_
     refine AT.big2 tOk 2 9 kr (And.intro kr ?_) (And.intro kr ?_)
     ·refine LAt.cutG tOk (t := 36) (ty := 36) (e := 169) (x := (.tmp 46)) (lo := none) (hi := (some (.tmp 47))) (d := 48) (g := none) (tI 169) Fent.row x0 ⟨(.slot 46),[],0,false,5,(CV.frzEs (x0.map Fent.row))⟩ 0 y4 kr kr kr kr kr kr rfl kr rfl kr kr hg5 ?_
      refine lF kr kr kr ?_
      refine AT.big2 tOk 3 9 kr (And.intro kr ?_) (And.intro kr ?_)
      ·refine lV tOk [.rd] [] (impl_copyFdb n ((x0.drop ((0 : Int)).toNat).take (((y4 : Int)).toNat - ((0 : Int)).toNat)) r6 er6) kr kr kr kr (.inl rfl) ?_
       refine lF kr kr kr ?_
       refine AT.big2 tOk 6 9 kr (And.intro kr ?_) (And.intro kr ?_)
       ·refine LAt.appMU tOk (t := 36) (ty := 36) (e := 169) (x := (.tmp 49)) (y := (.tmp 51)) (d := 52) (g := none) (tI 169) Fent.row r6 [x1] kr kr kr kr kr kr kr kr kr kr hg7 ?_
        refine lF kr kr kr ?_
        refine AT.big1 tOk 9 kr kr ?_
        refine LAt.cutG tOk (t := 36) (ty := 36) (e := 169) (x := (.tmp 53)) (lo := (some (.tmp 54))) (hi := none) (d := 55) (g := none) (tI 169) Fent.row x0 ⟨(.slot 53),[],0,false,5,(CV.frzEs (x0.map Fent.row))⟩ y4 (x0.length : Int) kr kr kr kr kr kr rfl kr rfl kr kr hg8 ?_
        refine lF kr kr kr ?_
        refine AT.big1 tOk 10 kr kr ?_
        refine LAt.appCU tOk (t := 36) (ty := 36) (e := 169) (x := (.tmp 52)) (y := (.tmp 55)) (d := 56) (g := none) (tI 169) Fent.row (r6 ++ [x1]) ((x0.drop ((y4 : Int)).toNat).take ((((x0.length : Int) : Int)).toNat - ((y4 : Int)).toNat)) ⟨(.slot 55),[],0,false,5,(CV.frzEs (((x0.drop ((y4 : Int)).toNat).take ((((x0.length : Int) : Int)).toNat - ((y4 : Int)).toNat)).map Fent.row))⟩ kr kr kr kr kr kr kr kr kr kr kr (.inr rfl) (fun _ => rfl) (fun _ => rfl) hg9 ?_
        refine lF kr kr kr ?_
        refine AT.big1 tOk 11 kr kr ?_
        refine LAt.moveU (T := lk tab) (ty := 36) (x := (.tmp 56)) (d := 4) (g := none) false [cL 5 ((r6 ++ [x1]) ++ ((x0.drop ((y4 : Int)).toNat).take ((((x0.length : Int) : Int)).toNat - ((y4 : Int)).toNat))) Fent.row] kr kr kr kr kr ?_
        refine lF kr kr kr ?_
        refine aU tOk [(12,[])] 0 [⟨[5,6,10],169,3,50⟩] [12,11,10,9,6,3,2,5,8,7,4,1,0] rfl kr (fun cx => ?_)
        exact AT.done [5,4] [] _ kr kr rfl
       ·refine LAt.cutG tOk (t := 36) (ty := 36) (e := 169) (x := (.tmp 53)) (lo := (some (.tmp 54))) (hi := none) (d := 55) (g := none) (tI 169) Fent.row x0 ⟨(.slot 53),[],0,false,5,(CV.frzEs (x0.map Fent.row))⟩ y4 (x0.length : Int) kr kr kr kr kr kr rfl kr rfl kr kr hg8 ?_
        refine lF kr kr kr ?_
        refine AT.big1 tOk 6 kr kr ?_
        refine LAt.appMU tOk (t := 36) (ty := 36) (e := 169) (x := (.tmp 49)) (y := (.tmp 51)) (d := 52) (g := none) (tI 169) Fent.row r6 [x1] kr kr kr kr kr kr kr kr kr kr hg7 ?_
        refine lF kr kr kr ?_
        refine AT.big1 tOk 10 kr kr ?_
        refine LAt.appCU tOk (t := 36) (ty := 36) (e := 169) (x := (.tmp 52)) (y := (.tmp 55)) (d := 56) (g := none) (tI 169) Fent.row (r6 ++ [x1]) ((x0.drop ((y4 : Int)).toNat).take ((((x0.length : Int) : Int)).toNat - ((y4 : Int)).toNat)) ⟨(.slot 55),[],0,false,5,(CV.frzEs (((x0.drop ((y4 : Int)).toNat).take ((((x0.length : Int) : Int)).toNat - ((y4 : Int)).toNat)).map Fent.row))⟩ kr kr kr kr kr kr kr kr kr kr kr (.inr rfl) (fun _ => rfl) (fun _ => rfl) hg9 ?_
        refine lF kr kr kr ?_
        refine AT.big1 tOk 11 kr kr ?_
        refine LAt.moveU (T := lk tab) (ty := 36) (x := (.tmp 56)) (d := 4) (g := none) false [cL 5 ((r6 ++ [x1]) ++ ((x0.drop ((y4 : Int)).toNat).take ((((x0.length : Int) : Int)).toNat - ((y4 : Int)).toNat))) Fent.row] kr kr kr kr kr ?_
        refine lF kr kr kr ?_
        refine aU tOk [(12,[])] 0 [⟨[5,6,10],169,3,50⟩] [12,11,10,6,9,3,2,5,8,7,4,1,0] rfl kr (fun cx => ?_)
        exact AT.done [5,4] [] _ kr kr rfl
      ·refine LAt.cutG tOk (t := 36) (ty := 36) (e := 169) (x := (.tmp 53)) (lo := (some (.tmp 54))) (hi := none) (d := 55) (g := none) (tI 169) Fent.row x0 ⟨(.slot 53),[],0,false,5,(CV.frzEs (x0.map Fent.row))⟩ y4 (x0.length : Int) kr kr kr kr kr kr rfl kr rfl kr kr hg8 ?_
       refine lF kr kr kr ?_
       refine AT.big1 tOk 3 kr kr ?_
       refine lV tOk [.rd] [] (impl_copyFdb n ((x0.drop ((0 : Int)).toNat).take (((y4 : Int)).toNat - ((0 : Int)).toNat)) r6 er6) kr kr kr kr (.inl rfl) ?_
       refine lF kr kr kr ?_
       refine AT.big1 tOk 6 kr kr ?_
       refine LAt.appMU tOk (t := 36) (ty := 36) (e := 169) (x := (.tmp 49)) (y := (.tmp 51)) (d := 52) (g := none) (tI 169) Fent.row r6 [x1] kr kr kr kr kr kr kr kr kr kr hg7 ?_
       refine lF kr kr kr ?_
       refine AT.big1 tOk 10 kr kr ?_
       refine LAt.appCU tOk (t := 36) (ty := 36) (e := 169) (x := (.tmp 52)) (y := (.tmp 55)) (d := 56) (g := none) (tI 169) Fent.row (r6 ++ [x1]) ((x0.drop ((y4 : Int)).toNat).take ((((x0.length : Int) : Int)).toNat - ((y4 : Int)).toNat)) ⟨(.slot 55),[],0,false,5,(CV.frzEs (((x0.drop ((y4 : Int)).toNat).take ((((x0.length : Int) : Int)).toNat - ((y4 : Int)).toNat)).map Fent.row))⟩ kr kr kr kr kr kr kr kr kr kr kr (.inr rfl) (fun _ => rfl) (fun _ => rfl) hg9 ?_
       refine lF kr kr kr ?_
       refine AT.big1 tOk 11 kr kr ?_
       refine LAt.moveU (T := lk tab) (ty := 36) (x := (.tmp 56)) (d := 4) (g := none) false [cL 5 ((r6 ++ [x1]) ++ ((x0.drop ((y4 : Int)).toNat).take ((((x0.length : Int) : Int)).toNat - ((y4 : Int)).toNat))) Fent.row] kr kr kr kr kr ?_
       refine lF kr kr kr ?_
       refine aU tOk [(12,[])] 0 [⟨[5,6,10],169,3,50⟩] [12,11,10,6,3,9,2,5,8,7,4,1,0] rfl kr (fun cx => ?_)
       exact AT.done [5,4] [] _ kr kr rfl
     ·refine LAt.cutG tOk (t := 36) (ty := 36) (e := 169) (x := (.tmp 53)) (lo := (some (.tmp 54))) (hi := none) (d := 55) (g := none) (tI 169) Fent.row x0 ⟨(.slot 53),[],0,false,5,(CV.frzEs (x0.map Fent.row))⟩ y4 (x0.length : Int) kr kr kr kr kr kr rfl kr rfl kr kr hg8 ?_
      refine lF kr kr kr ?_
      refine AT.big1 tOk 2 kr kr ?_
      refine LAt.cutG tOk (t := 36) (ty := 36) (e := 169) (x := (.tmp 46)) (lo := none) (hi := (some (.tmp 47))) (d := 48) (g := none) (tI 169) Fent.row x0 ⟨(.slot 46),[],0,false,5,(CV.frzEs (x0.map Fent.row))⟩ 0 y4 kr kr kr kr kr kr rfl kr rfl kr kr hg5 ?_
      refine lF kr kr kr ?_
      refine AT.big1 tOk 3 kr kr ?_
      refine lV tOk [.rd] [] (impl_copyFdb n ((x0.drop ((0 : Int)).toNat).take (((y4 : Int)).toNat - ((0 : Int)).toNat)) r6 er6) kr kr kr kr (.inl rfl) ?_
      refine lF kr kr kr ?_
      refine AT.big1 tOk 6 kr kr ?_
      refine LAt.appMU tOk (t := 36) (ty := 36) (e := 169) (x := (.tmp 49)) (y := (.tmp 51)) (d := 52) (g := none) (tI 169) Fent.row r6 [x1] kr kr kr kr kr kr kr kr kr kr hg7 ?_
      refine lF kr kr kr ?_
      refine AT.big1 tOk 10 kr kr ?_
      refine LAt.appCU tOk (t := 36) (ty := 36) (e := 169) (x := (.tmp 52)) (y := (.tmp 55)) (d := 56) (g := none) (tI 169) Fent.row (r6 ++ [x1]) ((x0.drop ((y4 : Int)).toNat).take ((((x0.length : Int) : Int)).toNat - ((y4 : Int)).toNat)) ⟨(.slot 55),[],0,false,5,(CV.frzEs (((x0.drop ((y4 : Int)).toNat).take ((((x0.length : Int) : Int)).toNat - ((y4 : Int)).toNat)).map Fent.row))⟩ kr kr kr kr kr kr kr kr kr kr kr (.inr rfl) (fun _ => rfl) (fun _ => rfl) hg9 ?_
      refine lF kr kr kr ?_
      refine AT.big1 tOk 11 kr kr ?_
      refine LAt.moveU (T := lk tab) (ty := 36) (x := (.tmp 56)) (d := 4) (g := none) false [cL 5 ((r6 ++ [x1]) ++ ((x0.drop ((y4 : Int)).toNat).take ((((x0.length : Int) : Int)).toNat - ((y4 : Int)).toNat))) Fent.row] kr kr kr kr kr ?_
      refine lF kr kr kr ?_
      refine aU tOk [(12,[])] 0 [⟨[5,6,10],169,3,50⟩] [12,11,10,6,3,2,9,5,8,7,4,1,0] rfl kr (fun cx => ?_)
      exact AT.done [5,4] [] _ kr kr rfl
    ·refine LAt.cutG tOk (t := 36) (ty := 36) (e := 169) (x := (.tmp 53)) (lo := (some (.tmp 54))) (hi := none) (d := 55) (g := none) (tI 169) Fent.row x0 ⟨(.slot 53),[],0,false,5,(CV.frzEs (x0.map Fent.row))⟩ y4 (x0.length : Int) kr kr kr kr kr kr rfl kr rfl kr kr hg8 ?_
     refine lF kr kr kr ?_
     refine AT.big2 tOk 2 5 kr (And.intro kr ?_) (And.intro kr ?_)
     ·refine LAt.cutG tOk (t := 36) (ty := 36) (e := 169) (x := (.tmp 46)) (lo := none) (hi := (some (.tmp 47))) (d := 48) (g := none) (tI 169) Fent.row x0 ⟨(.slot 46),[],0,false,5,(CV.frzEs (x0.map Fent.row))⟩ 0 y4 kr kr kr kr kr kr rfl kr rfl kr kr hg5 ?_
      refine lF kr kr kr ?_
      refine AT.big2 tOk 3 5 kr (And.intro kr ?_) (And.intro kr ?_)
      ·refine lV tOk [.rd] [] (impl_copyFdb n ((x0.drop ((0 : Int)).toNat).take (((y4 : Int)).toNat - ((0 : Int)).toNat)) r6 er6) kr kr kr kr (.inl rfl) ?_
       refine lF kr kr kr ?_
       refine AT.big1 tOk 5 kr kr ?_
       refine lU tOk 1 kr ?_
       refine lF kr kr kr ?_
       refine AT.big1 tOk 6 kr kr ?_
       refine LAt.appMU tOk (t := 36) (ty := 36) (e := 169) (x := (.tmp 49)) (y := (.tmp 51)) (d := 52) (g := none) (tI 169) Fent.row r6 [x1] kr kr kr kr kr kr kr kr kr kr hg7 ?_
       refine lF kr kr kr ?_
       refine AT.big1 tOk 10 kr kr ?_
       refine LAt.appCU tOk (t := 36) (ty := 36) (e := 169) (x := (.tmp 52)) (y := (.tmp 55)) (d := 56) (g := none) (tI 169) Fent.row (r6 ++ [x1]) ((x0.drop ((y4 : Int)).toNat).take ((((x0.length : Int) : Int)).toNat - ((y4 : Int)).toNat)) ⟨(.slot 55),[],0,false,5,(CV.frzEs (((x0.drop ((y4 : Int)).toNat).take ((((x0.length : Int) : Int)).toNat - ((y4 : Int)).toNat)).map Fent.row))⟩ kr kr kr kr kr kr kr kr kr kr kr (.inr rfl) (fun _ => rfl) (fun _ => rfl) hg9 ?_
       refine lF kr kr kr ?_
       refine AT.big1 tOk 11 kr kr ?_
       refine LAt.moveU (T := lk tab) (ty := 36) (x := (.tmp 56)) (d := 4) (g := none) false [cL 5 ((r6 ++ [x1]) ++ ((x0.drop ((y4 : Int)).toNat).take ((((x0.length : Int) : Int)).toNat - ((y4 : Int)).toNat))) Fent.row] kr kr kr kr kr ?_
       refine lF kr kr kr ?_
       refine aU tOk [(12,[])] 0 [⟨[5,6,10],169,3,50⟩] [12,11,10,6,5,3,2,9,8,7,4,1,0] rfl kr (fun cx => ?_)
       exact AT.done [5,4] [] _ kr kr rfl
      ·refine lU tOk 1 kr ?_
       refine lF kr kr kr ?_
       refine AT.big1 tOk 3 kr kr ?_
       refine lV tOk [.rd] [] (impl_copyFdb n ((x0.drop ((0 : Int)).toNat).take (((y4 : Int)).toNat - ((0 : Int)).toNat)) r6 er6) kr kr kr kr (.inl rfl) ?_
       refine lF kr kr kr ?_
       refine AT.big1 tOk 6 kr kr ?_
       refine LAt.appMU tOk (t := 36) (ty := 36) (e := 169) (x := (.tmp 49)) (y := (.tmp 51)) (d := 52) (g := none) (tI 169) Fent.row r6 [x1] kr kr kr kr kr kr kr kr kr kr hg7 ?_
       refine lF kr kr kr ?_
       refine AT.big1 tOk 10 kr kr ?_
       refine LAt.appCU tOk (t := 36) (ty := 36) (e := 169) (x := (.tmp 52)) (y := (.tmp 55)) (d := 56) (g := none) (tI 169) Fent.row (r6 ++ [x1]) ((x0.drop ((y4 : Int)).toNat).take ((((x0.length : Int) : Int)).toNat - ((y4 : Int)).toNat)) ⟨(.slot 55),[],0,false,5,(CV.frzEs (((x0.drop ((y4 : Int)).toNat).take ((((x0.length : Int) : Int)).toNat - ((y4 : Int)).toNat)).map Fent.row))⟩ kr kr kr kr kr kr kr kr kr kr kr (.inr rfl) (fun _ => rfl) (fun _ => rfl) hg9 ?_
       refine lF kr kr kr ?_
       refine AT.big1 tOk 11 kr kr ?_
       refine LAt.moveU (T := lk tab) (ty := 36) (x := (.tmp 56)) (d := 4) (g := none) false [cL 5 ((r6 ++ [x1]) ++ ((x0.drop ((y4 : Int)).toNat).take ((((x0.length : Int) : Int)).toNat - ((y4 : Int)).toNat))) Fent.row] kr kr kr kr kr ?_
       refine lF kr kr kr ?_
       refine aU tOk [(12,[])] 0 [⟨[5,6,10],169,3,50⟩] [12,11,10,6,3,5,2,9,8,7,4,1,0] rfl kr (fun cx => ?_)
       exact AT.done [5,4] [] _ kr kr rfl
     ·refine lU tOk 1 kr ?_
      refine lF kr kr kr ?_
      refine AT.big1 tOk 2 kr kr ?_
      refine LAt.cutG tOk (t := 36) (ty := 36) (e := 169) (x := (.tmp 46)) (lo := none) (hi := (some (.tmp 47))) (d := 48) (g := none) (tI 169) Fent.row x0 ⟨(.slot 46),[],0,false,5,(CV.frzEs (x0.map Fent.row))⟩ 0 y4 kr kr kr kr kr kr rfl kr rfl kr kr hg5 ?_
      refine lF kr kr kr ?_
      refine AT.big1 tOk 3 kr kr ?_
      refine lV tOk [.rd] [] (impl_copyFdb n ((x0.drop ((0 : Int)).toNat).take (((y4 : Int)).toNat - ((0 : Int)).toNat)) r6 er6) kr kr kr kr (.inl rfl) ?_
      refine lF kr kr kr ?_
      refine AT.big1 tOk 6 kr kr ?_
      refine LAt.appMU tOk (t := 36) (ty := 36) (e := 169) (x := (.tmp 49)) (y := (.tmp 51)) (d := 52) (g := none) (tI 169) Fent.row r6 [x1] kr kr kr kr kr kr kr kr kr kr hg7 ?_
      refine lF kr kr kr ?_
      refine AT.big1 tOk 10 kr kr ?_
      refine LAt.appCU tOk (t := 36) (ty := 36) (e := 169) (x := (.tmp 52)) (y := (.tmp 55)) (d := 56) (g := none) (tI 169) Fent.row (r6 ++ [x1]) ((x0.drop ((y4 : Int)).toNat).take ((((x0.length : Int) : Int)).toNat - ((y4 : Int)).toNat)) ⟨(.slot 55),[],0,false,5,(CV.frzEs (((x0.drop ((y4 : Int)).toNat).take ((((x0.length : Int) : Int)).toNat - ((y4 : Int)).toNat)).map Fent.row))⟩ kr kr kr kr kr kr kr kr kr kr kr (.inr rfl) (fun _ => rfl) (fun _ => rfl) hg9 ?_
      refine lF kr kr kr ?_
      refine AT.big1 tOk 11 kr kr ?_
      refine LAt.moveU (T := lk tab) (ty := 36) (x := (.tmp 56)) (d := 4) (g := none) false [cL 5 ((r6 ++ [x1]) ++ ((x0.drop ((y4 : Int)).toNat).take ((((x0.length : Int) : Int)).toNat - ((y4 : Int)).toNat))) Fent.row] kr kr kr kr kr ?_
      refine lF kr kr kr ?_
      refine aU tOk [(12,[])] 0 [⟨[5,6,10],169,3,50⟩] [12,11,10,6,3,2,5,9,8,7,4,1,0] rfl kr (fun cx => ?_)
      exact AT.done [5,4] [] _ kr kr rfl
   exact te (by obtain rfl := si H; exact fO [(false,[cL 5 ((r6 ++ [x1]) ++ ((x0.drop ((y4 : Int)).toNat).take ((((x0.length : Int) : Int)).toNat - ((y4 : Int)).toNat))) Fent.row]),(false,[cB true])] kr rfl rfl)
  refine tT h2 kr ?_
  refine tG tOk 3 112 0 kr kr ?_
  exact te (by obtain rfl := si H; exact fO [(false,[cL 5 r1 Fent.row]),(false,[cB false])] kr rfl rfl)
 refine tT h1 kr ?_
 refine rU tOk 3 kr ?_
 obtain ⟨v13,ev13,H⟩ := bind_some H
 refine lO tOk 36 0 19 20 22 none ⟨(.slot 6),[],0,true,5,(r1.map Fent.row)⟩ r2 (r2.toNat) (Fent.row v13) _ kr kr kr kr rfl kr (idx_isE ev13) rfl rfl ?_
 refine lW tOk (t := 169) (ty := 0) (ad := (.tmp 22)) (x := (.tmp 21)) (g := none) (tI 169) true (Fent.row x1) 6 0 (r2.toNat) 5 0 5 r1 Fent.row v13 x1 kr kr kr kr kr kr kr kr (idx_get ev13).2 kr kr kr kr ?_
 refine lD 64 0 kr ?_
 refine tG tOk 3 112 0 kr kr ?_
 exact te (by obtain rfl := si H; exact fO [(false,[cL 5 (r1.set (r2.toNat) x1) Fent.row]),(false,[cB true])] kr rfl rfl)
def impl_LearnF (n : Nat) (x0 : (List Fent)) (x1 : Int) (x2 : Int) (x3 : Int) : Option ((List Fent)) :=
  ((impl_entAtF n x0 x1 x2).bind fun r1 => ((impl_FdbOkF n x0).bind fun r2 => (bif (!r2) then ((impl_copyFdbF n x0).bind fun r9 => (some r9)) else ((impl_fentOkF n (⟨x1,x2,x3,0,false⟩ : Fent)).bind fun r3 => (bif (!r3) then ((impl_copyFdbF n x0).bind fun r8 => (some r8)) else (bif (decide (r1 ≥ 0)) then ((idx x0 r1).bind fun v5 => (bif v5.Static then ((impl_copyFdbF n x0).bind fun r7 => (some r7)) else ((impl_putF n x0 (⟨x1,x2,x3,0,false⟩ : Fent)).bind fun r6 => (some r6.1)))) else ((impl_putF n x0 (⟨x1,x2,x3,0,false⟩ : Fent)).bind fun r4 => (some r4.1))))))))
noncomputable abbrev G88 (k : Nat) := Rg Tryz.f88 k
theorem impl_Learn (n : Nat) (x0 : (List Fent)) (x1 : Int) (x2 : Int) (x3 : Int) (r : (List Fent)) (H : impl_LearnF n x0 x1 x2 x3 = some r) : LCall Tryz.prog 88 [.val false [.sl false 5 (CV.frzEs (x0.map Fent.row))],.val false [.lit (.int .i64 x1)],.val false [.lit (.int .i64 x2)],.val false [.lit (.int .i64 x3)]] [.val false [.sl true 5 (r.map Fent.row)]] [] := by
 refine LCall.of_body tOk Tryz.func88 rfl (c := (.seq (G88 0) (.seq (G88 1) (.seq (G88 2) (.seq (.seq (G88 3) (.cond (.tmp 39) (.seq (G88 4) .ret) .skip)) (.seq (G88 5) (.seq (G88 6) .ret))))))) kr (Nat.le_of_ble_eq_true kr) 0 (rs := [.tmp 8]) rfl [] .nil [(false,[.sl true 5 (r.map Fent.row)])] [] [] fun cx => ?_
 show Tr _ _ _ ⟨49,0,[sC 0 (cF 5 x0 Fent.row),sI 1 x1,sI 2 x2,sI 3 x3],[]⟩ _
 unfold impl_LearnF at H
 refine tG tOk 1 15 0 kr kr ?_
 refine tG tOk 6 519 512 kr kr ?_
 refine rU tOk 3 kr ?_
 obtain ⟨r1,er1,H⟩ := bind_some H
 refine lV tOk [.rd,.rd,.rd] [] (impl_entAt n x0 x1 x2 r1 er1) kr kr kr kr (.inl rfl) ?_
 refine uD tOk 1 1537 512 kr kr ?_
 refine tS ?_
 refine rU tOk 1 kr ?_
 obtain ⟨r2,er2,H⟩ := bind_some H
 refine lV tOk [.rd] [] (impl_FdbOk n x0 r2 er2) kr kr kr kr (.inl rfl) ?_
 refine lU tOk 2 kr ?_
 refine lT ⟨49,0,[sB 24 (!r2),sB 23 (!r2),sB 22 r2,sC 21 (cF 5 x0 Fent.row),sI 10 r1,sA 9 9 5 0,sC 0 (cF 5 x0 Fent.row)],[(9,[cI x1,cI x2,cI x3,cI 0,cB false])]⟩ kr ?_
 cases h1 : (!r2)
 ·have H := bifF h1 H
  refine lU tOk 1 kr ?_
  obtain ⟨r3,er3,H⟩ := bind_some H
  refine lV tOk [.rd] [] (impl_fentOk n (⟨x1,x2,x3,0,false⟩ : Fent) r3 er3) kr kr kr kr (.inl rfl) ?_
  refine lU tOk 3 kr ?_
  refine lT ⟨49,0,[sB 29 (!r3),sB 28 (!r3),sB 27 (!r3),sB 26 r3,sV 25 [cI x1,cI x2,cI x3,cI 0,cB false],sB 24 false,sB 23 false,sB 22 r2,sC 21 (cF 5 x0 Fent.row),sI 10 r1,sA 9 9 5 0,sC 0 (cF 5 x0 Fent.row)],[(9,[cI x1,cI x2,cI x3,cI 0,cB false])]⟩ kr ?_
  cases h2 : (!r3)
  ·have H := bifF h2 H
   refine lU tOk 3 kr ?_
   refine lT ⟨49,0,[sB 32 (decide (r1 ≥ 0)),sB 31 (decide (r1 ≥ 0)),sI 30 r1,sB 29 false,sB 28 false,sB 27 false,sB 26 r3,sV 25 [cI x1,cI x2,cI x3,cI 0,cB false],sB 24 false,sB 23 false,sB 22 r2,sC 21 (cF 5 x0 Fent.row),sI 10 r1,sA 9 9 5 0,sC 0 (cF 5 x0 Fent.row)],[(9,[cI x1,cI x2,cI x3,cI 0,cB false])]⟩ kr ?_
   cases h3 : (decide (r1 ≥ 0))
   ·have H := bifF h3 H
    refine uD tOk 7 549755814401 512 kr kr ?_
    refine tf kr ?_
    refine tK ?_
    refine rU tOk 2 kr ?_
    obtain ⟨r4,er4,H⟩ := bind_some H
    refine lV tOk [.rd,.rd] [] (impl_put n x0 (⟨x1,x2,x3,0,false⟩ : Fent) r4 er4) kr kr kr kr (.inl rfl) ?_
    refine LAt.movT tOk (ty := 205) (t := 45) (d := 42) (g := none) [(false,[cL 5 r4.1 Fent.row]),(false,[cB r4.2])] _ kr (.inl rfl) kr kr kr kr rfl ?_
    refine lU tOk 2 kr ?_
    refine LAt.moveU (T := lk tab) (ty := 36) (x := (.tmp 46)) (d := 11) (g := none) false [cL 5 r4.1 Fent.row] kr kr kr kr kr ?_
    refine uD tOk 1 2048 0 kr kr ?_
    refine tG tOk 2 2304 0 kr kr ?_
    exact te (by obtain rfl := si H; exact fO [(false,[cL 5 r4.1 Fent.row])] kr rfl rfl)
   have H := bifT h3 H
   refine lU tOk 2 kr ?_
   obtain ⟨v5,ev5,H⟩ := bind_some H
   refine lI tOk 36 0 33 34 35 (some (11,true)) ⟨(.slot 33),[],0,false,5,(CV.frzEs (x0.map Fent.row))⟩ r1 (Fent.row v5) _ kr kr kr kr rfl (idx_isF ev5) rfl ?_
   refine uD tOk 4 549755814401 512 kr kr ?_
   obtain ⟨h4,H⟩ | ⟨h4,H⟩ := bC H
   ·refine tF h4 kr ?_
    refine tK ?_
    refine rU tOk 2 kr ?_
    obtain ⟨r6,er6,H⟩ := bind_some H
    refine lV tOk [.rd,.rd] [] (impl_put n x0 (⟨x1,x2,x3,0,false⟩ : Fent) r6 er6) kr kr kr kr (.inl rfl) ?_
    refine LAt.movT tOk (ty := 205) (t := 45) (d := 42) (g := none) [(false,[cL 5 r6.1 Fent.row]),(false,[cB r6.2])] _ kr (.inl rfl) kr kr kr kr rfl ?_
    refine lU tOk 2 kr ?_
    refine LAt.moveU (T := lk tab) (ty := 36) (x := (.tmp 46)) (d := 11) (g := none) false [cL 5 r6.1 Fent.row] kr kr kr kr kr ?_
    refine uD tOk 1 2048 0 kr kr ?_
    refine tG tOk 2 2304 0 kr kr ?_
    exact te (by obtain rfl := si H; exact fO [(false,[cL 5 r6.1 Fent.row])] kr rfl rfl)
   refine tT h4 kr ?_
   refine rU tOk 1 kr ?_
   obtain ⟨r7,er7,H⟩ := bind_some H
   refine lV tOk [.rd] [] (impl_copyFdb n x0 r7 er7) kr kr kr kr (.inl rfl) ?_
   refine LAt.moveU (T := lk tab) (ty := 36) (x := (.tmp 41)) (d := 8) (g := none) false [cL 5 r7 Fent.row] kr kr kr kr kr ?_
   refine lD 256 0 kr ?_
   exact te (by obtain rfl := si H; exact fO [(false,[cL 5 r7 Fent.row])] kr rfl rfl)
  have H := bifT h2 H
  refine uD tOk 10 549755814401 512 kr kr ?_
  refine tt kr ?_
  refine rU tOk 1 kr ?_
  obtain ⟨r8,er8,H⟩ := bind_some H
  refine lV tOk [.rd] [] (impl_copyFdb n x0 r8 er8) kr kr kr kr (.inl rfl) ?_
  refine LAt.moveU (T := lk tab) (ty := 36) (x := (.tmp 41)) (d := 8) (g := none) false [cL 5 r8 Fent.row] kr kr kr kr kr ?_
  refine lD 256 0 kr ?_
  exact te (by obtain rfl := si H; exact fO [(false,[cL 5 r8 Fent.row])] kr rfl rfl)
 have H := bifT h1 H
 refine uD tOk 15 549755814401 512 kr kr ?_
 refine tt kr ?_
 refine rU tOk 1 kr ?_
 obtain ⟨r9,er9,H⟩ := bind_some H
 refine lV tOk [.rd] [] (impl_copyFdb n x0 r9 er9) kr kr kr kr (.inl rfl) ?_
 refine LAt.moveU (T := lk tab) (ty := 36) (x := (.tmp 41)) (d := 8) (g := none) false [cL 5 r9 Fent.row] kr kr kr kr kr ?_
 refine lD 256 0 kr ?_
 exact te (by obtain rfl := si H; exact fO [(false,[cL 5 r9 Fent.row])] kr rfl rfl)
def impl_LookUpF (n : Nat) (x0 : (List Fent)) (x1 : Int) (x2 : Int) : Option (Int) :=
  ((impl_entAtF n x0 x1 x2).bind fun r1 => (bif (decide (r1 < 0)) then (some (-1)) else ((idx x0 r1).bind fun v2 => (some v2.Port))))
noncomputable abbrev G49 (k : Nat) := Rg Tryz.f49 k
theorem impl_LookUp (n : Nat) (x0 : (List Fent)) (x1 : Int) (x2 : Int) (r : Int) (H : impl_LookUpF n x0 x1 x2 = some r) : LCall Tryz.prog 49 [.val false [.sl false 5 (CV.frzEs (x0.map Fent.row))],.val false [.lit (.int .i64 x1)],.val false [.lit (.int .i64 x2)]] [.val false [.lit (.int .i64 r)]] [] := by
 refine LCall.of_body tOk Tryz.func49 rfl (c := (.seq (G49 0) (.seq (G49 1) (.seq (.seq (G49 2) (.cond (.tmp 13) (.seq (G49 3) .ret) .skip)) (.seq (G49 4) .ret))))) kr (Nat.le_of_ble_eq_true kr) 0 (rs := [.tmp 6]) rfl [] .nil [(false,[.lit (.int .i64 r)])] [] [] fun cx => ?_
 show Tr _ _ _ ⟨19,0,[sC 0 (cF 5 x0 Fent.row),sI 1 x1,sI 2 x2],[]⟩ _
 unfold impl_LookUpF at H
 refine tG tOk 1 7 0 kr kr ?_
 refine rU tOk 3 kr ?_
 obtain ⟨r1,er1,H⟩ := bind_some H
 refine lV tOk [.rd,.rd,.rd] [] (impl_entAt n x0 x1 x2 r1 er1) kr kr kr kr (.inl rfl) ?_
 refine uD tOk 1 129 0 kr kr ?_
 refine tS ?_
 refine tG tOk 2 8321 0 kr kr ?_
 obtain ⟨h1,H⟩ | ⟨h1,H⟩ := bC H
 ·refine tF h1 kr ?_
  refine tK ?_
  refine rU tOk 2 kr ?_
  obtain ⟨v2,ev2,H⟩ := bind_some H
  refine lI tOk 36 0 14 15 16 none ⟨(.slot 14),[],0,false,5,(CV.frzEs (x0.map Fent.row))⟩ r1 (Fent.row v2) _ kr kr kr kr rfl (idx_isF ev2) rfl ?_
  refine uD tOk 3 64 0 kr kr ?_
  exact te (by obtain rfl := si H; exact fO [(false,[cI v2.Port])] kr rfl rfl)
 refine tT h1 kr ?_
 refine tG tOk 1 64 0 kr kr ?_
 exact te (by obtain rfl := si H; exact fO [(false,[cI (-1)])] kr rfl rfl)
def impl_EgressOfF (n : Nat) (x0 : Vtab) (x1 : Int) : Option (Int) :=
  ((impl_RowAtF n x0 x1).bind fun r1 => (bif (decide (r1 < 0)) then (some 0) else ((idx x0.Rows r1).bind fun v2 => (some v2.Members))))
noncomputable abbrev G46 (k : Nat) := Rg Tryz.f46 k
theorem impl_EgressOf (n : Nat) (x0 : Vtab) (x1 : Int) (r : Int) (H : impl_EgressOfF n x0 x1 = some r) : LCall Tryz.prog 46 [.val true (CV.frzRow (Vtab.row x0)),.val false [.lit (.int .i64 x1)]] [.val false [.lit (.int .i64 r)]] [] := by
 refine LCall.of_body tOk Tryz.func46 rfl (c := (.seq (G46 0) (.seq (G46 1) (.seq (.seq (G46 2) (.cond (.tmp 10) (.seq (G46 3) .ret) .skip)) (.seq (G46 4) .ret))))) kr (Nat.le_of_ble_eq_true kr) 0 (rs := [.tmp 4]) rfl [] .nil [(false,[.lit (.int .i64 r)])] [] [] fun cx => ?_
 show Tr _ _ _ ⟨17,0,[sV 0 (CV.frzRow (Vtab.row x0)),sI 1 x1],[]⟩ _
 unfold impl_EgressOfF at H
 refine tG tOk 2 6 4 kr kr ?_
 refine rU tOk 2 kr ?_
 obtain ⟨r1,er1,H⟩ := bind_some H
 refine lV tOk [.rd,.rd] [] (impl_RowAt n x0 x1 r1 er1) kr kr kr kr (.inl rfl) ?_
 refine uD tOk 1 36 4 kr kr ?_
 refine tS ?_
 refine tG tOk 2 1060 4 kr kr ?_
 obtain ⟨h1,H⟩ | ⟨h1,H⟩ := bC H
 ·refine tF h1 kr ?_
  refine tK ?_
  refine rU tOk 3 kr ?_
  obtain ⟨v2,ev2,H⟩ := bind_some H
  refine lI tOk 37 0 12 13 14 none ⟨(.slot 12),[],0,false,3,(CV.frzEs (x0.Rows.map Vrow.row))⟩ r1 (Vrow.row v2) _ kr kr kr kr rfl (idx_isF ev2) rfl ?_
  refine uD tOk 3 16 0 kr kr ?_
  exact te (by obtain rfl := si H; exact fO [(false,[cI v2.Members])] kr rfl rfl)
 refine tT h1 kr ?_
 refine tG tOk 1 16 0 kr kr ?_
 exact te (by obtain rfl := si H; exact fO [(false,[cI 0])] kr rfl rfl)
def impl_ShownTagF (n : Nat) (x0 : Vtab) (x1 : Int) (x2 : Int) : Option (Int) :=
  ((impl_RowAtF n x0 x1).bind fun r1 => (bif (decide (r1 < 0)) then (some 0) else ((idx x0.Rows r1).bind fun v2 => ((impl_hasPortF n v2.Bare x2).bind fun r3 => (bif r3 then (some 0) else (some x1))))))
noncomputable abbrev G47 (k : Nat) := Rg Tryz.f47 k
theorem impl_ShownTag (n : Nat) (x0 : Vtab) (x1 : Int) (x2 : Int) (r : Int) (H : impl_ShownTagF n x0 x1 x2 = some r) : LCall Tryz.prog 47 [.val true (CV.frzRow (Vtab.row x0)),.val false [.lit (.int .i64 x1)],.val false [.lit (.int .i64 x2)]] [.val false [.lit (.int .i64 r)]] [] := by
 refine LCall.of_body tOk Tryz.func47 rfl (c := (.seq (G47 0) (.seq (G47 1) (.seq (.seq (G47 2) (.cond (.tmp 22) (.seq (G47 3) .ret) .skip)) (.seq (G47 4) .ret))))) kr (Nat.le_of_ble_eq_true kr) 0 (rs := [.tmp 6]) rfl [] .nil [(false,[.lit (.int .i64 r)])] [] [] fun cx => ?_
 show Tr _ _ _ ⟨24,0,[sV 0 (CV.frzRow (Vtab.row x0)),sI 1 x1,sI 2 x2],[]⟩ _
 unfold impl_ShownTagF at H
 refine tG tOk 2 14 8 kr kr ?_
 refine rU tOk 2 kr ?_
 obtain ⟨r1,er1,H⟩ := bind_some H
 refine lV tOk [.rd,.rd] [] (impl_RowAt n x0 x1 r1 er1) kr kr kr kr (.inl rfl) ?_
 refine uD tOk 1 142 8 kr kr ?_
 refine tS ?_
 refine rU tOk 3 kr ?_
 refine lT ⟨24,0,[sB 13 (decide (r1 < 0)),sB 12 (decide (r1 < 0)),sI 11 r1,sI 7 r1,sA 3 3 2 0,sI 1 x1,sI 2 x2],[(3,(CV.frzRow (Vtab.row x0)))]⟩ kr ?_
 cases h1 : (decide (r1 < 0))
 ·have H := bifF h1 H
  refine lU tOk 3 kr ?_
  obtain ⟨v2,ev2,H⟩ := bind_some H
  refine lI tOk 37 0 15 16 17 (some (2,false)) ⟨(.slot 15),[],0,false,3,(CV.frzEs (x0.Rows.map Vrow.row))⟩ r1 (Vrow.row v2) _ kr kr kr kr rfl (idx_isF ev2) rfl ?_
  refine lU tOk 3 kr ?_
  obtain ⟨r3,er3,H⟩ := bind_some H
  refine lV tOk [.rd,.rd] [] (impl_hasPort n v2.Bare x2 r3 er3) kr kr kr kr (.inl rfl) ?_
  refine uD tOk 1 4194306 0 kr kr ?_
  cases h2 : r3
  ·have H := bifF h2 H
   refine tf kr ?_
   refine tK ?_
   refine tG tOk 2 64 0 kr kr ?_
   exact te (by obtain rfl := si H; exact fO [(false,[cI x1])] kr rfl rfl)
  have H := bifT h2 H
  refine tt kr ?_
  refine tG tOk 1 64 0 kr kr ?_
  exact te (by obtain rfl := si H; exact fO [(false,[cI 0])] kr rfl rfl)
 have H := bifT h1 H
 refine uD tOk 9 4194306 0 kr kr ?_
 refine tt kr ?_
 refine tG tOk 1 64 0 kr kr ?_
 exact te (by obtain rfl := si H; exact fO [(false,[cI 0])] kr rfl rfl)
def impl_copyBytesF (n : Nat) (x0 : (List Int)) : Option ((List Int)) :=
  (bif (decide (([] : List Int).length + x0.length ≤ 268435456)) then (some (([] : List Int) ++ x0)) else none)
noncomputable abbrev G185 (k : Nat) := Rg Tryz.f185 k
theorem impl_copyBytes (n : Nat) (x0 : (List Int)) (r : (List Int)) (H : impl_copyBytesF n x0 = some r) : LCall Tryz.prog 185 [.val false [.sl false 1 (CV.frzEs (x0.map byteRow))]] [.val false [.sl true 1 (r.map byteRow)]] [] := by
 refine LCall.of_body tOk Tryz.func185 rfl (c := (.seq (G185 0) (.seq (G185 1) .ret))) kr (Nat.le_of_ble_eq_true kr) 0 (rs := [.tmp 2]) rfl [] .nil [(false,[.sl true 1 (r.map byteRow)])] [] [] fun cx => ?_
 show Tr _ _ _ ⟨5,0,[sC 0 (cF 1 x0 byteRow)],[]⟩ _
 unfold impl_copyBytesF at H
 refine tG tOk 1 1 0 kr kr ?_
 refine rU tOk 1 kr ?_
 obtain ⟨hg1,H⟩ := guard_some H
 refine LAt.appCU tOk (t := 30) (ty := 30) (e := 5) (x := (.const (.slice none 0 0))) (y := (.tmp 3)) (d := 4) (g := none) (tI 5) byteRow ([] : List Int) x0 ⟨(.slot 3),[],0,false,1,(CV.frzEs (x0.map byteRow))⟩ kr kr kr kr kr kr kr kr kr kr kr (.inr rfl) (fun _ => rfl) (fun _ => rfl) hg1 ?_
 refine LAt.moveU (T := lk tab) (ty := 30) (x := (.tmp 4)) (d := 2) (g := none) false [cL 1 (([] : List Int) ++ x0) byteRow] kr kr kr kr kr ?_
 refine lD 4 0 kr ?_
 exact te (by obtain rfl := si H; exact fO [(false,[cL 1 (([] : List Int) ++ x0) byteRow])] kr rfl rfl)
def impl_TaggedF (n : Nat) (x0 : Frame) (x1 : Int) : Option (Frame) :=
  ((impl_copyBytesF n x0.Data).bind fun r1 => (some (⟨x0.Dst,x0.Src,x1,r1⟩ : Frame)))
noncomputable abbrev G89 (k : Nat) := Rg Tryz.f89 k
theorem impl_Tagged (n : Nat) (x0 : Frame) (x1 : Int) (r : Frame) (H : impl_TaggedF n x0 x1 = some r) : LCall Tryz.prog 89 [.val true (CV.frzRow (Frame.row x0)),.val false [.lit (.int .i64 x1)]] [.val true (Frame.row r)] [] := by
 refine LCall.of_body tOk Tryz.func89 rfl (c := (.seq (G89 0) (.seq (G89 1) (.seq (G89 2) (.seq (G89 3) .ret))))) kr (Nat.le_of_ble_eq_true kr) 0 (rs := [.cell 4 46]) rfl [] .nil [(true,(Frame.row r))] [] [] fun cx => ?_
 show Tr _ _ _ ⟨12,0,[sV 0 (CV.frzRow (Frame.row x0)),sI 1 x1],[]⟩ _
 unfold impl_TaggedF at H
 refine tG tOk 2 22 20 kr kr ?_
 refine rU tOk 2 kr ?_
 obtain ⟨r1,er1,H⟩ := bind_some H
 refine lV tOk [.rd] [] (impl_copyBytes n x0.Data r1 er1) kr kr kr kr (.inl rfl) ?_
 refine uD tOk 2 22 20 kr kr ?_
 refine tG tOk 3 20 20 kr kr ?_
 refine tG tOk 2 16 16 kr kr ?_
 exact te (by obtain rfl := si H; exact fO [(true,[cI x0.Dst,cI x0.Src,cI x1,cL 1 r1 byteRow])] kr rfl rfl)
end Go.Proofs.YtcegokjpmppdbaaGreat.Tw
