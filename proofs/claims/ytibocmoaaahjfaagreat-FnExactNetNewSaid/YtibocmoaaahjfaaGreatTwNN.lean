import Derived.Test.YtibocmoaaahjfaaGreatProg
import Derived.Test.YtibocmoaaahjfaaGreatTlRule
import Derived.Test.YtibocmoaaahjfaaGreatTlU8
import Derived.Test.YtibocmoaaahjfaaGreatTwNN2
import Derived.WalkKit
set_option linter.unusedVariables false
set_option linter.unusedSimpArgs false
set_option maxRecDepth 100000
set_option maxHeartbeats 1000000
namespace Go.Proofs.YtibocmoaaahjfaaGreat.Tw
open Go Go.TL Go.Proofs
def laws_heldIntS_J1 (n : Nat) (y3 : Int) : Option (Int) :=
  (some y3)
def laws_heldIntS_L2 (n : Nat) : Nat → (List Int) → Int → Int → Option ((Int) ⊕ (Int))
  | 0,_,_,_ => none
  | mo4 + 1,x0,y1,y2 => (bif (decide (y1 < (x0.length : Int))) then ((idx x0 y1).bind fun v5 => (bif (v5 != y2) then (some (Sum.inr (-1))) else (laws_heldIntS_L2 n mo4 x0 (IntKind.wrap .i64 (y1 + 1)) (IntKind.wrap .i64 (y2 + 1))))) else (some (Sum.inl y2)))
def laws_heldIntSF (n : Nat) (x0 : (List Int)) (x1 : Int) : Option (Int) :=
  ((laws_heldIntS_L2 n n x0 0 x1).bind fun o => match o with | .inl y3 => (laws_heldIntS_J1 n y3) | .inr r => some r)
noncomputable abbrev G188 (k : Nat) := Rg Tryz.f188 k
theorem laws_heldIntS (n : Nat) (x0 : (List Int)) (x1 : Int) (r : Int) (H : laws_heldIntSF n x0 x1 = some r) : LCall Tryz.prog 188 [.val false [.sl false 1 (CV.frzEs (x0.map intRow))],.val false [.lit (.int .i64 x1)]] [.val false [.lit (.int .i64 r)]] [] := by
 refine LCall.of_body tOk Tryz.func188 rfl (c := (.seq (G188 0) (.seq (.seq (G188 1) (.block 0 (.loop (.seq (.seq (G188 2) (.cond (.tmp 9) .skip (.exit 0))) (.seq (.block 1 (.seq (.seq (G188 4) (.cond (.tmp 17) (.seq (G188 5) .ret) .skip)) (G188 6))) (G188 3)))))) (.seq (G188 7) .ret)))) kr (Nat.le_of_ble_eq_true kr) 0 (rs := [.tmp 4]) rfl [] .nil [(false,[.lit (.int .i64 r)])] [] [] fun cx => ?_
 show Tr _ _ _ ⟨21,0,[sC 0 (cF 1 x0 intRow),sI 1 x1],[]⟩ _
 unfold laws_heldIntSF at H
 refine tG tOk 1 3 0 kr kr ?_
 refine tS ?_
 refine tG tOk 1 35 0 kr kr ?_
 obtain ⟨o4,eo4,Ho4⟩ := bind_some H
 clear H
 refine Tr.mid (ι := Int) (fun v => ⟨21,0,[sI 1 v],[]⟩) (fun v => laws_heldIntS_J1 n v = some r) ?_ ?_
 ·refine tB ?_
  refine Tr.loop (ι := Nat × (Int × Int)) (fun v => ⟨21,0,[sI 5 v.2.1,sC 0 (cF 1 x0 intRow),sI 1 v.2.2],[]⟩) (fun v => laws_heldIntS_L2 n v.1 x0 v.2.1 v.2.2 = some o4) (fun v => v.1) (n,(0,x1)) eo4 (St.sub_of [5,0,1] [] kr) ?_
  rintro ⟨mo4,y1,y2⟩ H
  have H : laws_heldIntS_L2 n mo4 x0 y1 y2 = some o4 := H
  obtain _ | mo4 := mo4
  ·cases (show (none : Option _) = some o4 from H)
  rw [laws_heldIntS_L2] at H
  refine tS ?_
  refine rU tOk 2 kr ?_
  refine lL tOk 22 3 3 7 8 none ⟨(.slot 7),[],0,false,1,(CV.frzEs (x0.map intRow))⟩ (x0).length _ kr kr kr kr kr (frz_len _ _) rfl ?_
  refine uD tOk 1 547 0 kr kr ?_
  obtain ⟨h1,H⟩ | ⟨h1,H⟩ := bC H
  ·refine tF h1 kr ?_
   refine Tr.exit ?_
   refine And.intro (fun _ => ?_) (fun h => absurd rfl h)
   obtain rfl := si H
   have H := Ho4
   dsimp only at H
   exact jn y2 H (sB_ [1] [] kr)
  refine tT h1 kr ?_
  refine tK ?_
  refine tS ?_
  refine tB ?_
  refine tS ?_
  refine rU tOk 2 kr ?_
  obtain ⟨v5,ev5,H⟩ := bind_some H
  refine lI tOk 22 0 12 13 14 none ⟨(.slot 12),[],0,false,1,(CV.frzEs (x0.map intRow))⟩ y1 [cI v5] _ kr kr kr kr rfl (idx_isF ev5) rfl ?_
  refine uD tOk 3 131107 0 kr kr ?_
  obtain ⟨h2,H⟩ | ⟨h2,H⟩ := bC H
  ·refine tF h2 kr ?_
   refine tK ?_
   refine tE tOk 3 35 0 kr kr ?_
   refine tE tOk 3 35 0 kr kr ?_
   exact jn (mo4,((IntKind.wrap .i64 (y1 + 1)),(IntKind.wrap .i64 (y2 + 1)))) H (sM mo4 [5,0,1] [] kr)
  refine tT h2 kr ?_
  refine tG tOk 1 16 0 kr kr ?_
  refine te ?_
  obtain rfl := si H
  have H := Ho4
  dsimp only at H
  obtain rfl := si H
  exact fO [(false,[cI (-1)])] kr rfl rfl
 rintro y3 H
 have H : (laws_heldIntS_J1 n y3) = some r := H
 unfold laws_heldIntS_J1 at H
 refine tG tOk 2 16 0 kr kr ?_
 exact te (by obtain rfl := si H; exact fO [(false,[cI y3])] kr rfl rfl)
def laws_heldBridgeS_J1 (n : Nat) (y3 : Int) : Option (Int) :=
  (some y3)
def laws_heldBridgeS_L2 (n : Nat) : Nat → (List Bridge) → Int → Int → Option ((Int) ⊕ (Int))
  | 0,_,_,_ => none
  | mo4 + 1,x0,y1,y2 => (bif (decide (y1 < (x0.length : Int))) then ((idx x0 y1).bind fun v5 => (bif (v5.Id != y2) then (some (Sum.inr (-1))) else ((idx x0 y1).bind fun v6 => ((laws_markTextF n (IntKind.wrap .i64 (y2 + 1))).bind fun r7 => (bif (!(v6.Name.toList == r7.toList)) then (some (Sum.inr (-1))) else ((idx x0 y1).bind fun v8 => ((laws_heldPtSF n v8.Ports (IntKind.wrap .i64 ((IntKind.wrap .i64 (y2 + 1)) + 1))).bind fun r9 => (bif (decide (r9 < 0)) then (some (Sum.inr (-1))) else ((idx x0 y1).bind fun v10 => ((laws_heldFentSF n v10.F r9).bind fun r11 => (bif (decide (r11 < 0)) then (some (Sum.inr (-1))) else ((idx x0 y1).bind fun v12 => ((laws_heldVrowSF n v12.V.Rows r11).bind fun r13 => (bif (decide (r13 < 0)) then (some (Sum.inr (-1))) else ((idx x0 y1).bind fun v14 => ((laws_heldIntSF n v14.V.Pvid r13).bind fun r15 => (bif (decide (r15 < 0)) then (some (Sum.inr (-1))) else ((idx x0 y1).bind fun v16 => (bif (v16.Ticks != r15) then (some (Sum.inr (-1))) else ((idx x0 y1).bind fun v17 => (bif (v17.Parse != (IntKind.wrap .i64 (r15 + 1))) then (some (Sum.inr (-1))) else ((idx x0 y1).bind fun v18 => (bif (v18.Word != (IntKind.wrap .i64 ((IntKind.wrap .i64 (r15 + 1)) + 1))) then (some (Sum.inr (-1))) else ((idx x0 y1).bind fun v19 => (bif (v19.Drops != (IntKind.wrap .i64 ((IntKind.wrap .i64 ((IntKind.wrap .i64 (r15 + 1)) + 1)) + 1))) then (some (Sum.inr (-1))) else ((idx x0 y1).bind fun v20 => (bif (v20.Vers != (IntKind.wrap .i64 ((IntKind.wrap .i64 ((IntKind.wrap .i64 ((IntKind.wrap .i64 (r15 + 1)) + 1)) + 1)) + 1))) then (some (Sum.inr (-1))) else (laws_heldBridgeS_L2 n mo4 x0 (IntKind.wrap .i64 (y1 + 1)) (IntKind.wrap .i64 ((IntKind.wrap .i64 ((IntKind.wrap .i64 ((IntKind.wrap .i64 ((IntKind.wrap .i64 (r15 + 1)) + 1)) + 1)) + 1)) + 1)))))))))))))))))))))))))))))) else (some (Sum.inl y2)))
def laws_heldBridgeSF (n : Nat) (x0 : (List Bridge)) (x1 : Int) : Option (Int) :=
  ((laws_heldBridgeS_L2 n n x0 0 x1).bind fun o => match o with | .inl y3 => (laws_heldBridgeS_J1 n y3) | .inr r => some r)
noncomputable abbrev G88 (k : Nat) := Rg Tryz.f88 k
noncomputable abbrev D88 (k : Nat) := Rd Tryz.f88 k
theorem laws_heldBridgeS (n : Nat) (x0 : (List Bridge)) (x1 : Int) (r : Int) (H : laws_heldBridgeSF n x0 x1 = some r) : LCall Tryz.prog 88 [.val false [.sl false 11 (CV.frzEs (x0.map Bridge.row))],.val false [.lit (.int .i64 x1)]] [.val false [.lit (.int .i64 r)]] [] := by
 refine LCall.of_body tOk Tryz.func88 rfl (c := (.seq (G88 0) (.seq (.seq (G88 1) (.block 0 (.loop (.seq (.seq (G88 2) (.cond (.tmp 9) .skip (.exit 0))) (.seq (.block 1 (.seq (.seq (G88 4) (.cond (.tmp 18) (.seq (G88 5) .ret) .skip)) (.seq (G88 6) (.seq (.seq (D88 7) (.cond (.tmp 28) (.seq (G88 8) .ret) .skip)) (.seq (G88 9) (.seq (G88 10) (.seq (.seq (G88 11) (.cond (.tmp 39) (.seq (G88 12) .ret) .skip)) (.seq (G88 13) (.seq (.seq (G88 14) (.cond (.tmp 48) (.seq (G88 15) .ret) .skip)) (.seq (G88 16) (.seq (.seq (G88 17) (.cond (.tmp 58) (.seq (G88 18) .ret) .skip)) (.seq (G88 19) (.seq (.seq (G88 20) (.cond (.tmp 68) (.seq (G88 21) .ret) .skip)) (.seq (.seq (G88 22) (.cond (.tmp 75) (.seq (G88 23) .ret) .skip)) (.seq (G88 24) (.seq (.seq (G88 25) (.cond (.tmp 84) (.seq (G88 26) .ret) .skip)) (.seq (G88 27) (.seq (.seq (G88 28) (.cond (.tmp 93) (.seq (G88 29) .ret) .skip)) (.seq (G88 30) (.seq (.seq (G88 31) (.cond (.tmp 102) (.seq (G88 32) .ret) .skip)) (.seq (G88 33) (.seq (.seq (G88 34) (.cond (.tmp 111) (.seq (G88 35) .ret) .skip)) (G88 36))))))))))))))))))))))) (G88 3)))))) (.seq (G88 37) .ret)))) kr (Nat.le_of_ble_eq_true kr) 0 (rs := [.tmp 4]) rfl [] .nil [(false,[.lit (.int .i64 r)])] [] [] fun cx => ?_
 show Tr _ _ _ ⟨115,0,[sC 0 (cF 11 x0 Bridge.row),sI 1 x1],[]⟩ _
 unfold laws_heldBridgeSF at H
 refine tG tOk 1 3 0 kr kr ?_
 refine tS ?_
 refine tG tOk 1 35 0 kr kr ?_
 obtain ⟨o4,eo4,Ho4⟩ := bind_some H
 clear H
 refine Tr.mid (ι := Int) (fun v => ⟨115,0,[sI 1 v],[]⟩) (fun v => laws_heldBridgeS_J1 n v = some r) ?_ ?_
 ·refine tB ?_
  refine Tr.loop (ι := Nat × (Int × Int)) (fun v => ⟨115,0,[sI 5 v.2.1,sC 0 (cF 11 x0 Bridge.row),sI 1 v.2.2],[]⟩) (fun v => laws_heldBridgeS_L2 n v.1 x0 v.2.1 v.2.2 = some o4) (fun v => v.1) (n,(0,x1)) eo4 (St.sub_of [5,0,1] [] kr) ?_
  rintro ⟨mo4,y1,y2⟩ H
  have H : laws_heldBridgeS_L2 n mo4 x0 y1 y2 = some o4 := H
  obtain _ | mo4 := mo4
  ·cases (show (none : Option _) = some o4 from H)
  rw [laws_heldBridgeS_L2] at H
  refine tS ?_
  refine rU tOk 2 kr ?_
  refine lL tOk 25 3 58 7 8 none ⟨(.slot 7),[],0,false,11,(CV.frzEs (x0.map Bridge.row))⟩ (x0).length _ kr kr kr kr kr (frz_len _ _) rfl ?_
  refine uD tOk 1 547 0 kr kr ?_
  obtain ⟨h1,H⟩ | ⟨h1,H⟩ := bC H
  ·refine tF h1 kr ?_
   refine Tr.exit ?_
   refine And.intro (fun _ => ?_) (fun h => absurd rfl h)
   obtain rfl := si H
   have H := Ho4
   dsimp only at H
   exact jn y2 H (sB_ [1] [] kr)
  refine tT h1 kr ?_
  refine tK ?_
  refine tS ?_
  refine tB ?_
  refine tS ?_
  refine rU tOk 2 kr ?_
  obtain ⟨v5,ev5,H⟩ := bind_some H
  refine lI tOk 25 0 12 13 14 none ⟨(.slot 12),[],0,false,11,(CV.frzEs (x0.map Bridge.row))⟩ y1 (CV.frzRow (Bridge.row v5)) _ kr kr kr kr rfl (idx_isF ev5) rfl ?_
  refine uD tOk 4 262179 0 kr kr ?_
  obtain ⟨h2,H⟩ | ⟨h2,H⟩ := bC H
  ·refine tF h2 kr ?_
   refine tK ?_
   refine tG tOk 3 35 0 kr kr ?_
   refine tS ?_
   obtain ⟨v6,ev6,H⟩ := bind_some H
   obtain ⟨r7,er7,H⟩ := bind_some H
   refine Tr.draws mixed 8 kr ⟨115,0,[sB 28 (!(v6.Name.toList == r7.toList)),sI 1 (IntKind.wrap .i64 (y2 + 1)),sI 5 y1,sC 0 (cF 11 x0 Bridge.row)],[]⟩ (fun cx => ?_) ?_
   ·refine aU tOk [(0,[]),(1,[])] 6 [] [1,0] rfl kr (fun cx => ?_)
    refine aI tOk 2 25 0 21 22 23 none ⟨(.slot 21),[],0,false,11,(CV.frzEs (x0.map Bridge.row))⟩ y1 (CV.frzRow (Bridge.row v6)) _ kr kr kr kr kr kr rfl (idx_isF ev6) rfl (fun cx => ?_)
    refine aU tOk [(3,[]),(4,[]),(5,[])] 2 [] [5,4,3,2,1,0] rfl kr (fun cx => ?_)
    refine AT.big1 tOk 6 kr kr ?_
    refine lV tOk [.rd] [] (laws_markText n (IntKind.wrap .i64 (y2 + 1)) r7 er7) kr kr kr kr (.inl rfl) ?_
    refine lF kr kr kr ?_
    refine aU tOk [(7,[])] 0 [] [7,6,5,4,3,2,1,0] rfl kr (fun cx => ?_)
    exact AT.done [28,1,5,0] [] _ kr kr rfl
   refine tO ⟨115,0,[sB 28 (!(v6.Name.toList == r7.toList)),sI 1 (IntKind.wrap .i64 (y2 + 1)),sI 5 y1,sC 0 (cF 11 x0 Bridge.row)],[]⟩ kr ?_
   cases h3 : (!(v6.Name.toList == r7.toList))
   ·have H := bifF h3 H
    refine tf kr ?_
    refine tK ?_
    refine tG tOk 3 35 0 kr kr ?_
    refine rU tOk 2 kr ?_
    obtain ⟨v8,ev8,H⟩ := bind_some H
    refine lI tOk 25 0 31 32 33 none ⟨(.slot 31),[],0,false,11,(CV.frzEs (x0.map Bridge.row))⟩ y1 (CV.frzRow (Bridge.row v8)) _ kr kr kr kr rfl (idx_isF ev8) rfl ?_
    refine lU tOk 3 kr ?_
    obtain ⟨r9,er9,H⟩ := bind_some H
    refine lV tOk [.rd,.rd] [] (laws_heldPtS n v8.Ports (IntKind.wrap .i64 ((IntKind.wrap .i64 (y2 + 1)) + 1)) r9 er9) kr kr kr kr (.inl rfl) ?_
    refine uD tOk 1 35 0 kr kr ?_
    refine tS ?_
    refine tG tOk 2 549755813923 0 kr kr ?_
    obtain ⟨h4,H⟩ | ⟨h4,H⟩ := bC H
    ·refine tF h4 kr ?_
     refine tK ?_
     refine rU tOk 2 kr ?_
     obtain ⟨v10,ev10,H⟩ := bind_some H
     refine lI tOk 25 0 40 41 42 none ⟨(.slot 40),[],0,false,11,(CV.frzEs (x0.map Bridge.row))⟩ y1 (CV.frzRow (Bridge.row v10)) _ kr kr kr kr rfl (idx_isF ev10) rfl ?_
     refine lU tOk 3 kr ?_
     obtain ⟨r11,er11,H⟩ := bind_some H
     refine lV tOk [.rd,.rd] [] (laws_heldFentS n v10.F r9 r11 er11) kr kr kr kr (.inl rfl) ?_
     refine uD tOk 1 35 0 kr kr ?_
     refine tS ?_
     refine tG tOk 2 281474976710691 0 kr kr ?_
     obtain ⟨h5,H⟩ | ⟨h5,H⟩ := bC H
     ·refine tF h5 kr ?_
      refine tK ?_
      refine rU tOk 2 kr ?_
      obtain ⟨v12,ev12,H⟩ := bind_some H
      refine lI tOk 25 0 49 50 51 none ⟨(.slot 49),[],0,false,11,(CV.frzEs (x0.map Bridge.row))⟩ y1 (CV.frzRow (Bridge.row v12)) _ kr kr kr kr rfl (idx_isF ev12) rfl ?_
      refine lU tOk 4 kr ?_
      obtain ⟨r13,er13,H⟩ := bind_some H
      refine lV tOk [.rd,.rd] [] (laws_heldVrowS n v12.V.Rows r11 r13 er13) kr kr kr kr (.inl rfl) ?_
      refine uD tOk 1 35 0 kr kr ?_
      refine tS ?_
      refine tG tOk 2 0x400000000000023 0 kr kr ?_
      refine tO ⟨115,0,[sB 58 (decide (r13 < 0)),sI 1 r13,sI 5 y1,sC 0 (cF 11 x0 Bridge.row)],[]⟩ kr ?_
      cases h6 : (decide (r13 < 0))
      ·have H := bifF h6 H
       refine tf kr ?_
       refine tK ?_
       refine rU tOk 2 kr ?_
       obtain ⟨v14,ev14,H⟩ := bind_some H
       refine lI tOk 25 0 59 60 61 none ⟨(.slot 59),[],0,false,11,(CV.frzEs (x0.map Bridge.row))⟩ y1 (CV.frzRow (Bridge.row v14)) _ kr kr kr kr rfl (idx_isF ev14) rfl ?_
       refine lU tOk 4 kr ?_
       obtain ⟨r15,er15,H⟩ := bind_some H
       refine lV tOk [.rd,.rd] [] (laws_heldIntS n v14.V.Pvid r13 r15 er15) kr kr kr kr (.inl rfl) ?_
       refine uD tOk 1 35 0 kr kr ?_
       refine tS ?_
       refine tG tOk 2 0x100000000000000023 0 kr kr ?_
       obtain ⟨h7,H⟩ | ⟨h7,H⟩ := bC H
       ·refine tF h7 kr ?_
        refine tK ?_
        refine tS ?_
        refine rU tOk 2 kr ?_
        obtain ⟨v16,ev16,H⟩ := bind_some H
        refine lI tOk 25 0 69 70 71 none ⟨(.slot 69),[],0,false,11,(CV.frzEs (x0.map Bridge.row))⟩ y1 (CV.frzRow (Bridge.row v16)) _ kr kr kr kr rfl (idx_isF ev16) rfl ?_
        refine uD tOk 4 0x8000000000000000023 0 kr kr ?_
        obtain ⟨h8,H⟩ | ⟨h8,H⟩ := bC H
        ·refine tF h8 kr ?_
         refine tK ?_
         refine tG tOk 3 35 0 kr kr ?_
         refine tS ?_
         refine rU tOk 2 kr ?_
         obtain ⟨v17,ev17,H⟩ := bind_some H
         refine lI tOk 25 0 78 79 80 none ⟨(.slot 78),[],0,false,11,(CV.frzEs (x0.map Bridge.row))⟩ y1 (CV.frzRow (Bridge.row v17)) _ kr kr kr kr rfl (idx_isF ev17) rfl ?_
         refine uD tOk 4 0x1000000000000000000023 0 kr kr ?_
         obtain ⟨h9,H⟩ | ⟨h9,H⟩ := bC H
         ·refine tF h9 kr ?_
          refine tK ?_
          refine tG tOk 3 35 0 kr kr ?_
          refine tS ?_
          refine rU tOk 2 kr ?_
          obtain ⟨v18,ev18,H⟩ := bind_some H
          refine lI tOk 25 0 87 88 89 none ⟨(.slot 87),[],0,false,11,(CV.frzEs (x0.map Bridge.row))⟩ y1 (CV.frzRow (Bridge.row v18)) _ kr kr kr kr rfl (idx_isF ev18) rfl ?_
          refine uD tOk 4 0x200000000000000000000023 0 kr kr ?_
          refine tO ⟨115,0,[sB 93 (v18.Word != (IntKind.wrap .i64 ((IntKind.wrap .i64 (r15 + 1)) + 1))),sI 1 (IntKind.wrap .i64 ((IntKind.wrap .i64 (r15 + 1)) + 1)),sI 5 y1,sC 0 (cF 11 x0 Bridge.row)],[]⟩ kr ?_
          cases h10 : (v18.Word != (IntKind.wrap .i64 ((IntKind.wrap .i64 (r15 + 1)) + 1)))
          ·have H := bifF h10 H
           refine tf kr ?_
           refine tK ?_
           refine tG tOk 3 35 0 kr kr ?_
           refine tS ?_
           refine rU tOk 2 kr ?_
           obtain ⟨v19,ev19,H⟩ := bind_some H
           refine lI tOk 25 0 96 97 98 none ⟨(.slot 96),[],0,false,11,(CV.frzEs (x0.map Bridge.row))⟩ y1 (CV.frzRow (Bridge.row v19)) _ kr kr kr kr rfl (idx_isF ev19) rfl ?_
           refine uD tOk 4 0x40000000000000000000000023 0 kr kr ?_
           obtain ⟨h11,H⟩ | ⟨h11,H⟩ := bC H
           ·refine tF h11 kr ?_
            refine tK ?_
            refine tG tOk 3 35 0 kr kr ?_
            refine tS ?_
            refine rU tOk 2 kr ?_
            obtain ⟨v20,ev20,H⟩ := bind_some H
            refine lI tOk 25 0 105 106 107 none ⟨(.slot 105),[],0,false,11,(CV.frzEs (x0.map Bridge.row))⟩ y1 (CV.frzRow (Bridge.row v20)) _ kr kr kr kr rfl (idx_isF ev20) rfl ?_
            refine uD tOk 4 0x8000000000000000000000000023 0 kr kr ?_
            obtain ⟨h12,H⟩ | ⟨h12,H⟩ := bC H
            ·refine tF h12 kr ?_
             refine tK ?_
             refine tE tOk 3 35 0 kr kr ?_
             refine tE tOk 3 35 0 kr kr ?_
             exact jn (mo4,((IntKind.wrap .i64 (y1 + 1)),(IntKind.wrap .i64 ((IntKind.wrap .i64 ((IntKind.wrap .i64 ((IntKind.wrap .i64 ((IntKind.wrap .i64 (r15 + 1)) + 1)) + 1)) + 1)) + 1)))) H (sM mo4 [5,0,1] [] kr)
            refine tT h12 kr ?_
            refine tG tOk 1 16 0 kr kr ?_
            refine te ?_
            obtain rfl := si H
            have H := Ho4
            dsimp only at H
            obtain rfl := si H
            exact fO [(false,[cI (-1)])] kr rfl rfl
           refine tT h11 kr ?_
           refine tG tOk 1 16 0 kr kr ?_
           refine te ?_
           obtain rfl := si H
           have H := Ho4
           dsimp only at H
           obtain rfl := si H
           exact fO [(false,[cI (-1)])] kr rfl rfl
          have H := bifT h10 H
          refine tt kr ?_
          refine tG tOk 1 16 0 kr kr ?_
          refine te ?_
          obtain rfl := si H
          have H := Ho4
          dsimp only at H
          obtain rfl := si H
          exact fO [(false,[cI (-1)])] kr rfl rfl
         refine tT h9 kr ?_
         refine tG tOk 1 16 0 kr kr ?_
         refine te ?_
         obtain rfl := si H
         have H := Ho4
         dsimp only at H
         obtain rfl := si H
         exact fO [(false,[cI (-1)])] kr rfl rfl
        refine tT h8 kr ?_
        refine tG tOk 1 16 0 kr kr ?_
        refine te ?_
        obtain rfl := si H
        have H := Ho4
        dsimp only at H
        obtain rfl := si H
        exact fO [(false,[cI (-1)])] kr rfl rfl
       refine tT h7 kr ?_
       refine tG tOk 1 16 0 kr kr ?_
       refine te ?_
       obtain rfl := si H
       have H := Ho4
       dsimp only at H
       obtain rfl := si H
       exact fO [(false,[cI (-1)])] kr rfl rfl
      have H := bifT h6 H
      refine tt kr ?_
      refine tG tOk 1 16 0 kr kr ?_
      refine te ?_
      obtain rfl := si H
      have H := Ho4
      dsimp only at H
      obtain rfl := si H
      exact fO [(false,[cI (-1)])] kr rfl rfl
     refine tT h5 kr ?_
     refine tG tOk 1 16 0 kr kr ?_
     refine te ?_
     obtain rfl := si H
     have H := Ho4
     dsimp only at H
     obtain rfl := si H
     exact fO [(false,[cI (-1)])] kr rfl rfl
    refine tT h4 kr ?_
    refine tG tOk 1 16 0 kr kr ?_
    refine te ?_
    obtain rfl := si H
    have H := Ho4
    dsimp only at H
    obtain rfl := si H
    exact fO [(false,[cI (-1)])] kr rfl rfl
   have H := bifT h3 H
   refine tt kr ?_
   refine tG tOk 1 16 0 kr kr ?_
   refine te ?_
   obtain rfl := si H
   have H := Ho4
   dsimp only at H
   obtain rfl := si H
   exact fO [(false,[cI (-1)])] kr rfl rfl
  refine tT h2 kr ?_
  refine tG tOk 1 16 0 kr kr ?_
  refine te ?_
  obtain rfl := si H
  have H := Ho4
  dsimp only at H
  obtain rfl := si H
  exact fO [(false,[cI (-1)])] kr rfl rfl
 rintro y3 H
 have H : (laws_heldBridgeS_J1 n y3) = some r := H
 unfold laws_heldBridgeS_J1 at H
 refine tG tOk 2 16 0 kr kr ?_
 exact te (by obtain rfl := si H; exact fO [(false,[cI y3])] kr rfl rfl)
def laws_heldLinkS_J1 (n : Nat) (y3 : Int) : Option (Int) :=
  (some y3)
def laws_heldLinkS_L2 (n : Nat) : Nat → (List Link) → Int → Int → Option ((Int) ⊕ (Int))
  | 0,_,_,_ => none
  | mo4 + 1,x0,y1,y2 => (bif (decide (y1 < (x0.length : Int))) then ((idx x0 y1).bind fun v5 => (bif (v5.A != y2) then (some (Sum.inr (-1))) else ((idx x0 y1).bind fun v6 => (bif (v6.P != (IntKind.wrap .i64 (y2 + 1))) then (some (Sum.inr (-1))) else ((idx x0 y1).bind fun v7 => (bif (v7.B != (IntKind.wrap .i64 ((IntKind.wrap .i64 (y2 + 1)) + 1))) then (some (Sum.inr (-1))) else ((idx x0 y1).bind fun v8 => (bif (v8.Q != (IntKind.wrap .i64 ((IntKind.wrap .i64 ((IntKind.wrap .i64 (y2 + 1)) + 1)) + 1))) then (some (Sum.inr (-1))) else (laws_heldLinkS_L2 n mo4 x0 (IntKind.wrap .i64 (y1 + 1)) (IntKind.wrap .i64 ((IntKind.wrap .i64 ((IntKind.wrap .i64 ((IntKind.wrap .i64 (y2 + 1)) + 1)) + 1)) + 1))))))))))) else (some (Sum.inl y2)))
def laws_heldLinkSF (n : Nat) (x0 : (List Link)) (x1 : Int) : Option (Int) :=
  ((laws_heldLinkS_L2 n n x0 0 x1).bind fun o => match o with | .inl y3 => (laws_heldLinkS_J1 n y3) | .inr r => some r)
noncomputable abbrev G89 (k : Nat) := Rg Tryz.f89 k
theorem laws_heldLinkS (n : Nat) (x0 : (List Link)) (x1 : Int) (r : Int) (H : laws_heldLinkSF n x0 x1 = some r) : LCall Tryz.prog 89 [.val false [.sl false 4 (CV.frzEs (x0.map Link.row))],.val false [.lit (.int .i64 x1)]] [.val false [.lit (.int .i64 r)]] [] := by
 refine LCall.of_body tOk Tryz.func89 rfl (c := (.seq (G89 0) (.seq (.seq (G89 1) (.block 0 (.loop (.seq (.seq (G89 2) (.cond (.tmp 9) .skip (.exit 0))) (.seq (.block 1 (.seq (.seq (G89 4) (.cond (.tmp 18) (.seq (G89 5) .ret) .skip)) (.seq (G89 6) (.seq (.seq (G89 7) (.cond (.tmp 27) (.seq (G89 8) .ret) .skip)) (.seq (G89 9) (.seq (.seq (G89 10) (.cond (.tmp 36) (.seq (G89 11) .ret) .skip)) (.seq (G89 12) (.seq (.seq (G89 13) (.cond (.tmp 45) (.seq (G89 14) .ret) .skip)) (G89 15))))))))) (G89 3)))))) (.seq (G89 16) .ret)))) kr (Nat.le_of_ble_eq_true kr) 0 (rs := [.tmp 4]) rfl [] .nil [(false,[.lit (.int .i64 r)])] [] [] fun cx => ?_
 show Tr _ _ _ ⟨49,0,[sC 0 (cF 4 x0 Link.row),sI 1 x1],[]⟩ _
 unfold laws_heldLinkSF at H
 refine tG tOk 1 3 0 kr kr ?_
 refine tS ?_
 refine tG tOk 1 35 0 kr kr ?_
 obtain ⟨o4,eo4,Ho4⟩ := bind_some H
 clear H
 refine Tr.mid (ι := Int) (fun v => ⟨49,0,[sI 1 v],[]⟩) (fun v => laws_heldLinkS_J1 n v = some r) ?_ ?_
 ·refine tB ?_
  refine Tr.loop (ι := Nat × (Int × Int)) (fun v => ⟨49,0,[sI 5 v.2.1,sC 0 (cF 4 x0 Link.row),sI 1 v.2.2],[]⟩) (fun v => laws_heldLinkS_L2 n v.1 x0 v.2.1 v.2.2 = some o4) (fun v => v.1) (n,(0,x1)) eo4 (St.sub_of [5,0,1] [] kr) ?_
  rintro ⟨mo4,y1,y2⟩ H
  have H : laws_heldLinkS_L2 n mo4 x0 y1 y2 = some o4 := H
  obtain _ | mo4 := mo4
  ·cases (show (none : Option _) = some o4 from H)
  rw [laws_heldLinkS_L2] at H
  refine tS ?_
  refine rU tOk 2 kr ?_
  refine lL tOk 26 3 126 7 8 none ⟨(.slot 7),[],0,false,4,(CV.frzEs (x0.map Link.row))⟩ (x0).length _ kr kr kr kr kr (frz_len _ _) rfl ?_
  refine uD tOk 1 547 0 kr kr ?_
  obtain ⟨h1,H⟩ | ⟨h1,H⟩ := bC H
  ·refine tF h1 kr ?_
   refine Tr.exit ?_
   refine And.intro (fun _ => ?_) (fun h => absurd rfl h)
   obtain rfl := si H
   have H := Ho4
   dsimp only at H
   exact jn y2 H (sB_ [1] [] kr)
  refine tT h1 kr ?_
  refine tK ?_
  refine tS ?_
  refine tB ?_
  refine tS ?_
  refine rU tOk 2 kr ?_
  obtain ⟨v5,ev5,H⟩ := bind_some H
  refine lI tOk 26 0 12 13 14 none ⟨(.slot 12),[],0,false,4,(CV.frzEs (x0.map Link.row))⟩ y1 (Link.row v5) _ kr kr kr kr rfl (idx_isF ev5) rfl ?_
  refine uD tOk 4 262179 0 kr kr ?_
  obtain ⟨h2,H⟩ | ⟨h2,H⟩ := bC H
  ·refine tF h2 kr ?_
   refine tK ?_
   refine tG tOk 3 35 0 kr kr ?_
   refine tS ?_
   refine rU tOk 2 kr ?_
   obtain ⟨v6,ev6,H⟩ := bind_some H
   refine lI tOk 26 0 21 22 23 none ⟨(.slot 21),[],0,false,4,(CV.frzEs (x0.map Link.row))⟩ y1 (Link.row v6) _ kr kr kr kr rfl (idx_isF ev6) rfl ?_
   refine uD tOk 4 134217763 0 kr kr ?_
   obtain ⟨h3,H⟩ | ⟨h3,H⟩ := bC H
   ·refine tF h3 kr ?_
    refine tK ?_
    refine tG tOk 3 35 0 kr kr ?_
    refine tS ?_
    refine rU tOk 2 kr ?_
    obtain ⟨v7,ev7,H⟩ := bind_some H
    refine lI tOk 26 0 30 31 32 none ⟨(.slot 30),[],0,false,4,(CV.frzEs (x0.map Link.row))⟩ y1 (Link.row v7) _ kr kr kr kr rfl (idx_isF ev7) rfl ?_
    refine uD tOk 4 68719476771 0 kr kr ?_
    obtain ⟨h4,H⟩ | ⟨h4,H⟩ := bC H
    ·refine tF h4 kr ?_
     refine tK ?_
     refine tG tOk 3 35 0 kr kr ?_
     refine tS ?_
     refine rU tOk 2 kr ?_
     obtain ⟨v8,ev8,H⟩ := bind_some H
     refine lI tOk 26 0 39 40 41 none ⟨(.slot 39),[],0,false,4,(CV.frzEs (x0.map Link.row))⟩ y1 (Link.row v8) _ kr kr kr kr rfl (idx_isF ev8) rfl ?_
     refine uD tOk 4 35184372088867 0 kr kr ?_
     refine tO ⟨49,0,[sB 45 (v8.Q != (IntKind.wrap .i64 ((IntKind.wrap .i64 ((IntKind.wrap .i64 (y2 + 1)) + 1)) + 1))),sI 1 (IntKind.wrap .i64 ((IntKind.wrap .i64 ((IntKind.wrap .i64 (y2 + 1)) + 1)) + 1)),sI 5 y1,sC 0 (cF 4 x0 Link.row)],[]⟩ kr ?_
     cases h5 : (v8.Q != (IntKind.wrap .i64 ((IntKind.wrap .i64 ((IntKind.wrap .i64 (y2 + 1)) + 1)) + 1)))
     ·have H := bifF h5 H
      refine tf kr ?_
      refine tK ?_
      refine tE tOk 3 35 0 kr kr ?_
      refine tE tOk 3 35 0 kr kr ?_
      exact jn (mo4,((IntKind.wrap .i64 (y1 + 1)),(IntKind.wrap .i64 ((IntKind.wrap .i64 ((IntKind.wrap .i64 ((IntKind.wrap .i64 (y2 + 1)) + 1)) + 1)) + 1)))) H (sM mo4 [5,0,1] [] kr)
     have H := bifT h5 H
     refine tt kr ?_
     refine tG tOk 1 16 0 kr kr ?_
     refine te ?_
     obtain rfl := si H
     have H := Ho4
     dsimp only at H
     obtain rfl := si H
     exact fO [(false,[cI (-1)])] kr rfl rfl
    refine tT h4 kr ?_
    refine tG tOk 1 16 0 kr kr ?_
    refine te ?_
    obtain rfl := si H
    have H := Ho4
    dsimp only at H
    obtain rfl := si H
    exact fO [(false,[cI (-1)])] kr rfl rfl
   refine tT h3 kr ?_
   refine tG tOk 1 16 0 kr kr ?_
   refine te ?_
   obtain rfl := si H
   have H := Ho4
   dsimp only at H
   obtain rfl := si H
   exact fO [(false,[cI (-1)])] kr rfl rfl
  refine tT h2 kr ?_
  refine tG tOk 1 16 0 kr kr ?_
  refine te ?_
  obtain rfl := si H
  have H := Ho4
  dsimp only at H
  obtain rfl := si H
  exact fO [(false,[cI (-1)])] kr rfl rfl
 rintro y3 H
 have H : (laws_heldLinkS_J1 n y3) = some r := H
 unfold laws_heldLinkS_J1 at H
 refine tG tOk 2 16 0 kr kr ?_
 exact te (by obtain rfl := si H; exact fO [(false,[cI y3])] kr rfl rfl)
def laws_heldSayS_J1 (n : Nat) (y3 : Int) : Option (Int) :=
  (some y3)
def laws_heldSayS_L2 (n : Nat) : Nat → (List Say) → Int → Int → Option ((Int) ⊕ (Int))
  | 0,_,_,_ => none
  | mo4 + 1,x0,y1,y2 => (bif (decide (y1 < (x0.length : Int))) then ((idx x0 y1).bind fun v5 => (bif (v5.Link != y2) then (some (Sum.inr (-1))) else ((idx x0 y1).bind fun v6 => (bif (decide ((3 : Int) ≠ 0)) then (bif (!(v6.Back == ((Int.tmod (IntKind.wrap .i64 (y2 + 1)) 3) == 0))) then (some (Sum.inr (-1))) else ((idx x0 y1).bind fun v8 => (bif (v8.V.Root != (IntKind.wrap .i64 ((IntKind.wrap .i64 (y2 + 1)) + 1))) then (some (Sum.inr (-1))) else ((idx x0 y1).bind fun v9 => (bif (v9.V.Cost != (IntKind.wrap .i64 ((IntKind.wrap .i64 ((IntKind.wrap .i64 (y2 + 1)) + 1)) + 1))) then (some (Sum.inr (-1))) else ((idx x0 y1).bind fun v10 => (bif (v10.V.Hops != (IntKind.wrap .i64 ((IntKind.wrap .i64 ((IntKind.wrap .i64 ((IntKind.wrap .i64 (y2 + 1)) + 1)) + 1)) + 1))) then (some (Sum.inr (-1))) else ((idx x0 y1).bind fun v11 => (bif (v11.V.Bridge != (IntKind.wrap .i64 ((IntKind.wrap .i64 ((IntKind.wrap .i64 ((IntKind.wrap .i64 ((IntKind.wrap .i64 (y2 + 1)) + 1)) + 1)) + 1)) + 1))) then (some (Sum.inr (-1))) else ((idx x0 y1).bind fun v12 => (bif (v12.V.Port != (IntKind.wrap .i64 ((IntKind.wrap .i64 ((IntKind.wrap .i64 ((IntKind.wrap .i64 ((IntKind.wrap .i64 ((IntKind.wrap .i64 (y2 + 1)) + 1)) + 1)) + 1)) + 1)) + 1))) then (some (Sum.inr (-1))) else (laws_heldSayS_L2 n mo4 x0 (IntKind.wrap .i64 (y1 + 1)) (IntKind.wrap .i64 ((IntKind.wrap .i64 ((IntKind.wrap .i64 ((IntKind.wrap .i64 ((IntKind.wrap .i64 ((IntKind.wrap .i64 ((IntKind.wrap .i64 (y2 + 1)) + 1)) + 1)) + 1)) + 1)) + 1)) + 1)))))))))))))) else none)))) else (some (Sum.inl y2)))
def laws_heldSaySF (n : Nat) (x0 : (List Say)) (x1 : Int) : Option (Int) :=
  ((laws_heldSayS_L2 n n x0 0 x1).bind fun o => match o with | .inl y3 => (laws_heldSayS_J1 n y3) | .inr r => some r)
noncomputable abbrev G90 (k : Nat) := Rg Tryz.f90 k
theorem laws_heldSayS (n : Nat) (x0 : (List Say)) (x1 : Int) (r : Int) (H : laws_heldSaySF n x0 x1 = some r) : LCall Tryz.prog 90 [.val false [.sl false 7 (CV.frzEs (x0.map Say.row))],.val false [.lit (.int .i64 x1)]] [.val false [.lit (.int .i64 r)]] [] := by
 refine LCall.of_body tOk Tryz.func90 rfl (c := (.seq (G90 0) (.seq (.seq (G90 1) (.block 0 (.loop (.seq (.seq (G90 2) (.cond (.tmp 9) .skip (.exit 0))) (.seq (.block 1 (.seq (.seq (G90 4) (.cond (.tmp 18) (.seq (G90 5) .ret) .skip)) (.seq (G90 6) (.seq (.seq (G90 7) (.cond (.tmp 29) (.seq (G90 8) .ret) .skip)) (.seq (G90 9) (.seq (.seq (G90 10) (.cond (.tmp 39) (.seq (G90 11) .ret) .skip)) (.seq (G90 12) (.seq (.seq (G90 13) (.cond (.tmp 49) (.seq (G90 14) .ret) .skip)) (.seq (G90 15) (.seq (.seq (G90 16) (.cond (.tmp 59) (.seq (G90 17) .ret) .skip)) (.seq (G90 18) (.seq (.seq (G90 19) (.cond (.tmp 69) (.seq (G90 20) .ret) .skip)) (.seq (G90 21) (.seq (.seq (G90 22) (.cond (.tmp 79) (.seq (G90 23) .ret) .skip)) (G90 24))))))))))))))) (G90 3)))))) (.seq (G90 25) .ret)))) kr (Nat.le_of_ble_eq_true kr) 0 (rs := [.tmp 4]) rfl [] .nil [(false,[.lit (.int .i64 r)])] [] [] fun cx => ?_
 show Tr _ _ _ ⟨83,0,[sC 0 (cF 7 x0 Say.row),sI 1 x1],[]⟩ _
 unfold laws_heldSaySF at H
 refine tG tOk 1 3 0 kr kr ?_
 refine tS ?_
 refine tG tOk 1 35 0 kr kr ?_
 obtain ⟨o4,eo4,Ho4⟩ := bind_some H
 clear H
 refine Tr.mid (ι := Int) (fun v => ⟨83,0,[sI 1 v],[]⟩) (fun v => laws_heldSayS_J1 n v = some r) ?_ ?_
 ·refine tB ?_
  refine Tr.loop (ι := Nat × (Int × Int)) (fun v => ⟨83,0,[sI 5 v.2.1,sC 0 (cF 7 x0 Say.row),sI 1 v.2.2],[]⟩) (fun v => laws_heldSayS_L2 n v.1 x0 v.2.1 v.2.2 = some o4) (fun v => v.1) (n,(0,x1)) eo4 (St.sub_of [5,0,1] [] kr) ?_
  rintro ⟨mo4,y1,y2⟩ H
  have H : laws_heldSayS_L2 n mo4 x0 y1 y2 = some o4 := H
  obtain _ | mo4 := mo4
  ·cases (show (none : Option _) = some o4 from H)
  rw [laws_heldSayS_L2] at H
  refine tS ?_
  refine rU tOk 2 kr ?_
  refine lL tOk 27 3 195 7 8 none ⟨(.slot 7),[],0,false,7,(CV.frzEs (x0.map Say.row))⟩ (x0).length _ kr kr kr kr kr (frz_len _ _) rfl ?_
  refine uD tOk 1 547 0 kr kr ?_
  obtain ⟨h1,H⟩ | ⟨h1,H⟩ := bC H
  ·refine tF h1 kr ?_
   refine Tr.exit ?_
   refine And.intro (fun _ => ?_) (fun h => absurd rfl h)
   obtain rfl := si H
   have H := Ho4
   dsimp only at H
   exact jn y2 H (sB_ [1] [] kr)
  refine tT h1 kr ?_
  refine tK ?_
  refine tS ?_
  refine tB ?_
  refine tS ?_
  refine rU tOk 2 kr ?_
  obtain ⟨v5,ev5,H⟩ := bind_some H
  refine lI tOk 27 0 12 13 14 none ⟨(.slot 12),[],0,false,7,(CV.frzEs (x0.map Say.row))⟩ y1 (Say.row v5) _ kr kr kr kr rfl (idx_isF ev5) rfl ?_
  refine uD tOk 4 262179 0 kr kr ?_
  obtain ⟨h2,H⟩ | ⟨h2,H⟩ := bC H
  ·refine tF h2 kr ?_
   refine tK ?_
   refine tG tOk 3 35 0 kr kr ?_
   refine tS ?_
   refine rU tOk 2 kr ?_
   obtain ⟨v6,ev6,H⟩ := bind_some H
   refine lI tOk 27 0 21 22 23 none ⟨(.slot 21),[],0,false,7,(CV.frzEs (x0.map Say.row))⟩ y1 (Say.row v6) _ kr kr kr kr rfl (idx_isF ev6) rfl ?_
   refine lU tOk 3 kr ?_
   obtain ⟨hg7,H⟩ := guard_some H
   refine LAt.binC tOk (op := .rem) (t := 3) (ty := 3) (ty' := 3) (x := (.tmp 26)) (y := (.const (.int .i64 3))) (d := 27) (g := none) (.int .i64 (IntKind.wrap .i64 (y2 + 1))) (.int .i64 3) (.int .i64 (Int.tmod (IntKind.wrap .i64 (y2 + 1)) 3)) _ kr kr kr kr kr (φ := (IntKind.i64 = IntKind.i64 ∧ (3 : Int) ≠ 0)) kr (⟨rfl,of_decide_eq_true hg7⟩) rfl ?_
   refine uD tOk 2 536870947 0 kr kr ?_
   obtain ⟨h3,H⟩ | ⟨h3,H⟩ := bC H
   ·refine tF h3 kr ?_
    refine tK ?_
    refine tG tOk 3 35 0 kr kr ?_
    refine tS ?_
    refine rU tOk 2 kr ?_
    obtain ⟨v8,ev8,H⟩ := bind_some H
    refine lI tOk 27 0 32 33 34 none ⟨(.slot 32),[],0,false,7,(CV.frzEs (x0.map Say.row))⟩ y1 (Say.row v8) _ kr kr kr kr rfl (idx_isF ev8) rfl ?_
    refine uD tOk 5 549755813923 0 kr kr ?_
    refine tO ⟨83,0,[sB 39 (v8.V.Root != (IntKind.wrap .i64 ((IntKind.wrap .i64 (y2 + 1)) + 1))),sI 1 (IntKind.wrap .i64 ((IntKind.wrap .i64 (y2 + 1)) + 1)),sI 5 y1,sC 0 (cF 7 x0 Say.row)],[]⟩ kr ?_
    cases h4 : (v8.V.Root != (IntKind.wrap .i64 ((IntKind.wrap .i64 (y2 + 1)) + 1)))
    ·have H := bifF h4 H
     refine tf kr ?_
     refine tK ?_
     refine tG tOk 3 35 0 kr kr ?_
     refine tS ?_
     refine rU tOk 2 kr ?_
     obtain ⟨v9,ev9,H⟩ := bind_some H
     refine lI tOk 27 0 42 43 44 none ⟨(.slot 42),[],0,false,7,(CV.frzEs (x0.map Say.row))⟩ y1 (Say.row v9) _ kr kr kr kr rfl (idx_isF ev9) rfl ?_
     refine uD tOk 5 562949953421347 0 kr kr ?_
     obtain ⟨h5,H⟩ | ⟨h5,H⟩ := bC H
     ·refine tF h5 kr ?_
      refine tK ?_
      refine tG tOk 3 35 0 kr kr ?_
      refine tS ?_
      refine rU tOk 2 kr ?_
      obtain ⟨v10,ev10,H⟩ := bind_some H
      refine lI tOk 27 0 52 53 54 none ⟨(.slot 52),[],0,false,7,(CV.frzEs (x0.map Say.row))⟩ y1 (Say.row v10) _ kr kr kr kr rfl (idx_isF ev10) rfl ?_
      refine uD tOk 5 0x800000000000023 0 kr kr ?_
      obtain ⟨h6,H⟩ | ⟨h6,H⟩ := bC H
      ·refine tF h6 kr ?_
       refine tK ?_
       refine tG tOk 3 35 0 kr kr ?_
       refine tS ?_
       refine rU tOk 2 kr ?_
       obtain ⟨v11,ev11,H⟩ := bind_some H
       refine lI tOk 27 0 62 63 64 none ⟨(.slot 62),[],0,false,7,(CV.frzEs (x0.map Say.row))⟩ y1 (Say.row v11) _ kr kr kr kr rfl (idx_isF ev11) rfl ?_
       refine uD tOk 5 0x200000000000000023 0 kr kr ?_
       obtain ⟨h7,H⟩ | ⟨h7,H⟩ := bC H
       ·refine tF h7 kr ?_
        refine tK ?_
        refine tG tOk 3 35 0 kr kr ?_
        refine tS ?_
        refine rU tOk 2 kr ?_
        obtain ⟨v12,ev12,H⟩ := bind_some H
        refine lI tOk 27 0 72 73 74 none ⟨(.slot 72),[],0,false,7,(CV.frzEs (x0.map Say.row))⟩ y1 (Say.row v12) _ kr kr kr kr rfl (idx_isF ev12) rfl ?_
        refine uD tOk 5 0x80000000000000000023 0 kr kr ?_
        refine tO ⟨83,0,[sB 79 (v12.V.Port != (IntKind.wrap .i64 ((IntKind.wrap .i64 ((IntKind.wrap .i64 ((IntKind.wrap .i64 ((IntKind.wrap .i64 ((IntKind.wrap .i64 (y2 + 1)) + 1)) + 1)) + 1)) + 1)) + 1))),sI 1 (IntKind.wrap .i64 ((IntKind.wrap .i64 ((IntKind.wrap .i64 ((IntKind.wrap .i64 ((IntKind.wrap .i64 ((IntKind.wrap .i64 (y2 + 1)) + 1)) + 1)) + 1)) + 1)) + 1)),sI 5 y1,sC 0 (cF 7 x0 Say.row)],[]⟩ kr ?_
        cases h8 : (v12.V.Port != (IntKind.wrap .i64 ((IntKind.wrap .i64 ((IntKind.wrap .i64 ((IntKind.wrap .i64 ((IntKind.wrap .i64 ((IntKind.wrap .i64 (y2 + 1)) + 1)) + 1)) + 1)) + 1)) + 1)))
        ·have H := bifF h8 H
         refine tf kr ?_
         refine tK ?_
         refine tE tOk 3 35 0 kr kr ?_
         refine tE tOk 3 35 0 kr kr ?_
         exact jn (mo4,((IntKind.wrap .i64 (y1 + 1)),(IntKind.wrap .i64 ((IntKind.wrap .i64 ((IntKind.wrap .i64 ((IntKind.wrap .i64 ((IntKind.wrap .i64 ((IntKind.wrap .i64 ((IntKind.wrap .i64 (y2 + 1)) + 1)) + 1)) + 1)) + 1)) + 1)) + 1)))) H (sM mo4 [5,0,1] [] kr)
        have H := bifT h8 H
        refine tt kr ?_
        refine tG tOk 1 16 0 kr kr ?_
        refine te ?_
        obtain rfl := si H
        have H := Ho4
        dsimp only at H
        obtain rfl := si H
        exact fO [(false,[cI (-1)])] kr rfl rfl
       refine tT h7 kr ?_
       refine tG tOk 1 16 0 kr kr ?_
       refine te ?_
       obtain rfl := si H
       have H := Ho4
       dsimp only at H
       obtain rfl := si H
       exact fO [(false,[cI (-1)])] kr rfl rfl
      refine tT h6 kr ?_
      refine tG tOk 1 16 0 kr kr ?_
      refine te ?_
      obtain rfl := si H
      have H := Ho4
      dsimp only at H
      obtain rfl := si H
      exact fO [(false,[cI (-1)])] kr rfl rfl
     refine tT h5 kr ?_
     refine tG tOk 1 16 0 kr kr ?_
     refine te ?_
     obtain rfl := si H
     have H := Ho4
     dsimp only at H
     obtain rfl := si H
     exact fO [(false,[cI (-1)])] kr rfl rfl
    have H := bifT h4 H
    refine tt kr ?_
    refine tG tOk 1 16 0 kr kr ?_
    refine te ?_
    obtain rfl := si H
    have H := Ho4
    dsimp only at H
    obtain rfl := si H
    exact fO [(false,[cI (-1)])] kr rfl rfl
   refine tT h3 kr ?_
   refine tG tOk 1 16 0 kr kr ?_
   refine te ?_
   obtain rfl := si H
   have H := Ho4
   dsimp only at H
   obtain rfl := si H
   exact fO [(false,[cI (-1)])] kr rfl rfl
  refine tT h2 kr ?_
  refine tG tOk 1 16 0 kr kr ?_
  refine te ?_
  obtain rfl := si H
  have H := Ho4
  dsimp only at H
  obtain rfl := si H
  exact fO [(false,[cI (-1)])] kr rfl rfl
 rintro y3 H
 have H : (laws_heldSayS_J1 n y3) = some r := H
 unfold laws_heldSayS_J1 at H
 refine tG tOk 2 16 0 kr kr ?_
 exact te (by obtain rfl := si H; exact fO [(false,[cI y3])] kr rfl rfl)
def laws_heldNetF (n : Nat) (x0 : Net) (x1 : Int) : Option (Int) :=
  ((laws_heldBridgeSF n x0.Bridges x1).bind fun r1 => (bif (decide (r1 < 0)) then (some (-1)) else ((laws_heldLinkSF n x0.Links r1).bind fun r2 => (bif (decide (r2 < 0)) then (some (-1)) else ((laws_heldSaySF n x0.Said r2).bind fun r3 => (bif (decide (r3 < 0)) then (some (-1)) else (some r3)))))))
noncomputable abbrev G23 (k : Nat) := Rg Tryz.f23 k
theorem laws_heldNet (n : Nat) (x0 : Net) (x1 : Int) (r : Int) (H : laws_heldNetF n x0 x1 = some r) : LCall Tryz.prog 23 [.val true (CV.frzRow (Net.row x0)),.val false [.lit (.int .i64 x1)]] [.val false [.lit (.int .i64 r)]] [] := by
 refine LCall.of_body tOk Tryz.func23 rfl (c := (.seq (G23 0) (.seq (G23 1) (.seq (.seq (G23 2) (.cond (.tmp 10) (.seq (G23 3) .ret) .skip)) (.seq (G23 4) (.seq (.seq (G23 5) (.cond (.tmp 16) (.seq (G23 6) .ret) .skip)) (.seq (G23 7) (.seq (.seq (G23 8) (.cond (.tmp 22) (.seq (G23 9) .ret) .skip)) (.seq (G23 10) .ret))))))))) kr (Nat.le_of_ble_eq_true kr) 0 (rs := [.tmp 4]) rfl [] .nil [(false,[.lit (.int .i64 r)])] [] [] fun cx => ?_
 show Tr _ _ _ ⟨24,0,[sV 0 (CV.frzRow (Net.row x0)),sI 1 x1],[]⟩ _
 unfold laws_heldNetF at H
 refine tG tOk 2 6 4 kr kr ?_
 refine rU tOk 3 kr ?_
 obtain ⟨r1,er1,H⟩ := bind_some H
 refine lV tOk [.rd,.rd] [] (laws_heldBridgeS n x0.Bridges x1 r1 er1) kr kr kr kr (.inl rfl) ?_
 refine uD tOk 1 6 4 kr kr ?_
 refine tS ?_
 refine tG tOk 2 1030 4 kr kr ?_
 obtain ⟨h1,H⟩ | ⟨h1,H⟩ := bC H
 ·refine tF h1 kr ?_
  refine tK ?_
  refine rU tOk 3 kr ?_
  obtain ⟨r2,er2,H⟩ := bind_some H
  refine lV tOk [.rd,.rd] [] (laws_heldLinkS n x0.Links r1 r2 er2) kr kr kr kr (.inl rfl) ?_
  refine uD tOk 1 6 4 kr kr ?_
  refine tS ?_
  refine tG tOk 2 65542 4 kr kr ?_
  obtain ⟨h2,H⟩ | ⟨h2,H⟩ := bC H
  ·refine tF h2 kr ?_
   refine tK ?_
   refine rU tOk 3 kr ?_
   obtain ⟨r3,er3,H⟩ := bind_some H
   refine lV tOk [.rd,.rd] [] (laws_heldSayS n x0.Said r2 r3 er3) kr kr kr kr (.inl rfl) ?_
   refine uD tOk 1 2 0 kr kr ?_
   refine tS ?_
   refine tG tOk 2 4194306 0 kr kr ?_
   obtain ⟨h3,H⟩ | ⟨h3,H⟩ := bC H
   ·refine tF h3 kr ?_
    refine tK ?_
    refine tG tOk 2 16 0 kr kr ?_
    exact te (by obtain rfl := si H; exact fO [(false,[cI r3])] kr rfl rfl)
   refine tT h3 kr ?_
   refine tG tOk 1 16 0 kr kr ?_
   exact te (by obtain rfl := si H; exact fO [(false,[cI (-1)])] kr rfl rfl)
  refine tT h2 kr ?_
  refine tG tOk 1 16 0 kr kr ?_
  exact te (by obtain rfl := si H; exact fO [(false,[cI (-1)])] kr rfl rfl)
 refine tT h1 kr ?_
 refine tG tOk 1 16 0 kr kr ?_
 exact te (by obtain rfl := si H; exact fO [(false,[cI (-1)])] kr rfl rfl)
def laws_FnExactNetNewF (n : Nat) (x0 : (List Int)) (x1 : Int) (x2 : (List Link)) : Option (Bool) :=
  (bif (decide ((x0.length : Int) > 1048576)) then (some true) else ((laws_szLinkSF n x2 1048576).bind fun r1 => (bif (decide (r1 < 0)) then (some true) else ((laws_toIntSF n x0).bind fun r2 => ((laws_toLinkSF n x2).bind fun r3 => ((spec_NetNewF n r2 x1 r3).bind fun r4 => ((laws_toIntSF n x0).bind fun r5 => ((laws_toLinkSF n x2).bind fun r6 => ((impl_NetNewF n r5 x1 r6).bind fun r7 => ((laws_eqNetF n r7 r4).bind fun r8 => (bif (!r8) then (some false) else ((laws_toIntSF n x0).bind fun r9 => ((laws_eqIntSF n r5 r9).bind fun r10 => (bif (!r10) then (some false) else ((laws_toLinkSF n x2).bind fun r11 => ((laws_eqLinkSF n r6 r11).bind fun r12 => (bif (!r12) then (some false) else ((laws_markIntSF n r5 1).bind fun r13 => ((laws_markLinkSF n r6 r13.1).bind fun r14 => (bif (decide (r14.1 < 0)) then (some false) else ((laws_eqNetF n r7 r4).bind fun r15 => (bif (!r15) then (some false) else ((laws_markNetF n r7 1).bind fun r16 => ((laws_heldNetF n r16.2 1).bind fun r17 => (bif (decide (r17 < 0)) then (some false) else (bif (r17 != r16.1) then (some false) else ((laws_toIntSF n x0).bind fun r18 => ((laws_toLinkSF n x2).bind fun r19 => ((impl_NetNewF n r18 x1 r19).bind fun r20 => ((laws_eqNetF n r20 r4).bind fun r21 => (bif (!r21) then (some false) else ((laws_heldNetF n r16.2 1).bind fun r22 => (bif (decide (r22 < 0)) then (some false) else (bif (r22 != r16.1) then (some false) else (some true)))))))))))))))))))))))))))))))))))
noncomputable abbrev G3 (k : Nat) := Rg Tryz.f3 k
theorem laws_FnExactNetNew (n : Nat) (x0 : (List Int)) (x1 : Int) (x2 : (List Link)) (r : Bool) (H : laws_FnExactNetNewF n x0 x1 x2 = some r) : LCall Tryz.prog 3 [.val false [.sl false 1 (CV.frzEs (x0.map intRow))],.val false [.lit (.int .i64 x1)],.val false [.sl false 4 (CV.frzEs (x2.map Link.row))]] [.val false [.lit (.bool r)]] [] := by
 refine LCall.of_body tOk Tryz.func3 rfl (c := (.seq (G3 0) (.seq (.seq (G3 1) (.cond (.tmp 18) (.seq (G3 2) .ret) .skip)) (.seq (G3 3) (.seq (G3 4) (.seq (.seq (G3 5) (.cond (.tmp 23) (.seq (G3 6) .ret) .skip)) (.seq (G3 7) (.seq (G3 8) (.seq (G3 9) (.seq (G3 10) (.seq (.seq (G3 11) (.cond (.tmp 41) (.seq (G3 12) .ret) .skip)) (.seq (.seq (G3 13) (.cond (.tmp 46) (.seq (G3 14) .ret) .skip)) (.seq (.seq (G3 15) (.cond (.tmp 51) (.seq (G3 16) .ret) .skip)) (.seq (G3 17) (.seq (G3 18) (.seq (G3 19) (.seq (.seq (G3 20) (.cond (.tmp 65) (.seq (G3 21) .ret) .skip)) (.seq (G3 22) (.seq (G3 23) (.seq (G3 24) (.seq (G3 25) (.seq (.seq (G3 26) (.cond (.tmp 73) (.seq (G3 27) .ret) .skip)) (.seq (.seq (G3 28) (.cond (.tmp 76) (.seq (G3 29) .ret) .skip)) (.seq (G3 30) (.seq (.seq (G3 31) (.cond (.tmp 86) (.seq (G3 32) .ret) .skip)) (.seq (G3 33) (.seq (G3 34) (.seq (.seq (G3 35) (.cond (.tmp 91) (.seq (G3 36) .ret) .skip)) (.seq (.seq (G3 37) (.cond (.tmp 94) (.seq (G3 38) .ret) .skip)) (.seq (G3 39) .ret)))))))))))))))))))))))))))))) kr (Nat.le_of_ble_eq_true kr) 0 (rs := [.tmp 6]) rfl [] .nil [(false,[.lit (.bool r)])] [] [] fun cx => ?_
 show Tr _ _ _ ⟨95,0,[sC 0 (cF 1 x0 intRow),sI 1 x1,sC 2 (cF 4 x2 Link.row)],[]⟩ _
 unfold laws_FnExactNetNewF at H
 refine tG tOk 1 7 0 kr kr ?_
 refine tS ?_
 refine rU tOk 1 kr ?_
 refine lL tOk 22 3 3 16 17 none ⟨(.slot 16),[],0,false,1,(CV.frzEs (x0.map intRow))⟩ (x0).length _ kr kr kr kr kr (frz_len _ _) rfl ?_
 refine uD tOk 1 262151 0 kr kr ?_
 obtain ⟨h1,H⟩ | ⟨h1,H⟩ := bC H
 ·refine tF h1 kr ?_
  refine tK ?_
  refine tG tOk 1 135 0 kr kr ?_
  refine rU tOk 2 kr ?_
  obtain ⟨r1,er1,H⟩ := bind_some H
  refine lV tOk [.rd,.rd] [] (laws_szLinkS n x2 1048576 r1 er1) kr kr kr kr (.inl rfl) ?_
  refine uD tOk 1 135 0 kr kr ?_
  refine tS ?_
  refine tG tOk 2 8388615 0 kr kr ?_
  obtain ⟨h2,H⟩ | ⟨h2,H⟩ := bC H
  ·refine tF h2 kr ?_
   refine tK ?_
   refine rU tOk 1 kr ?_
   obtain ⟨r2,er2,H⟩ := bind_some H
   refine lV tOk [.rd] [] (laws_toIntS n x0 r2 er2) kr kr kr kr (.inl rfl) ?_
   refine lU tOk 2 kr ?_
   obtain ⟨r3,er3,H⟩ := bind_some H
   refine lV tOk [.rd] [] (laws_toLinkS n x2 r3 er3) kr kr kr kr (.inl rfl) ?_
   obtain ⟨r4,er4,H⟩ := bind_some H
   refine lV tOk [.rd,.rd,.rd] [] (spec_NetNew n r2 x1 r3 r4 er4) kr kr kr kr (.inl rfl) ?_
   refine uD tOk 2 263 256 kr kr ?_
   refine rU tOk 1 kr ?_
   obtain ⟨r5,er5,H⟩ := bind_some H
   refine lV tOk [.rd] [] (laws_toIntS n x0 r5 er5) kr kr kr kr (.inl rfl) ?_
   refine LAt.moveU (T := lk tab) (ty := 22) (x := (.tmp 31)) (d := 9) (g := none) false [cL 1 r5 intRow] kr kr kr kr kr ?_
   refine lD 775 256 kr ?_
   refine rU tOk 1 kr ?_
   obtain ⟨r6,er6,H⟩ := bind_some H
   refine lV tOk [.rd] [] (laws_toLinkS n x2 r6 er6) kr kr kr kr (.inl rfl) ?_
   refine LAt.moveU (T := lk tab) (ty := 26) (x := (.tmp 33)) (d := 10) (g := none) false [cL 4 r6 Link.row] kr kr kr kr kr ?_
   refine lD 1799 256 kr ?_
   refine rU tOk 3 kr ?_
   obtain ⟨r7,er7,H⟩ := bind_some H
   refine lV tOk [.rd,.rd,.rd] [.slot 9,.slot 10] (impl_NetNew n r5 x1 r6 r7 er7) kr kr kr kr (.inr (rets_cons (Net.row_mine _) rets_nil)) ?_
   refine uD tOk 2 3847 2304 kr kr ?_
   refine tS ?_
   refine rU tOk 2 kr ?_
   obtain ⟨r8,er8,H⟩ := bind_some H
   refine lV tOk [.rd,.rd] [.box 11,.box 8] (laws_eqNet n r7 r4 r8 er8) kr kr kr kr (.inr (rets_cons (mine_cons mine_lit mine_nil) rets_nil)) ?_
   refine uD tOk 1 2199023259399 2304 kr kr ?_
   refine tO ⟨95,0,[sB 41 (!r8),sA 11 11 3 0,sC 10 (cL 4 r6 Link.row),sC 9 (cL 1 r5 intRow),sA 8 8 3 0,sC 0 (cF 1 x0 intRow),sI 1 x1,sC 2 (cF 4 x2 Link.row)],[(11,(Net.row r7)),(8,(Net.row r4))]⟩ kr ?_
   cases h3 : (!r8)
   ·have H := bifF h3 H
    refine tf kr ?_
    refine tK ?_
    refine tS ?_
    refine rU tOk 2 kr ?_
    obtain ⟨r9,er9,H⟩ := bind_some H
    refine lV tOk [.rd] [] (laws_toIntS n x0 r9 er9) kr kr kr kr (.inl rfl) ?_
    obtain ⟨r10,er10,H⟩ := bind_some H
    refine lV tOk [.rd,.rd] [.slot 9] (laws_eqIntS n r5 r9 r10 er10) kr kr kr kr (.inr (rets_cons (mine_cons mine_lit mine_nil) rets_nil)) ?_
    refine uD tOk 1 70368744181511 2304 kr kr ?_
    obtain ⟨h4,H⟩ | ⟨h4,H⟩ := bC H
    ·refine tF h4 kr ?_
     refine tK ?_
     refine tS ?_
     refine rU tOk 2 kr ?_
     obtain ⟨r11,er11,H⟩ := bind_some H
     refine lV tOk [.rd] [] (laws_toLinkS n x2 r11 er11) kr kr kr kr (.inl rfl) ?_
     obtain ⟨r12,er12,H⟩ := bind_some H
     refine lV tOk [.rd,.rd] [.slot 10] (laws_eqLinkS n r6 r11 r12 er12) kr kr kr kr (.inr (rets_cons (mine_cons mine_lit mine_nil) rets_nil)) ?_
     refine uD tOk 1 0x8000000000f07 2304 kr kr ?_
     obtain ⟨h5,H⟩ | ⟨h5,H⟩ := bC H
     ·refine tF h5 kr ?_
      refine tK ?_
      refine tG tOk 1 7943 2304 kr kr ?_
      refine rU tOk 2 kr ?_
      obtain ⟨r13,er13,H⟩ := bind_some H
      refine LAt.callL tOk [.lend,.rd] (f := 20) (av := #[.tmp 52,.tmp 53]) (ats := #[22,3]) (d := (some 54)) (ty := 3) (g := none) kr kr kr [] (laws_markIntS n r5 1 r13 er13) kr (.inl rfl) ?_
      refine uD tOk 1 7431 2304 kr kr ?_
      refine rU tOk 2 kr ?_
      obtain ⟨r14,er14,H⟩ := bind_some H
      refine LAt.callL tOk [.lend,.rd] (f := 21) (av := #[.tmp 55,.tmp 56]) (ats := #[26,3]) (d := (some 57)) (ty := 3) (g := none) kr kr kr [] (laws_markLinkS n r6 r13.1 r14 er14) kr (.inl rfl) ?_
      refine uD tOk 1 6407 2304 kr kr ?_
      refine tS ?_
      refine rU tOk 3 kr ?_
      refine lT ⟨95,0,[sB 60 (decide (r14.1 < 0)),sB 59 (decide (r14.1 < 0)),sI 58 r14.1,sI 12 r14.1,sA 11 11 3 0,sA 8 8 3 0,sC 0 (cF 1 x0 intRow),sI 1 x1,sC 2 (cF 4 x2 Link.row)],[(11,(Net.row r7)),(8,(Net.row r4))]⟩ kr ?_
      cases h6 : (decide (r14.1 < 0))
      ·have H := bifF h6 H
       refine lU tOk 2 kr ?_
       obtain ⟨r15,er15,H⟩ := bind_some H
       refine lV tOk [.rd,.rd] [.box 11,.box 8] (laws_eqNet n r7 r4 r15 er15) kr kr kr kr (.inr (rets_cons (mine_cons mine_lit mine_nil) rets_nil)) ?_
       refine uD tOk 2 0x20000000000000907 2304 kr kr ?_
       obtain ⟨h7,H⟩ | ⟨h7,H⟩ := bC H
       ·refine tF h7 kr ?_
        refine tK ?_
        refine tG tOk 1 10503 2304 kr kr ?_
        refine rU tOk 2 kr ?_
        obtain ⟨r16,er16,H⟩ := bind_some H
        refine LAt.callL tOk [.lend,.rd] (f := 22) (av := #[.tmp 66,.tmp 67]) (ats := #[29,3]) (d := (some 68)) (ty := 3) (g := none) kr kr kr [] (laws_markNet n r7 1 r16 er16) kr (.inl rfl) ?_
        refine uD tOk 1 10503 2304 kr kr ?_
        refine tG tOk 1 26887 2304 kr kr ?_
        refine rU tOk 2 kr ?_
        obtain ⟨r17,er17,H⟩ := bind_some H
        refine lV tOk [.rd,.rd] [.box 11] (laws_heldNet n r16.2 1 r17 er17) kr kr kr kr (.inr (rets_cons (mine_cons mine_lit mine_nil) rets_nil)) ?_
        refine uD tOk 1 26887 2304 kr kr ?_
        refine tS ?_
        refine tG tOk 2 0x2000000000000006907 2304 kr kr ?_
        obtain ⟨h8,H⟩ | ⟨h8,H⟩ := bC H
        ·refine tF h8 kr ?_
         refine tK ?_
         refine tS ?_
         refine tG tOk 3 0x10000000000000002907 2304 kr kr ?_
         obtain ⟨h9,H⟩ | ⟨h9,H⟩ := bC H
         ·refine tF h9 kr ?_
          refine tK ?_
          refine rU tOk 1 kr ?_
          obtain ⟨r18,er18,H⟩ := bind_some H
          refine lV tOk [.rd] [] (laws_toIntS n x0 r18 er18) kr kr kr kr (.inl rfl) ?_
          refine lU tOk 2 kr ?_
          obtain ⟨r19,er19,H⟩ := bind_some H
          refine lV tOk [.rd] [] (laws_toLinkS n x2 r19 er19) kr kr kr kr (.inl rfl) ?_
          obtain ⟨r20,er20,H⟩ := bind_some H
          refine lV tOk [.rd,.rd,.rd] [] (impl_NetNew n r18 x1 r19 r20 er20) kr kr kr kr (.inl rfl) ?_
          refine uD tOk 2 43264 35072 kr kr ?_
          refine tS ?_
          refine rU tOk 2 kr ?_
          obtain ⟨r21,er21,H⟩ := bind_some H
          refine lV tOk [.rd,.rd] [.box 15,.box 8] (laws_eqNet n r20 r4 r21 er21) kr kr kr kr (.inr (rets_cons (mine_cons mine_lit mine_nil) rets_nil)) ?_
          refine uD tOk 1 0x4000000000000000002800 2048 kr kr ?_
          refine tO ⟨95,0,[sB 86 (!r21),sI 13 r16.1,sA 11 11 3 0],[(11,(Net.row r16.2))]⟩ kr ?_
          cases h10 : (!r21)
          ·have H := bifF h10 H
           refine tf kr ?_
           refine tK ?_
           refine tG tOk 1 26624 2048 kr kr ?_
           refine rU tOk 2 kr ?_
           obtain ⟨r22,er22,H⟩ := bind_some H
           refine lV tOk [.rd,.rd] [.box 11] (laws_heldNet n r16.2 1 r22 er22) kr kr kr kr (.inr (rets_cons (mine_cons mine_lit mine_nil) rets_nil)) ?_
           refine uD tOk 1 24576 0 kr kr ?_
           refine tS ?_
           refine tG tOk 2 0x80000000000000000006000 0 kr kr ?_
           obtain ⟨h11,H⟩ | ⟨h11,H⟩ := bC H
           ·refine tF h11 kr ?_
            refine tK ?_
            refine tS ?_
            refine tG tOk 3 0x400000000000000000000000 0 kr kr ?_
            obtain ⟨h12,H⟩ | ⟨h12,H⟩ := bC H
            ·refine tF h12 kr ?_
             refine tK ?_
             refine tG tOk 1 64 0 kr kr ?_
             exact te (by obtain rfl := si H; exact fO [(false,[cB true])] kr rfl rfl)
            refine tT h12 kr ?_
            refine tG tOk 1 64 0 kr kr ?_
            exact te (by obtain rfl := si H; exact fO [(false,[cB false])] kr rfl rfl)
           refine tT h11 kr ?_
           refine tG tOk 1 64 0 kr kr ?_
           exact te (by obtain rfl := si H; exact fO [(false,[cB false])] kr rfl rfl)
          have H := bifT h10 H
          refine tt kr ?_
          refine tG tOk 1 64 0 kr kr ?_
          exact te (by obtain rfl := si H; exact fO [(false,[cB false])] kr rfl rfl)
         refine tT h9 kr ?_
         refine tG tOk 1 64 0 kr kr ?_
         exact te (by obtain rfl := si H; exact fO [(false,[cB false])] kr rfl rfl)
        refine tT h8 kr ?_
        refine tG tOk 1 64 0 kr kr ?_
        exact te (by obtain rfl := si H; exact fO [(false,[cB false])] kr rfl rfl)
       refine tT h7 kr ?_
       refine tG tOk 1 64 0 kr kr ?_
       exact te (by obtain rfl := si H; exact fO [(false,[cB false])] kr rfl rfl)
      have H := bifT h6 H
      refine uD tOk 5 0x20000000000000907 2304 kr kr ?_
      refine tt kr ?_
      refine tG tOk 1 64 0 kr kr ?_
      exact te (by obtain rfl := si H; exact fO [(false,[cB false])] kr rfl rfl)
     refine tT h5 kr ?_
     refine tG tOk 1 64 0 kr kr ?_
     exact te (by obtain rfl := si H; exact fO [(false,[cB false])] kr rfl rfl)
    refine tT h4 kr ?_
    refine tG tOk 1 64 0 kr kr ?_
    exact te (by obtain rfl := si H; exact fO [(false,[cB false])] kr rfl rfl)
   have H := bifT h3 H
   refine tt kr ?_
   refine tG tOk 1 64 0 kr kr ?_
   exact te (by obtain rfl := si H; exact fO [(false,[cB false])] kr rfl rfl)
  refine tT h2 kr ?_
  refine tG tOk 1 64 0 kr kr ?_
  exact te (by obtain rfl := si H; exact fO [(false,[cB true])] kr rfl rfl)
 refine tT h1 kr ?_
 refine tG tOk 1 64 0 kr kr ?_
 exact te (by obtain rfl := si H; exact fO [(false,[cB true])] kr rfl rfl)
end Go.Proofs.YtibocmoaaahjfaaGreat.Tw
