import Derived.Test.YtibocmoaaahjfaaGreatProg
import Derived.Test.YtibocmoaaahjfaaGreatTlRule
import Derived.Test.YtibocmoaaahjfaaGreatTlU8
import Derived.Test.YtibocmoaaahjfaaGreatTwRS2
import Derived.WalkKit
set_option linter.unusedVariables false
set_option linter.unusedSimpArgs false
set_option maxRecDepth 100000
set_option maxHeartbeats 1000000
namespace Go.Proofs.YtibocmoaaahjfaaGreat.Tw
open Go Go.TL Go.Proofs
def laws_markBridgeS_J1 (n : Nat) (y4 : (List Bridge)) (y5 : Int) : Option (Int × (List Bridge)) :=
  (some (y5,y4))
def laws_markBridgeS_L2 (n : Nat) : Nat → Int → (List Bridge) → Int → Option (((List Bridge) × Int) ⊕ (Int × (List Bridge)))
  | 0,_,_,_ => none
  | mo6 + 1,y1,y2,y3 => (bif (decide (y1 < (y2.length : Int))) then ((idx y2 y1).bind fun v7 => ((laws_markTextF n (IntKind.wrap .i64 (y3 + 1))).bind fun r8 => ((idx (y2.set (y1.toNat) (⟨y3,v7.Name,v7.Ports,v7.F,v7.V,v7.Ticks,v7.Parse,v7.Word,v7.Drops,v7.Vers⟩ : Bridge)) y1).bind fun v9 => ((idx ((y2.set (y1.toNat) (⟨y3,v7.Name,v7.Ports,v7.F,v7.V,v7.Ticks,v7.Parse,v7.Word,v7.Drops,v7.Vers⟩ : Bridge)).set (y1.toNat) (⟨v9.Id,r8,v9.Ports,v9.F,v9.V,v9.Ticks,v9.Parse,v9.Word,v9.Drops,v9.Vers⟩ : Bridge)) y1).bind fun v10 => ((laws_markPtSF n v10.Ports (IntKind.wrap .i64 ((IntKind.wrap .i64 (y3 + 1)) + 1))).bind fun r11 => ((idx (((y2.set (y1.toNat) (⟨y3,v7.Name,v7.Ports,v7.F,v7.V,v7.Ticks,v7.Parse,v7.Word,v7.Drops,v7.Vers⟩ : Bridge)).set (y1.toNat) (⟨v9.Id,r8,v9.Ports,v9.F,v9.V,v9.Ticks,v9.Parse,v9.Word,v9.Drops,v9.Vers⟩ : Bridge)).set (y1.toNat) (⟨v10.Id,v10.Name,r11.2,v10.F,v10.V,v10.Ticks,v10.Parse,v10.Word,v10.Drops,v10.Vers⟩ : Bridge)) y1).bind fun v12 => ((laws_markFentSF n v12.F r11.1).bind fun r13 => ((idx ((((y2.set (y1.toNat) (⟨y3,v7.Name,v7.Ports,v7.F,v7.V,v7.Ticks,v7.Parse,v7.Word,v7.Drops,v7.Vers⟩ : Bridge)).set (y1.toNat) (⟨v9.Id,r8,v9.Ports,v9.F,v9.V,v9.Ticks,v9.Parse,v9.Word,v9.Drops,v9.Vers⟩ : Bridge)).set (y1.toNat) (⟨v10.Id,v10.Name,r11.2,v10.F,v10.V,v10.Ticks,v10.Parse,v10.Word,v10.Drops,v10.Vers⟩ : Bridge)).set (y1.toNat) (⟨v12.Id,v12.Name,v12.Ports,r13.2,v12.V,v12.Ticks,v12.Parse,v12.Word,v12.Drops,v12.Vers⟩ : Bridge)) y1).bind fun v14 => ((laws_markVrowSF n v14.V.Rows r13.1).bind fun r15 => ((idx (((((y2.set (y1.toNat) (⟨y3,v7.Name,v7.Ports,v7.F,v7.V,v7.Ticks,v7.Parse,v7.Word,v7.Drops,v7.Vers⟩ : Bridge)).set (y1.toNat) (⟨v9.Id,r8,v9.Ports,v9.F,v9.V,v9.Ticks,v9.Parse,v9.Word,v9.Drops,v9.Vers⟩ : Bridge)).set (y1.toNat) (⟨v10.Id,v10.Name,r11.2,v10.F,v10.V,v10.Ticks,v10.Parse,v10.Word,v10.Drops,v10.Vers⟩ : Bridge)).set (y1.toNat) (⟨v12.Id,v12.Name,v12.Ports,r13.2,v12.V,v12.Ticks,v12.Parse,v12.Word,v12.Drops,v12.Vers⟩ : Bridge)).set (y1.toNat) (⟨v14.Id,v14.Name,v14.Ports,v14.F,(⟨r15.2,v14.V.Pvid⟩ : Vtab),v14.Ticks,v14.Parse,v14.Word,v14.Drops,v14.Vers⟩ : Bridge)) y1).bind fun v16 => ((laws_markIntSF n v16.V.Pvid r15.1).bind fun r17 => ((idx ((((((y2.set (y1.toNat) (⟨y3,v7.Name,v7.Ports,v7.F,v7.V,v7.Ticks,v7.Parse,v7.Word,v7.Drops,v7.Vers⟩ : Bridge)).set (y1.toNat) (⟨v9.Id,r8,v9.Ports,v9.F,v9.V,v9.Ticks,v9.Parse,v9.Word,v9.Drops,v9.Vers⟩ : Bridge)).set (y1.toNat) (⟨v10.Id,v10.Name,r11.2,v10.F,v10.V,v10.Ticks,v10.Parse,v10.Word,v10.Drops,v10.Vers⟩ : Bridge)).set (y1.toNat) (⟨v12.Id,v12.Name,v12.Ports,r13.2,v12.V,v12.Ticks,v12.Parse,v12.Word,v12.Drops,v12.Vers⟩ : Bridge)).set (y1.toNat) (⟨v14.Id,v14.Name,v14.Ports,v14.F,(⟨r15.2,v14.V.Pvid⟩ : Vtab),v14.Ticks,v14.Parse,v14.Word,v14.Drops,v14.Vers⟩ : Bridge)).set (y1.toNat) (⟨v16.Id,v16.Name,v16.Ports,v16.F,(⟨v16.V.Rows,r17.2⟩ : Vtab),v16.Ticks,v16.Parse,v16.Word,v16.Drops,v16.Vers⟩ : Bridge)) y1).bind fun v18 => ((idx (((((((y2.set (y1.toNat) (⟨y3,v7.Name,v7.Ports,v7.F,v7.V,v7.Ticks,v7.Parse,v7.Word,v7.Drops,v7.Vers⟩ : Bridge)).set (y1.toNat) (⟨v9.Id,r8,v9.Ports,v9.F,v9.V,v9.Ticks,v9.Parse,v9.Word,v9.Drops,v9.Vers⟩ : Bridge)).set (y1.toNat) (⟨v10.Id,v10.Name,r11.2,v10.F,v10.V,v10.Ticks,v10.Parse,v10.Word,v10.Drops,v10.Vers⟩ : Bridge)).set (y1.toNat) (⟨v12.Id,v12.Name,v12.Ports,r13.2,v12.V,v12.Ticks,v12.Parse,v12.Word,v12.Drops,v12.Vers⟩ : Bridge)).set (y1.toNat) (⟨v14.Id,v14.Name,v14.Ports,v14.F,(⟨r15.2,v14.V.Pvid⟩ : Vtab),v14.Ticks,v14.Parse,v14.Word,v14.Drops,v14.Vers⟩ : Bridge)).set (y1.toNat) (⟨v16.Id,v16.Name,v16.Ports,v16.F,(⟨v16.V.Rows,r17.2⟩ : Vtab),v16.Ticks,v16.Parse,v16.Word,v16.Drops,v16.Vers⟩ : Bridge)).set (y1.toNat) (⟨v18.Id,v18.Name,v18.Ports,v18.F,v18.V,r17.1,v18.Parse,v18.Word,v18.Drops,v18.Vers⟩ : Bridge)) y1).bind fun v19 => ((idx ((((((((y2.set (y1.toNat) (⟨y3,v7.Name,v7.Ports,v7.F,v7.V,v7.Ticks,v7.Parse,v7.Word,v7.Drops,v7.Vers⟩ : Bridge)).set (y1.toNat) (⟨v9.Id,r8,v9.Ports,v9.F,v9.V,v9.Ticks,v9.Parse,v9.Word,v9.Drops,v9.Vers⟩ : Bridge)).set (y1.toNat) (⟨v10.Id,v10.Name,r11.2,v10.F,v10.V,v10.Ticks,v10.Parse,v10.Word,v10.Drops,v10.Vers⟩ : Bridge)).set (y1.toNat) (⟨v12.Id,v12.Name,v12.Ports,r13.2,v12.V,v12.Ticks,v12.Parse,v12.Word,v12.Drops,v12.Vers⟩ : Bridge)).set (y1.toNat) (⟨v14.Id,v14.Name,v14.Ports,v14.F,(⟨r15.2,v14.V.Pvid⟩ : Vtab),v14.Ticks,v14.Parse,v14.Word,v14.Drops,v14.Vers⟩ : Bridge)).set (y1.toNat) (⟨v16.Id,v16.Name,v16.Ports,v16.F,(⟨v16.V.Rows,r17.2⟩ : Vtab),v16.Ticks,v16.Parse,v16.Word,v16.Drops,v16.Vers⟩ : Bridge)).set (y1.toNat) (⟨v18.Id,v18.Name,v18.Ports,v18.F,v18.V,r17.1,v18.Parse,v18.Word,v18.Drops,v18.Vers⟩ : Bridge)).set (y1.toNat) (⟨v19.Id,v19.Name,v19.Ports,v19.F,v19.V,v19.Ticks,(IntKind.wrap .i64 (r17.1 + 1)),v19.Word,v19.Drops,v19.Vers⟩ : Bridge)) y1).bind fun v20 => ((idx (((((((((y2.set (y1.toNat) (⟨y3,v7.Name,v7.Ports,v7.F,v7.V,v7.Ticks,v7.Parse,v7.Word,v7.Drops,v7.Vers⟩ : Bridge)).set (y1.toNat) (⟨v9.Id,r8,v9.Ports,v9.F,v9.V,v9.Ticks,v9.Parse,v9.Word,v9.Drops,v9.Vers⟩ : Bridge)).set (y1.toNat) (⟨v10.Id,v10.Name,r11.2,v10.F,v10.V,v10.Ticks,v10.Parse,v10.Word,v10.Drops,v10.Vers⟩ : Bridge)).set (y1.toNat) (⟨v12.Id,v12.Name,v12.Ports,r13.2,v12.V,v12.Ticks,v12.Parse,v12.Word,v12.Drops,v12.Vers⟩ : Bridge)).set (y1.toNat) (⟨v14.Id,v14.Name,v14.Ports,v14.F,(⟨r15.2,v14.V.Pvid⟩ : Vtab),v14.Ticks,v14.Parse,v14.Word,v14.Drops,v14.Vers⟩ : Bridge)).set (y1.toNat) (⟨v16.Id,v16.Name,v16.Ports,v16.F,(⟨v16.V.Rows,r17.2⟩ : Vtab),v16.Ticks,v16.Parse,v16.Word,v16.Drops,v16.Vers⟩ : Bridge)).set (y1.toNat) (⟨v18.Id,v18.Name,v18.Ports,v18.F,v18.V,r17.1,v18.Parse,v18.Word,v18.Drops,v18.Vers⟩ : Bridge)).set (y1.toNat) (⟨v19.Id,v19.Name,v19.Ports,v19.F,v19.V,v19.Ticks,(IntKind.wrap .i64 (r17.1 + 1)),v19.Word,v19.Drops,v19.Vers⟩ : Bridge)).set (y1.toNat) (⟨v20.Id,v20.Name,v20.Ports,v20.F,v20.V,v20.Ticks,v20.Parse,(IntKind.wrap .i64 ((IntKind.wrap .i64 (r17.1 + 1)) + 1)),v20.Drops,v20.Vers⟩ : Bridge)) y1).bind fun v21 => ((idx ((((((((((y2.set (y1.toNat) (⟨y3,v7.Name,v7.Ports,v7.F,v7.V,v7.Ticks,v7.Parse,v7.Word,v7.Drops,v7.Vers⟩ : Bridge)).set (y1.toNat) (⟨v9.Id,r8,v9.Ports,v9.F,v9.V,v9.Ticks,v9.Parse,v9.Word,v9.Drops,v9.Vers⟩ : Bridge)).set (y1.toNat) (⟨v10.Id,v10.Name,r11.2,v10.F,v10.V,v10.Ticks,v10.Parse,v10.Word,v10.Drops,v10.Vers⟩ : Bridge)).set (y1.toNat) (⟨v12.Id,v12.Name,v12.Ports,r13.2,v12.V,v12.Ticks,v12.Parse,v12.Word,v12.Drops,v12.Vers⟩ : Bridge)).set (y1.toNat) (⟨v14.Id,v14.Name,v14.Ports,v14.F,(⟨r15.2,v14.V.Pvid⟩ : Vtab),v14.Ticks,v14.Parse,v14.Word,v14.Drops,v14.Vers⟩ : Bridge)).set (y1.toNat) (⟨v16.Id,v16.Name,v16.Ports,v16.F,(⟨v16.V.Rows,r17.2⟩ : Vtab),v16.Ticks,v16.Parse,v16.Word,v16.Drops,v16.Vers⟩ : Bridge)).set (y1.toNat) (⟨v18.Id,v18.Name,v18.Ports,v18.F,v18.V,r17.1,v18.Parse,v18.Word,v18.Drops,v18.Vers⟩ : Bridge)).set (y1.toNat) (⟨v19.Id,v19.Name,v19.Ports,v19.F,v19.V,v19.Ticks,(IntKind.wrap .i64 (r17.1 + 1)),v19.Word,v19.Drops,v19.Vers⟩ : Bridge)).set (y1.toNat) (⟨v20.Id,v20.Name,v20.Ports,v20.F,v20.V,v20.Ticks,v20.Parse,(IntKind.wrap .i64 ((IntKind.wrap .i64 (r17.1 + 1)) + 1)),v20.Drops,v20.Vers⟩ : Bridge)).set (y1.toNat) (⟨v21.Id,v21.Name,v21.Ports,v21.F,v21.V,v21.Ticks,v21.Parse,v21.Word,(IntKind.wrap .i64 ((IntKind.wrap .i64 ((IntKind.wrap .i64 (r17.1 + 1)) + 1)) + 1)),v21.Vers⟩ : Bridge)) y1).bind fun v22 => (laws_markBridgeS_L2 n mo6 (IntKind.wrap .i64 (y1 + 1)) (((((((((((y2.set (y1.toNat) (⟨y3,v7.Name,v7.Ports,v7.F,v7.V,v7.Ticks,v7.Parse,v7.Word,v7.Drops,v7.Vers⟩ : Bridge)).set (y1.toNat) (⟨v9.Id,r8,v9.Ports,v9.F,v9.V,v9.Ticks,v9.Parse,v9.Word,v9.Drops,v9.Vers⟩ : Bridge)).set (y1.toNat) (⟨v10.Id,v10.Name,r11.2,v10.F,v10.V,v10.Ticks,v10.Parse,v10.Word,v10.Drops,v10.Vers⟩ : Bridge)).set (y1.toNat) (⟨v12.Id,v12.Name,v12.Ports,r13.2,v12.V,v12.Ticks,v12.Parse,v12.Word,v12.Drops,v12.Vers⟩ : Bridge)).set (y1.toNat) (⟨v14.Id,v14.Name,v14.Ports,v14.F,(⟨r15.2,v14.V.Pvid⟩ : Vtab),v14.Ticks,v14.Parse,v14.Word,v14.Drops,v14.Vers⟩ : Bridge)).set (y1.toNat) (⟨v16.Id,v16.Name,v16.Ports,v16.F,(⟨v16.V.Rows,r17.2⟩ : Vtab),v16.Ticks,v16.Parse,v16.Word,v16.Drops,v16.Vers⟩ : Bridge)).set (y1.toNat) (⟨v18.Id,v18.Name,v18.Ports,v18.F,v18.V,r17.1,v18.Parse,v18.Word,v18.Drops,v18.Vers⟩ : Bridge)).set (y1.toNat) (⟨v19.Id,v19.Name,v19.Ports,v19.F,v19.V,v19.Ticks,(IntKind.wrap .i64 (r17.1 + 1)),v19.Word,v19.Drops,v19.Vers⟩ : Bridge)).set (y1.toNat) (⟨v20.Id,v20.Name,v20.Ports,v20.F,v20.V,v20.Ticks,v20.Parse,(IntKind.wrap .i64 ((IntKind.wrap .i64 (r17.1 + 1)) + 1)),v20.Drops,v20.Vers⟩ : Bridge)).set (y1.toNat) (⟨v21.Id,v21.Name,v21.Ports,v21.F,v21.V,v21.Ticks,v21.Parse,v21.Word,(IntKind.wrap .i64 ((IntKind.wrap .i64 ((IntKind.wrap .i64 (r17.1 + 1)) + 1)) + 1)),v21.Vers⟩ : Bridge)).set (y1.toNat) (⟨v22.Id,v22.Name,v22.Ports,v22.F,v22.V,v22.Ticks,v22.Parse,v22.Word,v22.Drops,(IntKind.wrap .i64 ((IntKind.wrap .i64 ((IntKind.wrap .i64 ((IntKind.wrap .i64 (r17.1 + 1)) + 1)) + 1)) + 1))⟩ : Bridge)) (IntKind.wrap .i64 ((IntKind.wrap .i64 ((IntKind.wrap .i64 ((IntKind.wrap .i64 ((IntKind.wrap .i64 (r17.1 + 1)) + 1)) + 1)) + 1)) + 1))))))))))))))))))) else (some (Sum.inl (y2,y3))))
def laws_markBridgeSF (n : Nat) (x0 : (List Bridge)) (x1 : Int) : Option (Int × (List Bridge)) :=
  ((laws_markBridgeS_L2 n n 0 x0 x1).bind fun o => match o with | .inl (y4,y5) => (laws_markBridgeS_J1 n y4 y5) | .inr r => some r)
noncomputable abbrev G86 (k : Nat) := Rg Tryz.f86 k
theorem laws_markBridgeS (n : Nat) (x0 : (List Bridge)) (x1 : Int) (r : Int × (List Bridge)) (H : laws_markBridgeSF n x0 x1 = some r) : LCall Tryz.prog 86 [.io false [.sl true 11 (x0.map Bridge.row)],.val false [.lit (.int .i64 x1)]] [.val false [.lit (.int .i64 r.1)]] [(0,[.sl true 11 (r.2.map Bridge.row)])] := by
 refine LCall.of_body tOk Tryz.func86 rfl (c := (.seq (G86 0) (.seq (.seq (G86 1) (.block 0 (.loop (.seq (.seq (G86 2) (.cond (.tmp 9) .skip (.exit 0))) (.seq (.block 1 (.seq (G86 4) (.seq (G86 5) (.seq (G86 6) (.seq (G86 7) (.seq (G86 8) (.seq (G86 9) (.seq (G86 10) (.seq (G86 11) (.seq (G86 12) (.seq (G86 13) (.seq (G86 14) (.seq (G86 15) (.seq (G86 16) (.seq (G86 17) (.seq (G86 18) (.seq (G86 19) (.seq (G86 20) (G86 21))))))))))))))))))) (G86 3)))))) (.seq (G86 22) .ret)))) kr (Nat.le_of_ble_eq_true kr) 1 (rs := [.tmp 4]) rfl [0] (by decide) [(false,[.lit (.int .i64 r.1)])] [[.sl true 11 (r.2.map Bridge.row)]] [] fun cx => ?_
 show Tr _ _ _ ⟨93,1,[sC 0 (cL 11 x0 Bridge.row),sI 1 x1],[]⟩ _
 unfold laws_markBridgeSF at H
 refine tG 1 3 0 kr kr ?_
 refine tS ?_
 refine tG 1 35 0 kr kr ?_
 obtain ⟨o6,eo6,Ho6⟩ := bind_some H
 clear H
 refine Tr.mid (ι := (List Bridge) × Int) (fun v => ⟨93,1,[sC 0 (cL 11 v.1 Bridge.row),sI 1 v.2],[]⟩) (fun v => laws_markBridgeS_J1 n v.1 v.2 = some r) ?_ ?_
 ·refine tB ?_
  refine Tr.loop (ι := Nat × (Int × (List Bridge) × Int)) (fun v => ⟨93,1,[sI 5 v.2.1,sC 0 (cL 11 v.2.2.1 Bridge.row),sI 1 v.2.2.2],[]⟩) (fun v => laws_markBridgeS_L2 n v.1 v.2.1 v.2.2.1 v.2.2.2 = some o6) (fun v => v.1) (n,(0,x0,x1)) eo6 (St.sub_of [5,0,1] [] kr) ?_
  rintro ⟨mo6,y1,y2,y3⟩ H
  have H : laws_markBridgeS_L2 n mo6 y1 y2 y3 = some o6 := H
  obtain _ | mo6 := mo6
  ·cases (show (none : Option _) = some o6 from H)
  rw [laws_markBridgeS_L2] at H
  refine tS ?_
  refine rU 2 kr ?_
  refine lL 25 3 58 7 8 none ⟨(.slot 0),[],0,true,11,(y2.map Bridge.row)⟩ (y2).length _ kr kr kr kr kr (map_len _ _) rfl ?_
  refine uD 1 547 0 kr kr ?_
  obtain ⟨h1,H⟩ | ⟨h1,H⟩ := bC H
  ·refine tF h1 kr ?_
   refine Tr.exit ?_
   refine And.intro (fun _ => ?_) (fun h => absurd rfl h)
   obtain rfl := si H
   have H := Ho6
   dsimp only at H
   exact jn (y2,y3) H (sB_ [0,1] [] kr)
  refine tT h1 kr ?_
  refine tK ?_
  refine tS ?_
  refine tB ?_
  refine rU 3 kr ?_
  obtain ⟨v7,ev7,H⟩ := bind_some H
  refine lO 25 0 12 13 15 none ⟨(.slot 0),[],0,true,11,(y2.map Bridge.row)⟩ y1 (y1.toNat) (Bridge.row v7) _ kr kr kr kr rfl kr (idx_isE ev7) rfl rfl ?_
  refine lU 1 kr ?_
  refine lW (t := 3) (ty := 0) (ad := (.tmp 16)) (x := (.tmp 14)) (g := none) (tI 3) false [cI y3] 0 0 (y1.toNat) 11 0 11 y2 Bridge.row v7 (⟨y3,v7.Name,v7.Ports,v7.F,v7.V,v7.Ticks,v7.Parse,v7.Word,v7.Drops,v7.Vers⟩ : Bridge) kr kr kr kr kr kr kr kr (idx_get ev7).2 kr kr kr kr ?_
  refine lD 35 0 kr ?_
  refine tG 3 35 0 kr kr ?_
  refine rU 3 kr ?_
  obtain ⟨r8,er8,H⟩ := bind_some H
  refine lV [.rd] [] (laws_markText n (w6 (y3 + 1)) r8 er8) kr kr kr kr (.inl rfl) ?_
  obtain ⟨v9,ev9,H⟩ := bind_some H
  refine lO 25 0 19 20 23 none ⟨(.slot 0),[],0,true,11,((y2.set (y1.toNat) (⟨y3,v7.Name,v7.Ports,v7.F,v7.V,v7.Ticks,v7.Parse,v7.Word,v7.Drops,v7.Vers⟩ : Bridge)).map Bridge.row)⟩ y1 (y1.toNat) (Bridge.row v9) _ kr kr kr kr rfl kr (idx_isE ev9) rfl rfl ?_
  refine lU 1 kr ?_
  refine lW (t := 9) (ty := 0) (ad := (.tmp 24)) (x := (.tmp 22)) (g := none) (tI 9) false [cS r8] 0 0 (y1.toNat) 11 1 11 (y2.set (y1.toNat) (⟨y3,v7.Name,v7.Ports,v7.F,v7.V,v7.Ticks,v7.Parse,v7.Word,v7.Drops,v7.Vers⟩ : Bridge)) Bridge.row v9 (⟨v9.Id,r8,v9.Ports,v9.F,v9.V,v9.Ticks,v9.Parse,v9.Word,v9.Drops,v9.Vers⟩ : Bridge) kr kr kr kr kr kr kr kr (idx_get ev9).2 kr kr kr kr ?_
  refine lD 35 0 kr ?_
  refine tG 3 35 0 kr kr ?_
  refine rU 2 kr ?_
  obtain ⟨v10,ev10,H⟩ := bind_some H
  refine lO 25 0 27 28 29 none ⟨(.slot 0),[],0,true,11,(((y2.set (y1.toNat) (⟨y3,v7.Name,v7.Ports,v7.F,v7.V,v7.Ticks,v7.Parse,v7.Word,v7.Drops,v7.Vers⟩ : Bridge)).set (y1.toNat) (⟨v9.Id,r8,v9.Ports,v9.F,v9.V,v9.Ticks,v9.Parse,v9.Word,v9.Drops,v9.Vers⟩ : Bridge)).map Bridge.row)⟩ y1 (y1.toNat) (Bridge.row v10) _ kr kr kr kr rfl kr (idx_isE ev10) rfl rfl ?_
  refine lU 1 kr ?_
  refine LAt.loadE tOk (t := 52) (ty := 52) (x := (.tmp 30)) (d := 31) (g := none) (tI 52) (.slot 0) [(0,(y1.toNat))] 11 2 [cL 11 ((y2.set (y1.toNat) (⟨y3,v7.Name,v7.Ports,v7.F,v7.V,v7.Ticks,v7.Parse,v7.Word,v7.Drops,v7.Vers⟩ : Bridge)).set (y1.toNat) (⟨v9.Id,r8,v9.Ports,v9.F,v9.V,v9.Ticks,v9.Parse,v9.Word,v9.Drops,v9.Vers⟩ : Bridge)) Bridge.row] (Bridge.row v10) _ kr kr kr kr kr (getQ_elem rfl (idx_get ev10).2) rfl (by intro h; cases h) kr kr rfl ?_
  refine lU 1 kr ?_
  obtain ⟨r11,er11,H⟩ := bind_some H
  refine LAt.callO tOk [.lend,.rd] (f := 122) (av := #[.tmp 31,.tmp 32]) (ats := #[52,3]) (d := (some 33)) (ty := 3) (g := none) [(31,Bridge.row v10)] (some [cL 11 (((y2.set (y1.toNat) (⟨y3,v7.Name,v7.Ports,v7.F,v7.V,v7.Ticks,v7.Parse,v7.Word,v7.Drops,v7.Vers⟩ : Bridge)).set (y1.toNat) (⟨v9.Id,r8,v9.Ports,v9.F,v9.V,v9.Ticks,v9.Parse,v9.Word,v9.Drops,v9.Vers⟩ : Bridge)).set (y1.toNat) (⟨v10.Id,v10.Name,r11.2,v10.F,v10.V,v10.Ticks,v10.Parse,v10.Word,v10.Drops,v10.Vers⟩ : Bridge)) Bridge.row]) kr kr kr [] (laws_markPtS n v10.Ports (w6 ((w6 (y3 + 1)) + 1)) r11 er11) (orc_cons (row := [cL 11 ((y2.set (y1.toNat) (⟨y3,v7.Name,v7.Ports,v7.F,v7.V,v7.Ticks,v7.Parse,v7.Word,v7.Drops,v7.Vers⟩ : Bridge)).set (y1.toNat) (⟨v9.Id,r8,v9.Ports,v9.F,v9.V,v9.Ticks,v9.Parse,v9.Word,v9.Drops,v9.Vers⟩ : Bridge)) Bridge.row]) (q := [(0,(y1.toNat))]) kr (getQ_elem rfl (idx_get ev10).2) orc_nil) kr (nr_some [cL 11 ((y2.set (y1.toNat) (⟨y3,v7.Name,v7.Ports,v7.F,v7.V,v7.Ticks,v7.Parse,v7.Word,v7.Drops,v7.Vers⟩ : Bridge)).set (y1.toNat) (⟨v9.Id,r8,v9.Ports,v9.F,v9.V,v9.Ticks,v9.Parse,v9.Word,v9.Drops,v9.Vers⟩ : Bridge)) Bridge.row] [(0,(y1.toNat))] false 2 [cL 8 r11.2 Pt.row] kr (modQ_elem (new := (⟨v10.Id,v10.Name,r11.2,v10.F,v10.V,v10.Ticks,v10.Parse,v10.Word,v10.Drops,v10.Vers⟩ : Bridge)) rfl (idx_get ev10).2 rfl)) (.inl rfl) ?_
  refine uD 1 35 0 kr kr ?_
  refine rU 2 kr ?_
  obtain ⟨v12,ev12,H⟩ := bind_some H
  refine lO 25 0 34 35 36 none ⟨(.slot 0),[],0,true,11,((((y2.set (y1.toNat) (⟨y3,v7.Name,v7.Ports,v7.F,v7.V,v7.Ticks,v7.Parse,v7.Word,v7.Drops,v7.Vers⟩ : Bridge)).set (y1.toNat) (⟨v9.Id,r8,v9.Ports,v9.F,v9.V,v9.Ticks,v9.Parse,v9.Word,v9.Drops,v9.Vers⟩ : Bridge)).set (y1.toNat) (⟨v10.Id,v10.Name,r11.2,v10.F,v10.V,v10.Ticks,v10.Parse,v10.Word,v10.Drops,v10.Vers⟩ : Bridge)).map Bridge.row)⟩ y1 (y1.toNat) (Bridge.row v12) _ kr kr kr kr rfl kr (idx_isE ev12) rfl rfl ?_
  refine lU 1 kr ?_
  refine LAt.loadE tOk (t := 53) (ty := 53) (x := (.tmp 37)) (d := 38) (g := none) (tI 53) (.slot 0) [(0,(y1.toNat))] 11 3 [cL 11 (((y2.set (y1.toNat) (⟨y3,v7.Name,v7.Ports,v7.F,v7.V,v7.Ticks,v7.Parse,v7.Word,v7.Drops,v7.Vers⟩ : Bridge)).set (y1.toNat) (⟨v9.Id,r8,v9.Ports,v9.F,v9.V,v9.Ticks,v9.Parse,v9.Word,v9.Drops,v9.Vers⟩ : Bridge)).set (y1.toNat) (⟨v10.Id,v10.Name,r11.2,v10.F,v10.V,v10.Ticks,v10.Parse,v10.Word,v10.Drops,v10.Vers⟩ : Bridge)) Bridge.row] (Bridge.row v12) _ kr kr kr kr kr (getQ_elem rfl (idx_get ev12).2) rfl (by intro h; cases h) kr kr rfl ?_
  refine lU 1 kr ?_
  obtain ⟨r13,er13,H⟩ := bind_some H
  refine LAt.callO tOk [.lend,.rd] (f := 123) (av := #[.tmp 38,.tmp 39]) (ats := #[53,3]) (d := (some 40)) (ty := 3) (g := none) [(38,Bridge.row v12)] (some [cL 11 ((((y2.set (y1.toNat) (⟨y3,v7.Name,v7.Ports,v7.F,v7.V,v7.Ticks,v7.Parse,v7.Word,v7.Drops,v7.Vers⟩ : Bridge)).set (y1.toNat) (⟨v9.Id,r8,v9.Ports,v9.F,v9.V,v9.Ticks,v9.Parse,v9.Word,v9.Drops,v9.Vers⟩ : Bridge)).set (y1.toNat) (⟨v10.Id,v10.Name,r11.2,v10.F,v10.V,v10.Ticks,v10.Parse,v10.Word,v10.Drops,v10.Vers⟩ : Bridge)).set (y1.toNat) (⟨v12.Id,v12.Name,v12.Ports,r13.2,v12.V,v12.Ticks,v12.Parse,v12.Word,v12.Drops,v12.Vers⟩ : Bridge)) Bridge.row]) kr kr kr [] (laws_markFentS n v12.F r11.1 r13 er13) (orc_cons (row := [cL 11 (((y2.set (y1.toNat) (⟨y3,v7.Name,v7.Ports,v7.F,v7.V,v7.Ticks,v7.Parse,v7.Word,v7.Drops,v7.Vers⟩ : Bridge)).set (y1.toNat) (⟨v9.Id,r8,v9.Ports,v9.F,v9.V,v9.Ticks,v9.Parse,v9.Word,v9.Drops,v9.Vers⟩ : Bridge)).set (y1.toNat) (⟨v10.Id,v10.Name,r11.2,v10.F,v10.V,v10.Ticks,v10.Parse,v10.Word,v10.Drops,v10.Vers⟩ : Bridge)) Bridge.row]) (q := [(0,(y1.toNat))]) kr (getQ_elem rfl (idx_get ev12).2) orc_nil) kr (nr_some [cL 11 (((y2.set (y1.toNat) (⟨y3,v7.Name,v7.Ports,v7.F,v7.V,v7.Ticks,v7.Parse,v7.Word,v7.Drops,v7.Vers⟩ : Bridge)).set (y1.toNat) (⟨v9.Id,r8,v9.Ports,v9.F,v9.V,v9.Ticks,v9.Parse,v9.Word,v9.Drops,v9.Vers⟩ : Bridge)).set (y1.toNat) (⟨v10.Id,v10.Name,r11.2,v10.F,v10.V,v10.Ticks,v10.Parse,v10.Word,v10.Drops,v10.Vers⟩ : Bridge)) Bridge.row] [(0,(y1.toNat))] false 3 [cL 5 r13.2 Fent.row] kr (modQ_elem (new := (⟨v12.Id,v12.Name,v12.Ports,r13.2,v12.V,v12.Ticks,v12.Parse,v12.Word,v12.Drops,v12.Vers⟩ : Bridge)) rfl (idx_get ev12).2 rfl)) (.inl rfl) ?_
  refine uD 1 35 0 kr kr ?_
  refine rU 2 kr ?_
  obtain ⟨v14,ev14,H⟩ := bind_some H
  refine lO 25 0 41 42 43 none ⟨(.slot 0),[],0,true,11,(((((y2.set (y1.toNat) (⟨y3,v7.Name,v7.Ports,v7.F,v7.V,v7.Ticks,v7.Parse,v7.Word,v7.Drops,v7.Vers⟩ : Bridge)).set (y1.toNat) (⟨v9.Id,r8,v9.Ports,v9.F,v9.V,v9.Ticks,v9.Parse,v9.Word,v9.Drops,v9.Vers⟩ : Bridge)).set (y1.toNat) (⟨v10.Id,v10.Name,r11.2,v10.F,v10.V,v10.Ticks,v10.Parse,v10.Word,v10.Drops,v10.Vers⟩ : Bridge)).set (y1.toNat) (⟨v12.Id,v12.Name,v12.Ports,r13.2,v12.V,v12.Ticks,v12.Parse,v12.Word,v12.Drops,v12.Vers⟩ : Bridge)).map Bridge.row)⟩ y1 (y1.toNat) (Bridge.row v14) _ kr kr kr kr rfl kr (idx_isE ev14) rfl rfl ?_
  refine lU 2 kr ?_
  refine LAt.loadE tOk (t := 54) (ty := 54) (x := (.tmp 45)) (d := 46) (g := none) (tI 54) (.slot 0) [(0,(y1.toNat))] 11 4 [cL 11 ((((y2.set (y1.toNat) (⟨y3,v7.Name,v7.Ports,v7.F,v7.V,v7.Ticks,v7.Parse,v7.Word,v7.Drops,v7.Vers⟩ : Bridge)).set (y1.toNat) (⟨v9.Id,r8,v9.Ports,v9.F,v9.V,v9.Ticks,v9.Parse,v9.Word,v9.Drops,v9.Vers⟩ : Bridge)).set (y1.toNat) (⟨v10.Id,v10.Name,r11.2,v10.F,v10.V,v10.Ticks,v10.Parse,v10.Word,v10.Drops,v10.Vers⟩ : Bridge)).set (y1.toNat) (⟨v12.Id,v12.Name,v12.Ports,r13.2,v12.V,v12.Ticks,v12.Parse,v12.Word,v12.Drops,v12.Vers⟩ : Bridge)) Bridge.row] (Bridge.row v14) _ kr kr kr kr kr (getQ_elem rfl (idx_get ev14).2) rfl (by intro h; cases h) kr kr rfl ?_
  refine lU 1 kr ?_
  obtain ⟨r15,er15,H⟩ := bind_some H
  refine LAt.callO tOk [.lend,.rd] (f := 186) (av := #[.tmp 46,.tmp 47]) (ats := #[54,3]) (d := (some 48)) (ty := 3) (g := none) [(46,Bridge.row v14)] (some [cL 11 (((((y2.set (y1.toNat) (⟨y3,v7.Name,v7.Ports,v7.F,v7.V,v7.Ticks,v7.Parse,v7.Word,v7.Drops,v7.Vers⟩ : Bridge)).set (y1.toNat) (⟨v9.Id,r8,v9.Ports,v9.F,v9.V,v9.Ticks,v9.Parse,v9.Word,v9.Drops,v9.Vers⟩ : Bridge)).set (y1.toNat) (⟨v10.Id,v10.Name,r11.2,v10.F,v10.V,v10.Ticks,v10.Parse,v10.Word,v10.Drops,v10.Vers⟩ : Bridge)).set (y1.toNat) (⟨v12.Id,v12.Name,v12.Ports,r13.2,v12.V,v12.Ticks,v12.Parse,v12.Word,v12.Drops,v12.Vers⟩ : Bridge)).set (y1.toNat) (⟨v14.Id,v14.Name,v14.Ports,v14.F,(⟨r15.2,v14.V.Pvid⟩ : Vtab),v14.Ticks,v14.Parse,v14.Word,v14.Drops,v14.Vers⟩ : Bridge)) Bridge.row]) kr kr kr [] (laws_markVrowS n v14.V.Rows r13.1 r15 er15) (orc_cons (row := [cL 11 ((((y2.set (y1.toNat) (⟨y3,v7.Name,v7.Ports,v7.F,v7.V,v7.Ticks,v7.Parse,v7.Word,v7.Drops,v7.Vers⟩ : Bridge)).set (y1.toNat) (⟨v9.Id,r8,v9.Ports,v9.F,v9.V,v9.Ticks,v9.Parse,v9.Word,v9.Drops,v9.Vers⟩ : Bridge)).set (y1.toNat) (⟨v10.Id,v10.Name,r11.2,v10.F,v10.V,v10.Ticks,v10.Parse,v10.Word,v10.Drops,v10.Vers⟩ : Bridge)).set (y1.toNat) (⟨v12.Id,v12.Name,v12.Ports,r13.2,v12.V,v12.Ticks,v12.Parse,v12.Word,v12.Drops,v12.Vers⟩ : Bridge)) Bridge.row]) (q := [(0,(y1.toNat))]) kr (getQ_elem rfl (idx_get ev14).2) orc_nil) kr (nr_some [cL 11 ((((y2.set (y1.toNat) (⟨y3,v7.Name,v7.Ports,v7.F,v7.V,v7.Ticks,v7.Parse,v7.Word,v7.Drops,v7.Vers⟩ : Bridge)).set (y1.toNat) (⟨v9.Id,r8,v9.Ports,v9.F,v9.V,v9.Ticks,v9.Parse,v9.Word,v9.Drops,v9.Vers⟩ : Bridge)).set (y1.toNat) (⟨v10.Id,v10.Name,r11.2,v10.F,v10.V,v10.Ticks,v10.Parse,v10.Word,v10.Drops,v10.Vers⟩ : Bridge)).set (y1.toNat) (⟨v12.Id,v12.Name,v12.Ports,r13.2,v12.V,v12.Ticks,v12.Parse,v12.Word,v12.Drops,v12.Vers⟩ : Bridge)) Bridge.row] [(0,(y1.toNat))] false 4 [cL 3 r15.2 Vrow.row] kr (modQ_elem (new := (⟨v14.Id,v14.Name,v14.Ports,v14.F,(⟨r15.2,v14.V.Pvid⟩ : Vtab),v14.Ticks,v14.Parse,v14.Word,v14.Drops,v14.Vers⟩ : Bridge)) rfl (idx_get ev14).2 rfl)) (.inl rfl) ?_
  refine uD 1 35 0 kr kr ?_
  refine rU 2 kr ?_
  obtain ⟨v16,ev16,H⟩ := bind_some H
  refine lO 25 0 49 50 51 none ⟨(.slot 0),[],0,true,11,((((((y2.set (y1.toNat) (⟨y3,v7.Name,v7.Ports,v7.F,v7.V,v7.Ticks,v7.Parse,v7.Word,v7.Drops,v7.Vers⟩ : Bridge)).set (y1.toNat) (⟨v9.Id,r8,v9.Ports,v9.F,v9.V,v9.Ticks,v9.Parse,v9.Word,v9.Drops,v9.Vers⟩ : Bridge)).set (y1.toNat) (⟨v10.Id,v10.Name,r11.2,v10.F,v10.V,v10.Ticks,v10.Parse,v10.Word,v10.Drops,v10.Vers⟩ : Bridge)).set (y1.toNat) (⟨v12.Id,v12.Name,v12.Ports,r13.2,v12.V,v12.Ticks,v12.Parse,v12.Word,v12.Drops,v12.Vers⟩ : Bridge)).set (y1.toNat) (⟨v14.Id,v14.Name,v14.Ports,v14.F,(⟨r15.2,v14.V.Pvid⟩ : Vtab),v14.Ticks,v14.Parse,v14.Word,v14.Drops,v14.Vers⟩ : Bridge)).map Bridge.row)⟩ y1 (y1.toNat) (Bridge.row v16) _ kr kr kr kr rfl kr (idx_isE ev16) rfl rfl ?_
  refine lU 2 kr ?_
  refine LAt.loadE tOk (t := 22) (ty := 22) (x := (.tmp 53)) (d := 54) (g := none) (tI 22) (.slot 0) [(0,(y1.toNat))] 11 5 [cL 11 (((((y2.set (y1.toNat) (⟨y3,v7.Name,v7.Ports,v7.F,v7.V,v7.Ticks,v7.Parse,v7.Word,v7.Drops,v7.Vers⟩ : Bridge)).set (y1.toNat) (⟨v9.Id,r8,v9.Ports,v9.F,v9.V,v9.Ticks,v9.Parse,v9.Word,v9.Drops,v9.Vers⟩ : Bridge)).set (y1.toNat) (⟨v10.Id,v10.Name,r11.2,v10.F,v10.V,v10.Ticks,v10.Parse,v10.Word,v10.Drops,v10.Vers⟩ : Bridge)).set (y1.toNat) (⟨v12.Id,v12.Name,v12.Ports,r13.2,v12.V,v12.Ticks,v12.Parse,v12.Word,v12.Drops,v12.Vers⟩ : Bridge)).set (y1.toNat) (⟨v14.Id,v14.Name,v14.Ports,v14.F,(⟨r15.2,v14.V.Pvid⟩ : Vtab),v14.Ticks,v14.Parse,v14.Word,v14.Drops,v14.Vers⟩ : Bridge)) Bridge.row] (Bridge.row v16) _ kr kr kr kr kr (getQ_elem rfl (idx_get ev16).2) rfl (by intro h; cases h) kr kr rfl ?_
  refine lU 1 kr ?_
  obtain ⟨r17,er17,H⟩ := bind_some H
  refine LAt.callO tOk [.lend,.rd] (f := 20) (av := #[.tmp 54,.tmp 55]) (ats := #[22,3]) (d := (some 56)) (ty := 3) (g := none) [(54,Bridge.row v16)] (some [cL 11 ((((((y2.set (y1.toNat) (⟨y3,v7.Name,v7.Ports,v7.F,v7.V,v7.Ticks,v7.Parse,v7.Word,v7.Drops,v7.Vers⟩ : Bridge)).set (y1.toNat) (⟨v9.Id,r8,v9.Ports,v9.F,v9.V,v9.Ticks,v9.Parse,v9.Word,v9.Drops,v9.Vers⟩ : Bridge)).set (y1.toNat) (⟨v10.Id,v10.Name,r11.2,v10.F,v10.V,v10.Ticks,v10.Parse,v10.Word,v10.Drops,v10.Vers⟩ : Bridge)).set (y1.toNat) (⟨v12.Id,v12.Name,v12.Ports,r13.2,v12.V,v12.Ticks,v12.Parse,v12.Word,v12.Drops,v12.Vers⟩ : Bridge)).set (y1.toNat) (⟨v14.Id,v14.Name,v14.Ports,v14.F,(⟨r15.2,v14.V.Pvid⟩ : Vtab),v14.Ticks,v14.Parse,v14.Word,v14.Drops,v14.Vers⟩ : Bridge)).set (y1.toNat) (⟨v16.Id,v16.Name,v16.Ports,v16.F,(⟨v16.V.Rows,r17.2⟩ : Vtab),v16.Ticks,v16.Parse,v16.Word,v16.Drops,v16.Vers⟩ : Bridge)) Bridge.row]) kr kr kr [] (laws_markIntS n v16.V.Pvid r15.1 r17 er17) (orc_cons (row := [cL 11 (((((y2.set (y1.toNat) (⟨y3,v7.Name,v7.Ports,v7.F,v7.V,v7.Ticks,v7.Parse,v7.Word,v7.Drops,v7.Vers⟩ : Bridge)).set (y1.toNat) (⟨v9.Id,r8,v9.Ports,v9.F,v9.V,v9.Ticks,v9.Parse,v9.Word,v9.Drops,v9.Vers⟩ : Bridge)).set (y1.toNat) (⟨v10.Id,v10.Name,r11.2,v10.F,v10.V,v10.Ticks,v10.Parse,v10.Word,v10.Drops,v10.Vers⟩ : Bridge)).set (y1.toNat) (⟨v12.Id,v12.Name,v12.Ports,r13.2,v12.V,v12.Ticks,v12.Parse,v12.Word,v12.Drops,v12.Vers⟩ : Bridge)).set (y1.toNat) (⟨v14.Id,v14.Name,v14.Ports,v14.F,(⟨r15.2,v14.V.Pvid⟩ : Vtab),v14.Ticks,v14.Parse,v14.Word,v14.Drops,v14.Vers⟩ : Bridge)) Bridge.row]) (q := [(0,(y1.toNat))]) kr (getQ_elem rfl (idx_get ev16).2) orc_nil) kr (nr_some [cL 11 (((((y2.set (y1.toNat) (⟨y3,v7.Name,v7.Ports,v7.F,v7.V,v7.Ticks,v7.Parse,v7.Word,v7.Drops,v7.Vers⟩ : Bridge)).set (y1.toNat) (⟨v9.Id,r8,v9.Ports,v9.F,v9.V,v9.Ticks,v9.Parse,v9.Word,v9.Drops,v9.Vers⟩ : Bridge)).set (y1.toNat) (⟨v10.Id,v10.Name,r11.2,v10.F,v10.V,v10.Ticks,v10.Parse,v10.Word,v10.Drops,v10.Vers⟩ : Bridge)).set (y1.toNat) (⟨v12.Id,v12.Name,v12.Ports,r13.2,v12.V,v12.Ticks,v12.Parse,v12.Word,v12.Drops,v12.Vers⟩ : Bridge)).set (y1.toNat) (⟨v14.Id,v14.Name,v14.Ports,v14.F,(⟨r15.2,v14.V.Pvid⟩ : Vtab),v14.Ticks,v14.Parse,v14.Word,v14.Drops,v14.Vers⟩ : Bridge)) Bridge.row] [(0,(y1.toNat))] false 5 [cL 1 r17.2 intRow] kr (modQ_elem (new := (⟨v16.Id,v16.Name,v16.Ports,v16.F,(⟨v16.V.Rows,r17.2⟩ : Vtab),v16.Ticks,v16.Parse,v16.Word,v16.Drops,v16.Vers⟩ : Bridge)) rfl (idx_get ev16).2 rfl)) (.inl rfl) ?_
  refine uD 1 35 0 kr kr ?_
  refine rU 3 kr ?_
  obtain ⟨v18,ev18,H⟩ := bind_some H
  refine lO 25 0 57 58 60 none ⟨(.slot 0),[],0,true,11,(((((((y2.set (y1.toNat) (⟨y3,v7.Name,v7.Ports,v7.F,v7.V,v7.Ticks,v7.Parse,v7.Word,v7.Drops,v7.Vers⟩ : Bridge)).set (y1.toNat) (⟨v9.Id,r8,v9.Ports,v9.F,v9.V,v9.Ticks,v9.Parse,v9.Word,v9.Drops,v9.Vers⟩ : Bridge)).set (y1.toNat) (⟨v10.Id,v10.Name,r11.2,v10.F,v10.V,v10.Ticks,v10.Parse,v10.Word,v10.Drops,v10.Vers⟩ : Bridge)).set (y1.toNat) (⟨v12.Id,v12.Name,v12.Ports,r13.2,v12.V,v12.Ticks,v12.Parse,v12.Word,v12.Drops,v12.Vers⟩ : Bridge)).set (y1.toNat) (⟨v14.Id,v14.Name,v14.Ports,v14.F,(⟨r15.2,v14.V.Pvid⟩ : Vtab),v14.Ticks,v14.Parse,v14.Word,v14.Drops,v14.Vers⟩ : Bridge)).set (y1.toNat) (⟨v16.Id,v16.Name,v16.Ports,v16.F,(⟨v16.V.Rows,r17.2⟩ : Vtab),v16.Ticks,v16.Parse,v16.Word,v16.Drops,v16.Vers⟩ : Bridge)).map Bridge.row)⟩ y1 (y1.toNat) (Bridge.row v18) _ kr kr kr kr rfl kr (idx_isE ev18) rfl rfl ?_
  refine lU 1 kr ?_
  refine lW (t := 3) (ty := 0) (ad := (.tmp 61)) (x := (.tmp 59)) (g := none) (tI 3) false [cI r17.1] 0 0 (y1.toNat) 11 6 11 ((((((y2.set (y1.toNat) (⟨y3,v7.Name,v7.Ports,v7.F,v7.V,v7.Ticks,v7.Parse,v7.Word,v7.Drops,v7.Vers⟩ : Bridge)).set (y1.toNat) (⟨v9.Id,r8,v9.Ports,v9.F,v9.V,v9.Ticks,v9.Parse,v9.Word,v9.Drops,v9.Vers⟩ : Bridge)).set (y1.toNat) (⟨v10.Id,v10.Name,r11.2,v10.F,v10.V,v10.Ticks,v10.Parse,v10.Word,v10.Drops,v10.Vers⟩ : Bridge)).set (y1.toNat) (⟨v12.Id,v12.Name,v12.Ports,r13.2,v12.V,v12.Ticks,v12.Parse,v12.Word,v12.Drops,v12.Vers⟩ : Bridge)).set (y1.toNat) (⟨v14.Id,v14.Name,v14.Ports,v14.F,(⟨r15.2,v14.V.Pvid⟩ : Vtab),v14.Ticks,v14.Parse,v14.Word,v14.Drops,v14.Vers⟩ : Bridge)).set (y1.toNat) (⟨v16.Id,v16.Name,v16.Ports,v16.F,(⟨v16.V.Rows,r17.2⟩ : Vtab),v16.Ticks,v16.Parse,v16.Word,v16.Drops,v16.Vers⟩ : Bridge)) Bridge.row v18 (⟨v18.Id,v18.Name,v18.Ports,v18.F,v18.V,r17.1,v18.Parse,v18.Word,v18.Drops,v18.Vers⟩ : Bridge) kr kr kr kr kr kr kr kr (idx_get ev18).2 kr kr kr kr ?_
  refine lD 35 0 kr ?_
  refine tG 3 35 0 kr kr ?_
  refine rU 3 kr ?_
  obtain ⟨v19,ev19,H⟩ := bind_some H
  refine lO 25 0 64 65 67 none ⟨(.slot 0),[],0,true,11,((((((((y2.set (y1.toNat) (⟨y3,v7.Name,v7.Ports,v7.F,v7.V,v7.Ticks,v7.Parse,v7.Word,v7.Drops,v7.Vers⟩ : Bridge)).set (y1.toNat) (⟨v9.Id,r8,v9.Ports,v9.F,v9.V,v9.Ticks,v9.Parse,v9.Word,v9.Drops,v9.Vers⟩ : Bridge)).set (y1.toNat) (⟨v10.Id,v10.Name,r11.2,v10.F,v10.V,v10.Ticks,v10.Parse,v10.Word,v10.Drops,v10.Vers⟩ : Bridge)).set (y1.toNat) (⟨v12.Id,v12.Name,v12.Ports,r13.2,v12.V,v12.Ticks,v12.Parse,v12.Word,v12.Drops,v12.Vers⟩ : Bridge)).set (y1.toNat) (⟨v14.Id,v14.Name,v14.Ports,v14.F,(⟨r15.2,v14.V.Pvid⟩ : Vtab),v14.Ticks,v14.Parse,v14.Word,v14.Drops,v14.Vers⟩ : Bridge)).set (y1.toNat) (⟨v16.Id,v16.Name,v16.Ports,v16.F,(⟨v16.V.Rows,r17.2⟩ : Vtab),v16.Ticks,v16.Parse,v16.Word,v16.Drops,v16.Vers⟩ : Bridge)).set (y1.toNat) (⟨v18.Id,v18.Name,v18.Ports,v18.F,v18.V,r17.1,v18.Parse,v18.Word,v18.Drops,v18.Vers⟩ : Bridge)).map Bridge.row)⟩ y1 (y1.toNat) (Bridge.row v19) _ kr kr kr kr rfl kr (idx_isE ev19) rfl rfl ?_
  refine lU 1 kr ?_
  refine lW (t := 3) (ty := 0) (ad := (.tmp 68)) (x := (.tmp 66)) (g := none) (tI 3) false [cI (w6 (r17.1 + 1))] 0 0 (y1.toNat) 11 7 11 (((((((y2.set (y1.toNat) (⟨y3,v7.Name,v7.Ports,v7.F,v7.V,v7.Ticks,v7.Parse,v7.Word,v7.Drops,v7.Vers⟩ : Bridge)).set (y1.toNat) (⟨v9.Id,r8,v9.Ports,v9.F,v9.V,v9.Ticks,v9.Parse,v9.Word,v9.Drops,v9.Vers⟩ : Bridge)).set (y1.toNat) (⟨v10.Id,v10.Name,r11.2,v10.F,v10.V,v10.Ticks,v10.Parse,v10.Word,v10.Drops,v10.Vers⟩ : Bridge)).set (y1.toNat) (⟨v12.Id,v12.Name,v12.Ports,r13.2,v12.V,v12.Ticks,v12.Parse,v12.Word,v12.Drops,v12.Vers⟩ : Bridge)).set (y1.toNat) (⟨v14.Id,v14.Name,v14.Ports,v14.F,(⟨r15.2,v14.V.Pvid⟩ : Vtab),v14.Ticks,v14.Parse,v14.Word,v14.Drops,v14.Vers⟩ : Bridge)).set (y1.toNat) (⟨v16.Id,v16.Name,v16.Ports,v16.F,(⟨v16.V.Rows,r17.2⟩ : Vtab),v16.Ticks,v16.Parse,v16.Word,v16.Drops,v16.Vers⟩ : Bridge)).set (y1.toNat) (⟨v18.Id,v18.Name,v18.Ports,v18.F,v18.V,r17.1,v18.Parse,v18.Word,v18.Drops,v18.Vers⟩ : Bridge)) Bridge.row v19 (⟨v19.Id,v19.Name,v19.Ports,v19.F,v19.V,v19.Ticks,(w6 (r17.1 + 1)),v19.Word,v19.Drops,v19.Vers⟩ : Bridge) kr kr kr kr kr kr kr kr (idx_get ev19).2 kr kr kr kr ?_
  refine lD 35 0 kr ?_
  refine tG 3 35 0 kr kr ?_
  refine rU 3 kr ?_
  obtain ⟨v20,ev20,H⟩ := bind_some H
  refine lO 25 0 71 72 74 none ⟨(.slot 0),[],0,true,11,(((((((((y2.set (y1.toNat) (⟨y3,v7.Name,v7.Ports,v7.F,v7.V,v7.Ticks,v7.Parse,v7.Word,v7.Drops,v7.Vers⟩ : Bridge)).set (y1.toNat) (⟨v9.Id,r8,v9.Ports,v9.F,v9.V,v9.Ticks,v9.Parse,v9.Word,v9.Drops,v9.Vers⟩ : Bridge)).set (y1.toNat) (⟨v10.Id,v10.Name,r11.2,v10.F,v10.V,v10.Ticks,v10.Parse,v10.Word,v10.Drops,v10.Vers⟩ : Bridge)).set (y1.toNat) (⟨v12.Id,v12.Name,v12.Ports,r13.2,v12.V,v12.Ticks,v12.Parse,v12.Word,v12.Drops,v12.Vers⟩ : Bridge)).set (y1.toNat) (⟨v14.Id,v14.Name,v14.Ports,v14.F,(⟨r15.2,v14.V.Pvid⟩ : Vtab),v14.Ticks,v14.Parse,v14.Word,v14.Drops,v14.Vers⟩ : Bridge)).set (y1.toNat) (⟨v16.Id,v16.Name,v16.Ports,v16.F,(⟨v16.V.Rows,r17.2⟩ : Vtab),v16.Ticks,v16.Parse,v16.Word,v16.Drops,v16.Vers⟩ : Bridge)).set (y1.toNat) (⟨v18.Id,v18.Name,v18.Ports,v18.F,v18.V,r17.1,v18.Parse,v18.Word,v18.Drops,v18.Vers⟩ : Bridge)).set (y1.toNat) (⟨v19.Id,v19.Name,v19.Ports,v19.F,v19.V,v19.Ticks,(w6 (r17.1 + 1)),v19.Word,v19.Drops,v19.Vers⟩ : Bridge)).map Bridge.row)⟩ y1 (y1.toNat) (Bridge.row v20) _ kr kr kr kr rfl kr (idx_isE ev20) rfl rfl ?_
  refine lU 1 kr ?_
  refine lW (t := 3) (ty := 0) (ad := (.tmp 75)) (x := (.tmp 73)) (g := none) (tI 3) false [cI (w6 ((w6 (r17.1 + 1)) + 1))] 0 0 (y1.toNat) 11 8 11 ((((((((y2.set (y1.toNat) (⟨y3,v7.Name,v7.Ports,v7.F,v7.V,v7.Ticks,v7.Parse,v7.Word,v7.Drops,v7.Vers⟩ : Bridge)).set (y1.toNat) (⟨v9.Id,r8,v9.Ports,v9.F,v9.V,v9.Ticks,v9.Parse,v9.Word,v9.Drops,v9.Vers⟩ : Bridge)).set (y1.toNat) (⟨v10.Id,v10.Name,r11.2,v10.F,v10.V,v10.Ticks,v10.Parse,v10.Word,v10.Drops,v10.Vers⟩ : Bridge)).set (y1.toNat) (⟨v12.Id,v12.Name,v12.Ports,r13.2,v12.V,v12.Ticks,v12.Parse,v12.Word,v12.Drops,v12.Vers⟩ : Bridge)).set (y1.toNat) (⟨v14.Id,v14.Name,v14.Ports,v14.F,(⟨r15.2,v14.V.Pvid⟩ : Vtab),v14.Ticks,v14.Parse,v14.Word,v14.Drops,v14.Vers⟩ : Bridge)).set (y1.toNat) (⟨v16.Id,v16.Name,v16.Ports,v16.F,(⟨v16.V.Rows,r17.2⟩ : Vtab),v16.Ticks,v16.Parse,v16.Word,v16.Drops,v16.Vers⟩ : Bridge)).set (y1.toNat) (⟨v18.Id,v18.Name,v18.Ports,v18.F,v18.V,r17.1,v18.Parse,v18.Word,v18.Drops,v18.Vers⟩ : Bridge)).set (y1.toNat) (⟨v19.Id,v19.Name,v19.Ports,v19.F,v19.V,v19.Ticks,(w6 (r17.1 + 1)),v19.Word,v19.Drops,v19.Vers⟩ : Bridge)) Bridge.row v20 (⟨v20.Id,v20.Name,v20.Ports,v20.F,v20.V,v20.Ticks,v20.Parse,(w6 ((w6 (r17.1 + 1)) + 1)),v20.Drops,v20.Vers⟩ : Bridge) kr kr kr kr kr kr kr kr (idx_get ev20).2 kr kr kr kr ?_
  refine lD 35 0 kr ?_
  refine tG 3 35 0 kr kr ?_
  refine rU 3 kr ?_
  obtain ⟨v21,ev21,H⟩ := bind_some H
  refine lO 25 0 78 79 81 none ⟨(.slot 0),[],0,true,11,((((((((((y2.set (y1.toNat) (⟨y3,v7.Name,v7.Ports,v7.F,v7.V,v7.Ticks,v7.Parse,v7.Word,v7.Drops,v7.Vers⟩ : Bridge)).set (y1.toNat) (⟨v9.Id,r8,v9.Ports,v9.F,v9.V,v9.Ticks,v9.Parse,v9.Word,v9.Drops,v9.Vers⟩ : Bridge)).set (y1.toNat) (⟨v10.Id,v10.Name,r11.2,v10.F,v10.V,v10.Ticks,v10.Parse,v10.Word,v10.Drops,v10.Vers⟩ : Bridge)).set (y1.toNat) (⟨v12.Id,v12.Name,v12.Ports,r13.2,v12.V,v12.Ticks,v12.Parse,v12.Word,v12.Drops,v12.Vers⟩ : Bridge)).set (y1.toNat) (⟨v14.Id,v14.Name,v14.Ports,v14.F,(⟨r15.2,v14.V.Pvid⟩ : Vtab),v14.Ticks,v14.Parse,v14.Word,v14.Drops,v14.Vers⟩ : Bridge)).set (y1.toNat) (⟨v16.Id,v16.Name,v16.Ports,v16.F,(⟨v16.V.Rows,r17.2⟩ : Vtab),v16.Ticks,v16.Parse,v16.Word,v16.Drops,v16.Vers⟩ : Bridge)).set (y1.toNat) (⟨v18.Id,v18.Name,v18.Ports,v18.F,v18.V,r17.1,v18.Parse,v18.Word,v18.Drops,v18.Vers⟩ : Bridge)).set (y1.toNat) (⟨v19.Id,v19.Name,v19.Ports,v19.F,v19.V,v19.Ticks,(w6 (r17.1 + 1)),v19.Word,v19.Drops,v19.Vers⟩ : Bridge)).set (y1.toNat) (⟨v20.Id,v20.Name,v20.Ports,v20.F,v20.V,v20.Ticks,v20.Parse,(w6 ((w6 (r17.1 + 1)) + 1)),v20.Drops,v20.Vers⟩ : Bridge)).map Bridge.row)⟩ y1 (y1.toNat) (Bridge.row v21) _ kr kr kr kr rfl kr (idx_isE ev21) rfl rfl ?_
  refine lU 1 kr ?_
  refine lW (t := 3) (ty := 0) (ad := (.tmp 82)) (x := (.tmp 80)) (g := none) (tI 3) false [cI (w6 ((w6 ((w6 (r17.1 + 1)) + 1)) + 1))] 0 0 (y1.toNat) 11 9 11 (((((((((y2.set (y1.toNat) (⟨y3,v7.Name,v7.Ports,v7.F,v7.V,v7.Ticks,v7.Parse,v7.Word,v7.Drops,v7.Vers⟩ : Bridge)).set (y1.toNat) (⟨v9.Id,r8,v9.Ports,v9.F,v9.V,v9.Ticks,v9.Parse,v9.Word,v9.Drops,v9.Vers⟩ : Bridge)).set (y1.toNat) (⟨v10.Id,v10.Name,r11.2,v10.F,v10.V,v10.Ticks,v10.Parse,v10.Word,v10.Drops,v10.Vers⟩ : Bridge)).set (y1.toNat) (⟨v12.Id,v12.Name,v12.Ports,r13.2,v12.V,v12.Ticks,v12.Parse,v12.Word,v12.Drops,v12.Vers⟩ : Bridge)).set (y1.toNat) (⟨v14.Id,v14.Name,v14.Ports,v14.F,(⟨r15.2,v14.V.Pvid⟩ : Vtab),v14.Ticks,v14.Parse,v14.Word,v14.Drops,v14.Vers⟩ : Bridge)).set (y1.toNat) (⟨v16.Id,v16.Name,v16.Ports,v16.F,(⟨v16.V.Rows,r17.2⟩ : Vtab),v16.Ticks,v16.Parse,v16.Word,v16.Drops,v16.Vers⟩ : Bridge)).set (y1.toNat) (⟨v18.Id,v18.Name,v18.Ports,v18.F,v18.V,r17.1,v18.Parse,v18.Word,v18.Drops,v18.Vers⟩ : Bridge)).set (y1.toNat) (⟨v19.Id,v19.Name,v19.Ports,v19.F,v19.V,v19.Ticks,(w6 (r17.1 + 1)),v19.Word,v19.Drops,v19.Vers⟩ : Bridge)).set (y1.toNat) (⟨v20.Id,v20.Name,v20.Ports,v20.F,v20.V,v20.Ticks,v20.Parse,(w6 ((w6 (r17.1 + 1)) + 1)),v20.Drops,v20.Vers⟩ : Bridge)) Bridge.row v21 (⟨v21.Id,v21.Name,v21.Ports,v21.F,v21.V,v21.Ticks,v21.Parse,v21.Word,(w6 ((w6 ((w6 (r17.1 + 1)) + 1)) + 1)),v21.Vers⟩ : Bridge) kr kr kr kr kr kr kr kr (idx_get ev21).2 kr kr kr kr ?_
  refine lD 35 0 kr ?_
  refine tG 3 35 0 kr kr ?_
  refine rU 3 kr ?_
  obtain ⟨v22,ev22,H⟩ := bind_some H
  refine lO 25 0 85 86 88 none ⟨(.slot 0),[],0,true,11,(((((((((((y2.set (y1.toNat) (⟨y3,v7.Name,v7.Ports,v7.F,v7.V,v7.Ticks,v7.Parse,v7.Word,v7.Drops,v7.Vers⟩ : Bridge)).set (y1.toNat) (⟨v9.Id,r8,v9.Ports,v9.F,v9.V,v9.Ticks,v9.Parse,v9.Word,v9.Drops,v9.Vers⟩ : Bridge)).set (y1.toNat) (⟨v10.Id,v10.Name,r11.2,v10.F,v10.V,v10.Ticks,v10.Parse,v10.Word,v10.Drops,v10.Vers⟩ : Bridge)).set (y1.toNat) (⟨v12.Id,v12.Name,v12.Ports,r13.2,v12.V,v12.Ticks,v12.Parse,v12.Word,v12.Drops,v12.Vers⟩ : Bridge)).set (y1.toNat) (⟨v14.Id,v14.Name,v14.Ports,v14.F,(⟨r15.2,v14.V.Pvid⟩ : Vtab),v14.Ticks,v14.Parse,v14.Word,v14.Drops,v14.Vers⟩ : Bridge)).set (y1.toNat) (⟨v16.Id,v16.Name,v16.Ports,v16.F,(⟨v16.V.Rows,r17.2⟩ : Vtab),v16.Ticks,v16.Parse,v16.Word,v16.Drops,v16.Vers⟩ : Bridge)).set (y1.toNat) (⟨v18.Id,v18.Name,v18.Ports,v18.F,v18.V,r17.1,v18.Parse,v18.Word,v18.Drops,v18.Vers⟩ : Bridge)).set (y1.toNat) (⟨v19.Id,v19.Name,v19.Ports,v19.F,v19.V,v19.Ticks,(w6 (r17.1 + 1)),v19.Word,v19.Drops,v19.Vers⟩ : Bridge)).set (y1.toNat) (⟨v20.Id,v20.Name,v20.Ports,v20.F,v20.V,v20.Ticks,v20.Parse,(w6 ((w6 (r17.1 + 1)) + 1)),v20.Drops,v20.Vers⟩ : Bridge)).set (y1.toNat) (⟨v21.Id,v21.Name,v21.Ports,v21.F,v21.V,v21.Ticks,v21.Parse,v21.Word,(w6 ((w6 ((w6 (r17.1 + 1)) + 1)) + 1)),v21.Vers⟩ : Bridge)).map Bridge.row)⟩ y1 (y1.toNat) (Bridge.row v22) _ kr kr kr kr rfl kr (idx_isE ev22) rfl rfl ?_
  refine lU 1 kr ?_
  refine lW (t := 3) (ty := 0) (ad := (.tmp 89)) (x := (.tmp 87)) (g := none) (tI 3) false [cI (w6 ((w6 ((w6 ((w6 (r17.1 + 1)) + 1)) + 1)) + 1))] 0 0 (y1.toNat) 11 10 11 ((((((((((y2.set (y1.toNat) (⟨y3,v7.Name,v7.Ports,v7.F,v7.V,v7.Ticks,v7.Parse,v7.Word,v7.Drops,v7.Vers⟩ : Bridge)).set (y1.toNat) (⟨v9.Id,r8,v9.Ports,v9.F,v9.V,v9.Ticks,v9.Parse,v9.Word,v9.Drops,v9.Vers⟩ : Bridge)).set (y1.toNat) (⟨v10.Id,v10.Name,r11.2,v10.F,v10.V,v10.Ticks,v10.Parse,v10.Word,v10.Drops,v10.Vers⟩ : Bridge)).set (y1.toNat) (⟨v12.Id,v12.Name,v12.Ports,r13.2,v12.V,v12.Ticks,v12.Parse,v12.Word,v12.Drops,v12.Vers⟩ : Bridge)).set (y1.toNat) (⟨v14.Id,v14.Name,v14.Ports,v14.F,(⟨r15.2,v14.V.Pvid⟩ : Vtab),v14.Ticks,v14.Parse,v14.Word,v14.Drops,v14.Vers⟩ : Bridge)).set (y1.toNat) (⟨v16.Id,v16.Name,v16.Ports,v16.F,(⟨v16.V.Rows,r17.2⟩ : Vtab),v16.Ticks,v16.Parse,v16.Word,v16.Drops,v16.Vers⟩ : Bridge)).set (y1.toNat) (⟨v18.Id,v18.Name,v18.Ports,v18.F,v18.V,r17.1,v18.Parse,v18.Word,v18.Drops,v18.Vers⟩ : Bridge)).set (y1.toNat) (⟨v19.Id,v19.Name,v19.Ports,v19.F,v19.V,v19.Ticks,(w6 (r17.1 + 1)),v19.Word,v19.Drops,v19.Vers⟩ : Bridge)).set (y1.toNat) (⟨v20.Id,v20.Name,v20.Ports,v20.F,v20.V,v20.Ticks,v20.Parse,(w6 ((w6 (r17.1 + 1)) + 1)),v20.Drops,v20.Vers⟩ : Bridge)).set (y1.toNat) (⟨v21.Id,v21.Name,v21.Ports,v21.F,v21.V,v21.Ticks,v21.Parse,v21.Word,(w6 ((w6 ((w6 (r17.1 + 1)) + 1)) + 1)),v21.Vers⟩ : Bridge)) Bridge.row v22 (⟨v22.Id,v22.Name,v22.Ports,v22.F,v22.V,v22.Ticks,v22.Parse,v22.Word,v22.Drops,(w6 ((w6 ((w6 ((w6 (r17.1 + 1)) + 1)) + 1)) + 1))⟩ : Bridge) kr kr kr kr kr kr kr kr (idx_get ev22).2 kr kr kr kr ?_
  refine lD 35 0 kr ?_
  refine tE 3 35 0 kr kr ?_
  refine tE 3 35 0 kr kr ?_
  exact jn (mo6,((w6 (y1 + 1)),(((((((((((y2.set (y1.toNat) (⟨y3,v7.Name,v7.Ports,v7.F,v7.V,v7.Ticks,v7.Parse,v7.Word,v7.Drops,v7.Vers⟩ : Bridge)).set (y1.toNat) (⟨v9.Id,r8,v9.Ports,v9.F,v9.V,v9.Ticks,v9.Parse,v9.Word,v9.Drops,v9.Vers⟩ : Bridge)).set (y1.toNat) (⟨v10.Id,v10.Name,r11.2,v10.F,v10.V,v10.Ticks,v10.Parse,v10.Word,v10.Drops,v10.Vers⟩ : Bridge)).set (y1.toNat) (⟨v12.Id,v12.Name,v12.Ports,r13.2,v12.V,v12.Ticks,v12.Parse,v12.Word,v12.Drops,v12.Vers⟩ : Bridge)).set (y1.toNat) (⟨v14.Id,v14.Name,v14.Ports,v14.F,(⟨r15.2,v14.V.Pvid⟩ : Vtab),v14.Ticks,v14.Parse,v14.Word,v14.Drops,v14.Vers⟩ : Bridge)).set (y1.toNat) (⟨v16.Id,v16.Name,v16.Ports,v16.F,(⟨v16.V.Rows,r17.2⟩ : Vtab),v16.Ticks,v16.Parse,v16.Word,v16.Drops,v16.Vers⟩ : Bridge)).set (y1.toNat) (⟨v18.Id,v18.Name,v18.Ports,v18.F,v18.V,r17.1,v18.Parse,v18.Word,v18.Drops,v18.Vers⟩ : Bridge)).set (y1.toNat) (⟨v19.Id,v19.Name,v19.Ports,v19.F,v19.V,v19.Ticks,(w6 (r17.1 + 1)),v19.Word,v19.Drops,v19.Vers⟩ : Bridge)).set (y1.toNat) (⟨v20.Id,v20.Name,v20.Ports,v20.F,v20.V,v20.Ticks,v20.Parse,(w6 ((w6 (r17.1 + 1)) + 1)),v20.Drops,v20.Vers⟩ : Bridge)).set (y1.toNat) (⟨v21.Id,v21.Name,v21.Ports,v21.F,v21.V,v21.Ticks,v21.Parse,v21.Word,(w6 ((w6 ((w6 (r17.1 + 1)) + 1)) + 1)),v21.Vers⟩ : Bridge)).set (y1.toNat) (⟨v22.Id,v22.Name,v22.Ports,v22.F,v22.V,v22.Ticks,v22.Parse,v22.Word,v22.Drops,(w6 ((w6 ((w6 ((w6 (r17.1 + 1)) + 1)) + 1)) + 1))⟩ : Bridge)),(w6 ((w6 ((w6 ((w6 ((w6 (r17.1 + 1)) + 1)) + 1)) + 1)) + 1)))) H (sM mo6 [5,0,1] [] kr)
 rintro ⟨y4,y5⟩ H
 have H : (laws_markBridgeS_J1 n y4 y5) = some r := H
 unfold laws_markBridgeS_J1 at H
 refine tG 2 17 0 kr kr ?_
 refine te ?_
 obtain rfl := si H
 exact Fin.ofY _ [(false,[cI y5])] [false] _ [[cL 11 y4 Bridge.row]] _ [] kr rfl rfl rfl kr kr kr kr rfl rfl rfl
def laws_markLinkS_J1 (n : Nat) (y4 : (List Link)) (y5 : Int) : Option (Int × (List Link)) :=
  (some (y5,y4))
def laws_markLinkS_L2 (n : Nat) : Nat → Int → (List Link) → Int → Option (((List Link) × Int) ⊕ (Int × (List Link)))
  | 0,_,_,_ => none
  | mo6 + 1,y1,y2,y3 => (bif (decide (y1 < (y2.length : Int))) then ((idx y2 y1).bind fun v7 => ((idx (y2.set (y1.toNat) (⟨y3,v7.P,v7.B,v7.Q⟩ : Link)) y1).bind fun v8 => ((idx ((y2.set (y1.toNat) (⟨y3,v7.P,v7.B,v7.Q⟩ : Link)).set (y1.toNat) (⟨v8.A,(IntKind.wrap .i64 (y3 + 1)),v8.B,v8.Q⟩ : Link)) y1).bind fun v9 => ((idx (((y2.set (y1.toNat) (⟨y3,v7.P,v7.B,v7.Q⟩ : Link)).set (y1.toNat) (⟨v8.A,(IntKind.wrap .i64 (y3 + 1)),v8.B,v8.Q⟩ : Link)).set (y1.toNat) (⟨v9.A,v9.P,(IntKind.wrap .i64 ((IntKind.wrap .i64 (y3 + 1)) + 1)),v9.Q⟩ : Link)) y1).bind fun v10 => (laws_markLinkS_L2 n mo6 (IntKind.wrap .i64 (y1 + 1)) ((((y2.set (y1.toNat) (⟨y3,v7.P,v7.B,v7.Q⟩ : Link)).set (y1.toNat) (⟨v8.A,(IntKind.wrap .i64 (y3 + 1)),v8.B,v8.Q⟩ : Link)).set (y1.toNat) (⟨v9.A,v9.P,(IntKind.wrap .i64 ((IntKind.wrap .i64 (y3 + 1)) + 1)),v9.Q⟩ : Link)).set (y1.toNat) (⟨v10.A,v10.P,v10.B,(IntKind.wrap .i64 ((IntKind.wrap .i64 ((IntKind.wrap .i64 (y3 + 1)) + 1)) + 1))⟩ : Link)) (IntKind.wrap .i64 ((IntKind.wrap .i64 ((IntKind.wrap .i64 ((IntKind.wrap .i64 (y3 + 1)) + 1)) + 1)) + 1))))))) else (some (Sum.inl (y2,y3))))
def laws_markLinkSF (n : Nat) (x0 : (List Link)) (x1 : Int) : Option (Int × (List Link)) :=
  ((laws_markLinkS_L2 n n 0 x0 x1).bind fun o => match o with | .inl (y4,y5) => (laws_markLinkS_J1 n y4 y5) | .inr r => some r)
noncomputable abbrev G21 (k : Nat) := Rg Tryz.f21 k
theorem laws_markLinkS (n : Nat) (x0 : (List Link)) (x1 : Int) (r : Int × (List Link)) (H : laws_markLinkSF n x0 x1 = some r) : LCall Tryz.prog 21 [.io false [.sl true 4 (x0.map Link.row)],.val false [.lit (.int .i64 x1)]] [.val false [.lit (.int .i64 r.1)]] [(0,[.sl true 4 (r.2.map Link.row)])] := by
 refine LCall.of_body tOk Tryz.func21 rfl (c := (.seq (G21 0) (.seq (.seq (G21 1) (.block 0 (.loop (.seq (.seq (G21 2) (.cond (.tmp 9) .skip (.exit 0))) (.seq (.block 1 (.seq (G21 4) (.seq (G21 5) (.seq (G21 6) (.seq (G21 7) (.seq (G21 8) (.seq (G21 9) (.seq (G21 10) (G21 11))))))))) (G21 3)))))) (.seq (G21 12) .ret)))) kr (Nat.le_of_ble_eq_true kr) 1 (rs := [.tmp 4]) rfl [0] (by decide) [(false,[.lit (.int .i64 r.1)])] [[.sl true 4 (r.2.map Link.row)]] [] fun cx => ?_
 show Tr _ _ _ ⟨41,1,[sC 0 (cL 4 x0 Link.row),sI 1 x1],[]⟩ _
 unfold laws_markLinkSF at H
 refine tG 1 3 0 kr kr ?_
 refine tS ?_
 refine tG 1 35 0 kr kr ?_
 obtain ⟨o6,eo6,Ho6⟩ := bind_some H
 clear H
 refine Tr.mid (ι := (List Link) × Int) (fun v => ⟨41,1,[sC 0 (cL 4 v.1 Link.row),sI 1 v.2],[]⟩) (fun v => laws_markLinkS_J1 n v.1 v.2 = some r) ?_ ?_
 ·refine tB ?_
  refine Tr.loop (ι := Nat × (Int × (List Link) × Int)) (fun v => ⟨41,1,[sI 5 v.2.1,sC 0 (cL 4 v.2.2.1 Link.row),sI 1 v.2.2.2],[]⟩) (fun v => laws_markLinkS_L2 n v.1 v.2.1 v.2.2.1 v.2.2.2 = some o6) (fun v => v.1) (n,(0,x0,x1)) eo6 (St.sub_of [5,0,1] [] kr) ?_
  rintro ⟨mo6,y1,y2,y3⟩ H
  have H : laws_markLinkS_L2 n mo6 y1 y2 y3 = some o6 := H
  obtain _ | mo6 := mo6
  ·cases (show (none : Option _) = some o6 from H)
  rw [laws_markLinkS_L2] at H
  refine tS ?_
  refine rU 2 kr ?_
  refine lL 26 3 126 7 8 none ⟨(.slot 0),[],0,true,4,(y2.map Link.row)⟩ (y2).length _ kr kr kr kr kr (map_len _ _) rfl ?_
  refine uD 1 547 0 kr kr ?_
  obtain ⟨h1,H⟩ | ⟨h1,H⟩ := bC H
  ·refine tF h1 kr ?_
   refine Tr.exit ?_
   refine And.intro (fun _ => ?_) (fun h => absurd rfl h)
   obtain rfl := si H
   have H := Ho6
   dsimp only at H
   exact jn (y2,y3) H (sB_ [0,1] [] kr)
  refine tT h1 kr ?_
  refine tK ?_
  refine tS ?_
  refine tB ?_
  refine rU 3 kr ?_
  obtain ⟨v7,ev7,H⟩ := bind_some H
  refine lO 26 0 12 13 15 none ⟨(.slot 0),[],0,true,4,(y2.map Link.row)⟩ y1 (y1.toNat) (Link.row v7) _ kr kr kr kr rfl kr (idx_isE ev7) rfl rfl ?_
  refine lU 1 kr ?_
  refine lW (t := 3) (ty := 0) (ad := (.tmp 16)) (x := (.tmp 14)) (g := none) (tI 3) false [cI y3] 0 0 (y1.toNat) 4 0 4 y2 Link.row v7 (⟨y3,v7.P,v7.B,v7.Q⟩ : Link) kr kr kr kr kr kr kr kr (idx_get ev7).2 kr kr kr kr ?_
  refine lD 35 0 kr ?_
  refine tG 3 35 0 kr kr ?_
  refine rU 3 kr ?_
  obtain ⟨v8,ev8,H⟩ := bind_some H
  refine lO 26 0 19 20 22 none ⟨(.slot 0),[],0,true,4,((y2.set (y1.toNat) (⟨y3,v7.P,v7.B,v7.Q⟩ : Link)).map Link.row)⟩ y1 (y1.toNat) (Link.row v8) _ kr kr kr kr rfl kr (idx_isE ev8) rfl rfl ?_
  refine lU 1 kr ?_
  refine lW (t := 3) (ty := 0) (ad := (.tmp 23)) (x := (.tmp 21)) (g := none) (tI 3) false [cI (w6 (y3 + 1))] 0 0 (y1.toNat) 4 1 4 (y2.set (y1.toNat) (⟨y3,v7.P,v7.B,v7.Q⟩ : Link)) Link.row v8 (⟨v8.A,(w6 (y3 + 1)),v8.B,v8.Q⟩ : Link) kr kr kr kr kr kr kr kr (idx_get ev8).2 kr kr kr kr ?_
  refine lD 35 0 kr ?_
  refine tG 3 35 0 kr kr ?_
  refine rU 3 kr ?_
  obtain ⟨v9,ev9,H⟩ := bind_some H
  refine lO 26 0 26 27 29 none ⟨(.slot 0),[],0,true,4,(((y2.set (y1.toNat) (⟨y3,v7.P,v7.B,v7.Q⟩ : Link)).set (y1.toNat) (⟨v8.A,(w6 (y3 + 1)),v8.B,v8.Q⟩ : Link)).map Link.row)⟩ y1 (y1.toNat) (Link.row v9) _ kr kr kr kr rfl kr (idx_isE ev9) rfl rfl ?_
  refine lU 1 kr ?_
  refine lW (t := 3) (ty := 0) (ad := (.tmp 30)) (x := (.tmp 28)) (g := none) (tI 3) false [cI (w6 ((w6 (y3 + 1)) + 1))] 0 0 (y1.toNat) 4 2 4 ((y2.set (y1.toNat) (⟨y3,v7.P,v7.B,v7.Q⟩ : Link)).set (y1.toNat) (⟨v8.A,(w6 (y3 + 1)),v8.B,v8.Q⟩ : Link)) Link.row v9 (⟨v9.A,v9.P,(w6 ((w6 (y3 + 1)) + 1)),v9.Q⟩ : Link) kr kr kr kr kr kr kr kr (idx_get ev9).2 kr kr kr kr ?_
  refine lD 35 0 kr ?_
  refine tG 3 35 0 kr kr ?_
  refine rU 3 kr ?_
  obtain ⟨v10,ev10,H⟩ := bind_some H
  refine lO 26 0 33 34 36 none ⟨(.slot 0),[],0,true,4,((((y2.set (y1.toNat) (⟨y3,v7.P,v7.B,v7.Q⟩ : Link)).set (y1.toNat) (⟨v8.A,(w6 (y3 + 1)),v8.B,v8.Q⟩ : Link)).set (y1.toNat) (⟨v9.A,v9.P,(w6 ((w6 (y3 + 1)) + 1)),v9.Q⟩ : Link)).map Link.row)⟩ y1 (y1.toNat) (Link.row v10) _ kr kr kr kr rfl kr (idx_isE ev10) rfl rfl ?_
  refine lU 1 kr ?_
  refine lW (t := 3) (ty := 0) (ad := (.tmp 37)) (x := (.tmp 35)) (g := none) (tI 3) false [cI (w6 ((w6 ((w6 (y3 + 1)) + 1)) + 1))] 0 0 (y1.toNat) 4 3 4 (((y2.set (y1.toNat) (⟨y3,v7.P,v7.B,v7.Q⟩ : Link)).set (y1.toNat) (⟨v8.A,(w6 (y3 + 1)),v8.B,v8.Q⟩ : Link)).set (y1.toNat) (⟨v9.A,v9.P,(w6 ((w6 (y3 + 1)) + 1)),v9.Q⟩ : Link)) Link.row v10 (⟨v10.A,v10.P,v10.B,(w6 ((w6 ((w6 (y3 + 1)) + 1)) + 1))⟩ : Link) kr kr kr kr kr kr kr kr (idx_get ev10).2 kr kr kr kr ?_
  refine lD 35 0 kr ?_
  refine tE 3 35 0 kr kr ?_
  refine tE 3 35 0 kr kr ?_
  exact jn (mo6,((w6 (y1 + 1)),((((y2.set (y1.toNat) (⟨y3,v7.P,v7.B,v7.Q⟩ : Link)).set (y1.toNat) (⟨v8.A,(w6 (y3 + 1)),v8.B,v8.Q⟩ : Link)).set (y1.toNat) (⟨v9.A,v9.P,(w6 ((w6 (y3 + 1)) + 1)),v9.Q⟩ : Link)).set (y1.toNat) (⟨v10.A,v10.P,v10.B,(w6 ((w6 ((w6 (y3 + 1)) + 1)) + 1))⟩ : Link)),(w6 ((w6 ((w6 ((w6 (y3 + 1)) + 1)) + 1)) + 1)))) H (sM mo6 [5,0,1] [] kr)
 rintro ⟨y4,y5⟩ H
 have H : (laws_markLinkS_J1 n y4 y5) = some r := H
 unfold laws_markLinkS_J1 at H
 refine tG 2 17 0 kr kr ?_
 refine te ?_
 obtain rfl := si H
 exact Fin.ofY _ [(false,[cI y5])] [false] _ [[cL 4 y4 Link.row]] _ [] kr rfl rfl rfl kr kr kr kr rfl rfl rfl
def laws_markSayS_J1 (n : Nat) (y4 : (List Say)) (y5 : Int) : Option (Int × (List Say)) :=
  (some (y5,y4))
def laws_markSayS_L2 (n : Nat) : Nat → Int → (List Say) → Int → Option (((List Say) × Int) ⊕ (Int × (List Say)))
  | 0,_,_,_ => none
  | mo6 + 1,y1,y2,y3 => (bif (decide (y1 < (y2.length : Int))) then ((idx y2 y1).bind fun v7 => (bif (decide ((3 : Int) ≠ 0)) then ((idx (y2.set (y1.toNat) (⟨y3,v7.Back,v7.V⟩ : Say)) y1).bind fun v9 => ((idx ((y2.set (y1.toNat) (⟨y3,v7.Back,v7.V⟩ : Say)).set (y1.toNat) (⟨v9.Link,((Int.tmod (IntKind.wrap .i64 (y3 + 1)) 3) == 0),v9.V⟩ : Say)) y1).bind fun v10 => ((idx (((y2.set (y1.toNat) (⟨y3,v7.Back,v7.V⟩ : Say)).set (y1.toNat) (⟨v9.Link,((Int.tmod (IntKind.wrap .i64 (y3 + 1)) 3) == 0),v9.V⟩ : Say)).set (y1.toNat) (⟨v10.Link,v10.Back,(⟨(IntKind.wrap .i64 ((IntKind.wrap .i64 (y3 + 1)) + 1)),v10.V.Cost,v10.V.Hops,v10.V.Bridge,v10.V.Port⟩ : Vec)⟩ : Say)) y1).bind fun v11 => ((idx ((((y2.set (y1.toNat) (⟨y3,v7.Back,v7.V⟩ : Say)).set (y1.toNat) (⟨v9.Link,((Int.tmod (IntKind.wrap .i64 (y3 + 1)) 3) == 0),v9.V⟩ : Say)).set (y1.toNat) (⟨v10.Link,v10.Back,(⟨(IntKind.wrap .i64 ((IntKind.wrap .i64 (y3 + 1)) + 1)),v10.V.Cost,v10.V.Hops,v10.V.Bridge,v10.V.Port⟩ : Vec)⟩ : Say)).set (y1.toNat) (⟨v11.Link,v11.Back,(⟨v11.V.Root,(IntKind.wrap .i64 ((IntKind.wrap .i64 ((IntKind.wrap .i64 (y3 + 1)) + 1)) + 1)),v11.V.Hops,v11.V.Bridge,v11.V.Port⟩ : Vec)⟩ : Say)) y1).bind fun v12 => ((idx (((((y2.set (y1.toNat) (⟨y3,v7.Back,v7.V⟩ : Say)).set (y1.toNat) (⟨v9.Link,((Int.tmod (IntKind.wrap .i64 (y3 + 1)) 3) == 0),v9.V⟩ : Say)).set (y1.toNat) (⟨v10.Link,v10.Back,(⟨(IntKind.wrap .i64 ((IntKind.wrap .i64 (y3 + 1)) + 1)),v10.V.Cost,v10.V.Hops,v10.V.Bridge,v10.V.Port⟩ : Vec)⟩ : Say)).set (y1.toNat) (⟨v11.Link,v11.Back,(⟨v11.V.Root,(IntKind.wrap .i64 ((IntKind.wrap .i64 ((IntKind.wrap .i64 (y3 + 1)) + 1)) + 1)),v11.V.Hops,v11.V.Bridge,v11.V.Port⟩ : Vec)⟩ : Say)).set (y1.toNat) (⟨v12.Link,v12.Back,(⟨v12.V.Root,v12.V.Cost,(IntKind.wrap .i64 ((IntKind.wrap .i64 ((IntKind.wrap .i64 ((IntKind.wrap .i64 (y3 + 1)) + 1)) + 1)) + 1)),v12.V.Bridge,v12.V.Port⟩ : Vec)⟩ : Say)) y1).bind fun v13 => ((idx ((((((y2.set (y1.toNat) (⟨y3,v7.Back,v7.V⟩ : Say)).set (y1.toNat) (⟨v9.Link,((Int.tmod (IntKind.wrap .i64 (y3 + 1)) 3) == 0),v9.V⟩ : Say)).set (y1.toNat) (⟨v10.Link,v10.Back,(⟨(IntKind.wrap .i64 ((IntKind.wrap .i64 (y3 + 1)) + 1)),v10.V.Cost,v10.V.Hops,v10.V.Bridge,v10.V.Port⟩ : Vec)⟩ : Say)).set (y1.toNat) (⟨v11.Link,v11.Back,(⟨v11.V.Root,(IntKind.wrap .i64 ((IntKind.wrap .i64 ((IntKind.wrap .i64 (y3 + 1)) + 1)) + 1)),v11.V.Hops,v11.V.Bridge,v11.V.Port⟩ : Vec)⟩ : Say)).set (y1.toNat) (⟨v12.Link,v12.Back,(⟨v12.V.Root,v12.V.Cost,(IntKind.wrap .i64 ((IntKind.wrap .i64 ((IntKind.wrap .i64 ((IntKind.wrap .i64 (y3 + 1)) + 1)) + 1)) + 1)),v12.V.Bridge,v12.V.Port⟩ : Vec)⟩ : Say)).set (y1.toNat) (⟨v13.Link,v13.Back,(⟨v13.V.Root,v13.V.Cost,v13.V.Hops,(IntKind.wrap .i64 ((IntKind.wrap .i64 ((IntKind.wrap .i64 ((IntKind.wrap .i64 ((IntKind.wrap .i64 (y3 + 1)) + 1)) + 1)) + 1)) + 1)),v13.V.Port⟩ : Vec)⟩ : Say)) y1).bind fun v14 => (laws_markSayS_L2 n mo6 (IntKind.wrap .i64 (y1 + 1)) (((((((y2.set (y1.toNat) (⟨y3,v7.Back,v7.V⟩ : Say)).set (y1.toNat) (⟨v9.Link,((Int.tmod (IntKind.wrap .i64 (y3 + 1)) 3) == 0),v9.V⟩ : Say)).set (y1.toNat) (⟨v10.Link,v10.Back,(⟨(IntKind.wrap .i64 ((IntKind.wrap .i64 (y3 + 1)) + 1)),v10.V.Cost,v10.V.Hops,v10.V.Bridge,v10.V.Port⟩ : Vec)⟩ : Say)).set (y1.toNat) (⟨v11.Link,v11.Back,(⟨v11.V.Root,(IntKind.wrap .i64 ((IntKind.wrap .i64 ((IntKind.wrap .i64 (y3 + 1)) + 1)) + 1)),v11.V.Hops,v11.V.Bridge,v11.V.Port⟩ : Vec)⟩ : Say)).set (y1.toNat) (⟨v12.Link,v12.Back,(⟨v12.V.Root,v12.V.Cost,(IntKind.wrap .i64 ((IntKind.wrap .i64 ((IntKind.wrap .i64 ((IntKind.wrap .i64 (y3 + 1)) + 1)) + 1)) + 1)),v12.V.Bridge,v12.V.Port⟩ : Vec)⟩ : Say)).set (y1.toNat) (⟨v13.Link,v13.Back,(⟨v13.V.Root,v13.V.Cost,v13.V.Hops,(IntKind.wrap .i64 ((IntKind.wrap .i64 ((IntKind.wrap .i64 ((IntKind.wrap .i64 ((IntKind.wrap .i64 (y3 + 1)) + 1)) + 1)) + 1)) + 1)),v13.V.Port⟩ : Vec)⟩ : Say)).set (y1.toNat) (⟨v14.Link,v14.Back,(⟨v14.V.Root,v14.V.Cost,v14.V.Hops,v14.V.Bridge,(IntKind.wrap .i64 ((IntKind.wrap .i64 ((IntKind.wrap .i64 ((IntKind.wrap .i64 ((IntKind.wrap .i64 ((IntKind.wrap .i64 (y3 + 1)) + 1)) + 1)) + 1)) + 1)) + 1))⟩ : Vec)⟩ : Say)) (IntKind.wrap .i64 ((IntKind.wrap .i64 ((IntKind.wrap .i64 ((IntKind.wrap .i64 ((IntKind.wrap .i64 ((IntKind.wrap .i64 ((IntKind.wrap .i64 (y3 + 1)) + 1)) + 1)) + 1)) + 1)) + 1)) + 1))))))))) else none)) else (some (Sum.inl (y2,y3))))
def laws_markSaySF (n : Nat) (x0 : (List Say)) (x1 : Int) : Option (Int × (List Say)) :=
  ((laws_markSayS_L2 n n 0 x0 x1).bind fun o => match o with | .inl (y4,y5) => (laws_markSayS_J1 n y4 y5) | .inr r => some r)
noncomputable abbrev G87 (k : Nat) := Rg Tryz.f87 k
theorem laws_markSayS (n : Nat) (x0 : (List Say)) (x1 : Int) (r : Int × (List Say)) (H : laws_markSaySF n x0 x1 = some r) : LCall Tryz.prog 87 [.io false [.sl true 7 (x0.map Say.row)],.val false [.lit (.int .i64 x1)]] [.val false [.lit (.int .i64 r.1)]] [(0,[.sl true 7 (r.2.map Say.row)])] := by
 refine LCall.of_body tOk Tryz.func87 rfl (c := (.seq (G87 0) (.seq (.seq (G87 1) (.block 0 (.loop (.seq (.seq (G87 2) (.cond (.tmp 9) .skip (.exit 0))) (.seq (.block 1 (.seq (G87 4) (.seq (G87 5) (.seq (G87 6) (.seq (G87 7) (.seq (G87 8) (.seq (G87 9) (.seq (G87 10) (.seq (G87 11) (.seq (G87 12) (.seq (G87 13) (.seq (G87 14) (.seq (G87 15) (.seq (G87 16) (G87 17))))))))))))))) (G87 3)))))) (.seq (G87 18) .ret)))) kr (Nat.le_of_ble_eq_true kr) 1 (rs := [.tmp 4]) rfl [0] (by decide) [(false,[.lit (.int .i64 r.1)])] [[.sl true 7 (r.2.map Say.row)]] [] fun cx => ?_
 show Tr _ _ _ ⟨69,1,[sC 0 (cL 7 x0 Say.row),sI 1 x1],[]⟩ _
 unfold laws_markSaySF at H
 refine tG 1 3 0 kr kr ?_
 refine tS ?_
 refine tG 1 35 0 kr kr ?_
 obtain ⟨o6,eo6,Ho6⟩ := bind_some H
 clear H
 refine Tr.mid (ι := (List Say) × Int) (fun v => ⟨69,1,[sC 0 (cL 7 v.1 Say.row),sI 1 v.2],[]⟩) (fun v => laws_markSayS_J1 n v.1 v.2 = some r) ?_ ?_
 ·refine tB ?_
  refine Tr.loop (ι := Nat × (Int × (List Say) × Int)) (fun v => ⟨69,1,[sI 5 v.2.1,sC 0 (cL 7 v.2.2.1 Say.row),sI 1 v.2.2.2],[]⟩) (fun v => laws_markSayS_L2 n v.1 v.2.1 v.2.2.1 v.2.2.2 = some o6) (fun v => v.1) (n,(0,x0,x1)) eo6 (St.sub_of [5,0,1] [] kr) ?_
  rintro ⟨mo6,y1,y2,y3⟩ H
  have H : laws_markSayS_L2 n mo6 y1 y2 y3 = some o6 := H
  obtain _ | mo6 := mo6
  ·cases (show (none : Option _) = some o6 from H)
  rw [laws_markSayS_L2] at H
  refine tS ?_
  refine rU 2 kr ?_
  refine lL 27 3 195 7 8 none ⟨(.slot 0),[],0,true,7,(y2.map Say.row)⟩ (y2).length _ kr kr kr kr kr (map_len _ _) rfl ?_
  refine uD 1 547 0 kr kr ?_
  obtain ⟨h1,H⟩ | ⟨h1,H⟩ := bC H
  ·refine tF h1 kr ?_
   refine Tr.exit ?_
   refine And.intro (fun _ => ?_) (fun h => absurd rfl h)
   obtain rfl := si H
   have H := Ho6
   dsimp only at H
   exact jn (y2,y3) H (sB_ [0,1] [] kr)
  refine tT h1 kr ?_
  refine tK ?_
  refine tS ?_
  refine tB ?_
  refine rU 3 kr ?_
  obtain ⟨v7,ev7,H⟩ := bind_some H
  refine lO 27 0 12 13 15 none ⟨(.slot 0),[],0,true,7,(y2.map Say.row)⟩ y1 (y1.toNat) (Say.row v7) _ kr kr kr kr rfl kr (idx_isE ev7) rfl rfl ?_
  refine lU 1 kr ?_
  refine lW (t := 3) (ty := 0) (ad := (.tmp 16)) (x := (.tmp 14)) (g := none) (tI 3) false [cI y3] 0 0 (y1.toNat) 7 0 7 y2 Say.row v7 (⟨y3,v7.Back,v7.V⟩ : Say) kr kr kr kr kr kr kr kr (idx_get ev7).2 kr kr kr kr ?_
  refine lD 35 0 kr ?_
  refine tG 3 35 0 kr kr ?_
  refine rU 3 kr ?_
  obtain ⟨hg8,H⟩ := guard_some H
  refine LAt.binC tOk (op := .rem) (t := 3) (ty := 3) (ty' := 3) (x := (.tmp 21)) (y := (.const (.int .i64 3))) (d := 22) (g := none) (.int .i64 (w6 (y3 + 1))) (.int .i64 3) (.int .i64 (Int.tmod (w6 (y3 + 1)) 3)) _ kr kr kr kr kr (φ := (IntKind.i64 = IntKind.i64 ∧ (3 : Int) ≠ 0)) kr (⟨rfl,of_decide_eq_true hg8⟩) rfl ?_
  refine lU 1 kr ?_
  obtain ⟨v9,ev9,H⟩ := bind_some H
  refine lO 27 0 19 20 24 none ⟨(.slot 0),[],0,true,7,((y2.set (y1.toNat) (⟨y3,v7.Back,v7.V⟩ : Say)).map Say.row)⟩ y1 (y1.toNat) (Say.row v9) _ kr kr kr kr rfl kr (idx_isE ev9) rfl rfl ?_
  refine lU 1 kr ?_
  refine lW (t := 4) (ty := 0) (ad := (.tmp 25)) (x := (.tmp 23)) (g := none) (tI 4) false [cB ((Int.tmod (w6 (y3 + 1)) 3) == 0)] 0 0 (y1.toNat) 7 1 7 (y2.set (y1.toNat) (⟨y3,v7.Back,v7.V⟩ : Say)) Say.row v9 (⟨v9.Link,((Int.tmod (w6 (y3 + 1)) 3) == 0),v9.V⟩ : Say) kr kr kr kr kr kr kr kr (idx_get ev9).2 kr kr kr kr ?_
  refine lD 35 0 kr ?_
  refine tG 3 35 0 kr kr ?_
  refine rU 3 kr ?_
  obtain ⟨v10,ev10,H⟩ := bind_some H
  refine lO 27 0 28 29 31 none ⟨(.slot 0),[],0,true,7,(((y2.set (y1.toNat) (⟨y3,v7.Back,v7.V⟩ : Say)).set (y1.toNat) (⟨v9.Link,((Int.tmod (w6 (y3 + 1)) 3) == 0),v9.V⟩ : Say)).map Say.row)⟩ y1 (y1.toNat) (Say.row v10) _ kr kr kr kr rfl kr (idx_isE ev10) rfl rfl ?_
  refine lU 2 kr ?_
  refine lW (t := 3) (ty := 0) (ad := (.tmp 33)) (x := (.tmp 30)) (g := none) (tI 3) false [cI (w6 ((w6 (y3 + 1)) + 1))] 0 0 (y1.toNat) 7 2 7 ((y2.set (y1.toNat) (⟨y3,v7.Back,v7.V⟩ : Say)).set (y1.toNat) (⟨v9.Link,((Int.tmod (w6 (y3 + 1)) 3) == 0),v9.V⟩ : Say)) Say.row v10 (⟨v10.Link,v10.Back,(⟨(w6 ((w6 (y3 + 1)) + 1)),v10.V.Cost,v10.V.Hops,v10.V.Bridge,v10.V.Port⟩ : Vec)⟩ : Say) kr kr kr kr kr kr kr kr (idx_get ev10).2 kr kr kr kr ?_
  refine lD 35 0 kr ?_
  refine tG 3 35 0 kr kr ?_
  refine rU 3 kr ?_
  obtain ⟨v11,ev11,H⟩ := bind_some H
  refine lO 27 0 36 37 39 none ⟨(.slot 0),[],0,true,7,((((y2.set (y1.toNat) (⟨y3,v7.Back,v7.V⟩ : Say)).set (y1.toNat) (⟨v9.Link,((Int.tmod (w6 (y3 + 1)) 3) == 0),v9.V⟩ : Say)).set (y1.toNat) (⟨v10.Link,v10.Back,(⟨(w6 ((w6 (y3 + 1)) + 1)),v10.V.Cost,v10.V.Hops,v10.V.Bridge,v10.V.Port⟩ : Vec)⟩ : Say)).map Say.row)⟩ y1 (y1.toNat) (Say.row v11) _ kr kr kr kr rfl kr (idx_isE ev11) rfl rfl ?_
  refine lU 2 kr ?_
  refine lW (t := 3) (ty := 0) (ad := (.tmp 41)) (x := (.tmp 38)) (g := none) (tI 3) false [cI (w6 ((w6 ((w6 (y3 + 1)) + 1)) + 1))] 0 0 (y1.toNat) 7 3 7 (((y2.set (y1.toNat) (⟨y3,v7.Back,v7.V⟩ : Say)).set (y1.toNat) (⟨v9.Link,((Int.tmod (w6 (y3 + 1)) 3) == 0),v9.V⟩ : Say)).set (y1.toNat) (⟨v10.Link,v10.Back,(⟨(w6 ((w6 (y3 + 1)) + 1)),v10.V.Cost,v10.V.Hops,v10.V.Bridge,v10.V.Port⟩ : Vec)⟩ : Say)) Say.row v11 (⟨v11.Link,v11.Back,(⟨v11.V.Root,(w6 ((w6 ((w6 (y3 + 1)) + 1)) + 1)),v11.V.Hops,v11.V.Bridge,v11.V.Port⟩ : Vec)⟩ : Say) kr kr kr kr kr kr kr kr (idx_get ev11).2 kr kr kr kr ?_
  refine lD 35 0 kr ?_
  refine tG 3 35 0 kr kr ?_
  refine rU 3 kr ?_
  obtain ⟨v12,ev12,H⟩ := bind_some H
  refine lO 27 0 44 45 47 none ⟨(.slot 0),[],0,true,7,(((((y2.set (y1.toNat) (⟨y3,v7.Back,v7.V⟩ : Say)).set (y1.toNat) (⟨v9.Link,((Int.tmod (w6 (y3 + 1)) 3) == 0),v9.V⟩ : Say)).set (y1.toNat) (⟨v10.Link,v10.Back,(⟨(w6 ((w6 (y3 + 1)) + 1)),v10.V.Cost,v10.V.Hops,v10.V.Bridge,v10.V.Port⟩ : Vec)⟩ : Say)).set (y1.toNat) (⟨v11.Link,v11.Back,(⟨v11.V.Root,(w6 ((w6 ((w6 (y3 + 1)) + 1)) + 1)),v11.V.Hops,v11.V.Bridge,v11.V.Port⟩ : Vec)⟩ : Say)).map Say.row)⟩ y1 (y1.toNat) (Say.row v12) _ kr kr kr kr rfl kr (idx_isE ev12) rfl rfl ?_
  refine lU 2 kr ?_
  refine lW (t := 3) (ty := 0) (ad := (.tmp 49)) (x := (.tmp 46)) (g := none) (tI 3) false [cI (w6 ((w6 ((w6 ((w6 (y3 + 1)) + 1)) + 1)) + 1))] 0 0 (y1.toNat) 7 4 7 ((((y2.set (y1.toNat) (⟨y3,v7.Back,v7.V⟩ : Say)).set (y1.toNat) (⟨v9.Link,((Int.tmod (w6 (y3 + 1)) 3) == 0),v9.V⟩ : Say)).set (y1.toNat) (⟨v10.Link,v10.Back,(⟨(w6 ((w6 (y3 + 1)) + 1)),v10.V.Cost,v10.V.Hops,v10.V.Bridge,v10.V.Port⟩ : Vec)⟩ : Say)).set (y1.toNat) (⟨v11.Link,v11.Back,(⟨v11.V.Root,(w6 ((w6 ((w6 (y3 + 1)) + 1)) + 1)),v11.V.Hops,v11.V.Bridge,v11.V.Port⟩ : Vec)⟩ : Say)) Say.row v12 (⟨v12.Link,v12.Back,(⟨v12.V.Root,v12.V.Cost,(w6 ((w6 ((w6 ((w6 (y3 + 1)) + 1)) + 1)) + 1)),v12.V.Bridge,v12.V.Port⟩ : Vec)⟩ : Say) kr kr kr kr kr kr kr kr (idx_get ev12).2 kr kr kr kr ?_
  refine lD 35 0 kr ?_
  refine tG 3 35 0 kr kr ?_
  refine rU 3 kr ?_
  obtain ⟨v13,ev13,H⟩ := bind_some H
  refine lO 27 0 52 53 55 none ⟨(.slot 0),[],0,true,7,((((((y2.set (y1.toNat) (⟨y3,v7.Back,v7.V⟩ : Say)).set (y1.toNat) (⟨v9.Link,((Int.tmod (w6 (y3 + 1)) 3) == 0),v9.V⟩ : Say)).set (y1.toNat) (⟨v10.Link,v10.Back,(⟨(w6 ((w6 (y3 + 1)) + 1)),v10.V.Cost,v10.V.Hops,v10.V.Bridge,v10.V.Port⟩ : Vec)⟩ : Say)).set (y1.toNat) (⟨v11.Link,v11.Back,(⟨v11.V.Root,(w6 ((w6 ((w6 (y3 + 1)) + 1)) + 1)),v11.V.Hops,v11.V.Bridge,v11.V.Port⟩ : Vec)⟩ : Say)).set (y1.toNat) (⟨v12.Link,v12.Back,(⟨v12.V.Root,v12.V.Cost,(w6 ((w6 ((w6 ((w6 (y3 + 1)) + 1)) + 1)) + 1)),v12.V.Bridge,v12.V.Port⟩ : Vec)⟩ : Say)).map Say.row)⟩ y1 (y1.toNat) (Say.row v13) _ kr kr kr kr rfl kr (idx_isE ev13) rfl rfl ?_
  refine lU 2 kr ?_
  refine lW (t := 3) (ty := 0) (ad := (.tmp 57)) (x := (.tmp 54)) (g := none) (tI 3) false [cI (w6 ((w6 ((w6 ((w6 ((w6 (y3 + 1)) + 1)) + 1)) + 1)) + 1))] 0 0 (y1.toNat) 7 5 7 (((((y2.set (y1.toNat) (⟨y3,v7.Back,v7.V⟩ : Say)).set (y1.toNat) (⟨v9.Link,((Int.tmod (w6 (y3 + 1)) 3) == 0),v9.V⟩ : Say)).set (y1.toNat) (⟨v10.Link,v10.Back,(⟨(w6 ((w6 (y3 + 1)) + 1)),v10.V.Cost,v10.V.Hops,v10.V.Bridge,v10.V.Port⟩ : Vec)⟩ : Say)).set (y1.toNat) (⟨v11.Link,v11.Back,(⟨v11.V.Root,(w6 ((w6 ((w6 (y3 + 1)) + 1)) + 1)),v11.V.Hops,v11.V.Bridge,v11.V.Port⟩ : Vec)⟩ : Say)).set (y1.toNat) (⟨v12.Link,v12.Back,(⟨v12.V.Root,v12.V.Cost,(w6 ((w6 ((w6 ((w6 (y3 + 1)) + 1)) + 1)) + 1)),v12.V.Bridge,v12.V.Port⟩ : Vec)⟩ : Say)) Say.row v13 (⟨v13.Link,v13.Back,(⟨v13.V.Root,v13.V.Cost,v13.V.Hops,(w6 ((w6 ((w6 ((w6 ((w6 (y3 + 1)) + 1)) + 1)) + 1)) + 1)),v13.V.Port⟩ : Vec)⟩ : Say) kr kr kr kr kr kr kr kr (idx_get ev13).2 kr kr kr kr ?_
  refine lD 35 0 kr ?_
  refine tG 3 35 0 kr kr ?_
  refine rU 3 kr ?_
  obtain ⟨v14,ev14,H⟩ := bind_some H
  refine lO 27 0 60 61 63 none ⟨(.slot 0),[],0,true,7,(((((((y2.set (y1.toNat) (⟨y3,v7.Back,v7.V⟩ : Say)).set (y1.toNat) (⟨v9.Link,((Int.tmod (w6 (y3 + 1)) 3) == 0),v9.V⟩ : Say)).set (y1.toNat) (⟨v10.Link,v10.Back,(⟨(w6 ((w6 (y3 + 1)) + 1)),v10.V.Cost,v10.V.Hops,v10.V.Bridge,v10.V.Port⟩ : Vec)⟩ : Say)).set (y1.toNat) (⟨v11.Link,v11.Back,(⟨v11.V.Root,(w6 ((w6 ((w6 (y3 + 1)) + 1)) + 1)),v11.V.Hops,v11.V.Bridge,v11.V.Port⟩ : Vec)⟩ : Say)).set (y1.toNat) (⟨v12.Link,v12.Back,(⟨v12.V.Root,v12.V.Cost,(w6 ((w6 ((w6 ((w6 (y3 + 1)) + 1)) + 1)) + 1)),v12.V.Bridge,v12.V.Port⟩ : Vec)⟩ : Say)).set (y1.toNat) (⟨v13.Link,v13.Back,(⟨v13.V.Root,v13.V.Cost,v13.V.Hops,(w6 ((w6 ((w6 ((w6 ((w6 (y3 + 1)) + 1)) + 1)) + 1)) + 1)),v13.V.Port⟩ : Vec)⟩ : Say)).map Say.row)⟩ y1 (y1.toNat) (Say.row v14) _ kr kr kr kr rfl kr (idx_isE ev14) rfl rfl ?_
  refine lU 2 kr ?_
  refine lW (t := 3) (ty := 0) (ad := (.tmp 65)) (x := (.tmp 62)) (g := none) (tI 3) false [cI (w6 ((w6 ((w6 ((w6 ((w6 ((w6 (y3 + 1)) + 1)) + 1)) + 1)) + 1)) + 1))] 0 0 (y1.toNat) 7 6 7 ((((((y2.set (y1.toNat) (⟨y3,v7.Back,v7.V⟩ : Say)).set (y1.toNat) (⟨v9.Link,((Int.tmod (w6 (y3 + 1)) 3) == 0),v9.V⟩ : Say)).set (y1.toNat) (⟨v10.Link,v10.Back,(⟨(w6 ((w6 (y3 + 1)) + 1)),v10.V.Cost,v10.V.Hops,v10.V.Bridge,v10.V.Port⟩ : Vec)⟩ : Say)).set (y1.toNat) (⟨v11.Link,v11.Back,(⟨v11.V.Root,(w6 ((w6 ((w6 (y3 + 1)) + 1)) + 1)),v11.V.Hops,v11.V.Bridge,v11.V.Port⟩ : Vec)⟩ : Say)).set (y1.toNat) (⟨v12.Link,v12.Back,(⟨v12.V.Root,v12.V.Cost,(w6 ((w6 ((w6 ((w6 (y3 + 1)) + 1)) + 1)) + 1)),v12.V.Bridge,v12.V.Port⟩ : Vec)⟩ : Say)).set (y1.toNat) (⟨v13.Link,v13.Back,(⟨v13.V.Root,v13.V.Cost,v13.V.Hops,(w6 ((w6 ((w6 ((w6 ((w6 (y3 + 1)) + 1)) + 1)) + 1)) + 1)),v13.V.Port⟩ : Vec)⟩ : Say)) Say.row v14 (⟨v14.Link,v14.Back,(⟨v14.V.Root,v14.V.Cost,v14.V.Hops,v14.V.Bridge,(w6 ((w6 ((w6 ((w6 ((w6 ((w6 (y3 + 1)) + 1)) + 1)) + 1)) + 1)) + 1))⟩ : Vec)⟩ : Say) kr kr kr kr kr kr kr kr (idx_get ev14).2 kr kr kr kr ?_
  refine lD 35 0 kr ?_
  refine tE 3 35 0 kr kr ?_
  refine tE 3 35 0 kr kr ?_
  exact jn (mo6,((w6 (y1 + 1)),(((((((y2.set (y1.toNat) (⟨y3,v7.Back,v7.V⟩ : Say)).set (y1.toNat) (⟨v9.Link,((Int.tmod (w6 (y3 + 1)) 3) == 0),v9.V⟩ : Say)).set (y1.toNat) (⟨v10.Link,v10.Back,(⟨(w6 ((w6 (y3 + 1)) + 1)),v10.V.Cost,v10.V.Hops,v10.V.Bridge,v10.V.Port⟩ : Vec)⟩ : Say)).set (y1.toNat) (⟨v11.Link,v11.Back,(⟨v11.V.Root,(w6 ((w6 ((w6 (y3 + 1)) + 1)) + 1)),v11.V.Hops,v11.V.Bridge,v11.V.Port⟩ : Vec)⟩ : Say)).set (y1.toNat) (⟨v12.Link,v12.Back,(⟨v12.V.Root,v12.V.Cost,(w6 ((w6 ((w6 ((w6 (y3 + 1)) + 1)) + 1)) + 1)),v12.V.Bridge,v12.V.Port⟩ : Vec)⟩ : Say)).set (y1.toNat) (⟨v13.Link,v13.Back,(⟨v13.V.Root,v13.V.Cost,v13.V.Hops,(w6 ((w6 ((w6 ((w6 ((w6 (y3 + 1)) + 1)) + 1)) + 1)) + 1)),v13.V.Port⟩ : Vec)⟩ : Say)).set (y1.toNat) (⟨v14.Link,v14.Back,(⟨v14.V.Root,v14.V.Cost,v14.V.Hops,v14.V.Bridge,(w6 ((w6 ((w6 ((w6 ((w6 ((w6 (y3 + 1)) + 1)) + 1)) + 1)) + 1)) + 1))⟩ : Vec)⟩ : Say)),(w6 ((w6 ((w6 ((w6 ((w6 ((w6 ((w6 (y3 + 1)) + 1)) + 1)) + 1)) + 1)) + 1)) + 1)))) H (sM mo6 [5,0,1] [] kr)
 rintro ⟨y4,y5⟩ H
 have H : (laws_markSayS_J1 n y4 y5) = some r := H
 unfold laws_markSayS_J1 at H
 refine tG 2 17 0 kr kr ?_
 refine te ?_
 obtain rfl := si H
 exact Fin.ofY _ [(false,[cI y5])] [false] _ [[cL 7 y4 Say.row]] _ [] kr rfl rfl rfl kr kr kr kr rfl rfl rfl
def laws_markNetF (n : Nat) (x0 : Net) (x1 : Int) : Option (Int × Net) :=
  ((laws_markBridgeSF n x0.Bridges x1).bind fun r1 => ((laws_markLinkSF n x0.Links r1.1).bind fun r2 => ((laws_markSaySF n x0.Said r2.1).bind fun r3 => (some (r3.1,(⟨r1.2,r2.2,r3.2⟩ : Net))))))
noncomputable abbrev G22 (k : Nat) := Rg Tryz.f22 k
theorem laws_markNet (n : Nat) (x0 : Net) (x1 : Int) (r : Int × Net) (H : laws_markNetF n x0 x1 = some r) : LCall Tryz.prog 22 [.io true (Net.row x0),.val false [.lit (.int .i64 x1)]] [.val false [.lit (.int .i64 r.1)]] [(0,(Net.row r.2))] := by
 refine LCall.of_body tOk Tryz.func22 rfl (c := (.seq (G22 0) (.seq (G22 1) (.seq (G22 2) (.seq (G22 3) (.seq (G22 4) .ret)))))) kr (Nat.le_of_ble_eq_true kr) 1 (rs := [.tmp 4]) rfl [0] (by decide) [(false,[.lit (.int .i64 r.1)])] [(Net.row r.2)] [] fun cx => ?_
 show Tr _ _ _ ⟨18,1,[sV 0 (Net.row x0),sI 1 x1],[]⟩ _
 unfold laws_markNetF at H
 refine tR ?_
 refine LAt.boxK (T := lk tab) (t := 29) (ty := 0) (x := 0) (d := 2) (g := none) true (Net.row x0) kr kr kr kr kr kr ?_
 refine uD 1 7 4 kr kr ?_
 refine rU 3 kr ?_
 obtain ⟨r1,er1,H⟩ := bind_some H
 refine LAt.callL tOk [.lend,.rd] (f := 86) (av := #[.tmp 6,.tmp 7]) (ats := #[25,3]) (d := (some 8)) (ty := 3) (g := none) kr kr kr [] (laws_markBridgeS n x0.Bridges x1 r1 er1) kr (.inl rfl) ?_
 refine uD 1 7 4 kr kr ?_
 refine rU 3 kr ?_
 obtain ⟨r2,er2,H⟩ := bind_some H
 refine LAt.callL tOk [.lend,.rd] (f := 21) (av := #[.tmp 10,.tmp 11]) (ats := #[26,3]) (d := (some 12)) (ty := 3) (g := none) kr kr kr [] (laws_markLinkS n x0.Links r1.1 r2 er2) kr (.inl rfl) ?_
 refine uD 1 7 4 kr kr ?_
 refine rU 3 kr ?_
 obtain ⟨r3,er3,H⟩ := bind_some H
 refine LAt.callL tOk [.lend,.rd] (f := 87) (av := #[.tmp 14,.tmp 15]) (ats := #[27,3]) (d := (some 16)) (ty := 3) (g := none) kr kr kr [] (laws_markSayS n x0.Said r2.1 r3 er3) kr (.inl rfl) ?_
 refine uD 1 3 4 kr kr ?_
 refine tG 2 17 4 kr kr ?_
 refine te ?_
 obtain rfl := si H
 exact Fin.ofY _ [(false,[cI r3.1])] [true] _ [[cL 11 r1.2 Bridge.row,cL 4 r2.2 Link.row,cL 7 r3.2 Say.row]] _ [] kr rfl rfl rfl kr kr kr kr rfl rfl rfl
def laws_heldPtS_J1 (n : Nat) (y3 : Int) : Option (Int) :=
  (some y3)
def laws_heldPtS_L2 (n : Nat) : Nat → (List Pt) → Int → Int → Option ((Int) ⊕ (Int))
  | 0,_,_,_ => none
  | mo4 + 1,x0,y1,y2 => (bif (decide (y1 < (x0.length : Int))) then ((idx x0 y1).bind fun v5 => (bif (decide ((3 : Int) ≠ 0)) then (bif (!(v5.Up == ((Int.tmod y2 3) == 0))) then (some (Sum.inr (-1))) else ((idx x0 y1).bind fun v7 => (bif (v7.Cost != (IntKind.wrap .i64 (y2 + 1))) then (some (Sum.inr (-1))) else ((idx x0 y1).bind fun v8 => (bif (decide ((3 : Int) ≠ 0)) then (bif (!(v8.Has == ((Int.tmod (IntKind.wrap .i64 ((IntKind.wrap .i64 (y2 + 1)) + 1)) 3) == 0))) then (some (Sum.inr (-1))) else ((idx x0 y1).bind fun v10 => (bif (v10.Heard.Root != (IntKind.wrap .i64 ((IntKind.wrap .i64 ((IntKind.wrap .i64 (y2 + 1)) + 1)) + 1))) then (some (Sum.inr (-1))) else ((idx x0 y1).bind fun v11 => (bif (v11.Heard.Cost != (IntKind.wrap .i64 ((IntKind.wrap .i64 ((IntKind.wrap .i64 ((IntKind.wrap .i64 (y2 + 1)) + 1)) + 1)) + 1))) then (some (Sum.inr (-1))) else ((idx x0 y1).bind fun v12 => (bif (v12.Heard.Hops != (IntKind.wrap .i64 ((IntKind.wrap .i64 ((IntKind.wrap .i64 ((IntKind.wrap .i64 ((IntKind.wrap .i64 (y2 + 1)) + 1)) + 1)) + 1)) + 1))) then (some (Sum.inr (-1))) else ((idx x0 y1).bind fun v13 => (bif (v13.Heard.Bridge != (IntKind.wrap .i64 ((IntKind.wrap .i64 ((IntKind.wrap .i64 ((IntKind.wrap .i64 ((IntKind.wrap .i64 ((IntKind.wrap .i64 (y2 + 1)) + 1)) + 1)) + 1)) + 1)) + 1))) then (some (Sum.inr (-1))) else ((idx x0 y1).bind fun v14 => (bif (v14.Heard.Port != (IntKind.wrap .i64 ((IntKind.wrap .i64 ((IntKind.wrap .i64 ((IntKind.wrap .i64 ((IntKind.wrap .i64 ((IntKind.wrap .i64 ((IntKind.wrap .i64 (y2 + 1)) + 1)) + 1)) + 1)) + 1)) + 1)) + 1))) then (some (Sum.inr (-1))) else (laws_heldPtS_L2 n mo4 x0 (IntKind.wrap .i64 (y1 + 1)) (IntKind.wrap .i64 ((IntKind.wrap .i64 ((IntKind.wrap .i64 ((IntKind.wrap .i64 ((IntKind.wrap .i64 ((IntKind.wrap .i64 ((IntKind.wrap .i64 ((IntKind.wrap .i64 (y2 + 1)) + 1)) + 1)) + 1)) + 1)) + 1)) + 1)) + 1)))))))))))))) else none))))) else none)) else (some (Sum.inl y2)))
def laws_heldPtSF (n : Nat) (x0 : (List Pt)) (x1 : Int) : Option (Int) :=
  ((laws_heldPtS_L2 n n x0 0 x1).bind fun o => match o with | .inl y3 => (laws_heldPtS_J1 n y3) | .inr r => some r)
noncomputable abbrev G126 (k : Nat) := Rg Tryz.f126 k
theorem laws_heldPtS (n : Nat) (x0 : (List Pt)) (x1 : Int) (r : Int) (H : laws_heldPtSF n x0 x1 = some r) : LCall Tryz.prog 126 [.val false [.sl false 8 (CV.frzEs (x0.map Pt.row))],.val false [.lit (.int .i64 x1)]] [.val false [.lit (.int .i64 r)]] [] := by
 refine LCall.of_body tOk Tryz.func126 rfl (c := (.seq (G126 0) (.seq (.seq (G126 1) (.block 0 (.loop (.seq (.seq (G126 2) (.cond (.tmp 9) .skip (.exit 0))) (.seq (.block 1 (.seq (.seq (G126 4) (.cond (.tmp 20) (.seq (G126 5) .ret) .skip)) (.seq (G126 6) (.seq (.seq (G126 7) (.cond (.tmp 29) (.seq (G126 8) .ret) .skip)) (.seq (G126 9) (.seq (.seq (G126 10) (.cond (.tmp 40) (.seq (G126 11) .ret) .skip)) (.seq (G126 12) (.seq (.seq (G126 13) (.cond (.tmp 50) (.seq (G126 14) .ret) .skip)) (.seq (G126 15) (.seq (.seq (G126 16) (.cond (.tmp 60) (.seq (G126 17) .ret) .skip)) (.seq (G126 18) (.seq (.seq (G126 19) (.cond (.tmp 70) (.seq (G126 20) .ret) .skip)) (.seq (G126 21) (.seq (.seq (G126 22) (.cond (.tmp 80) (.seq (G126 23) .ret) .skip)) (.seq (G126 24) (.seq (.seq (G126 25) (.cond (.tmp 90) (.seq (G126 26) .ret) .skip)) (G126 27))))))))))))))))) (G126 3)))))) (.seq (G126 28) .ret)))) kr (Nat.le_of_ble_eq_true kr) 0 (rs := [.tmp 4]) rfl [] .nil [(false,[.lit (.int .i64 r)])] [] [] fun cx => ?_
 show Tr _ _ _ ⟨94,0,[sC 0 (cF 8 x0 Pt.row),sI 1 x1],[]⟩ _
 unfold laws_heldPtSF at H
 refine tG 1 3 0 kr kr ?_
 refine tS ?_
 refine tG 1 35 0 kr kr ?_
 obtain ⟨o4,eo4,Ho4⟩ := bind_some H
 clear H
 refine Tr.mid (ι := Int) (fun v => ⟨94,0,[sI 1 v],[]⟩) (fun v => laws_heldPtS_J1 n v = some r) ?_ ?_
 ·refine tB ?_
  refine Tr.loop (ι := Nat × (Int × Int)) (fun v => ⟨94,0,[sI 5 v.2.1,sC 0 (cF 8 x0 Pt.row),sI 1 v.2.2],[]⟩) (fun v => laws_heldPtS_L2 n v.1 x0 v.2.1 v.2.2 = some o4) (fun v => v.1) (n,(0,x1)) eo4 (St.sub_of [5,0,1] [] kr) ?_
  rintro ⟨mo4,y1,y2⟩ H
  have H : laws_heldPtS_L2 n mo4 x0 y1 y2 = some o4 := H
  obtain _ | mo4 := mo4
  ·cases (show (none : Option _) = some o4 from H)
  rw [laws_heldPtS_L2] at H
  refine tS ?_
  refine rU 2 kr ?_
  refine lL 52 3 182 7 8 none ⟨(.slot 7),[],0,false,8,(CV.frzEs (x0.map Pt.row))⟩ (x0).length _ kr kr kr kr kr (frz_len _ _) rfl ?_
  refine uD 1 547 0 kr kr ?_
  obtain ⟨h1,H⟩ | ⟨h1,H⟩ := bC H
  ·refine tF h1 kr ?_
   refine Tr.exit ?_
   refine And.intro (fun _ => ?_) (fun h => absurd rfl h)
   obtain rfl := si H
   have H := Ho4
   dsimp only at H
   exact jn y2 H (sB_ [1] [] kr)
  refine tT h1 kr ?_
  refine tK ?_
  refine tS ?_
  refine tB ?_
  refine tS ?_
  refine rU 2 kr ?_
  obtain ⟨v5,ev5,H⟩ := bind_some H
  refine lI 52 0 12 13 14 none ⟨(.slot 12),[],0,false,8,(CV.frzEs (x0.map Pt.row))⟩ y1 (Pt.row v5) _ kr kr kr kr rfl (idx_isF ev5) rfl ?_
  refine lU 3 kr ?_
  obtain ⟨hg6,H⟩ := guard_some H
  refine LAt.binC tOk (op := .rem) (t := 3) (ty := 3) (ty' := 3) (x := (.tmp 17)) (y := (.const (.int .i64 3))) (d := 18) (g := none) (.int .i64 y2) (.int .i64 3) (.int .i64 (Int.tmod y2 3)) _ kr kr kr kr kr (φ := (IntKind.i64 = IntKind.i64 ∧ (3 : Int) ≠ 0)) kr (⟨rfl,of_decide_eq_true hg6⟩) rfl ?_
  refine uD 2 1048611 0 kr kr ?_
  obtain ⟨h2,H⟩ | ⟨h2,H⟩ := bC H
  ·refine tF h2 kr ?_
   refine tK ?_
   refine tG 3 35 0 kr kr ?_
   refine tS ?_
   refine rU 2 kr ?_
   obtain ⟨v7,ev7,H⟩ := bind_some H
   refine lI 52 0 23 24 25 none ⟨(.slot 23),[],0,false,8,(CV.frzEs (x0.map Pt.row))⟩ y1 (Pt.row v7) _ kr kr kr kr rfl (idx_isF ev7) rfl ?_
   refine uD 4 536870947 0 kr kr ?_
   obtain ⟨h3,H⟩ | ⟨h3,H⟩ := bC H
   ·refine tF h3 kr ?_
    refine tK ?_
    refine tG 3 35 0 kr kr ?_
    refine tS ?_
    refine rU 2 kr ?_
    obtain ⟨v8,ev8,H⟩ := bind_some H
    refine lI 52 0 32 33 34 none ⟨(.slot 32),[],0,false,8,(CV.frzEs (x0.map Pt.row))⟩ y1 (Pt.row v8) _ kr kr kr kr rfl (idx_isF ev8) rfl ?_
    refine lU 3 kr ?_
    obtain ⟨hg9,H⟩ := guard_some H
    refine LAt.binC tOk (op := .rem) (t := 3) (ty := 3) (ty' := 3) (x := (.tmp 37)) (y := (.const (.int .i64 3))) (d := 38) (g := none) (.int .i64 (w6 ((w6 (y2 + 1)) + 1))) (.int .i64 3) (.int .i64 (Int.tmod (w6 ((w6 (y2 + 1)) + 1)) 3)) _ kr kr kr kr kr (φ := (IntKind.i64 = IntKind.i64 ∧ (3 : Int) ≠ 0)) kr (⟨rfl,of_decide_eq_true hg9⟩) rfl ?_
    refine uD 2 1099511627811 0 kr kr ?_
    refine tO ⟨94,0,[sB 40 (!(v8.Has == ((Int.tmod (w6 ((w6 (y2 + 1)) + 1)) 3) == 0))),sI 1 (w6 ((w6 (y2 + 1)) + 1)),sI 5 y1,sC 0 (cF 8 x0 Pt.row)],[]⟩ kr ?_
    cases h4 : (!(v8.Has == ((Int.tmod (IntKind.wrap .i64 ((IntKind.wrap .i64 (y2 + 1)) + 1)) 3) == 0)))
    ·have H := bifF h4 H
     refine tf kr ?_
     refine tK ?_
     refine tG 3 35 0 kr kr ?_
     refine tS ?_
     refine rU 2 kr ?_
     obtain ⟨v10,ev10,H⟩ := bind_some H
     refine lI 52 0 43 44 45 none ⟨(.slot 43),[],0,false,8,(CV.frzEs (x0.map Pt.row))⟩ y1 (Pt.row v10) _ kr kr kr kr rfl (idx_isF ev10) rfl ?_
     refine uD 5 0x4000000000023 0 kr kr ?_
     obtain ⟨h5,H⟩ | ⟨h5,H⟩ := bC H
     ·refine tF h5 kr ?_
      refine tK ?_
      refine tG 3 35 0 kr kr ?_
      refine tS ?_
      refine rU 2 kr ?_
      obtain ⟨v11,ev11,H⟩ := bind_some H
      refine lI 52 0 53 54 55 none ⟨(.slot 53),[],0,false,8,(CV.frzEs (x0.map Pt.row))⟩ y1 (Pt.row v11) _ kr kr kr kr rfl (idx_isF ev11) rfl ?_
      refine uD 5 0x1000000000000023 0 kr kr ?_
      obtain ⟨h6,H⟩ | ⟨h6,H⟩ := bC H
      ·refine tF h6 kr ?_
       refine tK ?_
       refine tG 3 35 0 kr kr ?_
       refine tS ?_
       refine rU 2 kr ?_
       obtain ⟨v12,ev12,H⟩ := bind_some H
       refine lI 52 0 63 64 65 none ⟨(.slot 63),[],0,false,8,(CV.frzEs (x0.map Pt.row))⟩ y1 (Pt.row v12) _ kr kr kr kr rfl (idx_isF ev12) rfl ?_
       refine uD 5 0x400000000000000023 0 kr kr ?_
       obtain ⟨h7,H⟩ | ⟨h7,H⟩ := bC H
       ·refine tF h7 kr ?_
        refine tK ?_
        refine tG 3 35 0 kr kr ?_
        refine tS ?_
        refine rU 2 kr ?_
        obtain ⟨v13,ev13,H⟩ := bind_some H
        refine lI 52 0 73 74 75 none ⟨(.slot 73),[],0,false,8,(CV.frzEs (x0.map Pt.row))⟩ y1 (Pt.row v13) _ kr kr kr kr rfl (idx_isF ev13) rfl ?_
        refine uD 5 0x100000000000000000023 0 kr kr ?_
        refine tO ⟨94,0,[sB 80 (v13.Heard.Bridge != (w6 ((w6 ((w6 ((w6 ((w6 ((w6 (y2 + 1)) + 1)) + 1)) + 1)) + 1)) + 1))),sI 1 (w6 ((w6 ((w6 ((w6 ((w6 ((w6 (y2 + 1)) + 1)) + 1)) + 1)) + 1)) + 1)),sI 5 y1,sC 0 (cF 8 x0 Pt.row)],[]⟩ kr ?_
        cases h8 : (v13.Heard.Bridge != (IntKind.wrap .i64 ((IntKind.wrap .i64 ((IntKind.wrap .i64 ((IntKind.wrap .i64 ((IntKind.wrap .i64 ((IntKind.wrap .i64 (y2 + 1)) + 1)) + 1)) + 1)) + 1)) + 1)))
        ·have H := bifF h8 H
         refine tf kr ?_
         refine tK ?_
         refine tG 3 35 0 kr kr ?_
         refine tS ?_
         refine rU 2 kr ?_
         obtain ⟨v14,ev14,H⟩ := bind_some H
         refine lI 52 0 83 84 85 none ⟨(.slot 83),[],0,false,8,(CV.frzEs (x0.map Pt.row))⟩ y1 (Pt.row v14) _ kr kr kr kr rfl (idx_isF ev14) rfl ?_
         refine uD 5 0x40000000000000000000023 0 kr kr ?_
         obtain ⟨h9,H⟩ | ⟨h9,H⟩ := bC H
         ·refine tF h9 kr ?_
          refine tK ?_
          refine tE 3 35 0 kr kr ?_
          refine tE 3 35 0 kr kr ?_
          exact jn (mo4,((w6 (y1 + 1)),(w6 ((w6 ((w6 ((w6 ((w6 ((w6 ((w6 ((w6 (y2 + 1)) + 1)) + 1)) + 1)) + 1)) + 1)) + 1)) + 1)))) H (sM mo4 [5,0,1] [] kr)
         refine tT h9 kr ?_
         refine tG 1 16 0 kr kr ?_
         refine te ?_
         obtain rfl := si H
         have H := Ho4
         dsimp only at H
         obtain rfl := si H
         exact fO [(false,[cI (-1)])] kr rfl rfl
        have H := bifT h8 H
        refine tt kr ?_
        refine tG 1 16 0 kr kr ?_
        refine te ?_
        obtain rfl := si H
        have H := Ho4
        dsimp only at H
        obtain rfl := si H
        exact fO [(false,[cI (-1)])] kr rfl rfl
       refine tT h7 kr ?_
       refine tG 1 16 0 kr kr ?_
       refine te ?_
       obtain rfl := si H
       have H := Ho4
       dsimp only at H
       obtain rfl := si H
       exact fO [(false,[cI (-1)])] kr rfl rfl
      refine tT h6 kr ?_
      refine tG 1 16 0 kr kr ?_
      refine te ?_
      obtain rfl := si H
      have H := Ho4
      dsimp only at H
      obtain rfl := si H
      exact fO [(false,[cI (-1)])] kr rfl rfl
     refine tT h5 kr ?_
     refine tG 1 16 0 kr kr ?_
     refine te ?_
     obtain rfl := si H
     have H := Ho4
     dsimp only at H
     obtain rfl := si H
     exact fO [(false,[cI (-1)])] kr rfl rfl
    have H := bifT h4 H
    refine tt kr ?_
    refine tG 1 16 0 kr kr ?_
    refine te ?_
    obtain rfl := si H
    have H := Ho4
    dsimp only at H
    obtain rfl := si H
    exact fO [(false,[cI (-1)])] kr rfl rfl
   refine tT h3 kr ?_
   refine tG 1 16 0 kr kr ?_
   refine te ?_
   obtain rfl := si H
   have H := Ho4
   dsimp only at H
   obtain rfl := si H
   exact fO [(false,[cI (-1)])] kr rfl rfl
  refine tT h2 kr ?_
  refine tG 1 16 0 kr kr ?_
  refine te ?_
  obtain rfl := si H
  have H := Ho4
  dsimp only at H
  obtain rfl := si H
  exact fO [(false,[cI (-1)])] kr rfl rfl
 rintro y3 H
 have H : (laws_heldPtS_J1 n y3) = some r := H
 unfold laws_heldPtS_J1 at H
 refine tG 2 16 0 kr kr ?_
 exact te (by obtain rfl := si H; exact fO [(false,[cI y3])] kr rfl rfl)
def laws_heldFentS_J1 (n : Nat) (y3 : Int) : Option (Int) :=
  (some y3)
def laws_heldFentS_L2 (n : Nat) : Nat → (List Fent) → Int → Int → Option ((Int) ⊕ (Int))
  | 0,_,_,_ => none
  | mo4 + 1,x0,y1,y2 => (bif (decide (y1 < (x0.length : Int))) then ((idx x0 y1).bind fun v5 => (bif (v5.Tag != y2) then (some (Sum.inr (-1))) else ((idx x0 y1).bind fun v6 => (bif (v6.Mac != (IntKind.wrap .i64 (y2 + 1))) then (some (Sum.inr (-1))) else ((idx x0 y1).bind fun v7 => (bif (v7.Port != (IntKind.wrap .i64 ((IntKind.wrap .i64 (y2 + 1)) + 1))) then (some (Sum.inr (-1))) else ((idx x0 y1).bind fun v8 => (bif (v8.Age != (IntKind.wrap .i64 ((IntKind.wrap .i64 ((IntKind.wrap .i64 (y2 + 1)) + 1)) + 1))) then (some (Sum.inr (-1))) else ((idx x0 y1).bind fun v9 => (bif (decide ((3 : Int) ≠ 0)) then (bif (!(v9.Static == ((Int.tmod (IntKind.wrap .i64 ((IntKind.wrap .i64 ((IntKind.wrap .i64 ((IntKind.wrap .i64 (y2 + 1)) + 1)) + 1)) + 1)) 3) == 0))) then (some (Sum.inr (-1))) else (laws_heldFentS_L2 n mo4 x0 (IntKind.wrap .i64 (y1 + 1)) (IntKind.wrap .i64 ((IntKind.wrap .i64 ((IntKind.wrap .i64 ((IntKind.wrap .i64 ((IntKind.wrap .i64 (y2 + 1)) + 1)) + 1)) + 1)) + 1)))) else none)))))))))) else (some (Sum.inl y2)))
def laws_heldFentSF (n : Nat) (x0 : (List Fent)) (x1 : Int) : Option (Int) :=
  ((laws_heldFentS_L2 n n x0 0 x1).bind fun o => match o with | .inl y3 => (laws_heldFentS_J1 n y3) | .inr r => some r)
noncomputable abbrev G127 (k : Nat) := Rg Tryz.f127 k
theorem laws_heldFentS (n : Nat) (x0 : (List Fent)) (x1 : Int) (r : Int) (H : laws_heldFentSF n x0 x1 = some r) : LCall Tryz.prog 127 [.val false [.sl false 5 (CV.frzEs (x0.map Fent.row))],.val false [.lit (.int .i64 x1)]] [.val false [.lit (.int .i64 r)]] [] := by
 refine LCall.of_body tOk Tryz.func127 rfl (c := (.seq (G127 0) (.seq (.seq (G127 1) (.block 0 (.loop (.seq (.seq (G127 2) (.cond (.tmp 9) .skip (.exit 0))) (.seq (.block 1 (.seq (.seq (G127 4) (.cond (.tmp 18) (.seq (G127 5) .ret) .skip)) (.seq (G127 6) (.seq (.seq (G127 7) (.cond (.tmp 27) (.seq (G127 8) .ret) .skip)) (.seq (G127 9) (.seq (.seq (G127 10) (.cond (.tmp 36) (.seq (G127 11) .ret) .skip)) (.seq (G127 12) (.seq (.seq (G127 13) (.cond (.tmp 45) (.seq (G127 14) .ret) .skip)) (.seq (G127 15) (.seq (.seq (G127 16) (.cond (.tmp 56) (.seq (G127 17) .ret) .skip)) (G127 18))))))))))) (G127 3)))))) (.seq (G127 19) .ret)))) kr (Nat.le_of_ble_eq_true kr) 0 (rs := [.tmp 4]) rfl [] .nil [(false,[.lit (.int .i64 r)])] [] [] fun cx => ?_
 show Tr _ _ _ ⟨60,0,[sC 0 (cF 5 x0 Fent.row),sI 1 x1],[]⟩ _
 unfold laws_heldFentSF at H
 refine tG 1 3 0 kr kr ?_
 refine tS ?_
 refine tG 1 35 0 kr kr ?_
 obtain ⟨o4,eo4,Ho4⟩ := bind_some H
 clear H
 refine Tr.mid (ι := Int) (fun v => ⟨60,0,[sI 1 v],[]⟩) (fun v => laws_heldFentS_J1 n v = some r) ?_ ?_
 ·refine tB ?_
  refine Tr.loop (ι := Nat × (Int × Int)) (fun v => ⟨60,0,[sI 5 v.2.1,sC 0 (cF 5 x0 Fent.row),sI 1 v.2.2],[]⟩) (fun v => laws_heldFentS_L2 n v.1 x0 v.2.1 v.2.2 = some o4) (fun v => v.1) (n,(0,x1)) eo4 (St.sub_of [5,0,1] [] kr) ?_
  rintro ⟨mo4,y1,y2⟩ H
  have H : laws_heldFentS_L2 n mo4 x0 y1 y2 = some o4 := H
  obtain _ | mo4 := mo4
  ·cases (show (none : Option _) = some o4 from H)
  rw [laws_heldFentS_L2] at H
  refine tS ?_
  refine rU 2 kr ?_
  refine lL 53 3 184 7 8 none ⟨(.slot 7),[],0,false,5,(CV.frzEs (x0.map Fent.row))⟩ (x0).length _ kr kr kr kr kr (frz_len _ _) rfl ?_
  refine uD 1 547 0 kr kr ?_
  obtain ⟨h1,H⟩ | ⟨h1,H⟩ := bC H
  ·refine tF h1 kr ?_
   refine Tr.exit ?_
   refine And.intro (fun _ => ?_) (fun h => absurd rfl h)
   obtain rfl := si H
   have H := Ho4
   dsimp only at H
   exact jn y2 H (sB_ [1] [] kr)
  refine tT h1 kr ?_
  refine tK ?_
  refine tS ?_
  refine tB ?_
  refine tS ?_
  refine rU 2 kr ?_
  obtain ⟨v5,ev5,H⟩ := bind_some H
  refine lI 53 0 12 13 14 none ⟨(.slot 12),[],0,false,5,(CV.frzEs (x0.map Fent.row))⟩ y1 (Fent.row v5) _ kr kr kr kr rfl (idx_isF ev5) rfl ?_
  refine uD 4 262179 0 kr kr ?_
  obtain ⟨h2,H⟩ | ⟨h2,H⟩ := bC H
  ·refine tF h2 kr ?_
   refine tK ?_
   refine tG 3 35 0 kr kr ?_
   refine tS ?_
   refine rU 2 kr ?_
   obtain ⟨v6,ev6,H⟩ := bind_some H
   refine lI 53 0 21 22 23 none ⟨(.slot 21),[],0,false,5,(CV.frzEs (x0.map Fent.row))⟩ y1 (Fent.row v6) _ kr kr kr kr rfl (idx_isF ev6) rfl ?_
   refine uD 4 134217763 0 kr kr ?_
   obtain ⟨h3,H⟩ | ⟨h3,H⟩ := bC H
   ·refine tF h3 kr ?_
    refine tK ?_
    refine tG 3 35 0 kr kr ?_
    refine tS ?_
    refine rU 2 kr ?_
    obtain ⟨v7,ev7,H⟩ := bind_some H
    refine lI 53 0 30 31 32 none ⟨(.slot 30),[],0,false,5,(CV.frzEs (x0.map Fent.row))⟩ y1 (Fent.row v7) _ kr kr kr kr rfl (idx_isF ev7) rfl ?_
    refine uD 4 68719476771 0 kr kr ?_
    obtain ⟨h4,H⟩ | ⟨h4,H⟩ := bC H
    ·refine tF h4 kr ?_
     refine tK ?_
     refine tG 3 35 0 kr kr ?_
     refine tS ?_
     refine rU 2 kr ?_
     obtain ⟨v8,ev8,H⟩ := bind_some H
     refine lI 53 0 39 40 41 none ⟨(.slot 39),[],0,false,5,(CV.frzEs (x0.map Fent.row))⟩ y1 (Fent.row v8) _ kr kr kr kr rfl (idx_isF ev8) rfl ?_
     refine uD 4 35184372088867 0 kr kr ?_
     refine tO ⟨60,0,[sB 45 (v8.Age != (w6 ((w6 ((w6 (y2 + 1)) + 1)) + 1))),sI 1 (w6 ((w6 ((w6 (y2 + 1)) + 1)) + 1)),sI 5 y1,sC 0 (cF 5 x0 Fent.row)],[]⟩ kr ?_
     cases h5 : (v8.Age != (IntKind.wrap .i64 ((IntKind.wrap .i64 ((IntKind.wrap .i64 (y2 + 1)) + 1)) + 1)))
     ·have H := bifF h5 H
      refine tf kr ?_
      refine tK ?_
      refine tG 3 35 0 kr kr ?_
      refine tS ?_
      refine rU 2 kr ?_
      obtain ⟨v9,ev9,H⟩ := bind_some H
      refine lI 53 0 48 49 50 none ⟨(.slot 48),[],0,false,5,(CV.frzEs (x0.map Fent.row))⟩ y1 (Fent.row v9) _ kr kr kr kr rfl (idx_isF ev9) rfl ?_
      refine lU 3 kr ?_
      obtain ⟨hg10,H⟩ := guard_some H
      refine LAt.binC tOk (op := .rem) (t := 3) (ty := 3) (ty' := 3) (x := (.tmp 53)) (y := (.const (.int .i64 3))) (d := 54) (g := none) (.int .i64 (w6 ((w6 ((w6 ((w6 (y2 + 1)) + 1)) + 1)) + 1))) (.int .i64 3) (.int .i64 (Int.tmod (w6 ((w6 ((w6 ((w6 (y2 + 1)) + 1)) + 1)) + 1)) 3)) _ kr kr kr kr kr (φ := (IntKind.i64 = IntKind.i64 ∧ (3 : Int) ≠ 0)) kr (⟨rfl,of_decide_eq_true hg10⟩) rfl ?_
      refine uD 2 72057594037927971 0 kr kr ?_
      obtain ⟨h6,H⟩ | ⟨h6,H⟩ := bC H
      ·refine tF h6 kr ?_
       refine tK ?_
       refine tE 3 35 0 kr kr ?_
       refine tE 3 35 0 kr kr ?_
       exact jn (mo4,((w6 (y1 + 1)),(w6 ((w6 ((w6 ((w6 ((w6 (y2 + 1)) + 1)) + 1)) + 1)) + 1)))) H (sM mo4 [5,0,1] [] kr)
      refine tT h6 kr ?_
      refine tG 1 16 0 kr kr ?_
      refine te ?_
      obtain rfl := si H
      have H := Ho4
      dsimp only at H
      obtain rfl := si H
      exact fO [(false,[cI (-1)])] kr rfl rfl
     have H := bifT h5 H
     refine tt kr ?_
     refine tG 1 16 0 kr kr ?_
     refine te ?_
     obtain rfl := si H
     have H := Ho4
     dsimp only at H
     obtain rfl := si H
     exact fO [(false,[cI (-1)])] kr rfl rfl
    refine tT h4 kr ?_
    refine tG 1 16 0 kr kr ?_
    refine te ?_
    obtain rfl := si H
    have H := Ho4
    dsimp only at H
    obtain rfl := si H
    exact fO [(false,[cI (-1)])] kr rfl rfl
   refine tT h3 kr ?_
   refine tG 1 16 0 kr kr ?_
   refine te ?_
   obtain rfl := si H
   have H := Ho4
   dsimp only at H
   obtain rfl := si H
   exact fO [(false,[cI (-1)])] kr rfl rfl
  refine tT h2 kr ?_
  refine tG 1 16 0 kr kr ?_
  refine te ?_
  obtain rfl := si H
  have H := Ho4
  dsimp only at H
  obtain rfl := si H
  exact fO [(false,[cI (-1)])] kr rfl rfl
 rintro y3 H
 have H : (laws_heldFentS_J1 n y3) = some r := H
 unfold laws_heldFentS_J1 at H
 refine tG 2 16 0 kr kr ?_
 exact te (by obtain rfl := si H; exact fO [(false,[cI y3])] kr rfl rfl)
def laws_heldVrowS_J1 (n : Nat) (y3 : Int) : Option (Int) :=
  (some y3)
def laws_heldVrowS_L2 (n : Nat) : Nat → (List Vrow) → Int → Int → Option ((Int) ⊕ (Int))
  | 0,_,_,_ => none
  | mo4 + 1,x0,y1,y2 => (bif (decide (y1 < (x0.length : Int))) then ((idx x0 y1).bind fun v5 => (bif (v5.Id != y2) then (some (Sum.inr (-1))) else ((idx x0 y1).bind fun v6 => (bif (v6.Members != (IntKind.wrap .i64 (y2 + 1))) then (some (Sum.inr (-1))) else ((idx x0 y1).bind fun v7 => (bif (v7.Bare != (IntKind.wrap .i64 ((IntKind.wrap .i64 (y2 + 1)) + 1))) then (some (Sum.inr (-1))) else (laws_heldVrowS_L2 n mo4 x0 (IntKind.wrap .i64 (y1 + 1)) (IntKind.wrap .i64 ((IntKind.wrap .i64 ((IntKind.wrap .i64 (y2 + 1)) + 1)) + 1))))))))) else (some (Sum.inl y2)))
def laws_heldVrowSF (n : Nat) (x0 : (List Vrow)) (x1 : Int) : Option (Int) :=
  ((laws_heldVrowS_L2 n n x0 0 x1).bind fun o => match o with | .inl y3 => (laws_heldVrowS_J1 n y3) | .inr r => some r)
noncomputable abbrev G187 (k : Nat) := Rg Tryz.f187 k
theorem laws_heldVrowS (n : Nat) (x0 : (List Vrow)) (x1 : Int) (r : Int) (H : laws_heldVrowSF n x0 x1 = some r) : LCall Tryz.prog 187 [.val false [.sl false 3 (CV.frzEs (x0.map Vrow.row))],.val false [.lit (.int .i64 x1)]] [.val false [.lit (.int .i64 r)]] [] := by
 refine LCall.of_body tOk Tryz.func187 rfl (c := (.seq (G187 0) (.seq (.seq (G187 1) (.block 0 (.loop (.seq (.seq (G187 2) (.cond (.tmp 9) .skip (.exit 0))) (.seq (.block 1 (.seq (.seq (G187 4) (.cond (.tmp 18) (.seq (G187 5) .ret) .skip)) (.seq (G187 6) (.seq (.seq (G187 7) (.cond (.tmp 27) (.seq (G187 8) .ret) .skip)) (.seq (G187 9) (.seq (.seq (G187 10) (.cond (.tmp 36) (.seq (G187 11) .ret) .skip)) (G187 12))))))) (G187 3)))))) (.seq (G187 13) .ret)))) kr (Nat.le_of_ble_eq_true kr) 0 (rs := [.tmp 4]) rfl [] .nil [(false,[.lit (.int .i64 r)])] [] [] fun cx => ?_
 show Tr _ _ _ ⟨40,0,[sC 0 (cF 3 x0 Vrow.row),sI 1 x1],[]⟩ _
 unfold laws_heldVrowSF at H
 refine tG 1 3 0 kr kr ?_
 refine tS ?_
 refine tG 1 35 0 kr kr ?_
 obtain ⟨o4,eo4,Ho4⟩ := bind_some H
 clear H
 refine Tr.mid (ι := Int) (fun v => ⟨40,0,[sI 1 v],[]⟩) (fun v => laws_heldVrowS_J1 n v = some r) ?_ ?_
 ·refine tB ?_
  refine Tr.loop (ι := Nat × (Int × Int)) (fun v => ⟨40,0,[sI 5 v.2.1,sC 0 (cF 3 x0 Vrow.row),sI 1 v.2.2],[]⟩) (fun v => laws_heldVrowS_L2 n v.1 x0 v.2.1 v.2.2 = some o4) (fun v => v.1) (n,(0,x1)) eo4 (St.sub_of [5,0,1] [] kr) ?_
  rintro ⟨mo4,y1,y2⟩ H
  have H : laws_heldVrowS_L2 n mo4 x0 y1 y2 = some o4 := H
  obtain _ | mo4 := mo4
  ·cases (show (none : Option _) = some o4 from H)
  rw [laws_heldVrowS_L2] at H
  refine tS ?_
  refine rU 2 kr ?_
  refine lL 54 3 190 7 8 none ⟨(.slot 7),[],0,false,3,(CV.frzEs (x0.map Vrow.row))⟩ (x0).length _ kr kr kr kr kr (frz_len _ _) rfl ?_
  refine uD 1 547 0 kr kr ?_
  obtain ⟨h1,H⟩ | ⟨h1,H⟩ := bC H
  ·refine tF h1 kr ?_
   refine Tr.exit ?_
   refine And.intro (fun _ => ?_) (fun h => absurd rfl h)
   obtain rfl := si H
   have H := Ho4
   dsimp only at H
   exact jn y2 H (sB_ [1] [] kr)
  refine tT h1 kr ?_
  refine tK ?_
  refine tS ?_
  refine tB ?_
  refine tS ?_
  refine rU 2 kr ?_
  obtain ⟨v5,ev5,H⟩ := bind_some H
  refine lI 54 0 12 13 14 none ⟨(.slot 12),[],0,false,3,(CV.frzEs (x0.map Vrow.row))⟩ y1 (Vrow.row v5) _ kr kr kr kr rfl (idx_isF ev5) rfl ?_
  refine uD 4 262179 0 kr kr ?_
  obtain ⟨h2,H⟩ | ⟨h2,H⟩ := bC H
  ·refine tF h2 kr ?_
   refine tK ?_
   refine tG 3 35 0 kr kr ?_
   refine tS ?_
   refine rU 2 kr ?_
   obtain ⟨v6,ev6,H⟩ := bind_some H
   refine lI 54 0 21 22 23 none ⟨(.slot 21),[],0,false,3,(CV.frzEs (x0.map Vrow.row))⟩ y1 (Vrow.row v6) _ kr kr kr kr rfl (idx_isF ev6) rfl ?_
   refine uD 4 134217763 0 kr kr ?_
   obtain ⟨h3,H⟩ | ⟨h3,H⟩ := bC H
   ·refine tF h3 kr ?_
    refine tK ?_
    refine tG 3 35 0 kr kr ?_
    refine tS ?_
    refine rU 2 kr ?_
    obtain ⟨v7,ev7,H⟩ := bind_some H
    refine lI 54 0 30 31 32 none ⟨(.slot 30),[],0,false,3,(CV.frzEs (x0.map Vrow.row))⟩ y1 (Vrow.row v7) _ kr kr kr kr rfl (idx_isF ev7) rfl ?_
    refine uD 4 68719476771 0 kr kr ?_
    obtain ⟨h4,H⟩ | ⟨h4,H⟩ := bC H
    ·refine tF h4 kr ?_
     refine tK ?_
     refine tE 3 35 0 kr kr ?_
     refine tE 3 35 0 kr kr ?_
     exact jn (mo4,((w6 (y1 + 1)),(w6 ((w6 ((w6 (y2 + 1)) + 1)) + 1)))) H (sM mo4 [5,0,1] [] kr)
    refine tT h4 kr ?_
    refine tG 1 16 0 kr kr ?_
    refine te ?_
    obtain rfl := si H
    have H := Ho4
    dsimp only at H
    obtain rfl := si H
    exact fO [(false,[cI (-1)])] kr rfl rfl
   refine tT h3 kr ?_
   refine tG 1 16 0 kr kr ?_
   refine te ?_
   obtain rfl := si H
   have H := Ho4
   dsimp only at H
   obtain rfl := si H
   exact fO [(false,[cI (-1)])] kr rfl rfl
  refine tT h2 kr ?_
  refine tG 1 16 0 kr kr ?_
  refine te ?_
  obtain rfl := si H
  have H := Ho4
  dsimp only at H
  obtain rfl := si H
  exact fO [(false,[cI (-1)])] kr rfl rfl
 rintro y3 H
 have H : (laws_heldVrowS_J1 n y3) = some r := H
 unfold laws_heldVrowS_J1 at H
 refine tG 2 16 0 kr kr ?_
 exact te (by obtain rfl := si H; exact fO [(false,[cI y3])] kr rfl rfl)
def laws_heldIntS_J1 (n : Nat) (y3 : Int) : Option (Int) :=
  (some y3)
def laws_heldIntS_L2 (n : Nat) : Nat → (List Int) → Int → Int → Option ((Int) ⊕ (Int))
  | 0,_,_,_ => none
  | mo4 + 1,x0,y1,y2 => (bif (decide (y1 < (x0.length : Int))) then ((idx x0 y1).bind fun v5 => (bif (v5 != y2) then (some (Sum.inr (-1))) else (laws_heldIntS_L2 n mo4 x0 (IntKind.wrap .i64 (y1 + 1)) (IntKind.wrap .i64 (y2 + 1))))) else (some (Sum.inl y2)))
def laws_heldIntSF (n : Nat) (x0 : (List Int)) (x1 : Int) : Option (Int) :=
  ((laws_heldIntS_L2 n n x0 0 x1).bind fun o => match o with | .inl y3 => (laws_heldIntS_J1 n y3) | .inr r => some r)
noncomputable abbrev G188 (k : Nat) := Rg Tryz.f188 k
theorem laws_heldIntS (n : Nat) (x0 : (List Int)) (x1 : Int) (r : Int) (H : laws_heldIntSF n x0 x1 = some r) : LCall Tryz.prog 188 [.val false [.sl false 1 (CV.frzEs (x0.map intRow))],.val false [.lit (.int .i64 x1)]] [.val false [.lit (.int .i64 r)]] [] := by
 refine LCall.of_body tOk Tryz.func188 rfl (c := (.seq (G188 0) (.seq (.seq (G188 1) (.block 0 (.loop (.seq (.seq (G188 2) (.cond (.tmp 9) .skip (.exit 0))) (.seq (.block 1 (.seq (.seq (G188 4) (.cond (.tmp 17) (.seq (G188 5) .ret) .skip)) (G188 6))) (G188 3)))))) (.seq (G188 7) .ret)))) kr (Nat.le_of_ble_eq_true kr) 0 (rs := [.tmp 4]) rfl [] .nil [(false,[.lit (.int .i64 r)])] [] [] fun cx => ?_
 show Tr _ _ _ ⟨21,0,[sC 0 (cF 1 x0 intRow),sI 1 x1],[]⟩ _
 unfold laws_heldIntSF at H
 refine tG 1 3 0 kr kr ?_
 refine tS ?_
 refine tG 1 35 0 kr kr ?_
 obtain ⟨o4,eo4,Ho4⟩ := bind_some H
 clear H
 refine Tr.mid (ι := Int) (fun v => ⟨21,0,[sI 1 v],[]⟩) (fun v => laws_heldIntS_J1 n v = some r) ?_ ?_
 ·refine tB ?_
  refine Tr.loop (ι := Nat × (Int × Int)) (fun v => ⟨21,0,[sI 5 v.2.1,sC 0 (cF 1 x0 intRow),sI 1 v.2.2],[]⟩) (fun v => laws_heldIntS_L2 n v.1 x0 v.2.1 v.2.2 = some o4) (fun v => v.1) (n,(0,x1)) eo4 (St.sub_of [5,0,1] [] kr) ?_
  rintro ⟨mo4,y1,y2⟩ H
  have H : laws_heldIntS_L2 n mo4 x0 y1 y2 = some o4 := H
  obtain _ | mo4 := mo4
  ·cases (show (none : Option _) = some o4 from H)
  rw [laws_heldIntS_L2] at H
  refine tS ?_
  refine rU 2 kr ?_
  refine lL 22 3 3 7 8 none ⟨(.slot 7),[],0,false,1,(CV.frzEs (x0.map intRow))⟩ (x0).length _ kr kr kr kr kr (frz_len _ _) rfl ?_
  refine uD 1 547 0 kr kr ?_
  obtain ⟨h1,H⟩ | ⟨h1,H⟩ := bC H
  ·refine tF h1 kr ?_
   refine Tr.exit ?_
   refine And.intro (fun _ => ?_) (fun h => absurd rfl h)
   obtain rfl := si H
   have H := Ho4
   dsimp only at H
   exact jn y2 H (sB_ [1] [] kr)
  refine tT h1 kr ?_
  refine tK ?_
  refine tS ?_
  refine tB ?_
  refine tS ?_
  refine rU 2 kr ?_
  obtain ⟨v5,ev5,H⟩ := bind_some H
  refine lI 22 0 12 13 14 none ⟨(.slot 12),[],0,false,1,(CV.frzEs (x0.map intRow))⟩ y1 [cI v5] _ kr kr kr kr rfl (idx_isF ev5) rfl ?_
  refine uD 3 131107 0 kr kr ?_
  obtain ⟨h2,H⟩ | ⟨h2,H⟩ := bC H
  ·refine tF h2 kr ?_
   refine tK ?_
   refine tE 3 35 0 kr kr ?_
   refine tE 3 35 0 kr kr ?_
   exact jn (mo4,((w6 (y1 + 1)),(w6 (y2 + 1)))) H (sM mo4 [5,0,1] [] kr)
  refine tT h2 kr ?_
  refine tG 1 16 0 kr kr ?_
  refine te ?_
  obtain rfl := si H
  have H := Ho4
  dsimp only at H
  obtain rfl := si H
  exact fO [(false,[cI (-1)])] kr rfl rfl
 rintro y3 H
 have H : (laws_heldIntS_J1 n y3) = some r := H
 unfold laws_heldIntS_J1 at H
 refine tG 2 16 0 kr kr ?_
 exact te (by obtain rfl := si H; exact fO [(false,[cI y3])] kr rfl rfl)
def laws_heldBridgeS_J1 (n : Nat) (y3 : Int) : Option (Int) :=
  (some y3)
def laws_heldBridgeS_L2 (n : Nat) : Nat → (List Bridge) → Int → Int → Option ((Int) ⊕ (Int))
  | 0,_,_,_ => none
  | mo4 + 1,x0,y1,y2 => (bif (decide (y1 < (x0.length : Int))) then ((idx x0 y1).bind fun v5 => (bif (v5.Id != y2) then (some (Sum.inr (-1))) else ((idx x0 y1).bind fun v6 => ((laws_markTextF n (IntKind.wrap .i64 (y2 + 1))).bind fun r7 => (bif (!(v6.Name.toList == r7.toList)) then (some (Sum.inr (-1))) else ((idx x0 y1).bind fun v8 => ((laws_heldPtSF n v8.Ports (IntKind.wrap .i64 ((IntKind.wrap .i64 (y2 + 1)) + 1))).bind fun r9 => (bif (decide (r9 < 0)) then (some (Sum.inr (-1))) else ((idx x0 y1).bind fun v10 => ((laws_heldFentSF n v10.F r9).bind fun r11 => (bif (decide (r11 < 0)) then (some (Sum.inr (-1))) else ((idx x0 y1).bind fun v12 => ((laws_heldVrowSF n v12.V.Rows r11).bind fun r13 => (bif (decide (r13 < 0)) then (some (Sum.inr (-1))) else ((idx x0 y1).bind fun v14 => ((laws_heldIntSF n v14.V.Pvid r13).bind fun r15 => (bif (decide (r15 < 0)) then (some (Sum.inr (-1))) else ((idx x0 y1).bind fun v16 => (bif (v16.Ticks != r15) then (some (Sum.inr (-1))) else ((idx x0 y1).bind fun v17 => (bif (v17.Parse != (IntKind.wrap .i64 (r15 + 1))) then (some (Sum.inr (-1))) else ((idx x0 y1).bind fun v18 => (bif (v18.Word != (IntKind.wrap .i64 ((IntKind.wrap .i64 (r15 + 1)) + 1))) then (some (Sum.inr (-1))) else ((idx x0 y1).bind fun v19 => (bif (v19.Drops != (IntKind.wrap .i64 ((IntKind.wrap .i64 ((IntKind.wrap .i64 (r15 + 1)) + 1)) + 1))) then (some (Sum.inr (-1))) else ((idx x0 y1).bind fun v20 => (bif (v20.Vers != (IntKind.wrap .i64 ((IntKind.wrap .i64 ((IntKind.wrap .i64 ((IntKind.wrap .i64 (r15 + 1)) + 1)) + 1)) + 1))) then (some (Sum.inr (-1))) else (laws_heldBridgeS_L2 n mo4 x0 (IntKind.wrap .i64 (y1 + 1)) (IntKind.wrap .i64 ((IntKind.wrap .i64 ((IntKind.wrap .i64 ((IntKind.wrap .i64 ((IntKind.wrap .i64 (r15 + 1)) + 1)) + 1)) + 1)) + 1)))))))))))))))))))))))))))))) else (some (Sum.inl y2)))
def laws_heldBridgeSF (n : Nat) (x0 : (List Bridge)) (x1 : Int) : Option (Int) :=
  ((laws_heldBridgeS_L2 n n x0 0 x1).bind fun o => match o with | .inl y3 => (laws_heldBridgeS_J1 n y3) | .inr r => some r)
noncomputable abbrev G88 (k : Nat) := Rg Tryz.f88 k
theorem laws_heldBridgeS (n : Nat) (x0 : (List Bridge)) (x1 : Int) (r : Int) (H : laws_heldBridgeSF n x0 x1 = some r) : LCall Tryz.prog 88 [.val false [.sl false 11 (CV.frzEs (x0.map Bridge.row))],.val false [.lit (.int .i64 x1)]] [.val false [.lit (.int .i64 r)]] [] := by
 refine LCall.of_body tOk Tryz.func88 rfl (c := (.seq (G88 0) (.seq (.seq (G88 1) (.block 0 (.loop (.seq (.seq (G88 2) (.cond (.tmp 9) .skip (.exit 0))) (.seq (.block 1 (.seq (.seq (G88 4) (.cond (.tmp 18) (.seq (G88 5) .ret) .skip)) (.seq (G88 6) (.seq (.seq (Rd Tryz.f88 7) (.cond (.tmp 28) (.seq (G88 8) .ret) .skip)) (.seq (G88 9) (.seq (G88 10) (.seq (.seq (G88 11) (.cond (.tmp 39) (.seq (G88 12) .ret) .skip)) (.seq (G88 13) (.seq (.seq (G88 14) (.cond (.tmp 48) (.seq (G88 15) .ret) .skip)) (.seq (G88 16) (.seq (.seq (G88 17) (.cond (.tmp 58) (.seq (G88 18) .ret) .skip)) (.seq (G88 19) (.seq (.seq (G88 20) (.cond (.tmp 68) (.seq (G88 21) .ret) .skip)) (.seq (.seq (G88 22) (.cond (.tmp 75) (.seq (G88 23) .ret) .skip)) (.seq (G88 24) (.seq (.seq (G88 25) (.cond (.tmp 84) (.seq (G88 26) .ret) .skip)) (.seq (G88 27) (.seq (.seq (G88 28) (.cond (.tmp 93) (.seq (G88 29) .ret) .skip)) (.seq (G88 30) (.seq (.seq (G88 31) (.cond (.tmp 102) (.seq (G88 32) .ret) .skip)) (.seq (G88 33) (.seq (.seq (G88 34) (.cond (.tmp 111) (.seq (G88 35) .ret) .skip)) (G88 36))))))))))))))))))))))) (G88 3)))))) (.seq (G88 37) .ret)))) kr (Nat.le_of_ble_eq_true kr) 0 (rs := [.tmp 4]) rfl [] .nil [(false,[.lit (.int .i64 r)])] [] [] fun cx => ?_
 show Tr _ _ _ ⟨115,0,[sC 0 (cF 11 x0 Bridge.row),sI 1 x1],[]⟩ _
 unfold laws_heldBridgeSF at H
 refine tG 1 3 0 kr kr ?_
 refine tS ?_
 refine tG 1 35 0 kr kr ?_
 obtain ⟨o4,eo4,Ho4⟩ := bind_some H
 clear H
 refine Tr.mid (ι := Int) (fun v => ⟨115,0,[sI 1 v],[]⟩) (fun v => laws_heldBridgeS_J1 n v = some r) ?_ ?_
 ·refine tB ?_
  refine Tr.loop (ι := Nat × (Int × Int)) (fun v => ⟨115,0,[sI 5 v.2.1,sC 0 (cF 11 x0 Bridge.row),sI 1 v.2.2],[]⟩) (fun v => laws_heldBridgeS_L2 n v.1 x0 v.2.1 v.2.2 = some o4) (fun v => v.1) (n,(0,x1)) eo4 (St.sub_of [5,0,1] [] kr) ?_
  rintro ⟨mo4,y1,y2⟩ H
  have H : laws_heldBridgeS_L2 n mo4 x0 y1 y2 = some o4 := H
  obtain _ | mo4 := mo4
  ·cases (show (none : Option _) = some o4 from H)
  rw [laws_heldBridgeS_L2] at H
  refine tS ?_
  refine rU 2 kr ?_
  refine lL 25 3 58 7 8 none ⟨(.slot 7),[],0,false,11,(CV.frzEs (x0.map Bridge.row))⟩ (x0).length _ kr kr kr kr kr (frz_len _ _) rfl ?_
  refine uD 1 547 0 kr kr ?_
  obtain ⟨h1,H⟩ | ⟨h1,H⟩ := bC H
  ·refine tF h1 kr ?_
   refine Tr.exit ?_
   refine And.intro (fun _ => ?_) (fun h => absurd rfl h)
   obtain rfl := si H
   have H := Ho4
   dsimp only at H
   exact jn y2 H (sB_ [1] [] kr)
  refine tT h1 kr ?_
  refine tK ?_
  refine tS ?_
  refine tB ?_
  refine tS ?_
  refine rU 2 kr ?_
  obtain ⟨v5,ev5,H⟩ := bind_some H
  refine lI 25 0 12 13 14 none ⟨(.slot 12),[],0,false,11,(CV.frzEs (x0.map Bridge.row))⟩ y1 (CV.frzRow (Bridge.row v5)) _ kr kr kr kr rfl (idx_isF ev5) rfl ?_
  refine uD 4 262179 0 kr kr ?_
  obtain ⟨h2,H⟩ | ⟨h2,H⟩ := bC H
  ·refine tF h2 kr ?_
   refine tK ?_
   refine tG 3 35 0 kr kr ?_
   refine tS ?_
   obtain ⟨v6,ev6,H⟩ := bind_some H
   obtain ⟨r7,er7,H⟩ := bind_some H
   refine Tr.draws mixed 8 kr ⟨115,0,[sB 28 (!(v6.Name.toList == r7.toList)),sI 1 (w6 (y2 + 1)),sI 5 y1,sC 0 (cF 11 x0 Bridge.row)],[]⟩ (fun cx => ?_) ?_
   ·refine aU [(0,[]),(1,[])] 6 [] [1,0] rfl kr (fun cx => ?_)
    refine aI 2 25 0 21 22 23 none ⟨(.slot 21),[],0,false,11,(CV.frzEs (x0.map Bridge.row))⟩ y1 (CV.frzRow (Bridge.row v6)) _ kr kr kr kr kr kr rfl (idx_isF ev6) rfl (fun cx => ?_)
    refine aU [(3,[]),(4,[]),(5,[])] 2 [] [5,4,3,2,1,0] rfl kr (fun cx => ?_)
    refine b1 6 kr kr ?_
    refine lV [.rd] [] (laws_markText n (w6 (y2 + 1)) r7 er7) kr kr kr kr (.inl rfl) ?_
    refine lF kr kr kr ?_
    refine aU [(7,[])] 0 [] [7,6,5,4,3,2,1,0] rfl kr (fun cx => ?_)
    exact AT.done [28,1,5,0] [] _ kr kr rfl
   refine tO ⟨115,0,[sB 28 (!(v6.Name.toList == r7.toList)),sI 1 (w6 (y2 + 1)),sI 5 y1,sC 0 (cF 11 x0 Bridge.row)],[]⟩ kr ?_
   cases h3 : (!(v6.Name.toList == r7.toList))
   ·have H := bifF h3 H
    refine tf kr ?_
    refine tK ?_
    refine tG 3 35 0 kr kr ?_
    refine rU 2 kr ?_
    obtain ⟨v8,ev8,H⟩ := bind_some H
    refine lI 25 0 31 32 33 none ⟨(.slot 31),[],0,false,11,(CV.frzEs (x0.map Bridge.row))⟩ y1 (CV.frzRow (Bridge.row v8)) _ kr kr kr kr rfl (idx_isF ev8) rfl ?_
    refine lU 3 kr ?_
    obtain ⟨r9,er9,H⟩ := bind_some H
    refine lV [.rd,.rd] [] (laws_heldPtS n v8.Ports (w6 ((w6 (y2 + 1)) + 1)) r9 er9) kr kr kr kr (.inl rfl) ?_
    refine uD 1 35 0 kr kr ?_
    refine tS ?_
    refine tG 2 549755813923 0 kr kr ?_
    obtain ⟨h4,H⟩ | ⟨h4,H⟩ := bC H
    ·refine tF h4 kr ?_
     refine tK ?_
     refine rU 2 kr ?_
     obtain ⟨v10,ev10,H⟩ := bind_some H
     refine lI 25 0 40 41 42 none ⟨(.slot 40),[],0,false,11,(CV.frzEs (x0.map Bridge.row))⟩ y1 (CV.frzRow (Bridge.row v10)) _ kr kr kr kr rfl (idx_isF ev10) rfl ?_
     refine lU 3 kr ?_
     obtain ⟨r11,er11,H⟩ := bind_some H
     refine lV [.rd,.rd] [] (laws_heldFentS n v10.F r9 r11 er11) kr kr kr kr (.inl rfl) ?_
     refine uD 1 35 0 kr kr ?_
     refine tS ?_
     refine tG 2 281474976710691 0 kr kr ?_
     obtain ⟨h5,H⟩ | ⟨h5,H⟩ := bC H
     ·refine tF h5 kr ?_
      refine tK ?_
      refine rU 2 kr ?_
      obtain ⟨v12,ev12,H⟩ := bind_some H
      refine lI 25 0 49 50 51 none ⟨(.slot 49),[],0,false,11,(CV.frzEs (x0.map Bridge.row))⟩ y1 (CV.frzRow (Bridge.row v12)) _ kr kr kr kr rfl (idx_isF ev12) rfl ?_
      refine lU 4 kr ?_
      obtain ⟨r13,er13,H⟩ := bind_some H
      refine lV [.rd,.rd] [] (laws_heldVrowS n v12.V.Rows r11 r13 er13) kr kr kr kr (.inl rfl) ?_
      refine uD 1 35 0 kr kr ?_
      refine tS ?_
      refine tG 2 0x400000000000023 0 kr kr ?_
      refine tO ⟨115,0,[sB 58 (decide (r13 < 0)),sI 1 r13,sI 5 y1,sC 0 (cF 11 x0 Bridge.row)],[]⟩ kr ?_
      cases h6 : (decide (r13 < 0))
      ·have H := bifF h6 H
       refine tf kr ?_
       refine tK ?_
       refine rU 2 kr ?_
       obtain ⟨v14,ev14,H⟩ := bind_some H
       refine lI 25 0 59 60 61 none ⟨(.slot 59),[],0,false,11,(CV.frzEs (x0.map Bridge.row))⟩ y1 (CV.frzRow (Bridge.row v14)) _ kr kr kr kr rfl (idx_isF ev14) rfl ?_
       refine lU 4 kr ?_
       obtain ⟨r15,er15,H⟩ := bind_some H
       refine lV [.rd,.rd] [] (laws_heldIntS n v14.V.Pvid r13 r15 er15) kr kr kr kr (.inl rfl) ?_
       refine uD 1 35 0 kr kr ?_
       refine tS ?_
       refine tG 2 0x100000000000000023 0 kr kr ?_
       obtain ⟨h7,H⟩ | ⟨h7,H⟩ := bC H
       ·refine tF h7 kr ?_
        refine tK ?_
        refine tS ?_
        refine rU 2 kr ?_
        obtain ⟨v16,ev16,H⟩ := bind_some H
        refine lI 25 0 69 70 71 none ⟨(.slot 69),[],0,false,11,(CV.frzEs (x0.map Bridge.row))⟩ y1 (CV.frzRow (Bridge.row v16)) _ kr kr kr kr rfl (idx_isF ev16) rfl ?_
        refine uD 4 0x8000000000000000023 0 kr kr ?_
        obtain ⟨h8,H⟩ | ⟨h8,H⟩ := bC H
        ·refine tF h8 kr ?_
         refine tK ?_
         refine tG 3 35 0 kr kr ?_
         refine tS ?_
         refine rU 2 kr ?_
         obtain ⟨v17,ev17,H⟩ := bind_some H
         refine lI 25 0 78 79 80 none ⟨(.slot 78),[],0,false,11,(CV.frzEs (x0.map Bridge.row))⟩ y1 (CV.frzRow (Bridge.row v17)) _ kr kr kr kr rfl (idx_isF ev17) rfl ?_
         refine uD 4 0x1000000000000000000023 0 kr kr ?_
         obtain ⟨h9,H⟩ | ⟨h9,H⟩ := bC H
         ·refine tF h9 kr ?_
          refine tK ?_
          refine tG 3 35 0 kr kr ?_
          refine tS ?_
          refine rU 2 kr ?_
          obtain ⟨v18,ev18,H⟩ := bind_some H
          refine lI 25 0 87 88 89 none ⟨(.slot 87),[],0,false,11,(CV.frzEs (x0.map Bridge.row))⟩ y1 (CV.frzRow (Bridge.row v18)) _ kr kr kr kr rfl (idx_isF ev18) rfl ?_
          refine uD 4 0x200000000000000000000023 0 kr kr ?_
          refine tO ⟨115,0,[sB 93 (v18.Word != (w6 ((w6 (r15 + 1)) + 1))),sI 1 (w6 ((w6 (r15 + 1)) + 1)),sI 5 y1,sC 0 (cF 11 x0 Bridge.row)],[]⟩ kr ?_
          cases h10 : (v18.Word != (IntKind.wrap .i64 ((IntKind.wrap .i64 (r15 + 1)) + 1)))
          ·have H := bifF h10 H
           refine tf kr ?_
           refine tK ?_
           refine tG 3 35 0 kr kr ?_
           refine tS ?_
           refine rU 2 kr ?_
           obtain ⟨v19,ev19,H⟩ := bind_some H
           refine lI 25 0 96 97 98 none ⟨(.slot 96),[],0,false,11,(CV.frzEs (x0.map Bridge.row))⟩ y1 (CV.frzRow (Bridge.row v19)) _ kr kr kr kr rfl (idx_isF ev19) rfl ?_
           refine uD 4 0x40000000000000000000000023 0 kr kr ?_
           obtain ⟨h11,H⟩ | ⟨h11,H⟩ := bC H
           ·refine tF h11 kr ?_
            refine tK ?_
            refine tG 3 35 0 kr kr ?_
            refine tS ?_
            refine rU 2 kr ?_
            obtain ⟨v20,ev20,H⟩ := bind_some H
            refine lI 25 0 105 106 107 none ⟨(.slot 105),[],0,false,11,(CV.frzEs (x0.map Bridge.row))⟩ y1 (CV.frzRow (Bridge.row v20)) _ kr kr kr kr rfl (idx_isF ev20) rfl ?_
            refine uD 4 0x8000000000000000000000000023 0 kr kr ?_
            obtain ⟨h12,H⟩ | ⟨h12,H⟩ := bC H
            ·refine tF h12 kr ?_
             refine tK ?_
             refine tE 3 35 0 kr kr ?_
             refine tE 3 35 0 kr kr ?_
             exact jn (mo4,((w6 (y1 + 1)),(w6 ((w6 ((w6 ((w6 ((w6 (r15 + 1)) + 1)) + 1)) + 1)) + 1)))) H (sM mo4 [5,0,1] [] kr)
            refine tT h12 kr ?_
            refine tG 1 16 0 kr kr ?_
            refine te ?_
            obtain rfl := si H
            have H := Ho4
            dsimp only at H
            obtain rfl := si H
            exact fO [(false,[cI (-1)])] kr rfl rfl
           refine tT h11 kr ?_
           refine tG 1 16 0 kr kr ?_
           refine te ?_
           obtain rfl := si H
           have H := Ho4
           dsimp only at H
           obtain rfl := si H
           exact fO [(false,[cI (-1)])] kr rfl rfl
          have H := bifT h10 H
          refine tt kr ?_
          refine tG 1 16 0 kr kr ?_
          refine te ?_
          obtain rfl := si H
          have H := Ho4
          dsimp only at H
          obtain rfl := si H
          exact fO [(false,[cI (-1)])] kr rfl rfl
         refine tT h9 kr ?_
         refine tG 1 16 0 kr kr ?_
         refine te ?_
         obtain rfl := si H
         have H := Ho4
         dsimp only at H
         obtain rfl := si H
         exact fO [(false,[cI (-1)])] kr rfl rfl
        refine tT h8 kr ?_
        refine tG 1 16 0 kr kr ?_
        refine te ?_
        obtain rfl := si H
        have H := Ho4
        dsimp only at H
        obtain rfl := si H
        exact fO [(false,[cI (-1)])] kr rfl rfl
       refine tT h7 kr ?_
       refine tG 1 16 0 kr kr ?_
       refine te ?_
       obtain rfl := si H
       have H := Ho4
       dsimp only at H
       obtain rfl := si H
       exact fO [(false,[cI (-1)])] kr rfl rfl
      have H := bifT h6 H
      refine tt kr ?_
      refine tG 1 16 0 kr kr ?_
      refine te ?_
      obtain rfl := si H
      have H := Ho4
      dsimp only at H
      obtain rfl := si H
      exact fO [(false,[cI (-1)])] kr rfl rfl
     refine tT h5 kr ?_
     refine tG 1 16 0 kr kr ?_
     refine te ?_
     obtain rfl := si H
     have H := Ho4
     dsimp only at H
     obtain rfl := si H
     exact fO [(false,[cI (-1)])] kr rfl rfl
    refine tT h4 kr ?_
    refine tG 1 16 0 kr kr ?_
    refine te ?_
    obtain rfl := si H
    have H := Ho4
    dsimp only at H
    obtain rfl := si H
    exact fO [(false,[cI (-1)])] kr rfl rfl
   have H := bifT h3 H
   refine tt kr ?_
   refine tG 1 16 0 kr kr ?_
   refine te ?_
   obtain rfl := si H
   have H := Ho4
   dsimp only at H
   obtain rfl := si H
   exact fO [(false,[cI (-1)])] kr rfl rfl
  refine tT h2 kr ?_
  refine tG 1 16 0 kr kr ?_
  refine te ?_
  obtain rfl := si H
  have H := Ho4
  dsimp only at H
  obtain rfl := si H
  exact fO [(false,[cI (-1)])] kr rfl rfl
 rintro y3 H
 have H : (laws_heldBridgeS_J1 n y3) = some r := H
 unfold laws_heldBridgeS_J1 at H
 refine tG 2 16 0 kr kr ?_
 exact te (by obtain rfl := si H; exact fO [(false,[cI y3])] kr rfl rfl)
def laws_heldLinkS_J1 (n : Nat) (y3 : Int) : Option (Int) :=
  (some y3)
def laws_heldLinkS_L2 (n : Nat) : Nat → (List Link) → Int → Int → Option ((Int) ⊕ (Int))
  | 0,_,_,_ => none
  | mo4 + 1,x0,y1,y2 => (bif (decide (y1 < (x0.length : Int))) then ((idx x0 y1).bind fun v5 => (bif (v5.A != y2) then (some (Sum.inr (-1))) else ((idx x0 y1).bind fun v6 => (bif (v6.P != (IntKind.wrap .i64 (y2 + 1))) then (some (Sum.inr (-1))) else ((idx x0 y1).bind fun v7 => (bif (v7.B != (IntKind.wrap .i64 ((IntKind.wrap .i64 (y2 + 1)) + 1))) then (some (Sum.inr (-1))) else ((idx x0 y1).bind fun v8 => (bif (v8.Q != (IntKind.wrap .i64 ((IntKind.wrap .i64 ((IntKind.wrap .i64 (y2 + 1)) + 1)) + 1))) then (some (Sum.inr (-1))) else (laws_heldLinkS_L2 n mo4 x0 (IntKind.wrap .i64 (y1 + 1)) (IntKind.wrap .i64 ((IntKind.wrap .i64 ((IntKind.wrap .i64 ((IntKind.wrap .i64 (y2 + 1)) + 1)) + 1)) + 1))))))))))) else (some (Sum.inl y2)))
def laws_heldLinkSF (n : Nat) (x0 : (List Link)) (x1 : Int) : Option (Int) :=
  ((laws_heldLinkS_L2 n n x0 0 x1).bind fun o => match o with | .inl y3 => (laws_heldLinkS_J1 n y3) | .inr r => some r)
noncomputable abbrev G89 (k : Nat) := Rg Tryz.f89 k
theorem laws_heldLinkS (n : Nat) (x0 : (List Link)) (x1 : Int) (r : Int) (H : laws_heldLinkSF n x0 x1 = some r) : LCall Tryz.prog 89 [.val false [.sl false 4 (CV.frzEs (x0.map Link.row))],.val false [.lit (.int .i64 x1)]] [.val false [.lit (.int .i64 r)]] [] := by
 refine LCall.of_body tOk Tryz.func89 rfl (c := (.seq (G89 0) (.seq (.seq (G89 1) (.block 0 (.loop (.seq (.seq (G89 2) (.cond (.tmp 9) .skip (.exit 0))) (.seq (.block 1 (.seq (.seq (G89 4) (.cond (.tmp 18) (.seq (G89 5) .ret) .skip)) (.seq (G89 6) (.seq (.seq (G89 7) (.cond (.tmp 27) (.seq (G89 8) .ret) .skip)) (.seq (G89 9) (.seq (.seq (G89 10) (.cond (.tmp 36) (.seq (G89 11) .ret) .skip)) (.seq (G89 12) (.seq (.seq (G89 13) (.cond (.tmp 45) (.seq (G89 14) .ret) .skip)) (G89 15))))))))) (G89 3)))))) (.seq (G89 16) .ret)))) kr (Nat.le_of_ble_eq_true kr) 0 (rs := [.tmp 4]) rfl [] .nil [(false,[.lit (.int .i64 r)])] [] [] fun cx => ?_
 show Tr _ _ _ ⟨49,0,[sC 0 (cF 4 x0 Link.row),sI 1 x1],[]⟩ _
 unfold laws_heldLinkSF at H
 refine tG 1 3 0 kr kr ?_
 refine tS ?_
 refine tG 1 35 0 kr kr ?_
 obtain ⟨o4,eo4,Ho4⟩ := bind_some H
 clear H
 refine Tr.mid (ι := Int) (fun v => ⟨49,0,[sI 1 v],[]⟩) (fun v => laws_heldLinkS_J1 n v = some r) ?_ ?_
 ·refine tB ?_
  refine Tr.loop (ι := Nat × (Int × Int)) (fun v => ⟨49,0,[sI 5 v.2.1,sC 0 (cF 4 x0 Link.row),sI 1 v.2.2],[]⟩) (fun v => laws_heldLinkS_L2 n v.1 x0 v.2.1 v.2.2 = some o4) (fun v => v.1) (n,(0,x1)) eo4 (St.sub_of [5,0,1] [] kr) ?_
  rintro ⟨mo4,y1,y2⟩ H
  have H : laws_heldLinkS_L2 n mo4 x0 y1 y2 = some o4 := H
  obtain _ | mo4 := mo4
  ·cases (show (none : Option _) = some o4 from H)
  rw [laws_heldLinkS_L2] at H
  refine tS ?_
  refine rU 2 kr ?_
  refine lL 26 3 126 7 8 none ⟨(.slot 7),[],0,false,4,(CV.frzEs (x0.map Link.row))⟩ (x0).length _ kr kr kr kr kr (frz_len _ _) rfl ?_
  refine uD 1 547 0 kr kr ?_
  obtain ⟨h1,H⟩ | ⟨h1,H⟩ := bC H
  ·refine tF h1 kr ?_
   refine Tr.exit ?_
   refine And.intro (fun _ => ?_) (fun h => absurd rfl h)
   obtain rfl := si H
   have H := Ho4
   dsimp only at H
   exact jn y2 H (sB_ [1] [] kr)
  refine tT h1 kr ?_
  refine tK ?_
  refine tS ?_
  refine tB ?_
  refine tS ?_
  refine rU 2 kr ?_
  obtain ⟨v5,ev5,H⟩ := bind_some H
  refine lI 26 0 12 13 14 none ⟨(.slot 12),[],0,false,4,(CV.frzEs (x0.map Link.row))⟩ y1 (Link.row v5) _ kr kr kr kr rfl (idx_isF ev5) rfl ?_
  refine uD 4 262179 0 kr kr ?_
  obtain ⟨h2,H⟩ | ⟨h2,H⟩ := bC H
  ·refine tF h2 kr ?_
   refine tK ?_
   refine tG 3 35 0 kr kr ?_
   refine tS ?_
   refine rU 2 kr ?_
   obtain ⟨v6,ev6,H⟩ := bind_some H
   refine lI 26 0 21 22 23 none ⟨(.slot 21),[],0,false,4,(CV.frzEs (x0.map Link.row))⟩ y1 (Link.row v6) _ kr kr kr kr rfl (idx_isF ev6) rfl ?_
   refine uD 4 134217763 0 kr kr ?_
   obtain ⟨h3,H⟩ | ⟨h3,H⟩ := bC H
   ·refine tF h3 kr ?_
    refine tK ?_
    refine tG 3 35 0 kr kr ?_
    refine tS ?_
    refine rU 2 kr ?_
    obtain ⟨v7,ev7,H⟩ := bind_some H
    refine lI 26 0 30 31 32 none ⟨(.slot 30),[],0,false,4,(CV.frzEs (x0.map Link.row))⟩ y1 (Link.row v7) _ kr kr kr kr rfl (idx_isF ev7) rfl ?_
    refine uD 4 68719476771 0 kr kr ?_
    obtain ⟨h4,H⟩ | ⟨h4,H⟩ := bC H
    ·refine tF h4 kr ?_
     refine tK ?_
     refine tG 3 35 0 kr kr ?_
     refine tS ?_
     refine rU 2 kr ?_
     obtain ⟨v8,ev8,H⟩ := bind_some H
     refine lI 26 0 39 40 41 none ⟨(.slot 39),[],0,false,4,(CV.frzEs (x0.map Link.row))⟩ y1 (Link.row v8) _ kr kr kr kr rfl (idx_isF ev8) rfl ?_
     refine uD 4 35184372088867 0 kr kr ?_
     refine tO ⟨49,0,[sB 45 (v8.Q != (w6 ((w6 ((w6 (y2 + 1)) + 1)) + 1))),sI 1 (w6 ((w6 ((w6 (y2 + 1)) + 1)) + 1)),sI 5 y1,sC 0 (cF 4 x0 Link.row)],[]⟩ kr ?_
     cases h5 : (v8.Q != (IntKind.wrap .i64 ((IntKind.wrap .i64 ((IntKind.wrap .i64 (y2 + 1)) + 1)) + 1)))
     ·have H := bifF h5 H
      refine tf kr ?_
      refine tK ?_
      refine tE 3 35 0 kr kr ?_
      refine tE 3 35 0 kr kr ?_
      exact jn (mo4,((w6 (y1 + 1)),(w6 ((w6 ((w6 ((w6 (y2 + 1)) + 1)) + 1)) + 1)))) H (sM mo4 [5,0,1] [] kr)
     have H := bifT h5 H
     refine tt kr ?_
     refine tG 1 16 0 kr kr ?_
     refine te ?_
     obtain rfl := si H
     have H := Ho4
     dsimp only at H
     obtain rfl := si H
     exact fO [(false,[cI (-1)])] kr rfl rfl
    refine tT h4 kr ?_
    refine tG 1 16 0 kr kr ?_
    refine te ?_
    obtain rfl := si H
    have H := Ho4
    dsimp only at H
    obtain rfl := si H
    exact fO [(false,[cI (-1)])] kr rfl rfl
   refine tT h3 kr ?_
   refine tG 1 16 0 kr kr ?_
   refine te ?_
   obtain rfl := si H
   have H := Ho4
   dsimp only at H
   obtain rfl := si H
   exact fO [(false,[cI (-1)])] kr rfl rfl
  refine tT h2 kr ?_
  refine tG 1 16 0 kr kr ?_
  refine te ?_
  obtain rfl := si H
  have H := Ho4
  dsimp only at H
  obtain rfl := si H
  exact fO [(false,[cI (-1)])] kr rfl rfl
 rintro y3 H
 have H : (laws_heldLinkS_J1 n y3) = some r := H
 unfold laws_heldLinkS_J1 at H
 refine tG 2 16 0 kr kr ?_
 exact te (by obtain rfl := si H; exact fO [(false,[cI y3])] kr rfl rfl)
def laws_heldSayS_J1 (n : Nat) (y3 : Int) : Option (Int) :=
  (some y3)
def laws_heldSayS_L2 (n : Nat) : Nat → (List Say) → Int → Int → Option ((Int) ⊕ (Int))
  | 0,_,_,_ => none
  | mo4 + 1,x0,y1,y2 => (bif (decide (y1 < (x0.length : Int))) then ((idx x0 y1).bind fun v5 => (bif (v5.Link != y2) then (some (Sum.inr (-1))) else ((idx x0 y1).bind fun v6 => (bif (decide ((3 : Int) ≠ 0)) then (bif (!(v6.Back == ((Int.tmod (IntKind.wrap .i64 (y2 + 1)) 3) == 0))) then (some (Sum.inr (-1))) else ((idx x0 y1).bind fun v8 => (bif (v8.V.Root != (IntKind.wrap .i64 ((IntKind.wrap .i64 (y2 + 1)) + 1))) then (some (Sum.inr (-1))) else ((idx x0 y1).bind fun v9 => (bif (v9.V.Cost != (IntKind.wrap .i64 ((IntKind.wrap .i64 ((IntKind.wrap .i64 (y2 + 1)) + 1)) + 1))) then (some (Sum.inr (-1))) else ((idx x0 y1).bind fun v10 => (bif (v10.V.Hops != (IntKind.wrap .i64 ((IntKind.wrap .i64 ((IntKind.wrap .i64 ((IntKind.wrap .i64 (y2 + 1)) + 1)) + 1)) + 1))) then (some (Sum.inr (-1))) else ((idx x0 y1).bind fun v11 => (bif (v11.V.Bridge != (IntKind.wrap .i64 ((IntKind.wrap .i64 ((IntKind.wrap .i64 ((IntKind.wrap .i64 ((IntKind.wrap .i64 (y2 + 1)) + 1)) + 1)) + 1)) + 1))) then (some (Sum.inr (-1))) else ((idx x0 y1).bind fun v12 => (bif (v12.V.Port != (IntKind.wrap .i64 ((IntKind.wrap .i64 ((IntKind.wrap .i64 ((IntKind.wrap .i64 ((IntKind.wrap .i64 ((IntKind.wrap .i64 (y2 + 1)) + 1)) + 1)) + 1)) + 1)) + 1))) then (some (Sum.inr (-1))) else (laws_heldSayS_L2 n mo4 x0 (IntKind.wrap .i64 (y1 + 1)) (IntKind.wrap .i64 ((IntKind.wrap .i64 ((IntKind.wrap .i64 ((IntKind.wrap .i64 ((IntKind.wrap .i64 ((IntKind.wrap .i64 ((IntKind.wrap .i64 (y2 + 1)) + 1)) + 1)) + 1)) + 1)) + 1)) + 1)))))))))))))) else none)))) else (some (Sum.inl y2)))
def laws_heldSaySF (n : Nat) (x0 : (List Say)) (x1 : Int) : Option (Int) :=
  ((laws_heldSayS_L2 n n x0 0 x1).bind fun o => match o with | .inl y3 => (laws_heldSayS_J1 n y3) | .inr r => some r)
noncomputable abbrev G90 (k : Nat) := Rg Tryz.f90 k
theorem laws_heldSayS (n : Nat) (x0 : (List Say)) (x1 : Int) (r : Int) (H : laws_heldSaySF n x0 x1 = some r) : LCall Tryz.prog 90 [.val false [.sl false 7 (CV.frzEs (x0.map Say.row))],.val false [.lit (.int .i64 x1)]] [.val false [.lit (.int .i64 r)]] [] := by
 refine LCall.of_body tOk Tryz.func90 rfl (c := (.seq (G90 0) (.seq (.seq (G90 1) (.block 0 (.loop (.seq (.seq (G90 2) (.cond (.tmp 9) .skip (.exit 0))) (.seq (.block 1 (.seq (.seq (G90 4) (.cond (.tmp 18) (.seq (G90 5) .ret) .skip)) (.seq (G90 6) (.seq (.seq (G90 7) (.cond (.tmp 29) (.seq (G90 8) .ret) .skip)) (.seq (G90 9) (.seq (.seq (G90 10) (.cond (.tmp 39) (.seq (G90 11) .ret) .skip)) (.seq (G90 12) (.seq (.seq (G90 13) (.cond (.tmp 49) (.seq (G90 14) .ret) .skip)) (.seq (G90 15) (.seq (.seq (G90 16) (.cond (.tmp 59) (.seq (G90 17) .ret) .skip)) (.seq (G90 18) (.seq (.seq (G90 19) (.cond (.tmp 69) (.seq (G90 20) .ret) .skip)) (.seq (G90 21) (.seq (.seq (G90 22) (.cond (.tmp 79) (.seq (G90 23) .ret) .skip)) (G90 24))))))))))))))) (G90 3)))))) (.seq (G90 25) .ret)))) kr (Nat.le_of_ble_eq_true kr) 0 (rs := [.tmp 4]) rfl [] .nil [(false,[.lit (.int .i64 r)])] [] [] fun cx => ?_
 show Tr _ _ _ ⟨83,0,[sC 0 (cF 7 x0 Say.row),sI 1 x1],[]⟩ _
 unfold laws_heldSaySF at H
 refine tG 1 3 0 kr kr ?_
 refine tS ?_
 refine tG 1 35 0 kr kr ?_
 obtain ⟨o4,eo4,Ho4⟩ := bind_some H
 clear H
 refine Tr.mid (ι := Int) (fun v => ⟨83,0,[sI 1 v],[]⟩) (fun v => laws_heldSayS_J1 n v = some r) ?_ ?_
 ·refine tB ?_
  refine Tr.loop (ι := Nat × (Int × Int)) (fun v => ⟨83,0,[sI 5 v.2.1,sC 0 (cF 7 x0 Say.row),sI 1 v.2.2],[]⟩) (fun v => laws_heldSayS_L2 n v.1 x0 v.2.1 v.2.2 = some o4) (fun v => v.1) (n,(0,x1)) eo4 (St.sub_of [5,0,1] [] kr) ?_
  rintro ⟨mo4,y1,y2⟩ H
  have H : laws_heldSayS_L2 n mo4 x0 y1 y2 = some o4 := H
  obtain _ | mo4 := mo4
  ·cases (show (none : Option _) = some o4 from H)
  rw [laws_heldSayS_L2] at H
  refine tS ?_
  refine rU 2 kr ?_
  refine lL 27 3 195 7 8 none ⟨(.slot 7),[],0,false,7,(CV.frzEs (x0.map Say.row))⟩ (x0).length _ kr kr kr kr kr (frz_len _ _) rfl ?_
  refine uD 1 547 0 kr kr ?_
  obtain ⟨h1,H⟩ | ⟨h1,H⟩ := bC H
  ·refine tF h1 kr ?_
   refine Tr.exit ?_
   refine And.intro (fun _ => ?_) (fun h => absurd rfl h)
   obtain rfl := si H
   have H := Ho4
   dsimp only at H
   exact jn y2 H (sB_ [1] [] kr)
  refine tT h1 kr ?_
  refine tK ?_
  refine tS ?_
  refine tB ?_
  refine tS ?_
  refine rU 2 kr ?_
  obtain ⟨v5,ev5,H⟩ := bind_some H
  refine lI 27 0 12 13 14 none ⟨(.slot 12),[],0,false,7,(CV.frzEs (x0.map Say.row))⟩ y1 (Say.row v5) _ kr kr kr kr rfl (idx_isF ev5) rfl ?_
  refine uD 4 262179 0 kr kr ?_
  obtain ⟨h2,H⟩ | ⟨h2,H⟩ := bC H
  ·refine tF h2 kr ?_
   refine tK ?_
   refine tG 3 35 0 kr kr ?_
   refine tS ?_
   refine rU 2 kr ?_
   obtain ⟨v6,ev6,H⟩ := bind_some H
   refine lI 27 0 21 22 23 none ⟨(.slot 21),[],0,false,7,(CV.frzEs (x0.map Say.row))⟩ y1 (Say.row v6) _ kr kr kr kr rfl (idx_isF ev6) rfl ?_
   refine lU 3 kr ?_
   obtain ⟨hg7,H⟩ := guard_some H
   refine LAt.binC tOk (op := .rem) (t := 3) (ty := 3) (ty' := 3) (x := (.tmp 26)) (y := (.const (.int .i64 3))) (d := 27) (g := none) (.int .i64 (w6 (y2 + 1))) (.int .i64 3) (.int .i64 (Int.tmod (w6 (y2 + 1)) 3)) _ kr kr kr kr kr (φ := (IntKind.i64 = IntKind.i64 ∧ (3 : Int) ≠ 0)) kr (⟨rfl,of_decide_eq_true hg7⟩) rfl ?_
   refine uD 2 536870947 0 kr kr ?_
   obtain ⟨h3,H⟩ | ⟨h3,H⟩ := bC H
   ·refine tF h3 kr ?_
    refine tK ?_
    refine tG 3 35 0 kr kr ?_
    refine tS ?_
    refine rU 2 kr ?_
    obtain ⟨v8,ev8,H⟩ := bind_some H
    refine lI 27 0 32 33 34 none ⟨(.slot 32),[],0,false,7,(CV.frzEs (x0.map Say.row))⟩ y1 (Say.row v8) _ kr kr kr kr rfl (idx_isF ev8) rfl ?_
    refine uD 5 549755813923 0 kr kr ?_
    refine tO ⟨83,0,[sB 39 (v8.V.Root != (w6 ((w6 (y2 + 1)) + 1))),sI 1 (w6 ((w6 (y2 + 1)) + 1)),sI 5 y1,sC 0 (cF 7 x0 Say.row)],[]⟩ kr ?_
    cases h4 : (v8.V.Root != (IntKind.wrap .i64 ((IntKind.wrap .i64 (y2 + 1)) + 1)))
    ·have H := bifF h4 H
     refine tf kr ?_
     refine tK ?_
     refine tG 3 35 0 kr kr ?_
     refine tS ?_
     refine rU 2 kr ?_
     obtain ⟨v9,ev9,H⟩ := bind_some H
     refine lI 27 0 42 43 44 none ⟨(.slot 42),[],0,false,7,(CV.frzEs (x0.map Say.row))⟩ y1 (Say.row v9) _ kr kr kr kr rfl (idx_isF ev9) rfl ?_
     refine uD 5 562949953421347 0 kr kr ?_
     obtain ⟨h5,H⟩ | ⟨h5,H⟩ := bC H
     ·refine tF h5 kr ?_
      refine tK ?_
      refine tG 3 35 0 kr kr ?_
      refine tS ?_
      refine rU 2 kr ?_
      obtain ⟨v10,ev10,H⟩ := bind_some H
      refine lI 27 0 52 53 54 none ⟨(.slot 52),[],0,false,7,(CV.frzEs (x0.map Say.row))⟩ y1 (Say.row v10) _ kr kr kr kr rfl (idx_isF ev10) rfl ?_
      refine uD 5 0x800000000000023 0 kr kr ?_
      obtain ⟨h6,H⟩ | ⟨h6,H⟩ := bC H
      ·refine tF h6 kr ?_
       refine tK ?_
       refine tG 3 35 0 kr kr ?_
       refine tS ?_
       refine rU 2 kr ?_
       obtain ⟨v11,ev11,H⟩ := bind_some H
       refine lI 27 0 62 63 64 none ⟨(.slot 62),[],0,false,7,(CV.frzEs (x0.map Say.row))⟩ y1 (Say.row v11) _ kr kr kr kr rfl (idx_isF ev11) rfl ?_
       refine uD 5 0x200000000000000023 0 kr kr ?_
       obtain ⟨h7,H⟩ | ⟨h7,H⟩ := bC H
       ·refine tF h7 kr ?_
        refine tK ?_
        refine tG 3 35 0 kr kr ?_
        refine tS ?_
        refine rU 2 kr ?_
        obtain ⟨v12,ev12,H⟩ := bind_some H
        refine lI 27 0 72 73 74 none ⟨(.slot 72),[],0,false,7,(CV.frzEs (x0.map Say.row))⟩ y1 (Say.row v12) _ kr kr kr kr rfl (idx_isF ev12) rfl ?_
        refine uD 5 0x80000000000000000023 0 kr kr ?_
        refine tO ⟨83,0,[sB 79 (v12.V.Port != (w6 ((w6 ((w6 ((w6 ((w6 ((w6 (y2 + 1)) + 1)) + 1)) + 1)) + 1)) + 1))),sI 1 (w6 ((w6 ((w6 ((w6 ((w6 ((w6 (y2 + 1)) + 1)) + 1)) + 1)) + 1)) + 1)),sI 5 y1,sC 0 (cF 7 x0 Say.row)],[]⟩ kr ?_
        cases h8 : (v12.V.Port != (IntKind.wrap .i64 ((IntKind.wrap .i64 ((IntKind.wrap .i64 ((IntKind.wrap .i64 ((IntKind.wrap .i64 ((IntKind.wrap .i64 (y2 + 1)) + 1)) + 1)) + 1)) + 1)) + 1)))
        ·have H := bifF h8 H
         refine tf kr ?_
         refine tK ?_
         refine tE 3 35 0 kr kr ?_
         refine tE 3 35 0 kr kr ?_
         exact jn (mo4,((w6 (y1 + 1)),(w6 ((w6 ((w6 ((w6 ((w6 ((w6 ((w6 (y2 + 1)) + 1)) + 1)) + 1)) + 1)) + 1)) + 1)))) H (sM mo4 [5,0,1] [] kr)
        have H := bifT h8 H
        refine tt kr ?_
        refine tG 1 16 0 kr kr ?_
        refine te ?_
        obtain rfl := si H
        have H := Ho4
        dsimp only at H
        obtain rfl := si H
        exact fO [(false,[cI (-1)])] kr rfl rfl
       refine tT h7 kr ?_
       refine tG 1 16 0 kr kr ?_
       refine te ?_
       obtain rfl := si H
       have H := Ho4
       dsimp only at H
       obtain rfl := si H
       exact fO [(false,[cI (-1)])] kr rfl rfl
      refine tT h6 kr ?_
      refine tG 1 16 0 kr kr ?_
      refine te ?_
      obtain rfl := si H
      have H := Ho4
      dsimp only at H
      obtain rfl := si H
      exact fO [(false,[cI (-1)])] kr rfl rfl
     refine tT h5 kr ?_
     refine tG 1 16 0 kr kr ?_
     refine te ?_
     obtain rfl := si H
     have H := Ho4
     dsimp only at H
     obtain rfl := si H
     exact fO [(false,[cI (-1)])] kr rfl rfl
    have H := bifT h4 H
    refine tt kr ?_
    refine tG 1 16 0 kr kr ?_
    refine te ?_
    obtain rfl := si H
    have H := Ho4
    dsimp only at H
    obtain rfl := si H
    exact fO [(false,[cI (-1)])] kr rfl rfl
   refine tT h3 kr ?_
   refine tG 1 16 0 kr kr ?_
   refine te ?_
   obtain rfl := si H
   have H := Ho4
   dsimp only at H
   obtain rfl := si H
   exact fO [(false,[cI (-1)])] kr rfl rfl
  refine tT h2 kr ?_
  refine tG 1 16 0 kr kr ?_
  refine te ?_
  obtain rfl := si H
  have H := Ho4
  dsimp only at H
  obtain rfl := si H
  exact fO [(false,[cI (-1)])] kr rfl rfl
 rintro y3 H
 have H : (laws_heldSayS_J1 n y3) = some r := H
 unfold laws_heldSayS_J1 at H
 refine tG 2 16 0 kr kr ?_
 exact te (by obtain rfl := si H; exact fO [(false,[cI y3])] kr rfl rfl)
def laws_heldNetF (n : Nat) (x0 : Net) (x1 : Int) : Option (Int) :=
  ((laws_heldBridgeSF n x0.Bridges x1).bind fun r1 => (bif (decide (r1 < 0)) then (some (-1)) else ((laws_heldLinkSF n x0.Links r1).bind fun r2 => (bif (decide (r2 < 0)) then (some (-1)) else ((laws_heldSaySF n x0.Said r2).bind fun r3 => (bif (decide (r3 < 0)) then (some (-1)) else (some r3)))))))
noncomputable abbrev G23 (k : Nat) := Rg Tryz.f23 k
theorem laws_heldNet (n : Nat) (x0 : Net) (x1 : Int) (r : Int) (H : laws_heldNetF n x0 x1 = some r) : LCall Tryz.prog 23 [.val true (CV.frzRow (Net.row x0)),.val false [.lit (.int .i64 x1)]] [.val false [.lit (.int .i64 r)]] [] := by
 refine LCall.of_body tOk Tryz.func23 rfl (c := (.seq (G23 0) (.seq (G23 1) (.seq (.seq (G23 2) (.cond (.tmp 10) (.seq (G23 3) .ret) .skip)) (.seq (G23 4) (.seq (.seq (G23 5) (.cond (.tmp 16) (.seq (G23 6) .ret) .skip)) (.seq (G23 7) (.seq (.seq (G23 8) (.cond (.tmp 22) (.seq (G23 9) .ret) .skip)) (.seq (G23 10) .ret))))))))) kr (Nat.le_of_ble_eq_true kr) 0 (rs := [.tmp 4]) rfl [] .nil [(false,[.lit (.int .i64 r)])] [] [] fun cx => ?_
 show Tr _ _ _ ⟨24,0,[sV 0 (CV.frzRow (Net.row x0)),sI 1 x1],[]⟩ _
 unfold laws_heldNetF at H
 refine tG 2 6 4 kr kr ?_
 refine rU 3 kr ?_
 obtain ⟨r1,er1,H⟩ := bind_some H
 refine lV [.rd,.rd] [] (laws_heldBridgeS n x0.Bridges x1 r1 er1) kr kr kr kr (.inl rfl) ?_
 refine uD 1 6 4 kr kr ?_
 refine tS ?_
 refine tG 2 1030 4 kr kr ?_
 obtain ⟨h1,H⟩ | ⟨h1,H⟩ := bC H
 ·refine tF h1 kr ?_
  refine tK ?_
  refine rU 3 kr ?_
  obtain ⟨r2,er2,H⟩ := bind_some H
  refine lV [.rd,.rd] [] (laws_heldLinkS n x0.Links r1 r2 er2) kr kr kr kr (.inl rfl) ?_
  refine uD 1 6 4 kr kr ?_
  refine tS ?_
  refine tG 2 65542 4 kr kr ?_
  obtain ⟨h2,H⟩ | ⟨h2,H⟩ := bC H
  ·refine tF h2 kr ?_
   refine tK ?_
   refine rU 3 kr ?_
   obtain ⟨r3,er3,H⟩ := bind_some H
   refine lV [.rd,.rd] [] (laws_heldSayS n x0.Said r2 r3 er3) kr kr kr kr (.inl rfl) ?_
   refine uD 1 2 0 kr kr ?_
   refine tS ?_
   refine tG 2 4194306 0 kr kr ?_
   obtain ⟨h3,H⟩ | ⟨h3,H⟩ := bC H
   ·refine tF h3 kr ?_
    refine tK ?_
    refine tG 2 16 0 kr kr ?_
    exact te (by obtain rfl := si H; exact fO [(false,[cI r3])] kr rfl rfl)
   refine tT h3 kr ?_
   refine tG 1 16 0 kr kr ?_
   exact te (by obtain rfl := si H; exact fO [(false,[cI (-1)])] kr rfl rfl)
  refine tT h2 kr ?_
  refine tG 1 16 0 kr kr ?_
  exact te (by obtain rfl := si H; exact fO [(false,[cI (-1)])] kr rfl rfl)
 refine tT h1 kr ?_
 refine tG 1 16 0 kr kr ?_
 exact te (by obtain rfl := si H; exact fO [(false,[cI (-1)])] kr rfl rfl)
def laws_FnExactRoundsF (n : Nat) (x0 : Net) (x1 : Int) : Option (Bool) :=
  ((laws_szNetF n x0 1048576).bind fun r1 => (bif (decide (r1 < 0)) then (some true) else ((laws_toNetF n x0).bind fun r2 => ((spec_RoundsF n r2 x1).bind fun r3 => ((laws_toNetF n x0).bind fun r4 => ((impl_RoundsF n r4 x1).bind fun r5 => ((laws_eqNetF n r5 r3).bind fun r6 => (bif (!r6) then (some false) else ((laws_toNetF n x0).bind fun r7 => ((laws_eqNetF n r4 r7).bind fun r8 => (bif (!r8) then (some false) else ((laws_markNetF n r4 1).bind fun r9 => (bif (decide (r9.1 < 0)) then (some false) else ((laws_eqNetF n r5 r3).bind fun r10 => (bif (!r10) then (some false) else ((laws_markNetF n r5 1).bind fun r11 => ((laws_heldNetF n r11.2 1).bind fun r12 => (bif (decide (r12 < 0)) then (some false) else (bif (r12 != r11.1) then (some false) else ((laws_toNetF n x0).bind fun r13 => ((impl_RoundsF n r13 x1).bind fun r14 => ((laws_eqNetF n r14 r3).bind fun r15 => (bif (!r15) then (some false) else ((laws_heldNetF n r11.2 1).bind fun r16 => (bif (decide (r16 < 0)) then (some false) else (bif (r16 != r11.1) then (some false) else (some true)))))))))))))))))))))))))))
noncomputable abbrev G6 (k : Nat) := Rg Tryz.f6 k
theorem laws_FnExactRounds (n : Nat) (x0 : Net) (x1 : Int) (r : Bool) (H : laws_FnExactRoundsF n x0 x1 = some r) : LCall Tryz.prog 6 [.val true (CV.frzRow (Net.row x0)),.val false [.lit (.int .i64 x1)]] [.val false [.lit (.bool r)]] [] := by
 refine LCall.of_body tOk Tryz.func6 rfl (c := (.seq (G6 0) (.seq (G6 1) (.seq (G6 2) (.seq (.seq (G6 3) (.cond (.tmp 17) (.seq (G6 4) .ret) .skip)) (.seq (G6 5) (.seq (G6 6) (.seq (G6 7) (.seq (.seq (G6 8) (.cond (.tmp 30) (.seq (G6 9) .ret) .skip)) (.seq (.seq (Rd Tryz.f6 10) (.cond (.tmp 35) (.seq (G6 11) .ret) .skip)) (.seq (G6 12) (.seq (G6 13) (.seq (.seq (G6 14) (.cond (.tmp 46) (.seq (G6 15) .ret) .skip)) (.seq (G6 16) (.seq (G6 17) (.seq (G6 18) (.seq (G6 19) (.seq (.seq (G6 20) (.cond (.tmp 54) (.seq (G6 21) .ret) .skip)) (.seq (.seq (G6 22) (.cond (.tmp 57) (.seq (G6 23) .ret) .skip)) (.seq (G6 24) (.seq (.seq (G6 25) (.cond (.tmp 65) (.seq (G6 26) .ret) .skip)) (.seq (G6 27) (.seq (G6 28) (.seq (.seq (G6 29) (.cond (.tmp 70) (.seq (G6 30) .ret) .skip)) (.seq (.seq (G6 31) (.cond (.tmp 73) (.seq (G6 32) .ret) .skip)) (.seq (G6 33) .ret)))))))))))))))))))))))))) kr (Nat.le_of_ble_eq_true kr) 0 (rs := [.tmp 4]) rfl [] .nil [(false,[.lit (.bool r)])] [] [] fun cx => ?_
 show Tr _ _ _ ⟨74,0,[sV 0 (CV.frzRow (Net.row x0)),sI 1 x1],[]⟩ _
 unfold laws_FnExactRoundsF at H
 refine tG 2 6 4 kr kr ?_
 refine tG 1 38 4 kr kr ?_
 refine rU 2 kr ?_
 obtain ⟨r1,er1,H⟩ := bind_some H
 refine lV [.rd,.rd] [] (laws_szNet n x0 1048576 r1 er1) kr kr kr kr (.inl rfl) ?_
 refine uD 1 38 4 kr kr ?_
 refine tS ?_
 refine tG 2 131078 4 kr kr ?_
 obtain ⟨h1,H⟩ | ⟨h1,H⟩ := bC H
 ·refine tF h1 kr ?_
  refine tK ?_
  refine rU 1 kr ?_
  obtain ⟨r2,er2,H⟩ := bind_some H
  refine lV [.rd] [] (laws_toNet n x0 r2 er2) kr kr kr kr (.inl rfl) ?_
  refine lU 1 kr ?_
  obtain ⟨r3,er3,H⟩ := bind_some H
  refine lV [.rd,.rd] [] (spec_Rounds n r2 x1 r3 er3) kr kr kr kr (.inl rfl) ?_
  refine uD 2 70 68 kr kr ?_
  refine rU 1 kr ?_
  obtain ⟨r4,er4,H⟩ := bind_some H
  refine lV [.rd] [] (laws_toNet n x0 r4 er4) kr kr kr kr (.inl rfl) ?_
  refine uD 2 198 196 kr kr ?_
  refine rU 2 kr ?_
  obtain ⟨r5,er5,H⟩ := bind_some H
  refine lV [.rd,.rd] [.box 7] (impl_Rounds n r4 x1 r5 er5) kr kr kr kr (.inr (rets_cons (Net.row_mine _) rets_nil)) ?_
  refine uD 2 454 452 kr kr ?_
  refine tS ?_
  refine rU 2 kr ?_
  obtain ⟨r6,er6,H⟩ := bind_some H
  refine lV [.rd,.rd] [.box 8,.box 6] (laws_eqNet n r5 r3 r6 er6) kr kr kr kr (.inr (rets_cons (mine_cons mine_lit mine_nil) rets_nil)) ?_
  refine uD 1 1073742278 452 kr kr ?_
  refine tO ⟨74,0,[sB 30 (!r6),sA 8 8 3 0,sA 7 7 3 0,sA 6 6 3 0,sA 2 2 3 0,sI 1 x1],[(8,(Net.row r5)),(7,(Net.row r4)),(6,(Net.row r3)),(2,(CV.frzRow (Net.row x0)))]⟩ kr ?_
  cases h2 : (!r6)
  ·have H := bifF h2 H
   refine tf kr ?_
   refine tK ?_
   refine tS ?_
   obtain ⟨r7,er7,H⟩ := bind_some H
   obtain ⟨r8,er8,H⟩ := bind_some H
   refine Tr.draws mixed 5 kr ⟨74,0,[sB 35 (!r8),sA 8 8 3 0,sA 7 7 3 0,sA 6 6 3 0,sA 2 2 3 0,sI 1 x1],[(8,(Net.row r5)),(7,(Net.row r4)),(6,(Net.row r3)),(2,(CV.frzRow (Net.row x0)))]⟩ (fun cx => ?_) ?_
   ·refine aU [(0,[3]),(1,[2,3])] 3 [⟨[2,3],75,2,32⟩,⟨[3],29,7,31⟩] [1,0] rfl kr (fun cx => ?_)
    refine b1 2 kr kr ?_
    refine lV [.rd] [] (laws_toNet n x0 r7 er7) kr kr kr kr (.inl rfl) ?_
    refine lF kr kr kr ?_
    refine b1 3 kr kr ?_
    refine lV [.rd,.rd] [.box 7] (laws_eqNet n r4 r7 r8 er8) kr kr kr kr (.inr (rets_cons (mine_cons mine_lit mine_nil) rets_nil)) ?_
    refine lF kr kr kr ?_
    refine aU [(4,[])] 0 [⟨[2,3],75,2,32⟩,⟨[3],29,7,31⟩] [4,3,2,1,0] rfl kr (fun cx => ?_)
    exact AT.done [35,8,7,6,2,1] [8,7,6,2] _ kr kr rfl
   refine tO ⟨74,0,[sB 35 (!r8),sA 8 8 3 0,sA 7 7 3 0,sA 6 6 3 0,sA 2 2 3 0,sI 1 x1],[(8,(Net.row r5)),(7,(Net.row r4)),(6,(Net.row r3)),(2,(CV.frzRow (Net.row x0)))]⟩ kr ?_
   cases h3 : (!r8)
   ·have H := bifF h3 H
    refine tf kr ?_
    refine tK ?_
    refine tG 1 966 452 kr kr ?_
    refine rU 2 kr ?_
    obtain ⟨r9,er9,H⟩ := bind_some H
    refine LAt.callL tOk [.lend,.rd] (f := 22) (av := #[.tmp 36,.tmp 37]) (ats := #[29,3]) (d := (some 38)) (ty := 3) (g := none) kr kr kr [] (laws_markNet n r4 1 r9 er9) kr (.inl rfl) ?_
    refine uD 1 838 324 kr kr ?_
    refine tS ?_
    refine rU 3 kr ?_
    refine lT ⟨74,0,[sB 41 (decide (r9.1 < 0)),sB 40 (decide (r9.1 < 0)),sI 39 r9.1,sI 9 r9.1,sA 8 8 3 0,sA 6 6 3 0,sA 2 2 3 0,sI 1 x1],[(8,(Net.row r5)),(6,(Net.row r3)),(2,(CV.frzRow (Net.row x0)))]⟩ kr ?_
    cases h4 : (decide (r9.1 < 0))
    ·have H := bifF h4 H
     refine lU 2 kr ?_
     obtain ⟨r10,er10,H⟩ := bind_some H
     refine lV [.rd,.rd] [.box 8,.box 6] (laws_eqNet n r5 r3 r10 er10) kr kr kr kr (.inr (rets_cons (mine_cons mine_lit mine_nil) rets_nil)) ?_
     refine uD 2 70368744177990 324 kr kr ?_
     obtain ⟨h5,H⟩ | ⟨h5,H⟩ := bC H
     ·refine tF h5 kr ?_
      refine tK ?_
      refine tG 1 1350 324 kr kr ?_
      refine rU 2 kr ?_
      obtain ⟨r11,er11,H⟩ := bind_some H
      refine LAt.callL tOk [.lend,.rd] (f := 22) (av := #[.tmp 47,.tmp 48]) (ats := #[29,3]) (d := (some 49)) (ty := 3) (g := none) kr kr kr [] (laws_markNet n r5 1 r11 er11) kr (.inl rfl) ?_
      refine uD 1 1350 324 kr kr ?_
      refine tG 1 3398 324 kr kr ?_
      refine rU 2 kr ?_
      obtain ⟨r12,er12,H⟩ := bind_some H
      refine lV [.rd,.rd] [.box 8] (laws_heldNet n r11.2 1 r12 er12) kr kr kr kr (.inr (rets_cons (mine_cons mine_lit mine_nil) rets_nil)) ?_
      refine uD 1 3398 324 kr kr ?_
      refine tS ?_
      refine tG 2 0x40000000000d46 324 kr kr ?_
      obtain ⟨h6,H⟩ | ⟨h6,H⟩ := bC H
      ·refine tF h6 kr ?_
       refine tK ?_
       refine tS ?_
       refine tG 3 0x200000000000546 324 kr kr ?_
       obtain ⟨h7,H⟩ | ⟨h7,H⟩ := bC H
       ·refine tF h7 kr ?_
        refine tK ?_
        refine rU 1 kr ?_
        obtain ⟨r13,er13,H⟩ := bind_some H
        refine lV [.rd] [] (laws_toNet n x0 r13 er13) kr kr kr kr (.inl rfl) ?_
        refine lU 1 kr ?_
        obtain ⟨r14,er14,H⟩ := bind_some H
        refine lV [.rd,.rd] [] (impl_Rounds n r13 x1 r14 er14) kr kr kr kr (.inl rfl) ?_
        refine uD 2 5440 4416 kr kr ?_
        refine tS ?_
        refine rU 2 kr ?_
        obtain ⟨r15,er15,H⟩ := bind_some H
        refine lV [.rd,.rd] [.box 12,.box 6] (laws_eqNet n r14 r3 r15 er15) kr kr kr kr (.inr (rets_cons (mine_cons mine_lit mine_nil) rets_nil)) ?_
        refine uD 1 0x20000000000000500 256 kr kr ?_
        refine tO ⟨74,0,[sB 65 (!r15),sI 10 r11.1,sA 8 8 3 0],[(8,(Net.row r11.2))]⟩ kr ?_
        cases h8 : (!r15)
        ·have H := bifF h8 H
         refine tf kr ?_
         refine tK ?_
         refine tG 1 3328 256 kr kr ?_
         refine rU 2 kr ?_
         obtain ⟨r16,er16,H⟩ := bind_some H
         refine lV [.rd,.rd] [.box 8] (laws_heldNet n r11.2 1 r16 er16) kr kr kr kr (.inr (rets_cons (mine_cons mine_lit mine_nil) rets_nil)) ?_
         refine uD 1 3072 0 kr kr ?_
         refine tS ?_
         refine tG 2 0x400000000000000c00 0 kr kr ?_
         obtain ⟨h9,H⟩ | ⟨h9,H⟩ := bC H
         ·refine tF h9 kr ?_
          refine tK ?_
          refine tS ?_
          refine tG 3 0x2000000000000000000 0 kr kr ?_
          obtain ⟨h10,H⟩ | ⟨h10,H⟩ := bC H
          ·refine tF h10 kr ?_
           refine tK ?_
           refine tG 1 16 0 kr kr ?_
           exact te (by obtain rfl := si H; exact fO [(false,[cB true])] kr rfl rfl)
          refine tT h10 kr ?_
          refine tG 1 16 0 kr kr ?_
          exact te (by obtain rfl := si H; exact fO [(false,[cB false])] kr rfl rfl)
         refine tT h9 kr ?_
         refine tG 1 16 0 kr kr ?_
         exact te (by obtain rfl := si H; exact fO [(false,[cB false])] kr rfl rfl)
        have H := bifT h8 H
        refine tt kr ?_
        refine tG 1 16 0 kr kr ?_
        exact te (by obtain rfl := si H; exact fO [(false,[cB false])] kr rfl rfl)
       refine tT h7 kr ?_
       refine tG 1 16 0 kr kr ?_
       exact te (by obtain rfl := si H; exact fO [(false,[cB false])] kr rfl rfl)
      refine tT h6 kr ?_
      refine tG 1 16 0 kr kr ?_
      exact te (by obtain rfl := si H; exact fO [(false,[cB false])] kr rfl rfl)
     refine tT h5 kr ?_
     refine tG 1 16 0 kr kr ?_
     exact te (by obtain rfl := si H; exact fO [(false,[cB false])] kr rfl rfl)
    have H := bifT h4 H
    refine uD 5 70368744177990 324 kr kr ?_
    refine tt kr ?_
    refine tG 1 16 0 kr kr ?_
    exact te (by obtain rfl := si H; exact fO [(false,[cB false])] kr rfl rfl)
   have H := bifT h3 H
   refine tt kr ?_
   refine tG 1 16 0 kr kr ?_
   exact te (by obtain rfl := si H; exact fO [(false,[cB false])] kr rfl rfl)
  have H := bifT h2 H
  refine tt kr ?_
  refine tG 1 16 0 kr kr ?_
  exact te (by obtain rfl := si H; exact fO [(false,[cB false])] kr rfl rfl)
 refine tT h1 kr ?_
 refine tG 1 16 0 kr kr ?_
 exact te (by obtain rfl := si H; exact fO [(false,[cB true])] kr rfl rfl)
end Go.Proofs.YtibocmoaaahjfaaGreat.Tw
