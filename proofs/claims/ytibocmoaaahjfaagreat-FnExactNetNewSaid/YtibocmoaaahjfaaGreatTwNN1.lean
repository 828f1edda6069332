import Derived.Test.YtibocmoaaahjfaaGreatProg
import Derived.Test.YtibocmoaaahjfaaGreatTlRule
import Derived.Test.YtibocmoaaahjfaaGreatTlU8
import Derived.Test.YtibocmoaaahjfaaGreatTwNN0
import Derived.WalkKit
set_option linter.unusedVariables false
set_option linter.unusedSimpArgs false
set_option maxRecDepth 100000
set_option maxHeartbeats 1000000
namespace Go.Proofs.YtibocmoaaahjfaaGreat.Tw
open Go Go.TL Go.Proofs
def spec_FlushPort_J1 (n : Nat) (y3 : (List Fent)) : Option ((List Fent)) :=
  (some y3)
def spec_FlushPort_L2 (n : Nat) : Nat → (List Fent) → Int → Int → (List Fent) → Option (((List Fent)) ⊕ ((List Fent)))
  | 0,_,_,_,_ => none
  | mo4 + 1,x0,x1,y1,y2 => (bif (decide (y1 < (x0.length : Int))) then ((idx x0 y1).bind fun v5 => (bif v5.Static then ((idx x0 y1).bind fun v9 => (bif (decide (y2.length + [v9].length ≤ 268435456)) then (spec_FlushPort_L2 n mo4 x0 x1 (IntKind.wrap .i64 (y1 + 1)) (y2 ++ [v9])) else none)) else ((idx x0 y1).bind fun v6 => (bif (v6.Port != x1) then ((idx x0 y1).bind fun v7 => (bif (decide (y2.length + [v7].length ≤ 268435456)) then (spec_FlushPort_L2 n mo4 x0 x1 (IntKind.wrap .i64 (y1 + 1)) (y2 ++ [v7])) else none)) else (spec_FlushPort_L2 n mo4 x0 x1 (IntKind.wrap .i64 (y1 + 1)) y2))))) else (some (Sum.inl y2)))
def spec_FlushPortF (n : Nat) (x0 : (List Fent)) (x1 : Int) : Option ((List Fent)) :=
  ((spec_FlushPort_L2 n n x0 x1 0 ([] : List Fent)).bind fun o => match o with | .inl y3 => (spec_FlushPort_J1 n y3) | .inr r => some r)
noncomputable abbrev G236 (k : Nat) := Rg Tryz.f236 k
theorem spec_FlushPort (n : Nat) (x0 : (List Fent)) (x1 : Int) (r : (List Fent)) (H : spec_FlushPortF n x0 x1 = some r) : LCall Tryz.prog 236 [.val false [.sl false 5 (CV.frzEs (x0.map Fent.row))],.val false [.lit (.int .i64 x1)]] [.val false [.sl true 5 (r.map Fent.row)]] [] := by
 refine LCall.of_body tOk Tryz.func236 rfl (c := (.seq (G236 0) (.seq (G236 1) (.seq (.seq (G236 2) (.block 0 (.loop (.seq (.seq (G236 3) (.cond (.tmp 11) .skip (.exit 0))) (.seq (.block 1 (.seq (G236 5) (.cond (.tmp 27) (G236 6) .skip))) (G236 4)))))) (.seq (G236 7) .ret))))) kr (Nat.le_of_ble_eq_true kr) 0 (rs := [.tmp 4]) rfl [] .nil [(false,[.sl true 5 (r.map Fent.row)])] [] [] fun cx => ?_
 show Tr _ _ _ ⟨36,0,[sC 0 (cF 5 x0 Fent.row),sI 1 x1],[]⟩ _
 unfold spec_FlushPortF at H
 refine tG tOk 1 3 0 kr kr ?_
 refine rU tOk 1 kr ?_
 refine LAt.moveU (T := lk tab) (ty := 53) (x := (.tmp 7)) (d := 5) (g := none) false [cL 5 ([] : List Fent) Fent.row] kr kr kr kr kr ?_
 refine lD 35 0 kr ?_
 refine tS ?_
 refine tG tOk 1 99 0 kr kr ?_
 obtain ⟨o4,eo4,Ho4⟩ := bind_some H
 clear H
 refine Tr.mid (ι := (List Fent)) (fun v => ⟨36,0,[sC 5 (cL 5 v Fent.row)],[]⟩) (fun v => spec_FlushPort_J1 n v = some r) ?_ ?_
 ·refine tB ?_
  refine Tr.loop (ι := Nat × (Int × (List Fent))) (fun v => ⟨36,0,[sI 6 v.2.1,sC 5 (cL 5 v.2.2 Fent.row),sC 0 (cF 5 x0 Fent.row),sI 1 x1],[]⟩) (fun v => spec_FlushPort_L2 n v.1 x0 x1 v.2.1 v.2.2 = some o4) (fun v => v.1) (n,(0,([] : List Fent))) eo4 (St.sub_of [6,5,0,1] [] kr) ?_
  rintro ⟨mo4,y1,y2⟩ H
  have H : spec_FlushPort_L2 n mo4 x0 x1 y1 y2 = some o4 := H
  obtain _ | mo4 := mo4
  ·cases (show (none : Option _) = some o4 from H)
  rw [spec_FlushPort_L2] at H
  refine tS ?_
  refine rU tOk 2 kr ?_
  refine lL tOk 53 3 184 9 10 none ⟨(.slot 9),[],0,false,5,(CV.frzEs (x0.map Fent.row))⟩ (x0).length _ kr kr kr kr kr (frz_len _ _) rfl ?_
  refine uD tOk 1 2147 0 kr kr ?_
  obtain ⟨h1,H⟩ | ⟨h1,H⟩ := bC H
  ·refine tF h1 kr ?_
   refine Tr.exit ?_
   refine And.intro (fun _ => ?_) (fun h => absurd rfl h)
   obtain rfl := si H
   have H := Ho4
   dsimp only at H
   exact jn y2 H (sB_ [5] [] kr)
  refine tT h1 kr ?_
  refine tK ?_
  refine tS ?_
  refine tB ?_
  refine tS ?_
  refine Tr.at ?_
  refine lU tOk 2 kr ?_
  obtain ⟨v5,ev5,H⟩ := bind_some H
  refine lI tOk 53 0 14 15 16 none ⟨(.slot 14),[],0,false,5,(CV.frzEs (x0.map Fent.row))⟩ y1 (Fent.row v5) _ kr kr kr kr rfl (idx_isF ev5) rfl ?_
  refine lU tOk 3 kr ?_
  refine lT ⟨36,0,[sB 19 v5.Static,sB 18 v5.Static,(17,.fad ([cB v5.Static])),(16,.fad ((Fent.row v5))),sI 15 y1,sC 14 (cF 5 x0 Fent.row),sB 11 (decide (y1 < (x0.length : Int))),sI 6 y1,sC 5 (cL 5 y2 Fent.row),sC 0 (cF 5 x0 Fent.row),sI 1 x1],[]⟩ kr ?_
  cases h2 : v5.Static
  ·have H := bifF h2 H
   refine lU tOk 2 kr ?_
   obtain ⟨v6,ev6,H⟩ := bind_some H
   refine lI tOk 53 0 20 21 22 (some (5,false)) ⟨(.slot 20),[],0,false,5,(CV.frzEs (x0.map Fent.row))⟩ y1 (Fent.row v6) _ kr kr kr kr rfl (idx_isF ev6) rfl ?_
   refine uD tOk 5 134217827 0 kr kr ?_
   obtain ⟨h3,H⟩ | ⟨h3,H⟩ := bC H
   ·refine tF h3 kr ?_
    refine tK ?_
    refine tE tOk 3 99 0 kr kr ?_
    exact jn (mo4,((IntKind.wrap .i64 (y1 + 1)),y2)) H (sM mo4 [6,5,0,1] [] kr)
   refine tT h3 kr ?_
   refine Tr.at ?_
   refine lU tOk 3 kr ?_
   obtain ⟨v7,ev7,H⟩ := bind_some H
   refine lI tOk 53 0 29 30 31 none ⟨(.slot 29),[],0,false,5,(CV.frzEs (x0.map Fent.row))⟩ y1 (Fent.row v7) _ kr kr kr kr rfl (idx_isF ev7) rfl ?_
   refine lU tOk 2 kr ?_
   obtain ⟨hg8,H⟩ := guard_some H
   refine LAt.appMU tOk (t := 53) (ty := 53) (e := 184) (x := (.tmp 28)) (y := (.tmp 33)) (d := 34) (g := none) (tI 184) Fent.row y2 [v7] kr kr kr kr kr kr kr kr kr kr hg8 ?_
   refine LAt.moveU (T := lk tab) (ty := 53) (x := (.tmp 34)) (d := 5) (g := none) false [cL 5 (y2 ++ [v7]) Fent.row] kr kr kr kr kr ?_
   refine lD 99 0 kr ?_
   refine tE tOk 3 99 0 kr kr ?_
   exact jn (mo4,((IntKind.wrap .i64 (y1 + 1)),(y2 ++ [v7]))) H (sM mo4 [6,5,0,1] [] kr)
  have H := bifT h2 H
  refine uD tOk 8 134217827 0 kr kr ?_
  refine tt kr ?_
  refine Tr.at ?_
  refine lU tOk 3 kr ?_
  obtain ⟨v9,ev9,H⟩ := bind_some H
  refine lI tOk 53 0 29 30 31 none ⟨(.slot 29),[],0,false,5,(CV.frzEs (x0.map Fent.row))⟩ y1 (Fent.row v9) _ kr kr kr kr rfl (idx_isF ev9) rfl ?_
  refine lU tOk 2 kr ?_
  obtain ⟨hg10,H⟩ := guard_some H
  refine LAt.appMU tOk (t := 53) (ty := 53) (e := 184) (x := (.tmp 28)) (y := (.tmp 33)) (d := 34) (g := none) (tI 184) Fent.row y2 [v9] kr kr kr kr kr kr kr kr kr kr hg10 ?_
  refine LAt.moveU (T := lk tab) (ty := 53) (x := (.tmp 34)) (d := 5) (g := none) false [cL 5 (y2 ++ [v9]) Fent.row] kr kr kr kr kr ?_
  refine lD 99 0 kr ?_
  refine tE tOk 3 99 0 kr kr ?_
  exact jn (mo4,((IntKind.wrap .i64 (y1 + 1)),(y2 ++ [v9]))) H (sM mo4 [6,5,0,1] [] kr)
 rintro y3 H
 have H : (spec_FlushPort_J1 n y3) = some r := H
 unfold spec_FlushPort_J1 at H
 refine tG tOk 2 48 0 kr kr ?_
 exact te (by obtain rfl := si H; exact fO [(false,[cL 5 y3 Fent.row])] kr rfl rfl)
def spec_l11Turned_J1 (n : Nat) (r1 : Int) (x0 : Bridge) (y5 : (List Fent)) : Option (Bridge) :=
  (some (⟨x0.Id,x0.Name,x0.Ports,y5,x0.V,x0.Ticks,x0.Parse,x0.Word,x0.Drops,r1⟩ : Bridge))
def spec_l11Turned_L2 (n : Nat) : Nat → Int → Bridge → Int → (List Fent) → Option (((List Fent)) ⊕ (Bridge))
  | 0,_,_,_,_ => none
  | mo6 + 1,r2,x0,y3,y4 => (bif (decide (y3 < (x0.Ports.length : Int))) then ((spec_l9BitF n r2 y3).bind fun r7 => (bif (!r7) then ((spec_FlushPortF n y4 y3).bind fun r8 => (spec_l11Turned_L2 n mo6 r2 x0 (IntKind.wrap .i64 (y3 + 1)) r8)) else (spec_l11Turned_L2 n mo6 r2 x0 (IntKind.wrap .i64 (y3 + 1)) y4))) else (some (Sum.inl y4)))
def spec_l11TurnedF (n : Nat) (x0 : Bridge) : Option (Bridge) :=
  ((spec_l11OneF n x0.Vers).bind fun r1 => ((spec_SendsF n x0.Id x0.Ports).bind fun r2 => ((spec_l11Turned_L2 n n r2 x0 0 x0.F).bind fun o => match o with | .inl y5 => (spec_l11Turned_J1 n r1 x0 y5) | .inr r => some r)))
noncomputable abbrev G181 (k : Nat) := Rg Tryz.f181 k
theorem spec_l11Turned (n : Nat) (x0 : Bridge) (r : Bridge) (H : spec_l11TurnedF n x0 = some r) : LCall Tryz.prog 181 [.own true (Bridge.row x0)] [.val true (Bridge.row r)] [] := by
 refine LCall.of_body tOk Tryz.func181 rfl (c := (.seq (G181 0) (.seq (G181 1) (.seq (G181 2) (.seq (.seq (G181 3) (.block 0 (.loop (.seq (.seq (G181 4) (.cond (.tmp 18) .skip (.exit 0))) (.seq (.block 1 (.seq (G181 6) (.cond (.tmp 24) (G181 7) .skip))) (G181 5)))))) (.seq (G181 8) .ret)))))) kr (Nat.le_of_ble_eq_true kr) 0 (rs := [.cell 2 58]) rfl [] .nil [(true,(Bridge.row r))] [] [] fun cx => ?_
 show Tr _ _ _ ⟨31,0,[sV 0 (Bridge.row x0)],[]⟩ _
 unfold spec_l11TurnedF at H
 refine tG tOk 2 6 6 kr kr ?_
 refine rU tOk 2 kr ?_
 obtain ⟨r1,er1,H⟩ := bind_some H
 refine lV tOk [.rd] [] (spec_l11One n x0.Vers r1 er1) kr kr kr kr (.inl rfl) ?_
 refine uD tOk 2 6 6 kr kr ?_
 refine rU tOk 4 kr ?_
 obtain ⟨r2,er2,H⟩ := bind_some H
 refine lV tOk [.rd,.rd] [.box 1] (spec_Sends n x0.Id x0.Ports r2 er2) kr kr kr kr (.inr (rets_cons (mine_cons mine_lit mine_nil) rets_nil)) ?_
 refine uD tOk 1 14 6 kr kr ?_
 refine tS ?_
 refine tG tOk 1 30 6 kr kr ?_
 obtain ⟨o6,eo6,Ho6⟩ := bind_some H
 clear H
 refine Tr.mid (ι := (List Fent)) (fun v => ⟨31,0,[sA 2 2 11 0,sA 1 1 11 0],[(1,[cI x0.Id,cS x0.Name,cL 8 x0.Ports Pt.row,cL 5 v Fent.row,cL 3 x0.V.Rows Vrow.row,cL 1 x0.V.Pvid intRow,cI x0.Ticks,cI x0.Parse,cI x0.Word,cI x0.Drops,cI r1]),(2,[cI 0,cS (⟨#[]⟩ : ByteArray),cL 8 ([] : List Pt) Pt.row,cL 5 ([] : List Fent) Fent.row,cL 3 ([] : List Vrow) Vrow.row,cL 1 ([] : List Int) intRow,cI 0,cI 0,cI 0,cI 0,cI 0])]⟩) (fun v => spec_l11Turned_J1 n r1 x0 v = some r) ?_ ?_
 ·refine tB ?_
  refine Tr.loop (ι := Nat × (Int × (List Fent))) (fun v => ⟨31,0,[sI 4 v.2.1,sI 3 r2,sA 2 2 11 0,sA 1 1 11 0],[(1,[cI x0.Id,cS x0.Name,cL 8 x0.Ports Pt.row,cL 5 v.2.2 Fent.row,cL 3 x0.V.Rows Vrow.row,cL 1 x0.V.Pvid intRow,cI x0.Ticks,cI x0.Parse,cI x0.Word,cI x0.Drops,cI r1]),(2,[cI 0,cS (⟨#[]⟩ : ByteArray),cL 8 ([] : List Pt) Pt.row,cL 5 ([] : List Fent) Fent.row,cL 3 ([] : List Vrow) Vrow.row,cL 1 ([] : List Int) intRow,cI 0,cI 0,cI 0,cI 0,cI 0])]⟩) (fun v => spec_l11Turned_L2 n v.1 r2 x0 v.2.1 v.2.2 = some o6) (fun v => v.1) (n,(0,x0.F)) eo6 (St.sub_of [4,3,2,1] [1,2] kr) ?_
  rintro ⟨mo6,y3,y4⟩ H
  have H : spec_l11Turned_L2 n mo6 r2 x0 y3 y4 = some o6 := H
  obtain _ | mo6 := mo6
  ·cases (show (none : Option _) = some o6 from H)
  rw [spec_l11Turned_L2] at H
  refine tS ?_
  refine rU tOk 3 kr ?_
  refine lL tOk 52 3 182 16 17 none ⟨(.box 1),[(0,0)],2,true,8,(x0.Ports.map Pt.row)⟩ (x0.Ports).length _ kr kr kr kr kr (map_len _ _) rfl ?_
  refine uD tOk 1 262174 6 kr kr ?_
  obtain ⟨h1,H⟩ | ⟨h1,H⟩ := bC H
  ·refine tF h1 kr ?_
   refine Tr.exit ?_
   refine And.intro (fun _ => ?_) (fun h => absurd rfl h)
   obtain rfl := si H
   have H := Ho6
   dsimp only at H
   exact jn y4 H (sB_ [2,1] [1,2] kr)
  refine tT h1 kr ?_
  refine tK ?_
  refine tS ?_
  refine tB ?_
  refine rU tOk 2 kr ?_
  obtain ⟨r7,er7,H⟩ := bind_some H
  refine lV tOk [.rd,.rd] [] (spec_l9Bit n r2 y3 r7 er7) kr kr kr kr (.inl rfl) ?_
  refine uD tOk 1 16777246 6 kr kr ?_
  obtain ⟨h2,H⟩ | ⟨h2,H⟩ := bC H
  ·refine tF h2 kr ?_
   refine tK ?_
   refine tE tOk 3 30 6 kr kr ?_
   exact jn (mo6,((IntKind.wrap .i64 (y3 + 1)),y4)) H (sM mo6 [4,3,2,1] [1,2] kr)
  refine tT h2 kr ?_
  refine Tr.at ?_
  refine lU tOk 3 kr ?_
  obtain ⟨r8,er8,H⟩ := bind_some H
  refine lV tOk [.rd,.rd] [.box 1] (spec_FlushPort n y4 y3 r8 er8) kr kr kr kr (.inr (rets_cons (mine_cons (mine_sl (mine_map Fent.row_mine _)) mine_nil) rets_nil)) ?_
  refine uD tOk 2 30 6 kr kr ?_
  refine tE tOk 3 30 6 kr kr ?_
  exact jn (mo6,((IntKind.wrap .i64 (y3 + 1)),r8)) H (sM mo6 [4,3,2,1] [1,2] kr)
 rintro y5 H
 have H : (spec_l11Turned_J1 n r1 x0 y5) = some r := H
 unfold spec_l11Turned_J1 at H
 refine tG tOk 2 4 4 kr kr ?_
 exact te (by obtain rfl := si H; exact fO [(true,[cI x0.Id,cS x0.Name,cL 8 x0.Ports Pt.row,cL 5 y5 Fent.row,cL 3 x0.V.Rows Vrow.row,cL 1 x0.V.Pvid intRow,cI x0.Ticks,cI x0.Parse,cI x0.Word,cI x0.Drops,cI r1])] kr rfl rfl)
def spec_LinkSetF (n : Nat) (x0 : Bridge) (x1 : Int) (x2 : Bool) : Option (Bridge) :=
  ((spec_l11CopyF n x0).bind fun r1 => ((spec_l11ThereF n x0 x1).bind fun r2 => (bif (!r2) then (some r1) else ((idx x0.Ports x1).bind fun v3 => ((idx r1.Ports x1).bind fun v4 => ((spec_l11TurnedF n (⟨r1.Id,r1.Name,(r1.Ports.set (x1.toNat) (⟨x2,v3.Cost,false,(⟨0,0,0,0,0⟩ : Vec)⟩ : Pt)),r1.F,r1.V,r1.Ticks,r1.Parse,r1.Word,r1.Drops,r1.Vers⟩ : Bridge)).bind fun r5 => (some r5)))))))
noncomputable abbrev G79 (k : Nat) := Rg Tryz.f79 k
noncomputable abbrev D79 (k : Nat) := Rd Tryz.f79 k
theorem spec_LinkSet (n : Nat) (x0 : Bridge) (x1 : Int) (x2 : Bool) (r : Bridge) (H : spec_LinkSetF n x0 x1 x2 = some r) : LCall Tryz.prog 79 [.val true (CV.frzRow (Bridge.row x0)),.val false [.lit (.int .i64 x1)],.val false [.lit (.bool x2)]] [.val true (Bridge.row r)] [] := by
 refine LCall.of_body tOk Tryz.func79 rfl (c := (.seq (G79 0) (.seq (G79 1) (.seq (.seq (G79 2) (.cond (.tmp 13) (.seq (G79 3) .ret) .skip)) (.seq (D79 4) (.seq (G79 5) .ret)))))) kr (Nat.le_of_ble_eq_true kr) 0 (rs := [.cell 6 58]) rfl [] .nil [(true,(Bridge.row r))] [] [] fun cx => ?_
 show Tr _ _ _ ⟨29,0,[sV 0 (CV.frzRow (Bridge.row x0)),sI 1 x1,sB 2 x2],[]⟩ _
 unfold spec_LinkSetF at H
 refine tG tOk 2 78 72 kr kr ?_
 refine rU tOk 1 kr ?_
 obtain ⟨r1,er1,H⟩ := bind_some H
 refine lV tOk [.rd] [] (spec_l11Copy n x0 r1 er1) kr kr kr kr (.inl rfl) ?_
 refine uD tOk 2 206 200 kr kr ?_
 refine tS ?_
 refine rU tOk 2 kr ?_
 obtain ⟨r2,er2,H⟩ := bind_some H
 refine lV tOk [.rd,.rd] [] (spec_l11There n x0 x1 r2 er2) kr kr kr kr (.inl rfl) ?_
 refine uD tOk 1 8398 200 kr kr ?_
 obtain ⟨h1,H⟩ | ⟨h1,H⟩ := bC H
 ·refine tF h1 kr ?_
  refine tK ?_
  obtain ⟨v3,ev3,H⟩ := bind_some H
  obtain ⟨v4,ev4,H⟩ := bind_some H
  refine Tr.draws mixed 13 kr ⟨29,0,[sA 7 7 11 0,sA 6 6 11 0],[(7,[cI r1.Id,cS r1.Name,cL 8 (r1.Ports.set (x1.toNat) (⟨x2,v3.Cost,false,(⟨0,0,0,0,0⟩ : Vec)⟩ : Pt)) Pt.row,cL 5 r1.F Fent.row,cL 3 r1.V.Rows Vrow.row,cL 1 r1.V.Pvid intRow,cI r1.Ticks,cI r1.Parse,cI r1.Word,cI r1.Drops,cI r1.Vers]),(6,[cI 0,cS (⟨#[]⟩ : ByteArray),cL 8 ([] : List Pt) Pt.row,cL 5 ([] : List Fent) Fent.row,cL 3 ([] : List Vrow) Vrow.row,cL 1 ([] : List Int) intRow,cI 0,cI 0,cI 0,cI 0,cI 0])]⟩ (fun cx => ?_) ?_
  ·refine aU tOk [(0,[]),(1,[12]),(2,[]),(3,[]),(4,[]),(5,[10,12]),(6,[])] 6 [⟨[10,12],52,19,20⟩,⟨[12],52,15,16⟩] [6,5,4,3,2,1,0] rfl kr (fun cx => ?_)
   refine aI tOk 7 52 0 20 21 22 none ⟨(.box 3),[(0,0)],2,false,8,(CV.frzEs (x0.Ports.map Pt.row))⟩ x1 (Pt.row v3) _ kr kr kr kr kr kr rfl (idx_isF ev3) rfl (fun cx => ?_)
   refine aU tOk [(8,[]),(9,[])] 3 [⟨[10,12],52,19,20⟩,⟨[12],52,15,16⟩] [9,8,7,6,5,4,3,2,1,0] rfl kr (fun cx => ?_)
   refine AT.big1 tOk 10 kr kr ?_
   refine lU tOk 1 kr ?_
   refine lF kr kr kr ?_
   refine aO tOk 11 52 0 16 17 26 none ⟨(.box 7),[(0,0)],2,true,8,(r1.Ports.map Pt.row)⟩ x1 (x1.toNat) (Pt.row v4) _ kr kr kr kr kr kr rfl kr (idx_isE ev4) rfl rfl (fun cx => ?_)
   refine AT.big1 tOk 12 kr kr ?_
   refine LAt.storeB tOk (t := 182) (ty := 0) (ad := (.tmp 26)) (x := (.tmp 25)) (g := none) (tI 182) true [cB x2,cI v3.Cost,cB false,cI 0,cI 0,cI 0,cI 0,cI 0] 7 2 (x1.toNat) 8 0 8 r1.Ports Pt.row v4 (⟨x2,v3.Cost,false,(⟨0,0,0,0,0⟩ : Vec)⟩ : Pt) kr kr kr kr kr kr kr kr (idx_get ev4).2 kr kr kr kr ?_
   refine lF kr kr kr ?_
   exact AT.done [7,6] [7,6] _ kr kr rfl
  refine rU tOk 1 kr ?_
  obtain ⟨r5,er5,H⟩ := bind_some H
  refine lV tOk [.own] [] (spec_l11Turned n (⟨r1.Id,r1.Name,(r1.Ports.set (x1.toNat) (⟨x2,v3.Cost,false,(⟨0,0,0,0,0⟩ : Vec)⟩ : Pt)),r1.F,r1.V,r1.Ticks,r1.Parse,r1.Word,r1.Drops,r1.Vers⟩ : Bridge) r5 er5) kr kr kr kr (.inl rfl) ?_
  refine uD tOk 1 64 64 kr kr ?_
  exact te (by obtain rfl := si H; exact fO [(true,(Bridge.row r5))] kr rfl rfl)
 refine tT h1 kr ?_
 refine tG tOk 2 64 64 kr kr ?_
 exact te (by obtain rfl := si H; exact fO [(true,(Bridge.row r1))] kr rfl rfl)
def spec_NetNew_J2 (n : Nat) (x2 : (List Link)) (y8 : (List Bridge)) : Option (Net) :=
  (some (⟨y8,(([] : List Link) ++ x2),([] : List Say)⟩ : Net))
def spec_NetNew_J4 (n : Nat) (k : (Int × (List Bridge) → Option (((List Bridge)) ⊕ (Net)))) (y6 : Int) (y12 : (List Bridge)) : Option (((List Bridge)) ⊕ (Net)) :=
  (k ((IntKind.wrap .i64 (y6 + 1)),y12))
def spec_NetNew_L5 (n : Nat) : Nat → Int → Int → Int → (List Bridge) → Option (((List Bridge)) ⊕ (Net))
  | 0,_,_,_,_ => none
  | mo13 + 1,x1,y6,y10,y11 => (bif (decide (y10 < x1)) then ((idx y11 y6).bind fun v14 => ((spec_LinkSetF n v14 y10 true).bind fun r15 => (spec_NetNew_L5 n mo13 x1 y6 (IntKind.wrap .i64 (y10 + 1)) (y11.set (y6.toNat) r15)))) else (some (Sum.inl y11)))
def spec_NetNew_L3 (n : Nat) : Nat → Int → Int → (List Bridge) → Option (((List Bridge)) ⊕ (Net))
  | 0,_,_,_ => none
  | mo9 + 1,x1,y6,y7 => (bif (decide (y6 < (y7.length : Int))) then ((spec_NetNew_L5 n n x1 y6 0 y7).bind fun o => match o with | .inl y12 => (spec_NetNew_J4 n (fun v => spec_NetNew_L3 n mo9 x1 v.1 v.2) y6 y12) | .inr r => some (Sum.inr r)) else (some (Sum.inl y7)))
def spec_NetNew_J1 (n : Nat) (x1 : Int) (x2 : (List Link)) (y4 : (List Bridge)) : Option (Net) :=
  ((spec_NetOkF n (⟨y4,(([] : List Link) ++ x2),([] : List Say)⟩ : Net)).bind fun r5 => (bif (!r5) then (some (⟨([] : List Bridge),([] : List Link),([] : List Say)⟩ : Net)) else ((spec_NetNew_L3 n n x1 0 y4).bind fun o => match o with | .inl y8 => (spec_NetNew_J2 n x2 y8) | .inr r => some r)))
def spec_NetNew_L6 (n : Nat) : Nat → (List Int) → Int → Int → (List Bridge) → Option (((List Bridge)) ⊕ (Net))
  | 0,_,_,_,_ => none
  | mo16 + 1,x0,x1,y2,y3 => (bif (decide (y2 < (x0.length : Int))) then ((idx x0 y2).bind fun v17 => ((spec_BridgeNewF n v17 x1).bind fun r18 => (bif (decide (y3.length + [r18].length ≤ 268435456)) then (spec_NetNew_L6 n mo16 x0 x1 (IntKind.wrap .i64 (y2 + 1)) (y3 ++ [r18])) else none))) else (some (Sum.inl y3)))
def spec_NetNewF (n : Nat) (x0 : (List Int)) (x1 : Int) (x2 : (List Link)) : Option (Net) :=
  (bif (decide (([] : List Link).length + x2.length ≤ 268435456)) then ((spec_NetNew_L6 n n x0 x1 0 ([] : List Bridge)).bind fun o => match o with | .inl y4 => (spec_NetNew_J1 n x1 x2 y4) | .inr r => some r) else none)
noncomputable abbrev G13 (k : Nat) := Rg Tryz.f13 k
noncomputable abbrev D13 (k : Nat) := Rd Tryz.f13 k
theorem spec_NetNew (n : Nat) (x0 : (List Int)) (x1 : Int) (x2 : (List Link)) (r : Net) (H : spec_NetNewF n x0 x1 x2 = some r) : LCall Tryz.prog 13 [.val false [.sl false 1 (CV.frzEs (x0.map intRow))],.val false [.lit (.int .i64 x1)],.val false [.sl false 4 (CV.frzEs (x2.map Link.row))]] [.val true (Net.row r)] [] := by
 refine LCall.of_body tOk Tryz.func13 rfl (c := (.seq (G13 0) (.seq (G13 1) (.seq (.seq (G13 2) (.block 0 (.loop (.seq (.seq (G13 3) (.cond (.tmp 18) .skip (.exit 0))) (.seq (.block 1 (D13 5)) (G13 4)))))) (.seq (.seq (G13 6) (.cond (.tmp 34) (.seq (G13 7) .ret) .skip)) (.seq (.seq (G13 8) (.block 2 (.loop (.seq (.seq (G13 9) (.cond (.tmp 40) .skip (.exit 2))) (.seq (.block 3 (.seq (G13 11) (.block 4 (.loop (.seq (.seq (G13 12) (.cond (.tmp 45) .skip (.exit 4))) (.seq (.block 5 (D13 14)) (G13 13))))))) (G13 10)))))) (.seq (G13 15) .ret))))))) kr (Nat.le_of_ble_eq_true kr) 0 (rs := [.cell 6 29]) rfl [] .nil [(true,(Net.row r))] [] [] fun cx => ?_
 show Tr _ _ _ ⟨60,0,[sC 0 (cF 1 x0 intRow),sI 1 x1,sC 2 (cF 4 x2 Link.row)],[]⟩ _
 unfold spec_NetNewF at H
 refine tG tOk 1 71 64 kr kr ?_
 refine rU tOk 2 kr ?_
 obtain ⟨hg1,H⟩ := guard_some H
 refine LAt.appCU tOk (t := 26) (ty := 26) (e := 126) (x := (.tmp 11)) (y := (.tmp 12)) (d := 13) (g := none) (tI 126) Link.row ([] : List Link) x2 ⟨(.slot 12),[],0,false,4,(CV.frzEs (x2.map Link.row))⟩ kr kr kr kr kr kr kr kr kr kr kr (.inr rfl) (fun _ => rfl) (fun _ => rfl) hg1 ?_
 refine uD tOk 3 195 192 kr kr ?_
 refine tS ?_
 refine tG tOk 1 451 192 kr kr ?_
 obtain ⟨o16,eo16,Ho16⟩ := bind_some H
 clear H
 refine Tr.mid (ι := (List Bridge)) (fun v => ⟨60,0,[sA 7 7 3 0,sA 6 6 3 0,sI 1 x1],[(7,[cL 11 v Bridge.row,cL 4 (([] : List Link) ++ x2) Link.row,cL 7 ([] : List Say) Say.row]),(6,[cL 11 ([] : List Bridge) Bridge.row,cL 4 ([] : List Link) Link.row,cL 7 ([] : List Say) Say.row])]⟩) (fun v => spec_NetNew_J1 n x1 x2 v = some r) ?_ ?_
 ·refine tB ?_
  refine Tr.loop (ι := Nat × (Int × (List Bridge))) (fun v => ⟨60,0,[sI 8 v.2.1,sA 7 7 3 0,sA 6 6 3 0,sC 0 (cF 1 x0 intRow),sI 1 x1],[(7,[cL 11 v.2.2 Bridge.row,cL 4 (([] : List Link) ++ x2) Link.row,cL 7 ([] : List Say) Say.row]),(6,[cL 11 ([] : List Bridge) Bridge.row,cL 4 ([] : List Link) Link.row,cL 7 ([] : List Say) Say.row])]⟩) (fun v => spec_NetNew_L6 n v.1 x0 x1 v.2.1 v.2.2 = some o16) (fun v => v.1) (n,(0,([] : List Bridge))) eo16 (St.sub_of [8,7,6,0,1] [7,6] kr) ?_
  rintro ⟨mo16,y2,y3⟩ H
  have H : spec_NetNew_L6 n mo16 x0 x1 y2 y3 = some o16 := H
  obtain _ | mo16 := mo16
  ·cases (show (none : Option _) = some o16 from H)
  rw [spec_NetNew_L6] at H
  refine tS ?_
  refine rU tOk 2 kr ?_
  refine lL tOk 22 3 3 16 17 none ⟨(.slot 16),[],0,false,1,(CV.frzEs (x0.map intRow))⟩ (x0).length _ kr kr kr kr kr (frz_len _ _) rfl ?_
  refine uD tOk 1 262595 192 kr kr ?_
  obtain ⟨h4,H⟩ | ⟨h4,H⟩ := bC H
  ·refine tF h4 kr ?_
   refine Tr.exit ?_
   refine And.intro (fun _ => ?_) (fun h => absurd rfl h)
   obtain rfl := si H
   have H := Ho16
   dsimp only at H
   exact jn y3 H (sB_ [7,6,1] [7,6] kr)
  refine tT h4 kr ?_
  refine tK ?_
  refine tS ?_
  refine tB ?_
  obtain ⟨v17,ev17,H⟩ := bind_some H
  obtain ⟨r18,er18,H⟩ := bind_some H
  obtain ⟨hg19,H⟩ := guard_some H
  refine Tr.draw mixed 12 kr ⟨60,0,[sI 8 y2,sA 7 7 3 0,sA 6 6 3 0,sC 0 (cF 1 x0 intRow),sI 1 x1],[(7,[cL 11 (y3 ++ [r18]) Bridge.row,cL 4 (([] : List Link) ++ x2) Link.row,cL 7 ([] : List Say) Say.row]),(6,[cL 11 ([] : List Bridge) Bridge.row,cL 4 ([] : List Link) Link.row,cL 7 ([] : List Say) Say.row])]⟩ (fun cx => ?_) ?_
  ·refine aU tOk [(0,[]),(1,[9,11]),(2,[]),(3,[])] 8 [⟨[9,11],25,21,22⟩] [3,2,1,0] rfl kr (fun cx => ?_)
   refine aI tOk 4 22 0 23 24 25 none ⟨(.slot 23),[],0,false,1,(CV.frzEs (x0.map intRow))⟩ y2 [cI v17] _ kr kr kr kr kr kr rfl (idx_isF ev17) rfl (fun cx => ?_)
   refine aU tOk [(5,[]),(6,[])] 5 [⟨[9,11],25,21,22⟩] [6,5,4,3,2,1,0] rfl kr (fun cx => ?_)
   refine AT.big1 tOk 7 kr kr ?_
   refine lV tOk [.rd,.rd] [] (spec_BridgeNew n v17 x1 r18 er18) kr kr kr kr (.inl rfl) ?_
   refine lF kr kr kr ?_
   refine AT.big1 tOk 8 kr kr ?_
   refine lU tOk 1 kr ?_
   refine lF kr kr kr ?_
   refine AT.big1 tOk 9 kr kr ?_
   refine LAt.appMU tOk (t := 25) (ty := 25) (e := 58) (x := (.tmp 22)) (y := (.tmp 29)) (d := 30) (g := none) (tI 58) Bridge.row y3 [r18] kr kr kr kr kr kr kr kr kr kr hg19 ?_
   refine lF kr kr kr ?_
   refine aU tOk [(10,[])] 1 [⟨[9,11],25,21,22⟩] [10,9,8,7,6,5,4,3,2,1,0] rfl kr (fun cx => ?_)
   refine AT.big1 tOk 11 kr kr ?_
   refine lU tOk 1 kr ?_
   refine lF kr kr kr ?_
   exact AT.done [8,7,6,0,1] [7,6] _ kr kr rfl
  refine tE tOk 3 451 192 kr kr ?_
  exact jn (mo16,((IntKind.wrap .i64 (y2 + 1)),(y3 ++ [r18]))) H (sM mo16 [8,7,6,0,1] [7,6] kr)
 rintro y4 H
 have H : (spec_NetNew_J1 n x1 x2 y4) = some r := H
 unfold spec_NetNew_J1 at H
 refine tS ?_
 refine rU tOk 1 kr ?_
 obtain ⟨r5,er5,H⟩ := bind_some H
 refine lV tOk [.rd] [.box 7] (spec_NetOk n (⟨y4,(([] : List Link) ++ x2),([] : List Say)⟩ : Net) r5 er5) kr kr kr kr (.inr (rets_cons (mine_cons mine_lit mine_nil) rets_nil)) ?_
 refine uD tOk 1 17179869378 192 kr kr ?_
 obtain ⟨h1,H⟩ | ⟨h1,H⟩ := bC H
 ·refine tF h1 kr ?_
  refine tK ?_
  refine tS ?_
  refine tG tOk 1 706 192 kr kr ?_
  obtain ⟨o9,eo9,Ho9⟩ := bind_some H
  clear H
  refine Tr.mid (ι := (List Bridge)) (fun v => ⟨60,0,[sA 7 7 3 0,sA 6 6 3 0],[(7,[cL 11 v Bridge.row,cL 4 (([] : List Link) ++ x2) Link.row,cL 7 ([] : List Say) Say.row]),(6,[cL 11 ([] : List Bridge) Bridge.row,cL 4 ([] : List Link) Link.row,cL 7 ([] : List Say) Say.row])]⟩) (fun v => spec_NetNew_J2 n x2 v = some r) ?_ ?_
  ·refine tB ?_
   refine Tr.loop (ι := Nat × (Int × (List Bridge))) (fun v => ⟨60,0,[sI 9 v.2.1,sA 7 7 3 0,sA 6 6 3 0,sI 1 x1],[(7,[cL 11 v.2.2 Bridge.row,cL 4 (([] : List Link) ++ x2) Link.row,cL 7 ([] : List Say) Say.row]),(6,[cL 11 ([] : List Bridge) Bridge.row,cL 4 ([] : List Link) Link.row,cL 7 ([] : List Say) Say.row])]⟩) (fun v => spec_NetNew_L3 n v.1 x1 v.2.1 v.2.2 = some o9) (fun v => v.1) (n,(0,y4)) eo9 (St.sub_of [9,7,6,1] [7,6] kr) ?_
   rintro ⟨mo9,y6,y7⟩ H
   have H : spec_NetNew_L3 n mo9 x1 y6 y7 = some o9 := H
   obtain _ | mo9 := mo9
   ·cases (show (none : Option _) = some o9 from H)
   rw [spec_NetNew_L3] at H
   refine tS ?_
   refine rU tOk 3 kr ?_
   refine lL tOk 25 3 58 38 39 none ⟨(.box 7),[(0,0)],0,true,11,(y7.map Bridge.row)⟩ (y7).length _ kr kr kr kr kr (map_len _ _) rfl ?_
   refine uD tOk 1 1099511628482 192 kr kr ?_
   obtain ⟨h2,H⟩ | ⟨h2,H⟩ := bC H
   ·refine tF h2 kr ?_
    refine Tr.exit ?_
    refine And.intro (fun _ => ?_) (fun h => absurd rfl h)
    obtain rfl := si H
    have H := Ho9
    dsimp only at H
    exact jn y7 H (sB_ [7,6] [7,6] kr)
   refine tT h2 kr ?_
   refine tK ?_
   refine tS ?_
   refine tB ?_
   refine tG tOk 1 1730 192 kr kr ?_
   obtain ⟨o13,eo13,Ho13⟩ := bind_some H
   clear H
   refine Tr.mid (ι := (List Bridge)) (fun v => ⟨60,0,[sI 9 y6,sA 7 7 3 0,sA 6 6 3 0,sI 1 x1],[(7,[cL 11 v Bridge.row,cL 4 (([] : List Link) ++ x2) Link.row,cL 7 ([] : List Say) Say.row]),(6,[cL 11 ([] : List Bridge) Bridge.row,cL 4 ([] : List Link) Link.row,cL 7 ([] : List Say) Say.row])]⟩) (fun v => spec_NetNew_J4 n (fun v => spec_NetNew_L3 n mo9 x1 v.1 v.2) y6 v = some o9) ?_ ?_
   ·refine tB ?_
    refine Tr.loop (ι := Nat × (Int × (List Bridge))) (fun v => ⟨60,0,[sI 10 v.2.1,sI 9 y6,sA 7 7 3 0,sA 6 6 3 0,sI 1 x1],[(7,[cL 11 v.2.2 Bridge.row,cL 4 (([] : List Link) ++ x2) Link.row,cL 7 ([] : List Say) Say.row]),(6,[cL 11 ([] : List Bridge) Bridge.row,cL 4 ([] : List Link) Link.row,cL 7 ([] : List Say) Say.row])]⟩) (fun v => spec_NetNew_L5 n v.1 x1 y6 v.2.1 v.2.2 = some o13) (fun v => v.1) (n,(0,y7)) eo13 (St.sub_of [10,9,7,6,1] [7,6] kr) ?_
    rintro ⟨mo13,y10,y11⟩ H
    have H : spec_NetNew_L5 n mo13 x1 y6 y10 y11 = some o13 := H
    obtain _ | mo13 := mo13
    ·cases (show (none : Option _) = some o13 from H)
    rw [spec_NetNew_L5] at H
    refine tS ?_
    refine tG tOk 3 35184372090562 192 kr kr ?_
    obtain ⟨h3,H⟩ | ⟨h3,H⟩ := bC H
    ·refine tF h3 kr ?_
     refine Tr.exit ?_
     refine And.intro (fun _ => ?_) (fun h => absurd rfl h)
     obtain rfl := si H
     have H := Ho13
     dsimp only at H
     exact jn y11 H (sB_ [9,7,6,1] [7,6] kr)
    refine tT h3 kr ?_
    refine tK ?_
    refine tS ?_
    refine tB ?_
    obtain ⟨v14,ev14,H⟩ := bind_some H
    obtain ⟨r15,er15,H⟩ := bind_some H
    refine Tr.draw mixed 12 kr ⟨60,0,[sI 10 y10,sI 9 y6,sA 7 7 3 0,sA 6 6 3 0,sI 1 x1],[(7,[cL 11 (y11.set (y6.toNat) r15) Bridge.row,cL 4 (([] : List Link) ++ x2) Link.row,cL 7 ([] : List Say) Say.row]),(6,[cL 11 ([] : List Bridge) Bridge.row,cL 4 ([] : List Link) Link.row,cL 7 ([] : List Say) Say.row])]⟩ (fun cx => ?_) ?_
    ·refine aU tOk [(0,[]),(1,[11]),(2,[]),(3,[]),(4,[9,11]),(5,[])] 6 [⟨[9,11],25,51,52⟩,⟨[11],25,48,49⟩] [5,4,3,2,1,0] rfl kr (fun cx => ?_)
     refine aO tOk 6 25 0 52 53 54 none ⟨(.box 7),[(0,0)],0,true,11,(y11.map Bridge.row)⟩ y6 (y6.toNat) (Bridge.row v14) _ kr kr kr kr kr kr rfl kr (idx_isE ev14) rfl rfl (fun cx => ?_)
     refine aU tOk [(8,[])] 4 [⟨[9,11],25,51,52⟩,⟨[11],25,48,49⟩] [8,6,5,4,3,2,1,0] rfl kr (fun cx => ?_)
     refine AT.big1 tOk 7 kr kr ?_
     refine LAt.loadE tOk (t := 58) (ty := 58) (x := (.tmp 54)) (d := 55) (g := none) (tI 58) (.box 7) [(0,0),(0,(y6.toNat))] 11 0 [.sl true 3 [[cL 11 y11 Bridge.row,cL 4 (([] : List Link) ++ x2) Link.row,cL 7 ([] : List Say) Say.row]]] (Bridge.row v14) _ kr kr kr kr kr (getQ_elemB rfl (idx_get ev14).2) rfl (by intro h; cases h) kr kr rfl ?_
     refine lF kr kr kr ?_
     refine AT.big1 tOk 9 kr kr ?_
     refine LAt.callO tOk [.rd,.rd,.rd] (f := 79) (av := #[.tmp 55,.tmp 56,.const (.bool true)]) (ats := #[58,3,4]) (d := (some 57)) (ty := 58) (g := none) [(55,Bridge.row v14)] none kr kr kr [.box 7] (spec_LinkSet n v14 y10 true r15 er15) (orc_cons (row := [.sl true 3 [[cL 11 y11 Bridge.row,cL 4 (([] : List Link) ++ x2) Link.row,cL 7 ([] : List Say) Say.row]]]) (q := [(0,0),(0,(y6.toNat))]) kr (getQ_elemB rfl (idx_get ev14).2) orc_nil) kr nr_none (.inr (And.intro (rets_cons (Bridge.row_mine _) rets_nil) outs_nil)) ?_
     refine lF kr kr kr ?_
     refine aO tOk 10 25 0 49 50 58 none ⟨(.box 7),[(0,0)],0,true,11,(y11.map Bridge.row)⟩ y6 (y6.toNat) (Bridge.row v14) _ kr kr kr kr kr kr rfl kr (idx_isE ev14) rfl rfl (fun cx => ?_)
     refine AT.big1 tOk 11 kr kr ?_
     refine LAt.storeB tOk (t := 58) (ty := 0) (ad := (.tmp 58)) (x := (.tmp 57)) (g := none) (tI 58) true (Bridge.row r15) 7 0 (y6.toNat) 11 0 11 y11 Bridge.row v14 r15 kr kr kr kr kr kr kr kr (idx_get ev14).2 kr kr kr kr ?_
     refine lF kr kr kr ?_
     exact AT.done [10,9,7,6,1] [7,6] _ kr kr rfl
    refine tE tOk 3 1730 192 kr kr ?_
    exact jn (mo13,((IntKind.wrap .i64 (y10 + 1)),(y11.set (y6.toNat) r15))) H (sM mo13 [10,9,7,6,1] [7,6] kr)
   rintro y12 H
   have H : (spec_NetNew_J4 n (fun v => spec_NetNew_L3 n mo9 x1 v.1 v.2) y6 y12) = some o9 := H
   unfold spec_NetNew_J4 at H
   refine tE tOk 3 706 192 kr kr ?_
   exact jn (mo9,((IntKind.wrap .i64 (y6 + 1)),y12)) H (sM mo9 [9,7,6,1] [7,6] kr)
  rintro y8 H
  have H : (spec_NetNew_J2 n x2 y8) = some r := H
  unfold spec_NetNew_J2 at H
  refine tG tOk 2 64 64 kr kr ?_
  exact te (by obtain rfl := si H; exact fO [(true,[cL 11 y8 Bridge.row,cL 4 (([] : List Link) ++ x2) Link.row,cL 7 ([] : List Say) Say.row])] kr rfl rfl)
 refine tT h1 kr ?_
 refine tG tOk 2 64 64 kr kr ?_
 exact te (by obtain rfl := si H; exact fO [(true,[cL 11 ([] : List Bridge) Bridge.row,cL 4 ([] : List Link) Link.row,cL 7 ([] : List Say) Say.row])] kr rfl rfl)
def impl_inF (n : Nat) (x0 : Int) (x1 : Int) (x2 : Int) : Option (Bool) :=
  (bif (decide (x0 ≥ x1)) then (some (decide (x0 ≤ x2))) else (some false))
noncomputable abbrev G145 (k : Nat) := Rg Tryz.f145 k
theorem impl_in (n : Nat) (x0 : Int) (x1 : Int) (x2 : Int) (r : Bool) (H : impl_inF n x0 x1 x2 = some r) : LCall Tryz.prog 145 [.val false [.lit (.int .i64 x0)],.val false [.lit (.int .i64 x1)],.val false [.lit (.int .i64 x2)]] [.val false [.lit (.bool r)]] [] := by
 refine LCall.of_body tOk Tryz.func145 rfl (c := (.seq (G145 0) (.seq (G145 1) .ret))) kr (Nat.le_of_ble_eq_true kr) 0 (rs := [.tmp 6]) rfl [] .nil [(false,[.lit (.bool r)])] [] [] fun cx => ?_
 show Tr _ _ _ ⟨15,0,[sI 0 x0,sI 1 x1,sI 2 x2],[]⟩ _
 unfold impl_inF at H
 refine tG tOk 1 7 0 kr kr ?_
 refine rU tOk 4 kr ?_
 refine lT ⟨15,0,[sB 10 (decide (x0 ≥ x1)),sB 9 (decide (x0 ≥ x1)),sI 8 x1,sI 7 x0,sI 0 x0,sI 1 x1,sI 2 x2],[]⟩ kr ?_
 cases h1 : (decide (x0 ≥ x1))
 ·have H := bifF h1 H
  refine uD tOk 5 64 0 kr kr ?_
  exact te (by obtain rfl := si H; exact fO [(false,[cB false])] kr rfl rfl)
 have H := bifT h1 H
 refine uD tOk 5 64 0 kr kr ?_
 exact te (by obtain rfl := si H; exact fO [(false,[cB (decide (x0 ≤ x2))])] kr rfl rfl)
def impl_allPortsF (n : Nat) (x0 : Int) : Option (Int) :=
  (bif (decide ((0 : Int) ≤ x0)) then (some (IntKind.wrap .i64 ((IntKind.wrap .i64 (1 * 2 ^ min ((x0 : Int)).toNat (IntKind.bits .i64))) - 1))) else none)
noncomputable abbrev G229 (k : Nat) := Rg Tryz.f229 k
theorem impl_allPorts (n : Nat) (x0 : Int) (r : Int) (H : impl_allPortsF n x0 = some r) : LCall Tryz.prog 229 [.val false [.lit (.int .i64 x0)]] [.val false [.lit (.int .i64 r)]] [] := by
 refine LCall.of_body tOk Tryz.func229 rfl (c := (.seq (G229 0) (.seq (G229 1) .ret))) kr (Nat.le_of_ble_eq_true kr) 0 (rs := [.tmp 2]) rfl [] .nil [(false,[.lit (.int .i64 r)])] [] [] fun cx => ?_
 show Tr _ _ _ ⟨6,0,[sI 0 x0],[]⟩ _
 unfold impl_allPortsF at H
 refine tG tOk 1 1 0 kr kr ?_
 refine rU tOk 1 kr ?_
 obtain ⟨hg1,H⟩ := guard_some H
 refine LAt.binC tOk (op := .shl) (t := 3) (ty := 3) (ty' := 3) (x := (.const (.int .i64 1))) (y := (.tmp 3)) (d := 4) (g := none) (.int .i64 1) (.int .i64 x0) (.int .i64 (IntKind.wrap .i64 (1 * 2 ^ min ((x0 : Int)).toNat (IntKind.bits .i64)))) _ kr kr kr kr kr (φ := (0 : Int) ≤ x0) kr (of_decide_eq_true hg1) rfl ?_
 refine uD tOk 2 4 0 kr kr ?_
 exact te (by obtain rfl := si H; exact fO [(false,[cI (IntKind.wrap .i64 ((IntKind.wrap .i64 (1 * 2 ^ min ((x0 : Int)).toNat (IntKind.bits .i64))) - 1))])] kr rfl rfl)
def impl_VtabNew_J1 (n : Nat) (r2 : Int) (r3 : Int) (y6 : (List Int)) : Option (Vtab) :=
  (some (⟨[(⟨1,r2,r3⟩ : Vrow)],y6⟩ : Vtab))
def impl_VtabNew_L2 (n : Nat) : Nat → Int → Int → (List Int) → Option (((List Int)) ⊕ (Vtab))
  | 0,_,_,_ => none
  | mo7 + 1,x0,y4,y5 => (bif (decide (y4 < x0)) then (bif (decide (y5.length + [1].length ≤ 268435456)) then (impl_VtabNew_L2 n mo7 x0 (IntKind.wrap .i64 (y4 + 1)) (y5 ++ [1])) else none) else (some (Sum.inl y5)))
def impl_VtabNewF (n : Nat) (x0 : Int) : Option (Vtab) :=
  ((impl_inF n x0 1 6).bind fun r1 => (bif (!r1) then (some (⟨([] : List Vrow),([] : List Int)⟩ : Vtab)) else ((impl_allPortsF n x0).bind fun r2 => ((impl_allPortsF n x0).bind fun r3 => ((impl_VtabNew_L2 n n x0 0 ([] : List Int)).bind fun o => match o with | .inl y6 => (impl_VtabNew_J1 n r2 r3 y6) | .inr r => some r)))))
noncomputable abbrev G182 (k : Nat) := Rg Tryz.f182 k
theorem impl_VtabNew (n : Nat) (x0 : Int) (r : Vtab) (H : impl_VtabNewF n x0 = some r) : LCall Tryz.prog 182 [.val false [.lit (.int .i64 x0)]] [.val true (Vtab.row r)] [] := by
 refine LCall.of_body tOk Tryz.func182 rfl (c := (.seq (G182 0) (.seq (.seq (G182 1) (.cond (.tmp 6) (.seq (G182 2) .ret) .skip)) (.seq (G182 3) (.seq (.seq (G182 4) (.block 0 (.loop (.seq (G182 5) (.seq (.cond (.tmp 17) .skip (.exit 0)) (.seq (.block 1 (G182 6)) (G182 7))))))) (.seq (G182 8) .ret)))))) kr (Nat.le_of_ble_eq_true kr) 0 (rs := [.cell 2 56]) rfl [] .nil [(true,(Vtab.row r))] [] [] fun cx => ?_
 show Tr _ _ _ ⟨25,0,[sI 0 x0],[]⟩ _
 unfold impl_VtabNewF at H
 refine tG tOk 1 5 4 kr kr ?_
 refine tS ?_
 refine rU tOk 1 kr ?_
 obtain ⟨r1,er1,H⟩ := bind_some H
 refine lV tOk [.rd,.rd,.rd] [] (impl_in n x0 1 6 r1 er1) kr kr kr kr (.inl rfl) ?_
 refine uD tOk 1 69 4 kr kr ?_
 obtain ⟨h1,H⟩ | ⟨h1,H⟩ := bC H
 ·refine tF h1 kr ?_
  refine tK ?_
  refine rU tOk 1 kr ?_
  obtain ⟨r2,er2,H⟩ := bind_some H
  refine lV tOk [.rd] [] (impl_allPorts n x0 r2 er2) kr kr kr kr (.inl rfl) ?_
  refine lU tOk 1 kr ?_
  obtain ⟨r3,er3,H⟩ := bind_some H
  refine lV tOk [.rd] [] (impl_allPorts n x0 r3 er3) kr kr kr kr (.inl rfl) ?_
  refine uD tOk 5 13 12 kr kr ?_
  refine tS ?_
  refine tG tOk 2 98316 12 kr kr ?_
  obtain ⟨o7,eo7,Ho7⟩ := bind_some H
  clear H
  refine Tr.mid (ι := (List Int)) (fun v => ⟨25,0,[sA 3 3 2 0,sA 2 2 2 0],[(3,[cL 3 [(⟨1,r2,r3⟩ : Vrow)] Vrow.row,cL 1 v intRow]),(2,[cL 3 ([] : List Vrow) Vrow.row,cL 1 ([] : List Int) intRow])]⟩) (fun v => impl_VtabNew_J1 n r2 r3 v = some r) ?_ ?_
  ·refine tB ?_
   refine Tr.loop (ι := Nat × (Int × (List Int))) (fun v => ⟨25,0,[sI 16 v.2.1,sI 15 x0,sA 3 3 2 0,sA 2 2 2 0],[(3,[cL 3 [(⟨1,r2,r3⟩ : Vrow)] Vrow.row,cL 1 v.2.2 intRow]),(2,[cL 3 ([] : List Vrow) Vrow.row,cL 1 ([] : List Int) intRow])]⟩) (fun v => impl_VtabNew_L2 n v.1 x0 v.2.1 v.2.2 = some o7) (fun v => v.1) (n,(0,([] : List Int))) eo7 (St.sub_of [16,15,3,2] [3,2] kr) ?_
   rintro ⟨mo7,y4,y5⟩ H
   have H : impl_VtabNew_L2 n mo7 x0 y4 y5 = some o7 := H
   obtain _ | mo7 := mo7
   ·cases (show (none : Option _) = some o7 from H)
   rw [impl_VtabNew_L2] at H
   refine tG tOk 1 229388 12 kr kr ?_
   refine tS ?_
   obtain ⟨h2,H⟩ | ⟨h2,H⟩ := bC H
   ·refine tF h2 kr ?_
    refine Tr.exit ?_
    refine And.intro (fun _ => ?_) (fun h => absurd rfl h)
    obtain rfl := si H
    have H := Ho7
    dsimp only at H
    exact jn y5 H (sB_ [3,2] [3,2] kr)
   refine tT h2 kr ?_
   refine tK ?_
   refine tS ?_
   refine tB ?_
   refine Tr.at ?_
   refine lU tOk 3 kr ?_
   obtain ⟨hg8,H⟩ := guard_some H
   refine LAt.appMU tOk (t := 22) (ty := 22) (e := 3) (x := (.tmp 19)) (y := (.tmp 20)) (d := 21) (g := none) (tI 3) intRow y5 [1] kr kr kr kr kr kr kr kr kr kr hg8 ?_
   refine uD tOk 2 98316 12 kr kr ?_
   refine tE tOk 2 98316 12 kr kr ?_
   exact jn (mo7,((IntKind.wrap .i64 (y4 + 1)),(y5 ++ [1]))) H (sM mo7 [16,15,3,2] [3,2] kr)
  rintro y6 H
  have H : (impl_VtabNew_J1 n r2 r3 y6) = some r := H
  unfold impl_VtabNew_J1 at H
  refine tG tOk 2 4 4 kr kr ?_
  exact te (by obtain rfl := si H; exact fO [(true,[cL 3 [(⟨1,r2,r3⟩ : Vrow)] Vrow.row,cL 1 y6 intRow])] kr rfl rfl)
 refine tT h1 kr ?_
 refine tG tOk 2 4 4 kr kr ?_
 exact te (by obtain rfl := si H; exact fO [(true,[cL 3 ([] : List Vrow) Vrow.row,cL 1 ([] : List Int) intRow])] kr rfl rfl)
def impl_BridgeNew_J1 (n : Nat) (r3 : Vtab) (x0 : Int) (y6 : (List Pt)) : Option (Bridge) :=
  (some (⟨x0,(⟨#[]⟩ : ByteArray),y6,([] : List Fent),r3,0,0,0,0,0⟩ : Bridge))
def impl_BridgeNew_L2 (n : Nat) : Nat → Int → Int → (List Pt) → Option (((List Pt)) ⊕ (Bridge))
  | 0,_,_,_ => none
  | mo7 + 1,x1,y4,y5 => (bif (decide (y4 < x1)) then (bif (decide (y5.length + [(⟨false,1,false,(⟨0,0,0,0,0⟩ : Vec)⟩ : Pt)].length ≤ 268435456)) then (impl_BridgeNew_L2 n mo7 x1 (IntKind.wrap .i64 (y4 + 1)) (y5 ++ [(⟨false,1,false,(⟨0,0,0,0,0⟩ : Vec)⟩ : Pt)])) else none) else (some (Sum.inl y5)))
def impl_BridgeNewF (n : Nat) (x0 : Int) (x1 : Int) : Option (Bridge) :=
  ((impl_inF n x0 1 99).bind fun r1 => (bif (!r1) then (some (⟨0,(⟨#[]⟩ : ByteArray),([] : List Pt),([] : List Fent),(⟨([] : List Vrow),([] : List Int)⟩ : Vtab),0,0,0,0,0⟩ : Bridge)) else ((impl_inF n x1 1 6).bind fun r2 => (bif (!r2) then (some (⟨0,(⟨#[]⟩ : ByteArray),([] : List Pt),([] : List Fent),(⟨([] : List Vrow),([] : List Int)⟩ : Vtab),0,0,0,0,0⟩ : Bridge)) else ((impl_VtabNewF n x1).bind fun r3 => ((impl_BridgeNew_L2 n n x1 0 ([] : List Pt)).bind fun o => match o with | .inl y6 => (impl_BridgeNew_J1 n r3 x0 y6) | .inr r => some r))))))
noncomputable abbrev G81 (k : Nat) := Rg Tryz.f81 k
theorem impl_BridgeNew (n : Nat) (x0 : Int) (x1 : Int) (r : Bridge) (H : impl_BridgeNewF n x0 x1 = some r) : LCall Tryz.prog 81 [.val false [.lit (.int .i64 x0)],.val false [.lit (.int .i64 x1)]] [.val true (Bridge.row r)] [] := by
 refine LCall.of_body tOk Tryz.func81 rfl (c := (.seq (G81 0) (.seq (.seq (G81 1) (.cond (.tmp 13) (.seq (G81 2) .ret) .skip)) (.seq (G81 3) (.seq (.seq (G81 4) (.block 0 (.loop (.seq (G81 5) (.seq (.cond (.tmp 21) .skip (.exit 0)) (.seq (.block 1 (G81 6)) (G81 7))))))) (.seq (G81 8) .ret)))))) kr (Nat.le_of_ble_eq_true kr) 0 (rs := [.cell 4 58]) rfl [] .nil [(true,(Bridge.row r))] [] [] fun cx => ?_
 show Tr _ _ _ ⟨30,0,[sI 0 x0,sI 1 x1],[]⟩ _
 unfold impl_BridgeNewF at H
 refine tG tOk 1 19 16 kr kr ?_
 refine tS ?_
 refine rU tOk 1 kr ?_
 obtain ⟨r1,er1,H⟩ := bind_some H
 refine lV tOk [.rd,.rd,.rd] [] (impl_in n x0 1 99 r1 er1) kr kr kr kr (.inl rfl) ?_
 refine lU tOk 2 kr ?_
 refine lT ⟨30,0,[sB 9 (!r1),sB 8 (!r1),sB 7 r1,sI 6 x0,sA 4 4 11 0,sI 0 x0,sI 1 x1],[(4,[cI 0,cS (⟨#[]⟩ : ByteArray),cL 8 ([] : List Pt) Pt.row,cL 5 ([] : List Fent) Fent.row,cL 3 ([] : List Vrow) Vrow.row,cL 1 ([] : List Int) intRow,cI 0,cI 0,cI 0,cI 0,cI 0])]⟩ kr ?_
 cases h1 : (!r1)
 ·have H := bifF h1 H
  refine lU tOk 1 kr ?_
  obtain ⟨r2,er2,H⟩ := bind_some H
  refine lV tOk [.rd,.rd,.rd] [] (impl_in n x1 1 6 r2 er2) kr kr kr kr (.inl rfl) ?_
  refine uD tOk 2 8211 16 kr kr ?_
  obtain ⟨h2,H⟩ | ⟨h2,H⟩ := bC H
  ·refine tF h2 kr ?_
   refine tK ?_
   refine rU tOk 2 kr ?_
   obtain ⟨r3,er3,H⟩ := bind_some H
   refine lV tOk [.rd] [] (impl_VtabNew n x1 r3 er3) kr kr kr kr (.inl rfl) ?_
   refine uD tOk 3 50 48 kr kr ?_
   refine tS ?_
   refine tG tOk 2 1572912 48 kr kr ?_
   obtain ⟨o7,eo7,Ho7⟩ := bind_some H
   clear H
   refine Tr.mid (ι := (List Pt)) (fun v => ⟨30,0,[sA 5 5 11 0,sA 4 4 11 0],[(5,[cI x0,cS (⟨#[]⟩ : ByteArray),cL 8 v Pt.row,cL 5 ([] : List Fent) Fent.row,cL 3 r3.Rows Vrow.row,cL 1 r3.Pvid intRow,cI 0,cI 0,cI 0,cI 0,cI 0]),(4,[cI 0,cS (⟨#[]⟩ : ByteArray),cL 8 ([] : List Pt) Pt.row,cL 5 ([] : List Fent) Fent.row,cL 3 ([] : List Vrow) Vrow.row,cL 1 ([] : List Int) intRow,cI 0,cI 0,cI 0,cI 0,cI 0])]⟩) (fun v => impl_BridgeNew_J1 n r3 x0 v = some r) ?_ ?_
   ·refine tB ?_
    refine Tr.loop (ι := Nat × (Int × (List Pt))) (fun v => ⟨30,0,[sI 20 v.2.1,sI 19 x1,sA 5 5 11 0,sA 4 4 11 0],[(5,[cI x0,cS (⟨#[]⟩ : ByteArray),cL 8 v.2.2 Pt.row,cL 5 ([] : List Fent) Fent.row,cL 3 r3.Rows Vrow.row,cL 1 r3.Pvid intRow,cI 0,cI 0,cI 0,cI 0,cI 0]),(4,[cI 0,cS (⟨#[]⟩ : ByteArray),cL 8 ([] : List Pt) Pt.row,cL 5 ([] : List Fent) Fent.row,cL 3 ([] : List Vrow) Vrow.row,cL 1 ([] : List Int) intRow,cI 0,cI 0,cI 0,cI 0,cI 0])]⟩) (fun v => impl_BridgeNew_L2 n v.1 x1 v.2.1 v.2.2 = some o7) (fun v => v.1) (n,(0,([] : List Pt))) eo7 (St.sub_of [20,19,5,4] [5,4] kr) ?_
    rintro ⟨mo7,y4,y5⟩ H
    have H : impl_BridgeNew_L2 n mo7 x1 y4 y5 = some o7 := H
    obtain _ | mo7 := mo7
    ·cases (show (none : Option _) = some o7 from H)
    rw [impl_BridgeNew_L2] at H
    refine tG tOk 1 3670064 48 kr kr ?_
    refine tS ?_
    obtain ⟨h3,H⟩ | ⟨h3,H⟩ := bC H
    ·refine tF h3 kr ?_
     refine Tr.exit ?_
     refine And.intro (fun _ => ?_) (fun h => absurd rfl h)
     obtain rfl := si H
     have H := Ho7
     dsimp only at H
     exact jn y5 H (sB_ [5,4] [5,4] kr)
    refine tT h3 kr ?_
    refine tK ?_
    refine tS ?_
    refine tB ?_
    refine Tr.at ?_
    refine lU tOk 4 kr ?_
    obtain ⟨hg8,H⟩ := guard_some H
    refine LAt.appMU tOk (t := 52) (ty := 52) (e := 182) (x := (.tmp 23)) (y := (.tmp 25)) (d := 26) (g := none) (tI 182) Pt.row y5 [(⟨false,1,false,(⟨0,0,0,0,0⟩ : Vec)⟩ : Pt)] kr kr kr kr kr kr kr kr kr kr hg8 ?_
    refine uD tOk 2 1572912 48 kr kr ?_
    refine tE tOk 2 1572912 48 kr kr ?_
    exact jn (mo7,((IntKind.wrap .i64 (y4 + 1)),(y5 ++ [(⟨false,1,false,(⟨0,0,0,0,0⟩ : Vec)⟩ : Pt)]))) H (sM mo7 [20,19,5,4] [5,4] kr)
   rintro y6 H
   have H : (impl_BridgeNew_J1 n r3 x0 y6) = some r := H
   unfold impl_BridgeNew_J1 at H
   refine tG tOk 2 16 16 kr kr ?_
   exact te (by obtain rfl := si H; exact fO [(true,[cI x0,cS (⟨#[]⟩ : ByteArray),cL 8 y6 Pt.row,cL 5 ([] : List Fent) Fent.row,cL 3 r3.Rows Vrow.row,cL 1 r3.Pvid intRow,cI 0,cI 0,cI 0,cI 0,cI 0])] kr rfl rfl)
  refine tT h2 kr ?_
  refine tG tOk 2 16 16 kr kr ?_
  exact te (by obtain rfl := si H; exact fO [(true,[cI 0,cS (⟨#[]⟩ : ByteArray),cL 8 ([] : List Pt) Pt.row,cL 5 ([] : List Fent) Fent.row,cL 3 ([] : List Vrow) Vrow.row,cL 1 ([] : List Int) intRow,cI 0,cI 0,cI 0,cI 0,cI 0])] kr rfl rfl)
 have H := bifT h1 H
 refine uD tOk 4 8211 16 kr kr ?_
 refine tt kr ?_
 refine tG tOk 2 16 16 kr kr ?_
 exact te (by obtain rfl := si H; exact fO [(true,[cI 0,cS (⟨#[]⟩ : ByteArray),cL 8 ([] : List Pt) Pt.row,cL 5 ([] : List Fent) Fent.row,cL 3 ([] : List Vrow) Vrow.row,cL 1 ([] : List Int) intRow,cI 0,cI 0,cI 0,cI 0,cI 0])] kr rfl rfl)
def impl_copyFdbF (n : Nat) (x0 : (List Fent)) : Option ((List Fent)) :=
  (bif (decide (([] : List Fent).length + x0.length ≤ 268435456)) then (some (([] : List Fent) ++ x0)) else none)
noncomputable abbrev G205 (k : Nat) := Rg Tryz.f205 k
theorem impl_copyFdb (n : Nat) (x0 : (List Fent)) (r : (List Fent)) (H : impl_copyFdbF n x0 = some r) : LCall Tryz.prog 205 [.val false [.sl false 5 (CV.frzEs (x0.map Fent.row))]] [.val false [.sl true 5 (r.map Fent.row)]] [] := by
 refine LCall.of_body tOk Tryz.func205 rfl (c := (.seq (G205 0) (.seq (G205 1) .ret))) kr (Nat.le_of_ble_eq_true kr) 0 (rs := [.tmp 2]) rfl [] .nil [(false,[.sl true 5 (r.map Fent.row)])] [] [] fun cx => ?_
 show Tr _ _ _ ⟨5,0,[sC 0 (cF 5 x0 Fent.row)],[]⟩ _
 unfold impl_copyFdbF at H
 refine tG tOk 1 1 0 kr kr ?_
 refine rU tOk 1 kr ?_
 obtain ⟨hg1,H⟩ := guard_some H
 refine LAt.appCU tOk (t := 53) (ty := 53) (e := 184) (x := (.const (.slice none 0 0))) (y := (.tmp 3)) (d := 4) (g := none) (tI 184) Fent.row ([] : List Fent) x0 ⟨(.slot 3),[],0,false,5,(CV.frzEs (x0.map Fent.row))⟩ kr kr kr kr kr kr kr kr kr kr kr (.inr rfl) (fun _ => rfl) (fun _ => rfl) hg1 ?_
 refine LAt.moveU (T := lk tab) (ty := 53) (x := (.tmp 4)) (d := 2) (g := none) false [cL 5 (([] : List Fent) ++ x0) Fent.row] kr kr kr kr kr ?_
 refine lD 4 0 kr ?_
 exact te (by obtain rfl := si H; exact fO [(false,[cL 5 (([] : List Fent) ++ x0) Fent.row])] kr rfl rfl)
def impl_copyIntsF (n : Nat) (x0 : (List Int)) : Option ((List Int)) :=
  (bif (decide (([] : List Int).length + x0.length ≤ 268435456)) then (some (([] : List Int) ++ x0)) else none)
noncomputable abbrev G248 (k : Nat) := Rg Tryz.f248 k
theorem impl_copyInts (n : Nat) (x0 : (List Int)) (r : (List Int)) (H : impl_copyIntsF n x0 = some r) : LCall Tryz.prog 248 [.val false [.sl false 1 (CV.frzEs (x0.map intRow))]] [.val false [.sl true 1 (r.map intRow)]] [] := by
 refine LCall.of_body tOk Tryz.func248 rfl (c := (.seq (G248 0) (.seq (G248 1) .ret))) kr (Nat.le_of_ble_eq_true kr) 0 (rs := [.tmp 2]) rfl [] .nil [(false,[.sl true 1 (r.map intRow)])] [] [] fun cx => ?_
 show Tr _ _ _ ⟨5,0,[sC 0 (cF 1 x0 intRow)],[]⟩ _
 unfold impl_copyIntsF at H
 refine tG tOk 1 1 0 kr kr ?_
 refine rU tOk 1 kr ?_
 obtain ⟨hg1,H⟩ := guard_some H
 refine LAt.appCU tOk (t := 22) (ty := 22) (e := 3) (x := (.const (.slice none 0 0))) (y := (.tmp 3)) (d := 4) (g := none) (tI 3) intRow ([] : List Int) x0 ⟨(.slot 3),[],0,false,1,(CV.frzEs (x0.map intRow))⟩ kr kr kr kr kr kr kr kr kr kr kr (.inr rfl) (fun _ => rfl) (fun _ => rfl) hg1 ?_
 refine LAt.moveU (T := lk tab) (ty := 22) (x := (.tmp 4)) (d := 2) (g := none) false [cL 1 (([] : List Int) ++ x0) intRow] kr kr kr kr kr ?_
 refine lD 4 0 kr ?_
 exact te (by obtain rfl := si H; exact fO [(false,[cL 1 (([] : List Int) ++ x0) intRow])] kr rfl rfl)
def impl_copyVtabF (n : Nat) (x0 : Vtab) : Option (Vtab) :=
  (bif (decide (([] : List Vrow).length + x0.Rows.length ≤ 268435456)) then ((impl_copyIntsF n x0.Pvid).bind fun r2 => (some (⟨(([] : List Vrow) ++ x0.Rows),r2⟩ : Vtab))) else none)
noncomputable abbrev G206 (k : Nat) := Rg Tryz.f206 k
noncomputable abbrev D206 (k : Nat) := Rd Tryz.f206 k
theorem impl_copyVtab (n : Nat) (x0 : Vtab) (r : Vtab) (H : impl_copyVtabF n x0 = some r) : LCall Tryz.prog 206 [.val true (CV.frzRow (Vtab.row x0))] [.val true (Vtab.row r)] [] := by
 refine LCall.of_body tOk Tryz.func206 rfl (c := (.seq (G206 0) (.seq (D206 1) .ret))) kr (Nat.le_of_ble_eq_true kr) 0 (rs := [.cell 2 56]) rfl [] .nil [(true,(Vtab.row r))] [] [] fun cx => ?_
 show Tr _ _ _ ⟨10,0,[sV 0 (CV.frzRow (Vtab.row x0))],[]⟩ _
 unfold impl_copyVtabF at H
 refine tG tOk 2 6 6 kr kr ?_
 obtain ⟨hg1,H⟩ := guard_some H
 obtain ⟨r2,er2,H⟩ := bind_some H
 refine Tr.draws mixed 8 kr ⟨10,0,[sA 2 2 2 0],[(2,[cL 3 (([] : List Vrow) ++ x0.Rows) Vrow.row,cL 1 r2 intRow])]⟩ (fun cx => ?_) ?_
 ·refine aU tOk [(0,[]),(1,[2,5,6,7]),(3,[]),(4,[5,6,7])] 4 [⟨[5,6,7],22,6,7⟩,⟨[2,5,6,7],54,3,4⟩] [4,3,1,0] rfl kr (fun cx => ?_)
  refine AT.big1 tOk 2 kr kr ?_
  refine LAt.appCU tOk (t := 54) (ty := 54) (e := 190) (x := (.const (.slice none 0 0))) (y := (.tmp 4)) (d := 5) (g := none) (tI 190) Vrow.row ([] : List Vrow) x0.Rows ⟨(.box 1),[(0,0)],0,false,3,(CV.frzEs (x0.Rows.map Vrow.row))⟩ kr kr kr kr kr kr kr kr kr kr kr (.inr rfl) (fun _ => rfl) (fun _ => rfl) hg1 ?_
  refine lF kr kr kr ?_
  refine AT.big1 tOk 5 kr kr ?_
  refine lV tOk [.rd] [] (impl_copyInts n x0.Pvid r2 er2) kr kr kr kr (.inl rfl) ?_
  refine lF kr kr kr ?_
  refine AT.big1 tOk 6 kr kr ?_
  refine lU tOk 1 kr ?_
  refine lF kr kr kr ?_
  refine AT.big1 tOk 7 kr kr ?_
  refine lU tOk 1 kr ?_
  refine lF kr kr kr ?_
  exact AT.done [2] [2] _ kr kr rfl
 exact te (by obtain rfl := si H; exact fO [(true,[cL 3 (([] : List Vrow) ++ x0.Rows) Vrow.row,cL 1 r2 intRow])] kr rfl rfl)
def impl_copyBridgeF (n : Nat) (x0 : Bridge) : Option (Bridge) :=
  (bif (decide (([] : List Pt).length + x0.Ports.length ≤ 268435456)) then ((impl_copyFdbF n x0.F).bind fun r2 => ((impl_copyVtabF n x0.V).bind fun r3 => (some (⟨x0.Id,x0.Name,(([] : List Pt) ++ x0.Ports),r2,r3,x0.Ticks,x0.Parse,x0.Word,x0.Drops,x0.Vers⟩ : Bridge)))) else none)
noncomputable abbrev G110 (k : Nat) := Rg Tryz.f110 k
noncomputable abbrev D110 (k : Nat) := Rd Tryz.f110 k
theorem impl_copyBridge (n : Nat) (x0 : Bridge) (r : Bridge) (H : impl_copyBridgeF n x0 = some r) : LCall Tryz.prog 110 [.val true (CV.frzRow (Bridge.row x0))] [.val true (Bridge.row r)] [] := by
 refine LCall.of_body tOk Tryz.func110 rfl (c := (.seq (G110 0) (.seq (G110 1) (.seq (D110 2) (.seq (G110 3) .ret))))) kr (Nat.le_of_ble_eq_true kr) 0 (rs := [.cell 2 58]) rfl [] .nil [(true,(Bridge.row r))] [] [] fun cx => ?_
 show Tr _ _ _ ⟨16,0,[sV 0 (CV.frzRow (Bridge.row x0))],[]⟩ _
 unfold impl_copyBridgeF at H
 refine tG tOk 2 6 6 kr kr ?_
 refine rU tOk 2 kr ?_
 obtain ⟨hg1,H⟩ := guard_some H
 refine LAt.appCU tOk (t := 52) (ty := 52) (e := 182) (x := (.const (.slice none 0 0))) (y := (.tmp 4)) (d := 5) (g := none) (tI 182) Pt.row ([] : List Pt) x0.Ports ⟨(.slot 4),[],0,false,8,(CV.frzEs (x0.Ports.map Pt.row))⟩ kr kr kr kr kr kr kr kr kr kr kr (.inr rfl) (fun _ => rfl) (fun _ => rfl) hg1 ?_
 refine uD tOk 2 6 6 kr kr ?_
 obtain ⟨r2,er2,H⟩ := bind_some H
 obtain ⟨r3,er3,H⟩ := bind_some H
 refine Tr.draws mixed 10 kr ⟨16,0,[sA 2 2 11 0,sA 1 1 11 0],[(1,[cI x0.Id,cS x0.Name,cL 8 (([] : List Pt) ++ x0.Ports) Pt.row,cL 5 r2 Fent.row,cL 3 r3.Rows Vrow.row,cL 1 r3.Pvid intRow,cI x0.Ticks,cI x0.Parse,cI x0.Word,cI x0.Drops,cI x0.Vers]),(2,[cI 0,cS (⟨#[]⟩ : ByteArray),cL 8 ([] : List Pt) Pt.row,cL 5 ([] : List Fent) Fent.row,cL 3 ([] : List Vrow) Vrow.row,cL 1 ([] : List Int) intRow,cI 0,cI 0,cI 0,cI 0,cI 0])]⟩ (fun cx => ?_) ?_
 ·refine aU tOk [(0,[]),(1,[2,5,7,9]),(3,[]),(4,[5,7,9])] 6 [⟨[5,7,9],56,10,11⟩,⟨[2,5,7,9],53,7,8⟩] [4,3,1,0] rfl kr (fun cx => ?_)
  refine AT.big1 tOk 2 kr kr ?_
  refine lV tOk [.rd] [] (impl_copyFdb n x0.F r2 er2) kr kr kr kr (.inl rfl) ?_
  refine lF kr kr kr ?_
  refine aU tOk [(6,[])] 4 [⟨[5,7,9],56,10,11⟩,⟨[2,5,7,9],53,7,8⟩] [6,2,4,3,1,0] rfl kr (fun cx => ?_)
  refine AT.big1 tOk 5 kr kr ?_
  refine lV tOk [.rd] [] (impl_copyVtab n x0.V r3 er3) kr kr kr kr (.inl rfl) ?_
  refine lF kr kr kr ?_
  refine AT.big1 tOk 7 kr kr ?_
  refine lU tOk 1 kr ?_
  refine lF kr kr kr ?_
  refine aU tOk [(8,[])] 1 [⟨[5,7,9],56,10,11⟩,⟨[2,5,7,9],53,7,8⟩] [8,7,5,6,2,4,3,1,0] rfl kr (fun cx => ?_)
  refine AT.big1 tOk 9 kr kr ?_
  refine lU tOk 1 kr ?_
  refine lF kr kr kr ?_
  exact AT.done [2,1] [1,2] _ kr kr rfl
 refine tG tOk 2 4 4 kr kr ?_
 exact te (by obtain rfl := si H; exact fO [(true,[cI x0.Id,cS x0.Name,cL 8 (([] : List Pt) ++ x0.Ports) Pt.row,cL 5 r2 Fent.row,cL 3 r3.Rows Vrow.row,cL 1 r3.Pvid intRow,cI x0.Ticks,cI x0.Parse,cI x0.Word,cI x0.Drops,cI x0.Vers])] kr rfl rfl)
def impl_VecOkF (n : Nat) (x0 : Vec) : Option (Bool) :=
  ((impl_inF n x0.Root 1 99).bind fun r1 => (bif r1 then ((impl_inF n x0.Cost 0 100000).bind fun r2 => (bif r2 then ((impl_inF n x0.Hops 0 10).bind fun r3 => (bif r3 then ((impl_inF n x0.Bridge 1 99).bind fun r4 => (bif r4 then ((impl_inF n x0.Port 0 7).bind fun r5 => (some r5)) else (some false))) else (some false))) else (some false))) else (some false)))
noncomputable abbrev G169 (k : Nat) := Rg Tryz.f169 k
theorem impl_VecOk (n : Nat) (x0 : Vec) (r : Bool) (H : impl_VecOkF n x0 = some r) : LCall Tryz.prog 169 [.val true (CV.frzRow (Vec.row x0))] [.val false [.lit (.bool r)]] [] := by
 refine LCall.of_body tOk Tryz.func169 rfl (c := (.seq (G169 0) (.seq (G169 1) .ret))) kr (Nat.le_of_ble_eq_true kr) 0 (rs := [.tmp 2]) rfl [] .nil [(false,[.lit (.bool r)])] [] [] fun cx => ?_
 show Tr _ _ _ ⟨26,0,[sV 0 (Vec.row x0)],[]⟩ _
 unfold impl_VecOkF at H
 refine tG tOk 2 2 2 kr kr ?_
 refine rU tOk 2 kr ?_
 obtain ⟨r1,er1,H⟩ := bind_some H
 refine lV tOk [.rd,.rd,.rd] [] (impl_in n x0.Root 1 99 r1 er1) kr kr kr kr (.inl rfl) ?_
 refine lU tOk 1 kr ?_
 refine lT ⟨26,0,[sB 6 r1,sB 5 r1,sI 4 x0.Root,sA 3 1 5 0,sA 1 1 5 0],[(1,(Vec.row x0))]⟩ kr ?_
 cases h1 : r1
 ·have H := bifF h1 H
  refine uD tOk 20 4 0 kr kr ?_
  exact te (by obtain rfl := si H; exact fO [(false,[cB false])] kr rfl rfl)
 have H := bifT h1 H
 refine lU tOk 2 kr ?_
 obtain ⟨r2,er2,H⟩ := bind_some H
 refine lV tOk [.rd,.rd,.rd] [] (impl_in n x0.Cost 0 100000 r2 er2) kr kr kr kr (.inl rfl) ?_
 refine lU tOk 2 kr ?_
 refine lT ⟨26,0,[sB 11 r2,sB 10 r2,sB 9 r2,sI 8 x0.Cost,sA 7 1 5 1,sB 6 true,sB 5 true,sI 4 x0.Root,sA 3 1 5 0,sA 1 1 5 0],[(1,(Vec.row x0))]⟩ kr ?_
 cases h2 : r2
 ·have H := bifF h2 H
  refine uD tOk 15 4 0 kr kr ?_
  exact te (by obtain rfl := si H; exact fO [(false,[cB false])] kr rfl rfl)
 have H := bifT h2 H
 refine lU tOk 2 kr ?_
 obtain ⟨r3,er3,H⟩ := bind_some H
 refine lV tOk [.rd,.rd,.rd] [] (impl_in n x0.Hops 0 10 r3 er3) kr kr kr kr (.inl rfl) ?_
 refine lU tOk 2 kr ?_
 refine lT ⟨26,0,[sB 16 r3,sB 15 r3,sB 14 r3,sI 13 x0.Hops,sA 12 1 5 2,sB 11 true,sB 10 true,sB 9 true,sI 8 x0.Cost,sA 7 1 5 1,sB 6 true,sB 5 true,sI 4 x0.Root,sA 3 1 5 0,sA 1 1 5 0],[(1,(Vec.row x0))]⟩ kr ?_
 cases h3 : r3
 ·have H := bifF h3 H
  refine uD tOk 10 4 0 kr kr ?_
  exact te (by obtain rfl := si H; exact fO [(false,[cB false])] kr rfl rfl)
 have H := bifT h3 H
 refine lU tOk 2 kr ?_
 obtain ⟨r4,er4,H⟩ := bind_some H
 refine lV tOk [.rd,.rd,.rd] [] (impl_in n x0.Bridge 1 99 r4 er4) kr kr kr kr (.inl rfl) ?_
 refine lU tOk 2 kr ?_
 refine lT ⟨26,0,[sB 21 r4,sB 20 r4,sB 19 r4,sI 18 x0.Bridge,sA 17 1 5 3,sB 16 true,sB 15 true,sB 14 true,sI 13 x0.Hops,sA 12 1 5 2,sB 11 true,sB 10 true,sB 9 true,sI 8 x0.Cost,sA 7 1 5 1,sB 6 true,sB 5 true,sI 4 x0.Root,sA 3 1 5 0,sA 1 1 5 0],[(1,(Vec.row x0))]⟩ kr ?_
 cases h4 : r4
 ·have H := bifF h4 H
  refine uD tOk 5 4 0 kr kr ?_
  exact te (by obtain rfl := si H; exact fO [(false,[cB false])] kr rfl rfl)
 have H := bifT h4 H
 refine lU tOk 2 kr ?_
 obtain ⟨r5,er5,H⟩ := bind_some H
 refine lV tOk [.rd,.rd,.rd] [] (impl_in n x0.Port 0 7 r5 er5) kr kr kr kr (.inl rfl) ?_
 refine uD tOk 2 4 0 kr kr ?_
 exact te (by obtain rfl := si H; exact fO [(false,[cB r5])] kr rfl rfl)
def impl_PtOkF (n : Nat) (x0 : Pt) : Option (Bool) :=
  ((impl_inF n x0.Cost 1 1000).bind fun r1 => (bif (!r1) then (some false) else (bif x0.Has then (bif (!x0.Up) then (some false) else ((impl_VecOkF n x0.Heard).bind fun r2 => (some r2))) else (some ((x0.Heard.Root == 0) && ((x0.Heard.Cost == 0) && ((x0.Heard.Hops == 0) && ((x0.Heard.Bridge == 0) && ((x0.Heard.Port == 0) && true)))))))))
noncomputable abbrev G158 (k : Nat) := Rg Tryz.f158 k
theorem impl_PtOk (n : Nat) (x0 : Pt) (r : Bool) (H : impl_PtOkF n x0 = some r) : LCall Tryz.prog 158 [.val true (CV.frzRow (Pt.row x0))] [.val false [.lit (.bool r)]] [] := by
 refine LCall.of_body tOk Tryz.func158 rfl (c := (.seq (G158 0) (.seq (.seq (G158 1) (.cond (.tmp 15) (.seq (G158 2) .ret) .skip)) (.seq (.seq (G158 3) (.cond (.tmp 17) (.seq (G158 4) .ret) .skip)) (.seq (G158 5) .ret))))) kr (Nat.le_of_ble_eq_true kr) 0 (rs := [.tmp 2]) rfl [] .nil [(false,[.lit (.bool r)])] [] [] fun cx => ?_
 show Tr _ _ _ ⟨25,0,[sV 0 (Pt.row x0)],[]⟩ _
 unfold impl_PtOkF at H
 refine tG tOk 2 2 2 kr kr ?_
 refine tS ?_
 refine rU tOk 2 kr ?_
 obtain ⟨r1,er1,H⟩ := bind_some H
 refine lV tOk [.rd,.rd,.rd] [] (impl_in n x0.Cost 1 1000 r1 er1) kr kr kr kr (.inl rfl) ?_
 refine lU tOk 2 kr ?_
 refine lT ⟨25,0,[sB 7 (!r1),sB 6 (!r1),sB 5 r1,sI 4 x0.Cost,sA 3 1 8 1,sA 1 1 8 0],[(1,(Pt.row x0))]⟩ kr ?_
 cases h1 : (!r1)
 ·have H := bifF h1 H
  refine lU tOk 3 kr ?_
  refine lT ⟨25,0,[sB 10 x0.Has,sB 9 x0.Has,sA 8 1 8 2,sB 7 false,sB 6 false,sB 5 r1,sI 4 x0.Cost,sA 3 1 8 1,sA 1 1 8 0],[(1,(Pt.row x0))]⟩ kr ?_
  cases h2 : x0.Has
  ·have H := bifF h2 H
   refine uD tOk 5 32770 2 kr kr ?_
   refine tf kr ?_
   refine tK ?_
   refine tS ?_
   refine tG tOk 2 131074 2 kr kr ?_
   refine tO ⟨25,0,[sB 17 x0.Has,sA 1 1 8 0],[(1,(Pt.row x0))]⟩ kr ?_
   rw [h2]
   refine tf kr ?_
   refine tK ?_
   refine rU tOk 3 kr ?_
   refine LAt.eqSG false (t := 162) (ty := 162) (ty' := 4) (x := (.tmp 22)) (y := (.tmp 23)) (d := 24) (g := none) ((x0.Heard.Root == 0) && ((x0.Heard.Cost == 0) && ((x0.Heard.Hops == 0) && ((x0.Heard.Bridge == 0) && ((x0.Heard.Port == 0) && true))))) _ kr kr kr kr rfl ?_
   refine uD tOk 1 4 0 kr kr ?_
   exact te (by obtain rfl := si H; exact fO [(false,[cB ((x0.Heard.Root == 0) && ((x0.Heard.Cost == 0) && ((x0.Heard.Hops == 0) && ((x0.Heard.Bridge == 0) && ((x0.Heard.Port == 0) && true)))))])] kr rfl rfl)
  have H := bifT h2 H
  refine uD tOk 5 32770 2 kr kr ?_
  obtain ⟨h3,H⟩ | ⟨h3,H⟩ := bC H
  ·refine tF h3 kr ?_
   refine tK ?_
   refine tS ?_
   refine tG tOk 2 131074 2 kr kr ?_
   refine tO ⟨25,0,[sB 17 x0.Has,sA 1 1 8 0],[(1,(Pt.row x0))]⟩ kr ?_
   rw [h2]
   refine tt kr ?_
   refine rU tOk 2 kr ?_
   obtain ⟨r2,er2,H⟩ := bind_some H
   refine lV tOk [.rd] [] (impl_VecOk n x0.Heard r2 er2) kr kr kr kr (.inl rfl) ?_
   refine uD tOk 1 4 0 kr kr ?_
   exact te (by obtain rfl := si H; exact fO [(false,[cB r2])] kr rfl rfl)
  refine tT h3 kr ?_
  refine tG tOk 1 4 0 kr kr ?_
  exact te (by obtain rfl := si H; exact fO [(false,[cB false])] kr rfl rfl)
 have H := bifT h1 H
 refine uD tOk 8 32770 2 kr kr ?_
 refine tt kr ?_
 refine tG tOk 1 4 0 kr kr ?_
 exact te (by obtain rfl := si H; exact fO [(false,[cB false])] kr rfl rfl)
def impl_fentOkF (n : Nat) (x0 : Fent) : Option (Bool) :=
  ((impl_inF n x0.Tag 1 99).bind fun r1 => (bif r1 then ((impl_inF n x0.Mac 1 9999).bind fun r2 => (bif r2 then ((impl_inF n x0.Port 0 7).bind fun r3 => (bif r3 then ((impl_inF n x0.Age 0 4).bind fun r4 => (bif r4 then (bif (!x0.Static) then (some true) else (some (x0.Age == 0))) else (some false))) else (some false))) else (some false))) else (some false)))
noncomputable abbrev G207 (k : Nat) := Rg Tryz.f207 k
theorem impl_fentOk (n : Nat) (x0 : Fent) (r : Bool) (H : impl_fentOkF n x0 = some r) : LCall Tryz.prog 207 [.val true (CV.frzRow (Fent.row x0))] [.val false [.lit (.bool r)]] [] := by
 refine LCall.of_body tOk Tryz.func207 rfl (c := (.seq (G207 0) (.seq (G207 1) .ret))) kr (Nat.le_of_ble_eq_true kr) 0 (rs := [.tmp 2]) rfl [] .nil [(false,[.lit (.bool r)])] [] [] fun cx => ?_
 show Tr _ _ _ ⟨31,0,[sV 0 (Fent.row x0)],[]⟩ _
 unfold impl_fentOkF at H
 refine tG tOk 2 2 2 kr kr ?_
 refine rU tOk 2 kr ?_
 obtain ⟨r1,er1,H⟩ := bind_some H
 refine lV tOk [.rd,.rd,.rd] [] (impl_in n x0.Tag 1 99 r1 er1) kr kr kr kr (.inl rfl) ?_
 refine lU tOk 1 kr ?_
 refine lT ⟨31,0,[sB 6 r1,sB 5 r1,sI 4 x0.Tag,sA 3 1 5 0,sA 1 1 5 0],[(1,(Fent.row x0))]⟩ kr ?_
 cases h1 : r1
 ·have H := bifF h1 H
  refine uD tOk 25 4 0 kr kr ?_
  exact te (by obtain rfl := si H; exact fO [(false,[cB false])] kr rfl rfl)
 have H := bifT h1 H
 refine lU tOk 2 kr ?_
 obtain ⟨r2,er2,H⟩ := bind_some H
 refine lV tOk [.rd,.rd,.rd] [] (impl_in n x0.Mac 1 9999 r2 er2) kr kr kr kr (.inl rfl) ?_
 refine lU tOk 2 kr ?_
 refine lT ⟨31,0,[sB 11 r2,sB 10 r2,sB 9 r2,sI 8 x0.Mac,sA 7 1 5 1,sB 6 true,sB 5 true,sI 4 x0.Tag,sA 3 1 5 0,sA 1 1 5 0],[(1,(Fent.row x0))]⟩ kr ?_
 cases h2 : r2
 ·have H := bifF h2 H
  refine uD tOk 20 4 0 kr kr ?_
  exact te (by obtain rfl := si H; exact fO [(false,[cB false])] kr rfl rfl)
 have H := bifT h2 H
 refine lU tOk 2 kr ?_
 obtain ⟨r3,er3,H⟩ := bind_some H
 refine lV tOk [.rd,.rd,.rd] [] (impl_in n x0.Port 0 7 r3 er3) kr kr kr kr (.inl rfl) ?_
 refine lU tOk 2 kr ?_
 refine lT ⟨31,0,[sB 16 r3,sB 15 r3,sB 14 r3,sI 13 x0.Port,sA 12 1 5 2,sB 11 true,sB 10 true,sB 9 true,sI 8 x0.Mac,sA 7 1 5 1,sB 6 true,sB 5 true,sI 4 x0.Tag,sA 3 1 5 0,sA 1 1 5 0],[(1,(Fent.row x0))]⟩ kr ?_
 cases h3 : r3
 ·have H := bifF h3 H
  refine uD tOk 15 4 0 kr kr ?_
  exact te (by obtain rfl := si H; exact fO [(false,[cB false])] kr rfl rfl)
 have H := bifT h3 H
 refine lU tOk 2 kr ?_
 obtain ⟨r4,er4,H⟩ := bind_some H
 refine lV tOk [.rd,.rd,.rd] [] (impl_in n x0.Age 0 4 r4 er4) kr kr kr kr (.inl rfl) ?_
 refine lU tOk 2 kr ?_
 refine lT ⟨31,0,[sB 21 r4,sB 20 r4,sB 19 r4,sI 18 x0.Age,sA 17 1 5 3,sB 16 true,sB 15 true,sB 14 true,sI 13 x0.Port,sA 12 1 5 2,sB 11 true,sB 10 true,sB 9 true,sI 8 x0.Mac,sA 7 1 5 1,sB 6 true,sB 5 true,sI 4 x0.Tag,sA 3 1 5 0,sA 1 1 5 0],[(1,(Fent.row x0))]⟩ kr ?_
 cases h4 : r4
 ·have H := bifF h4 H
  refine uD tOk 10 4 0 kr kr ?_
  exact te (by obtain rfl := si H; exact fO [(false,[cB false])] kr rfl rfl)
 have H := bifT h4 H
 refine lU tOk 4 kr ?_
 refine lT ⟨31,0,[sB 25 (!x0.Static),sB 24 (!x0.Static),sB 23 x0.Static,sA 22 1 5 4,sB 21 true,sB 20 true,sB 19 true,sI 18 x0.Age,sA 17 1 5 3,sB 16 true,sB 15 true,sB 14 true,sI 13 x0.Port,sA 12 1 5 2,sB 11 true,sB 10 true,sB 9 true,sI 8 x0.Mac,sA 7 1 5 1,sB 6 true,sB 5 true,sI 4 x0.Tag,sA 3 1 5 0,sA 1 1 5 0],[(1,(Fent.row x0))]⟩ kr ?_
 cases h5 : (!x0.Static)
 ·have H := bifF h5 H
  refine uD tOk 6 4 0 kr kr ?_
  exact te (by obtain rfl := si H; exact fO [(false,[cB (x0.Age == 0)])] kr rfl rfl)
 have H := bifT h5 H
 refine uD tOk 6 4 0 kr kr ?_
 exact te (by obtain rfl := si H; exact fO [(false,[cB true])] kr rfl rfl)
def impl_behindF (n : Nat) (x0 : Fent) (x1 : Int) (x2 : Int) : Option (Bool) :=
  (bif (decide (x0.Tag > x1)) then (some true) else (bif (x0.Tag == x1) then (some (decide (x0.Mac > x2))) else (some false)))
noncomputable abbrev G228 (k : Nat) := Rg Tryz.f228 k
theorem impl_behind (n : Nat) (x0 : Fent) (x1 : Int) (x2 : Int) (r : Bool) (H : impl_behindF n x0 x1 x2 = some r) : LCall Tryz.prog 228 [.val true (CV.frzRow (Fent.row x0)),.val false [.lit (.int .i64 x1)],.val false [.lit (.int .i64 x2)]] [.val false [.lit (.bool r)]] [] := by
 refine LCall.of_body tOk Tryz.func228 rfl (c := (.seq (G228 0) (.seq (G228 1) .ret))) kr (Nat.le_of_ble_eq_true kr) 0 (rs := [.tmp 6]) rfl [] .nil [(false,[.lit (.bool r)])] [] [] fun cx => ?_
 show Tr _ _ _ ⟨23,0,[sV 0 (Fent.row x0),sI 1 x1,sI 2 x2],[]⟩ _
 unfold impl_behindF at H
 refine tG tOk 2 14 8 kr kr ?_
 refine rU tOk 5 kr ?_
 refine lT ⟨23,0,[sB 11 (decide (x0.Tag > x1)),sB 10 (decide (x0.Tag > x1)),sI 9 x1,sI 8 x0.Tag,sA 7 3 5 0,sA 3 3 5 0,sI 1 x1,sI 2 x2],[(3,(Fent.row x0))]⟩ kr ?_
 cases h1 : (decide (x0.Tag > x1))
 ·have H := bifF h1 H
  refine lU tOk 5 kr ?_
  refine lT ⟨23,0,[sB 16 (x0.Tag == x1),sB 15 (x0.Tag == x1),sI 14 x1,sI 13 x0.Tag,sA 12 3 5 0,sB 11 false,sB 10 false,sI 9 x1,sI 8 x0.Tag,sA 7 3 5 0,sA 3 3 5 0,sI 1 x1,sI 2 x2],[(3,(Fent.row x0))]⟩ kr ?_
  cases h2 : (x0.Tag == x1)
  ·have H := bifF h2 H
   refine uD tOk 7 64 0 kr kr ?_
   exact te (by obtain rfl := si H; exact fO [(false,[cB false])] kr rfl rfl)
  have H := bifT h2 H
  refine uD tOk 7 64 0 kr kr ?_
  exact te (by obtain rfl := si H; exact fO [(false,[cB (decide (x0.Mac > x2))])] kr rfl rfl)
 have H := bifT h1 H
 refine uD tOk 12 64 0 kr kr ?_
 exact te (by obtain rfl := si H; exact fO [(false,[cB true])] kr rfl rfl)
def impl_FdbOk_J1 (n : Nat) (x0 : (List Fent)) : Option (Bool) :=
  (some (decide ((x0.length : Int) ≤ 12)))
def impl_FdbOk_L2 (n : Nat) : Nat → (List Fent) → Int → Option ((Unit) ⊕ (Bool))
  | 0,_,_ => none
  | mo2 + 1,x0,y1 => (bif (decide (y1 < (x0.length : Int))) then ((idx x0 y1).bind fun v3 => ((impl_fentOkF n v3).bind fun r4 => (bif (!r4) then (some (Sum.inr false)) else (bif (decide (y1 > 0)) then ((idx x0 (IntKind.wrap .i64 (y1 - 1))).bind fun v5 => ((idx x0 (IntKind.wrap .i64 (y1 - 1))).bind fun v6 => ((impl_behindF n v3 v5.Tag v6.Mac).bind fun r7 => (bif (!r7) then (some (Sum.inr false)) else (impl_FdbOk_L2 n mo2 x0 (IntKind.wrap .i64 (y1 + 1))))))) else (impl_FdbOk_L2 n mo2 x0 (IntKind.wrap .i64 (y1 + 1))))))) else (some (Sum.inl ())))
def impl_FdbOkF (n : Nat) (x0 : (List Fent)) : Option (Bool) :=
  ((impl_FdbOk_L2 n n x0 0).bind fun o => match o with | .inl _ => (impl_FdbOk_J1 n x0) | .inr r => some r)
noncomputable abbrev G159 (k : Nat) := Rg Tryz.f159 k
noncomputable abbrev D159 (k : Nat) := Rd Tryz.f159 k
theorem impl_FdbOk (n : Nat) (x0 : (List Fent)) (r : Bool) (H : impl_FdbOkF n x0 = some r) : LCall Tryz.prog 159 [.val false [.sl false 5 (CV.frzEs (x0.map Fent.row))]] [.val false [.lit (.bool r)]] [] := by
 refine LCall.of_body tOk Tryz.func159 rfl (c := (.seq (G159 0) (.seq (.seq (G159 1) (.block 0 (.loop (.seq (G159 2) (.seq (.cond (.tmp 8) .skip (.exit 0)) (.seq (.block 1 (.seq (G159 3) (.seq (D159 4) (.cond (.tmp 35) (.seq (G159 5) .ret) .skip)))) (G159 6))))))) (.seq (G159 7) .ret)))) kr (Nat.le_of_ble_eq_true kr) 0 (rs := [.tmp 2]) rfl [] .nil [(false,[.lit (.bool r)])] [] [] fun cx => ?_
 show Tr _ _ _ ⟨40,0,[sC 0 (cF 5 x0 Fent.row)],[]⟩ _
 unfold impl_FdbOkF at H
 refine tG tOk 1 1 0 kr kr ?_
 refine tS ?_
 refine rU tOk 1 kr ?_
 refine lL tOk 53 3 184 5 6 none ⟨(.slot 5),[],0,false,5,(CV.frzEs (x0.map Fent.row))⟩ (x0).length _ kr kr kr kr kr (frz_len _ _) rfl ?_
 refine uD tOk 1 225 0 kr kr ?_
 obtain ⟨o2,eo2,Ho2⟩ := bind_some H
 clear H
 refine Tr.mid (ι := Unit) (fun v => ⟨40,0,[sC 0 (cF 5 x0 Fent.row)],[]⟩) (fun v => impl_FdbOk_J1 n x0 = some r) ?_ ?_
 ·refine tB ?_
  refine Tr.loop (ι := Nat × (Int)) (fun v => ⟨40,0,[sI 7 v.2,sI 6 (x0.length : Int),sC 5 (cF 5 x0 Fent.row),sC 0 (cF 5 x0 Fent.row)],[]⟩) (fun v => impl_FdbOk_L2 n v.1 x0 v.2 = some o2) (fun v => v.1) (n,0) eo2 (St.sub_of [7,6,5,0] [] kr) ?_
  rintro ⟨mo2,y1⟩ H
  have H : impl_FdbOk_L2 n mo2 x0 y1 = some o2 := H
  obtain _ | mo2 := mo2
  ·cases (show (none : Option _) = some o2 from H)
  rw [impl_FdbOk_L2] at H
  refine tG tOk 1 481 0 kr kr ?_
  refine tS ?_
  obtain ⟨h1,H⟩ | ⟨h1,H⟩ := bC H
  ·refine tF h1 kr ?_
   refine Tr.exit ?_
   refine And.intro (fun _ => ?_) (fun h => absurd rfl h)
   obtain rfl := si H
   have H := Ho2
   dsimp only at H
   exact jn () H (sB_ [0] [] kr)
  refine tT h1 kr ?_
  refine tK ?_
  refine tS ?_
  refine tB ?_
  refine rU tOk 1 kr ?_
  obtain ⟨v3,ev3,H⟩ := bind_some H
  refine lI tOk 53 0 5 7 10 none ⟨(.slot 5),[],0,false,5,(CV.frzEs (x0.map Fent.row))⟩ y1 (Fent.row v3) _ kr kr kr kr rfl (idx_isF ev3) rfl ?_
  refine uD tOk 4 249 16 kr kr ?_
  obtain ⟨r4,er4,H⟩ := bind_some H
  refine tO ⟨40,0,[sI 3 y1,sA 4 4 5 0,sI 7 y1,sI 6 (x0.length : Int),sC 5 (cF 5 x0 Fent.row),sC 0 (cF 5 x0 Fent.row)],[(4,(Fent.row v3))]⟩ kr ?_
  cases h2 : (!r4)
  ·have H := bifF h2 H
   refine tO ⟨40,0,[sI 3 y1,sA 4 4 5 0,sI 7 y1,sI 6 (x0.length : Int),sC 5 (cF 5 x0 Fent.row),sC 0 (cF 5 x0 Fent.row)],[(4,(Fent.row v3))]⟩ kr ?_
   cases h3 : (decide (y1 > 0))
   ·have H := bifF h3 H
    refine Tr.draws mixed 24 kr ⟨40,0,[sB 35 false,sI 7 y1,sI 6 (x0.length : Int),sC 5 (cF 5 x0 Fent.row),sC 0 (cF 5 x0 Fent.row)],[]⟩ (fun cx => ?_) ?_
    ·refine aU tOk [(0,[1])] 23 [⟨[1],184,4,12⟩] [0] rfl kr (fun cx => ?_)
     refine AT.big1 tOk 1 kr kr ?_
     refine lV tOk [.rd] [] (impl_fentOk n v3 r4 er4) kr kr kr kr (.inl rfl) ?_
     refine lF kr kr kr ?_
     refine aU tOk [(2,[]),(3,[])] 20 [⟨[1],184,4,12⟩] [3,2,1,0] rfl kr (fun cx => ?_)
     refine aT ⟨40,0,[sB 15 (!r4),sB 14 (!r4),sB 13 r4,sV 12 (Fent.row v3),sI 3 y1,sA 4 4 5 0,sI 7 y1,sI 6 (x0.length : Int),sC 5 (cF 5 x0 Fent.row),sC 0 (cF 5 x0 Fent.row)],[(4,(Fent.row v3))]⟩ kr ?_
     rw [h2]
     refine aU tOk [(4,[]),(5,[]),(6,[])] 17 [⟨[1],184,4,12⟩] [6,5,4,3,2,1,0] rfl kr (fun cx => ?_)
     refine aT ⟨40,0,[sB 18 (decide (y1 > 0)),sB 17 (decide (y1 > 0)),sI 16 y1,sB 15 false,sB 14 false,sB 13 r4,sV 12 (Fent.row v3),sI 3 y1,sA 4 4 5 0,sI 7 y1,sI 6 (x0.length : Int),sC 5 (cF 5 x0 Fent.row),sC 0 (cF 5 x0 Fent.row)],[(4,(Fent.row v3))]⟩ kr ?_
     rw [h3]
     refine aU tOk [(7,[]),(8,[]),(9,[]),(10,[]),(11,[]),(12,[]),(13,[]),(14,[]),(15,[]),(16,[]),(17,[]),(18,[]),(19,[]),(20,[]),(21,[]),(22,[]),(23,[])] 0 [⟨[1],184,4,12⟩] [23,22,21,20,19,18,17,16,15,14,13,12,11,10,9,8,7,6,5,4,3,2,1,0] rfl kr (fun cx => ?_)
     exact AT.done [35,7,6,5,0] [] _ kr kr rfl
    refine tf kr ?_
    refine tK ?_
    refine tE tOk 2 225 0 kr kr ?_
    exact jn (mo2,(IntKind.wrap .i64 (y1 + 1))) H (sM mo2 [7,6,5,0] [] kr)
   have H := bifT h3 H
   obtain ⟨v5,ev5,H⟩ := bind_some H
   obtain ⟨v6,ev6,H⟩ := bind_some H
   obtain ⟨r7,er7,H⟩ := bind_some H
   refine Tr.draws mixed 24 kr ⟨40,0,[sB 35 (!r7),sI 7 y1,sI 6 (x0.length : Int),sC 5 (cF 5 x0 Fent.row),sC 0 (cF 5 x0 Fent.row)],[]⟩ (fun cx => ?_) ?_
   ·refine aU tOk [(0,[1,20])] 23 [⟨[1,20],184,4,12⟩] [0] rfl kr (fun cx => ?_)
    refine AT.big1 tOk 1 kr kr ?_
    refine lV tOk [.rd] [] (impl_fentOk n v3 r4 er4) kr kr kr kr (.inl rfl) ?_
    refine lF kr kr kr ?_
    refine aU tOk [(2,[]),(3,[])] 20 [⟨[1,20],184,4,12⟩] [3,2,1,0] rfl kr (fun cx => ?_)
    refine aT ⟨40,0,[sB 15 (!r4),sB 14 (!r4),sB 13 r4,sV 12 (Fent.row v3),sI 3 y1,sA 4 4 5 0,sI 7 y1,sI 6 (x0.length : Int),sC 5 (cF 5 x0 Fent.row),sC 0 (cF 5 x0 Fent.row)],[(4,(Fent.row v3))]⟩ kr ?_
    rw [h2]
    refine aU tOk [(4,[]),(5,[]),(6,[])] 17 [⟨[1,20],184,4,12⟩] [6,5,4,3,2,1,0] rfl kr (fun cx => ?_)
    refine aT ⟨40,0,[sB 18 (decide (y1 > 0)),sB 17 (decide (y1 > 0)),sI 16 y1,sB 15 false,sB 14 false,sB 13 r4,sV 12 (Fent.row v3),sI 3 y1,sA 4 4 5 0,sI 7 y1,sI 6 (x0.length : Int),sC 5 (cF 5 x0 Fent.row),sC 0 (cF 5 x0 Fent.row)],[(4,(Fent.row v3))]⟩ kr ?_
    rw [h3]
    refine aU tOk [(7,[20]),(8,[]),(9,[]),(10,[])] 13 [⟨[20],184,4,19⟩,⟨[1,20],184,4,12⟩] [10,9,8,7,6,5,4,3,2,1,0] rfl kr (fun cx => ?_)
    refine aI tOk 11 53 0 20 22 23 (some (6,true)) ⟨(.slot 20),[],0,false,5,(CV.frzEs (x0.map Fent.row))⟩ (IntKind.wrap .i64 (y1 - 1)) (Fent.row v5) _ kr kr kr kr kr kr rfl (idx_isF ev5) rfl (fun cx => ?_)
    refine aU tOk [(12,[]),(13,[]),(14,[]),(15,[]),(16,[])] 7 [⟨[20],184,4,19⟩,⟨[1,20],184,4,12⟩] [16,15,14,13,12,11,10,9,8,7,6,5,4,3,2,1,0] rfl kr (fun cx => ?_)
    refine aI tOk 17 53 0 26 28 29 (some (6,true)) ⟨(.slot 26),[],0,false,5,(CV.frzEs (x0.map Fent.row))⟩ (IntKind.wrap .i64 (y1 - 1)) (Fent.row v6) _ kr kr kr kr kr kr rfl (idx_isF ev6) rfl (fun cx => ?_)
    refine aU tOk [(18,[]),(19,[])] 4 [⟨[20],184,4,19⟩,⟨[1,20],184,4,12⟩] [19,18,17,16,15,14,13,12,11,10,9,8,7,6,5,4,3,2,1,0] rfl kr (fun cx => ?_)
    refine AT.big1 tOk 20 kr kr ?_
    refine lV tOk [.rd,.rd,.rd] [] (impl_behind n v3 v5.Tag v6.Mac r7 er7) kr kr kr kr (.inl rfl) ?_
    refine lF kr kr kr ?_
    refine aU tOk [(21,[]),(22,[]),(23,[])] 0 [⟨[20],184,4,19⟩,⟨[1,20],184,4,12⟩] [23,22,21,20,19,18,17,16,15,14,13,12,11,10,9,8,7,6,5,4,3,2,1,0] rfl kr (fun cx => ?_)
    exact AT.done [35,7,6,5,0] [] _ kr kr rfl
   refine tO ⟨40,0,[sB 35 (!r7),sI 7 y1,sI 6 (x0.length : Int),sC 5 (cF 5 x0 Fent.row),sC 0 (cF 5 x0 Fent.row)],[]⟩ kr ?_
   cases h4 : (!r7)
   ·have H := bifF h4 H
    refine tf kr ?_
    refine tK ?_
    refine tE tOk 2 225 0 kr kr ?_
    exact jn (mo2,(IntKind.wrap .i64 (y1 + 1))) H (sM mo2 [7,6,5,0] [] kr)
   have H := bifT h4 H
   refine tt kr ?_
   refine tG tOk 1 4 0 kr kr ?_
   refine te ?_
   obtain rfl := si H
   have H := Ho2
   dsimp only at H
   obtain rfl := si H
   exact fO [(false,[cB false])] kr rfl rfl
  have H := bifT h2 H
  refine Tr.draws mixed 24 kr ⟨40,0,[sB 35 true,sI 7 y1,sI 6 (x0.length : Int),sC 5 (cF 5 x0 Fent.row),sC 0 (cF 5 x0 Fent.row)],[]⟩ (fun cx => ?_) ?_
  ·refine aU tOk [(0,[1])] 23 [⟨[1],184,4,12⟩] [0] rfl kr (fun cx => ?_)
   refine AT.big1 tOk 1 kr kr ?_
   refine lV tOk [.rd] [] (impl_fentOk n v3 r4 er4) kr kr kr kr (.inl rfl) ?_
   refine lF kr kr kr ?_
   refine aU tOk [(2,[]),(3,[])] 20 [⟨[1],184,4,12⟩] [3,2,1,0] rfl kr (fun cx => ?_)
   refine aT ⟨40,0,[sB 15 (!r4),sB 14 (!r4),sB 13 r4,sV 12 (Fent.row v3),sI 3 y1,sA 4 4 5 0,sI 7 y1,sI 6 (x0.length : Int),sC 5 (cF 5 x0 Fent.row),sC 0 (cF 5 x0 Fent.row)],[(4,(Fent.row v3))]⟩ kr ?_
   rw [h2]
   refine aU tOk [(4,[]),(5,[]),(6,[]),(7,[]),(8,[]),(9,[]),(10,[]),(11,[]),(12,[]),(13,[]),(14,[]),(15,[]),(16,[]),(17,[]),(18,[]),(19,[]),(20,[]),(21,[]),(22,[]),(23,[])] 0 [⟨[1],184,4,12⟩] [23,22,21,20,19,18,17,16,15,14,13,12,11,10,9,8,7,6,5,4,3,2,1,0] rfl kr (fun cx => ?_)
   exact AT.done [35,7,6,5,0] [] _ kr kr rfl
  refine tt kr ?_
  refine tG tOk 1 4 0 kr kr ?_
  refine te ?_
  obtain rfl := si H
  have H := Ho2
  dsimp only at H
  obtain rfl := si H
  exact fO [(false,[cB false])] kr rfl rfl
 rintro _ H
 have H : (impl_FdbOk_J1 n x0) = some r := H
 unfold impl_FdbOk_J1 at H
 refine rU tOk 1 kr ?_
 refine lL tOk 53 3 184 37 38 none ⟨(.slot 37),[],0,false,5,(CV.frzEs (x0.map Fent.row))⟩ (x0).length _ kr kr kr kr kr (frz_len _ _) rfl ?_
 refine uD tOk 2 4 0 kr kr ?_
 exact te (by obtain rfl := si H; exact fO [(false,[cB (decide ((x0.length : Int) ≤ 12))])] kr rfl rfl)
def impl_RowAt_J1 (n : Nat) : Option (Int) :=
  (some (-1))
def impl_RowAt_L2 (n : Nat) : Nat → Vtab → Int → Int → Option ((Unit) ⊕ (Int))
  | 0,_,_,_ => none
  | mo2 + 1,x0,x1,y1 => (bif (decide (y1 < (x0.Rows.length : Int))) then ((idx x0.Rows y1).bind fun v3 => (bif (v3.Id == x1) then (some (Sum.inr y1)) else (impl_RowAt_L2 n mo2 x0 x1 (IntKind.wrap .i64 (y1 + 1))))) else (some (Sum.inl ())))
def impl_RowAtF (n : Nat) (x0 : Vtab) (x1 : Int) : Option (Int) :=
  ((impl_RowAt_L2 n n x0 x1 0).bind fun o => match o with | .inl _ => (impl_RowAt_J1 n) | .inr r => some r)
noncomputable abbrev G162 (k : Nat) := Rg Tryz.f162 k
theorem impl_RowAt (n : Nat) (x0 : Vtab) (x1 : Int) (r : Int) (H : impl_RowAtF n x0 x1 = some r) : LCall Tryz.prog 162 [.val true (CV.frzRow (Vtab.row x0)),.val false [.lit (.int .i64 x1)]] [.val false [.lit (.int .i64 r)]] [] := by
 refine LCall.of_body tOk Tryz.func162 rfl (c := (.seq (G162 0) (.seq (.seq (G162 1) (.block 0 (.loop (.seq (G162 2) (.seq (.cond (.tmp 11) .skip (.exit 0)) (.seq (.block 1 (.seq (G162 3) (.seq (G162 4) (.cond (.tmp 18) (.seq (G162 5) .ret) .skip)))) (G162 6))))))) (.seq (G162 7) .ret)))) kr (Nat.le_of_ble_eq_true kr) 0 (rs := [.tmp 4]) rfl [] .nil [(false,[.lit (.int .i64 r)])] [] [] fun cx => ?_
 show Tr _ _ _ ⟨21,0,[sV 0 (CV.frzRow (Vtab.row x0)),sI 1 x1],[]⟩ _
 unfold impl_RowAtF at H
 refine tG tOk 2 6 4 kr kr ?_
 refine tS ?_
 refine rU tOk 2 kr ?_
 refine lL tOk 54 3 190 8 9 none ⟨(.slot 8),[],0,false,3,(CV.frzEs (x0.Rows.map Vrow.row))⟩ (x0.Rows).length _ kr kr kr kr kr (frz_len _ _) rfl ?_
 refine uD tOk 1 1794 0 kr kr ?_
 obtain ⟨o2,eo2,Ho2⟩ := bind_some H
 clear H
 refine Tr.mid (ι := Unit) (fun v => ⟨21,0,[],[]⟩) (fun v => impl_RowAt_J1 n = some r) ?_ ?_
 ·refine tB ?_
  refine Tr.loop (ι := Nat × (Int)) (fun v => ⟨21,0,[sI 10 v.2,sI 9 (x0.Rows.length : Int),sC 8 (cF 3 x0.Rows Vrow.row),sI 1 x1],[]⟩) (fun v => impl_RowAt_L2 n v.1 x0 x1 v.2 = some o2) (fun v => v.1) (n,0) eo2 (St.sub_of [10,9,8,1] [] kr) ?_
  rintro ⟨mo2,y1⟩ H
  have H : impl_RowAt_L2 n mo2 x0 x1 y1 = some o2 := H
  obtain _ | mo2 := mo2
  ·cases (show (none : Option _) = some o2 from H)
  rw [impl_RowAt_L2] at H
  refine tG tOk 1 3842 0 kr kr ?_
  refine tS ?_
  obtain ⟨h1,H⟩ | ⟨h1,H⟩ := bC H
  ·refine tF h1 kr ?_
   refine Tr.exit ?_
   refine And.intro (fun _ => ?_) (fun h => absurd rfl h)
   obtain rfl := si H
   have H := Ho2
   dsimp only at H
   exact jn () H (sB_ [] [] kr)
  refine tT h1 kr ?_
  refine tK ?_
  refine tS ?_
  refine tB ?_
  refine rU tOk 1 kr ?_
  obtain ⟨v3,ev3,H⟩ := bind_some H
  refine lI tOk 54 0 8 10 13 none ⟨(.slot 8),[],0,false,3,(CV.frzEs (x0.Rows.map Vrow.row))⟩ y1 (Vrow.row v3) _ kr kr kr kr rfl (idx_isF ev3) rfl ?_
  refine uD tOk 4 1890 64 kr kr ?_
  refine tG tOk 4 263970 0 kr kr ?_
  obtain ⟨h2,H⟩ | ⟨h2,H⟩ := bC H
  ·refine tF h2 kr ?_
   refine tK ?_
   refine tE tOk 2 1794 0 kr kr ?_
   exact jn (mo2,(IntKind.wrap .i64 (y1 + 1))) H (sM mo2 [10,9,8,1] [] kr)
  refine tT h2 kr ?_
  refine tG tOk 2 16 0 kr kr ?_
  refine te ?_
  obtain rfl := si H
  have H := Ho2
  dsimp only at H
  obtain rfl := si H
  exact fO [(false,[cI y1])] kr rfl rfl
 rintro _ H
 have H : (impl_RowAt_J1 n) = some r := H
 unfold impl_RowAt_J1 at H
 refine tG tOk 1 16 0 kr kr ?_
 exact te (by obtain rfl := si H; exact fO [(false,[cI (-1)])] kr rfl rfl)
def impl_VtabOk_J2 (n : Nat) : Option (Bool) :=
  (some true)
def impl_VtabOk_L3 (n : Nat) : Nat → Vtab → Int → Option ((Unit) ⊕ (Bool))
  | 0,_,_ => none
  | mo4 + 1,x0,y3 => (bif (decide (y3 < (x0.Pvid.length : Int))) then ((idx x0.Pvid y3).bind fun v5 => ((impl_RowAtF n x0 v5).bind fun r6 => (bif (decide (r6 < 0)) then (some (Sum.inr false)) else (impl_VtabOk_L3 n mo4 x0 (IntKind.wrap .i64 (y3 + 1)))))) else (some (Sum.inl ())))
def impl_VtabOk_J1 (n : Nat) (x0 : Vtab) : Option (Bool) :=
  ((impl_VtabOk_L3 n n x0 0).bind fun o => match o with | .inl _ => (impl_VtabOk_J2 n) | .inr r => some r)
def impl_VtabOk_L4 (n : Nat) : Nat → Vtab → Int → Int → Option ((Unit) ⊕ (Bool))
  | 0,_,_,_ => none
  | mo7 + 1,x0,x1,y2 => (bif (decide (y2 < (x0.Rows.length : Int))) then ((idx x0.Rows y2).bind fun v8 => ((impl_inF n v8.Id 1 99).bind fun r9 => (bif (!r9) then (some (Sum.inr false)) else (bif (decide (y2 > 0)) then ((idx x0.Rows (IntKind.wrap .i64 (y2 - 1))).bind fun v12 => (bif (decide (v12.Id ≥ v8.Id)) then (some (Sum.inr false)) else ((impl_allPortsF n x1).bind fun r13 => ((impl_inF n v8.Members 0 r13).bind fun r14 => (bif (!r14) then (some (Sum.inr false)) else (bif ((IntKind.wrap .i64 (BitVec.ofInt (IntKind.bits .i64) v8.Bare &&& ~~~BitVec.ofInt (IntKind.bits .i64) v8.Members).toNat) != 0) then (some (Sum.inr false)) else (impl_VtabOk_L4 n mo7 x0 x1 (IntKind.wrap .i64 (y2 + 1))))))))) else ((impl_allPortsF n x1).bind fun r10 => ((impl_inF n v8.Members 0 r10).bind fun r11 => (bif (!r11) then (some (Sum.inr false)) else (bif ((IntKind.wrap .i64 (BitVec.ofInt (IntKind.bits .i64) v8.Bare &&& ~~~BitVec.ofInt (IntKind.bits .i64) v8.Members).toNat) != 0) then (some (Sum.inr false)) else (impl_VtabOk_L4 n mo7 x0 x1 (IntKind.wrap .i64 (y2 + 1))))))))))) else (some (Sum.inl ())))
def impl_VtabOkF (n : Nat) (x0 : Vtab) (x1 : Int) : Option (Bool) :=
  ((impl_inF n x1 1 6).bind fun r1 => (bif (!r1) then (some false) else (bif ((x0.Pvid.length : Int) != x1) then (some false) else (bif (decide ((x0.Rows.length : Int) > 6)) then (some false) else ((impl_VtabOk_L4 n n x0 x1 0).bind fun o => match o with | .inl _ => (impl_VtabOk_J1 n x0) | .inr r => some r)))))
noncomputable abbrev G160 (k : Nat) := Rg Tryz.f160 k
noncomputable abbrev D160 (k : Nat) := Rd Tryz.f160 k
theorem impl_VtabOk (n : Nat) (x0 : Vtab) (x1 : Int) (r : Bool) (H : impl_VtabOkF n x0 x1 = some r) : LCall Tryz.prog 160 [.val true (CV.frzRow (Vtab.row x0)),.val false [.lit (.int .i64 x1)]] [.val false [.lit (.bool r)]] [] := by
 refine LCall.of_body tOk Tryz.func160 rfl (c := (.seq (G160 0) (.seq (.seq (G160 1) (.cond (.tmp 24) (.seq (G160 2) .ret) .skip)) (.seq (.seq (G160 3) (.block 0 (.loop (.seq (G160 4) (.seq (.cond (.tmp 29) .skip (.exit 0)) (.seq (.block 1 (.seq (G160 5) (.seq (D160 6) (.cond (.tmp 68) (.seq (G160 7) .ret) .skip)))) (G160 8))))))) (.seq (.seq (G160 9) (.block 2 (.loop (.seq (G160 10) (.seq (.cond (.tmp 74) .skip (.exit 2)) (.seq (.block 3 (.seq (G160 11) (.seq (G160 12) (.cond (.tmp 80) (.seq (G160 13) .ret) .skip)))) (G160 14))))))) (.seq (G160 15) .ret)))))) kr (Nat.le_of_ble_eq_true kr) 0 (rs := [.tmp 4]) rfl [] .nil [(false,[.lit (.bool r)])] [] [] fun cx => ?_
 show Tr _ _ _ ⟨82,0,[sV 0 (CV.frzRow (Vtab.row x0)),sI 1 x1],[]⟩ _
 unfold impl_VtabOkF at H
 refine tG tOk 2 6 4 kr kr ?_
 refine tS ?_
 refine rU tOk 1 kr ?_
 obtain ⟨r1,er1,H⟩ := bind_some H
 refine lV tOk [.rd,.rd,.rd] [] (impl_in n x1 1 6 r1 er1) kr kr kr kr (.inl rfl) ?_
 refine lU tOk 2 kr ?_
 refine lT ⟨82,0,[sB 12 (!r1),sB 11 (!r1),sB 10 r1,sI 9 x1,sA 2 2 2 0,sI 1 x1],[(2,(CV.frzRow (Vtab.row x0)))]⟩ kr ?_
 cases h1 : (!r1)
 ·have H := bifF h1 H
  refine lU tOk 2 kr ?_
  refine lL tOk 22 3 3 14 15 (some (3,false)) ⟨(.slot 14),[],0,false,1,(CV.frzEs (x0.Pvid.map intRow))⟩ (x0.Pvid).length _ kr kr kr kr kr (frz_len _ _) rfl ?_
  refine lU tOk 4 kr ?_
  refine lT ⟨82,0,[sB 19 ((x0.Pvid.length : Int) != x1),sB 18 ((x0.Pvid.length : Int) != x1),sB 17 ((x0.Pvid.length : Int) != x1),sI 16 x1,sI 15 (x0.Pvid.length : Int),sC 14 (cF 1 x0.Pvid intRow),sA 13 2 2 1,sB 12 false,sB 11 false,sB 10 r1,sI 9 x1,sA 2 2 2 0,sI 1 x1],[(2,(CV.frzRow (Vtab.row x0)))]⟩ kr ?_
  cases h2 : ((x0.Pvid.length : Int) != x1)
  ·have H := bifF h2 H
   refine lU tOk 2 kr ?_
   refine lL tOk 54 3 190 21 22 (some (10,false)) ⟨(.slot 21),[],0,false,3,(CV.frzEs (x0.Rows.map Vrow.row))⟩ (x0.Rows).length _ kr kr kr kr kr (frz_len _ _) rfl ?_
   refine uD tOk 2 16777222 4 kr kr ?_
   obtain ⟨h3,H⟩ | ⟨h3,H⟩ := bC H
   ·refine tF h3 kr ?_
    refine tK ?_
    refine tS ?_
    refine rU tOk 2 kr ?_
    refine lL tOk 54 3 190 26 27 none ⟨(.slot 26),[],0,false,3,(CV.frzEs (x0.Rows.map Vrow.row))⟩ (x0.Rows).length _ kr kr kr kr kr (frz_len _ _) rfl ?_
    refine uD tOk 1 469762054 4 kr kr ?_
    obtain ⟨o7,eo7,Ho7⟩ := bind_some H
    clear H
    refine Tr.mid (ι := Unit) (fun v => ⟨82,0,[sA 2 2 2 0],[(2,(CV.frzRow (Vtab.row x0)))]⟩) (fun v => impl_VtabOk_J1 n x0 = some r) ?_ ?_
    ·refine tB ?_
     refine Tr.loop (ι := Nat × (Int)) (fun v => ⟨82,0,[sI 28 v.2,sI 27 (x0.Rows.length : Int),sC 26 (cF 3 x0.Rows Vrow.row),sA 2 2 2 0,sI 1 x1],[(2,(CV.frzRow (Vtab.row x0)))]⟩) (fun v => impl_VtabOk_L4 n v.1 x0 x1 v.2 = some o7) (fun v => v.1) (n,0) eo7 (St.sub_of [28,27,26,2,1] [2] kr) ?_
     rintro ⟨mo7,y2⟩ H
     have H : impl_VtabOk_L4 n mo7 x0 x1 y2 = some o7 := H
     obtain _ | mo7 := mo7
     ·cases (show (none : Option _) = some o7 from H)
     rw [impl_VtabOk_L4] at H
     refine tG tOk 1 1006632966 4 kr kr ?_
     refine tS ?_
     obtain ⟨h6,H⟩ | ⟨h6,H⟩ := bC H
     ·refine tF h6 kr ?_
      refine Tr.exit ?_
      refine And.intro (fun _ => ?_) (fun h => absurd rfl h)
      obtain rfl := si H
      have H := Ho7
      dsimp only at H
      exact jn () H (sB_ [2] [2] kr)
     refine tT h6 kr ?_
     refine tK ?_
     refine tS ?_
     refine tB ?_
     refine rU tOk 1 kr ?_
     obtain ⟨v8,ev8,H⟩ := bind_some H
     refine lI tOk 54 0 26 28 31 none ⟨(.slot 26),[],0,false,3,(CV.frzEs (x0.Rows.map Vrow.row))⟩ y2 (Vrow.row v8) _ kr kr kr kr rfl (idx_isF ev8) rfl ?_
     refine uD tOk 4 469762150 68 kr kr ?_
     obtain ⟨r9,er9,H⟩ := bind_some H
     refine tO ⟨82,0,[sI 5 y2,sA 6 6 3 0,sI 28 y2,sI 27 (x0.Rows.length : Int),sC 26 (cF 3 x0.Rows Vrow.row),sA 2 2 2 0,sI 1 x1],[(6,(Vrow.row v8)),(2,(CV.frzRow (Vtab.row x0)))]⟩ kr ?_
     cases h7 : (!r9)
     ·have H := bifF h7 H
      refine tO ⟨82,0,[sI 5 y2,sA 6 6 3 0,sI 28 y2,sI 27 (x0.Rows.length : Int),sC 26 (cF 3 x0.Rows Vrow.row),sA 2 2 2 0,sI 1 x1],[(6,(Vrow.row v8)),(2,(CV.frzRow (Vtab.row x0)))]⟩ kr ?_
      cases h8 : (decide (y2 > 0))
      ·have H := bifF h8 H
       obtain ⟨r10,er10,H⟩ := bind_some H
       obtain ⟨r11,er11,H⟩ := bind_some H
       refine tO ⟨82,0,[sI 5 y2,sA 6 6 3 0,sI 28 y2,sI 27 (x0.Rows.length : Int),sC 26 (cF 3 x0.Rows Vrow.row),sA 2 2 2 0,sI 1 x1],[(6,(Vrow.row v8)),(2,(CV.frzRow (Vtab.row x0)))]⟩ kr ?_
       cases h9 : (!r11)
       ·have H := bifF h9 H
        refine Tr.draws mixed 36 kr ⟨82,0,[sB 68 ((IntKind.wrap .i64 (BitVec.ofInt (IntKind.bits .i64) v8.Bare &&& ~~~BitVec.ofInt (IntKind.bits .i64) v8.Members).toNat) != 0),sI 28 y2,sI 27 (x0.Rows.length : Int),sC 26 (cF 3 x0.Rows Vrow.row),sA 2 2 2 0,sI 1 x1],[(2,(CV.frzRow (Vtab.row x0)))]⟩ (fun cx => ?_) ?_
        ·refine aU tOk [(0,[]),(1,[2,24,25])] 34 [⟨[2,24,25],3,33,34⟩] [1,0] rfl kr (fun cx => ?_)
         refine AT.big1 tOk 2 kr kr ?_
         refine lV tOk [.rd,.rd,.rd] [] (impl_in n v8.Id 1 99 r9 er9) kr kr kr kr (.inl rfl) ?_
         refine lF kr kr kr ?_
         refine aU tOk [(3,[]),(4,[])] 31 [⟨[2,24,25],3,33,34⟩] [4,3,2,1,0] rfl kr (fun cx => ?_)
         refine aT ⟨82,0,[sB 37 (!r9),sB 36 (!r9),sB 35 r9,sI 34 v8.Id,sA 33 6 3 0,sI 5 y2,sA 6 6 3 0,sI 28 y2,sI 27 (x0.Rows.length : Int),sC 26 (cF 3 x0.Rows Vrow.row),sA 2 2 2 0,sI 1 x1],[(6,(Vrow.row v8)),(2,(CV.frzRow (Vtab.row x0)))]⟩ kr ?_
         rw [h7]
         refine aU tOk [(5,[]),(6,[]),(7,[])] 28 [⟨[2,24,25],3,33,34⟩] [7,6,5,4,3,2,1,0] rfl kr (fun cx => ?_)
         refine aT ⟨82,0,[sB 40 (decide (y2 > 0)),sB 39 (decide (y2 > 0)),sI 38 y2,sB 37 false,sB 36 false,sB 35 r9,sI 34 v8.Id,sA 33 6 3 0,sI 5 y2,sA 6 6 3 0,sI 28 y2,sI 27 (x0.Rows.length : Int),sC 26 (cF 3 x0.Rows Vrow.row),sA 2 2 2 0,sI 1 x1],[(6,(Vrow.row v8)),(2,(CV.frzRow (Vtab.row x0)))]⟩ kr ?_
         rw [h8]
         refine aU tOk [(8,[]),(9,[]),(10,[]),(11,[]),(12,[]),(13,[]),(14,[]),(15,[]),(16,[]),(17,[]),(18,[]),(19,[]),(20,[]),(21,[]),(22,[25]),(23,[])] 12 [⟨[25],3,54,55⟩,⟨[2,24,25],3,33,34⟩] [23,22,21,20,19,18,17,16,15,14,13,12,11,10,9,8,7,6,5,4,3,2,1,0] rfl kr (fun cx => ?_)
         refine AT.big1 tOk 24 kr kr ?_
         refine lV tOk [.rd] [] (impl_allPorts n x1 r10 er10) kr kr kr kr (.inl rfl) ?_
         refine lF kr kr kr ?_
         refine AT.big1 tOk 25 kr kr ?_
         refine lV tOk [.rd,.rd,.rd] [] (impl_in n v8.Members 0 r10 r11 er11) kr kr kr kr (.inl rfl) ?_
         refine lF kr kr kr ?_
         refine aU tOk [(26,[]),(27,[]),(28,[])] 7 [⟨[25],3,54,55⟩,⟨[2,24,25],3,33,34⟩] [28,27,26,25,24,23,22,21,20,19,18,17,16,15,14,13,12,11,10,9,8,7,6,5,4,3,2,1,0] rfl kr (fun cx => ?_)
         refine aT ⟨82,0,[sB 61 (!r11),sB 60 (!r11),sB 59 (!r11),sB 58 r11,sI 57 r10,sI 56 x1,sI 55 v8.Members,sA 54 6 3 1,sB 53 false,sB 52 false,sB 51 false,(50,.tup []),(49,.tup []),(48,.tup []),(47,.tup []),(46,.tup []),(45,.tup []),(44,.tup []),(43,.tup []),(42,.tup []),(41,.tup []),sB 40 false,sB 39 false,sI 38 y2,sB 37 false,sB 36 false,sB 35 r9,sI 34 v8.Id,sA 33 6 3 0,sI 5 y2,sA 6 6 3 0,sI 28 y2,sI 27 (x0.Rows.length : Int),sC 26 (cF 3 x0.Rows Vrow.row),sA 2 2 2 0,sI 1 x1],[(6,(Vrow.row v8)),(2,(CV.frzRow (Vtab.row x0)))]⟩ kr ?_
         rw [h9]
         refine aU tOk [(29,[]),(30,[]),(31,[]),(32,[]),(33,[]),(34,[]),(35,[])] 0 [⟨[],3,64,65⟩,⟨[],3,62,63⟩,⟨[25],3,54,55⟩,⟨[2,24,25],3,33,34⟩] [35,34,33,32,31,30,29,28,27,26,25,24,23,22,21,20,19,18,17,16,15,14,13,12,11,10,9,8,7,6,5,4,3,2,1,0] rfl kr (fun cx => ?_)
         exact AT.done [68,28,27,26,2,1] [2] _ kr kr rfl
        refine tO ⟨82,0,[sB 68 ((IntKind.wrap .i64 (BitVec.ofInt (IntKind.bits .i64) v8.Bare &&& ~~~BitVec.ofInt (IntKind.bits .i64) v8.Members).toNat) != 0),sI 28 y2,sI 27 (x0.Rows.length : Int),sC 26 (cF 3 x0.Rows Vrow.row),sA 2 2 2 0,sI 1 x1],[(2,(CV.frzRow (Vtab.row x0)))]⟩ kr ?_
        cases h10 : ((IntKind.wrap .i64 (BitVec.ofInt (IntKind.bits .i64) v8.Bare &&& ~~~BitVec.ofInt (IntKind.bits .i64) v8.Members).toNat) != 0)
        ·have H := bifF h10 H
         refine tf kr ?_
         refine tK ?_
         refine tE tOk 2 469762054 4 kr kr ?_
         exact jn (mo7,(IntKind.wrap .i64 (y2 + 1))) H (sM mo7 [28,27,26,2,1] [2] kr)
        have H := bifT h10 H
        refine tt kr ?_
        refine tG tOk 1 16 0 kr kr ?_
        refine te ?_
        obtain rfl := si H
        have H := Ho7
        dsimp only at H
        obtain rfl := si H
        exact fO [(false,[cB false])] kr rfl rfl
       have H := bifT h9 H
       refine Tr.draws mixed 36 kr ⟨82,0,[sB 68 true,sI 28 y2,sI 27 (x0.Rows.length : Int),sC 26 (cF 3 x0.Rows Vrow.row),sA 2 2 2 0,sI 1 x1],[(2,(CV.frzRow (Vtab.row x0)))]⟩ (fun cx => ?_) ?_
       ·refine aU tOk [(0,[]),(1,[2,24,25])] 34 [⟨[2,24,25],3,33,34⟩] [1,0] rfl kr (fun cx => ?_)
        refine AT.big1 tOk 2 kr kr ?_
        refine lV tOk [.rd,.rd,.rd] [] (impl_in n v8.Id 1 99 r9 er9) kr kr kr kr (.inl rfl) ?_
        refine lF kr kr kr ?_
        refine aU tOk [(3,[]),(4,[])] 31 [⟨[2,24,25],3,33,34⟩] [4,3,2,1,0] rfl kr (fun cx => ?_)
        refine aT ⟨82,0,[sB 37 (!r9),sB 36 (!r9),sB 35 r9,sI 34 v8.Id,sA 33 6 3 0,sI 5 y2,sA 6 6 3 0,sI 28 y2,sI 27 (x0.Rows.length : Int),sC 26 (cF 3 x0.Rows Vrow.row),sA 2 2 2 0,sI 1 x1],[(6,(Vrow.row v8)),(2,(CV.frzRow (Vtab.row x0)))]⟩ kr ?_
        rw [h7]
        refine aU tOk [(5,[]),(6,[]),(7,[])] 28 [⟨[2,24,25],3,33,34⟩] [7,6,5,4,3,2,1,0] rfl kr (fun cx => ?_)
        refine aT ⟨82,0,[sB 40 (decide (y2 > 0)),sB 39 (decide (y2 > 0)),sI 38 y2,sB 37 false,sB 36 false,sB 35 r9,sI 34 v8.Id,sA 33 6 3 0,sI 5 y2,sA 6 6 3 0,sI 28 y2,sI 27 (x0.Rows.length : Int),sC 26 (cF 3 x0.Rows Vrow.row),sA 2 2 2 0,sI 1 x1],[(6,(Vrow.row v8)),(2,(CV.frzRow (Vtab.row x0)))]⟩ kr ?_
        rw [h8]
        refine aU tOk [(8,[]),(9,[]),(10,[]),(11,[]),(12,[]),(13,[]),(14,[]),(15,[]),(16,[]),(17,[]),(18,[]),(19,[]),(20,[]),(21,[]),(22,[25]),(23,[])] 12 [⟨[25],3,54,55⟩,⟨[2,24,25],3,33,34⟩] [23,22,21,20,19,18,17,16,15,14,13,12,11,10,9,8,7,6,5,4,3,2,1,0] rfl kr (fun cx => ?_)
        refine AT.big1 tOk 24 kr kr ?_
        refine lV tOk [.rd] [] (impl_allPorts n x1 r10 er10) kr kr kr kr (.inl rfl) ?_
        refine lF kr kr kr ?_
        refine AT.big1 tOk 25 kr kr ?_
        refine lV tOk [.rd,.rd,.rd] [] (impl_in n v8.Members 0 r10 r11 er11) kr kr kr kr (.inl rfl) ?_
        refine lF kr kr kr ?_
        refine aU tOk [(26,[]),(27,[]),(28,[])] 7 [⟨[25],3,54,55⟩,⟨[2,24,25],3,33,34⟩] [28,27,26,25,24,23,22,21,20,19,18,17,16,15,14,13,12,11,10,9,8,7,6,5,4,3,2,1,0] rfl kr (fun cx => ?_)
        refine aT ⟨82,0,[sB 61 (!r11),sB 60 (!r11),sB 59 (!r11),sB 58 r11,sI 57 r10,sI 56 x1,sI 55 v8.Members,sA 54 6 3 1,sB 53 false,sB 52 false,sB 51 false,(50,.tup []),(49,.tup []),(48,.tup []),(47,.tup []),(46,.tup []),(45,.tup []),(44,.tup []),(43,.tup []),(42,.tup []),(41,.tup []),sB 40 false,sB 39 false,sI 38 y2,sB 37 false,sB 36 false,sB 35 r9,sI 34 v8.Id,sA 33 6 3 0,sI 5 y2,sA 6 6 3 0,sI 28 y2,sI 27 (x0.Rows.length : Int),sC 26 (cF 3 x0.Rows Vrow.row),sA 2 2 2 0,sI 1 x1],[(6,(Vrow.row v8)),(2,(CV.frzRow (Vtab.row x0)))]⟩ kr ?_
        rw [h9]
        refine aU tOk [(29,[]),(30,[]),(31,[]),(32,[]),(33,[]),(34,[]),(35,[])] 0 [⟨[25],3,54,55⟩,⟨[2,24,25],3,33,34⟩] [35,34,33,32,31,30,29,28,27,26,25,24,23,22,21,20,19,18,17,16,15,14,13,12,11,10,9,8,7,6,5,4,3,2,1,0] rfl kr (fun cx => ?_)
        exact AT.done [68,28,27,26,2,1] [2] _ kr kr rfl
       refine tt kr ?_
       refine tG tOk 1 16 0 kr kr ?_
       refine te ?_
       obtain rfl := si H
       have H := Ho7
       dsimp only at H
       obtain rfl := si H
       exact fO [(false,[cB false])] kr rfl rfl
      have H := bifT h8 H
      obtain ⟨v12,ev12,H⟩ := bind_some H
      refine tO ⟨82,0,[sI 5 y2,sA 6 6 3 0,sI 28 y2,sI 27 (x0.Rows.length : Int),sC 26 (cF 3 x0.Rows Vrow.row),sA 2 2 2 0,sI 1 x1],[(6,(Vrow.row v8)),(2,(CV.frzRow (Vtab.row x0)))]⟩ kr ?_
      cases h11 : (decide (v12.Id ≥ v8.Id))
      ·have H := bifF h11 H
       obtain ⟨r13,er13,H⟩ := bind_some H
       obtain ⟨r14,er14,H⟩ := bind_some H
       refine tO ⟨82,0,[sI 5 y2,sA 6 6 3 0,sI 28 y2,sI 27 (x0.Rows.length : Int),sC 26 (cF 3 x0.Rows Vrow.row),sA 2 2 2 0,sI 1 x1],[(6,(Vrow.row v8)),(2,(CV.frzRow (Vtab.row x0)))]⟩ kr ?_
       cases h12 : (!r14)
       ·have H := bifF h12 H
        refine Tr.draws mixed 36 kr ⟨82,0,[sB 68 ((IntKind.wrap .i64 (BitVec.ofInt (IntKind.bits .i64) v8.Bare &&& ~~~BitVec.ofInt (IntKind.bits .i64) v8.Members).toNat) != 0),sI 28 y2,sI 27 (x0.Rows.length : Int),sC 26 (cF 3 x0.Rows Vrow.row),sA 2 2 2 0,sI 1 x1],[(2,(CV.frzRow (Vtab.row x0)))]⟩ (fun cx => ?_) ?_
        ·refine aU tOk [(0,[]),(1,[2,24,25])] 34 [⟨[2,24,25],3,33,34⟩] [1,0] rfl kr (fun cx => ?_)
         refine AT.big1 tOk 2 kr kr ?_
         refine lV tOk [.rd,.rd,.rd] [] (impl_in n v8.Id 1 99 r9 er9) kr kr kr kr (.inl rfl) ?_
         refine lF kr kr kr ?_
         refine aU tOk [(3,[]),(4,[])] 31 [⟨[2,24,25],3,33,34⟩] [4,3,2,1,0] rfl kr (fun cx => ?_)
         refine aT ⟨82,0,[sB 37 (!r9),sB 36 (!r9),sB 35 r9,sI 34 v8.Id,sA 33 6 3 0,sI 5 y2,sA 6 6 3 0,sI 28 y2,sI 27 (x0.Rows.length : Int),sC 26 (cF 3 x0.Rows Vrow.row),sA 2 2 2 0,sI 1 x1],[(6,(Vrow.row v8)),(2,(CV.frzRow (Vtab.row x0)))]⟩ kr ?_
         rw [h7]
         refine aU tOk [(5,[]),(6,[]),(7,[])] 28 [⟨[2,24,25],3,33,34⟩] [7,6,5,4,3,2,1,0] rfl kr (fun cx => ?_)
         refine aT ⟨82,0,[sB 40 (decide (y2 > 0)),sB 39 (decide (y2 > 0)),sI 38 y2,sB 37 false,sB 36 false,sB 35 r9,sI 34 v8.Id,sA 33 6 3 0,sI 5 y2,sA 6 6 3 0,sI 28 y2,sI 27 (x0.Rows.length : Int),sC 26 (cF 3 x0.Rows Vrow.row),sA 2 2 2 0,sI 1 x1],[(6,(Vrow.row v8)),(2,(CV.frzRow (Vtab.row x0)))]⟩ kr ?_
         rw [h8]
         refine aU tOk [(8,[]),(9,[24,25]),(10,[]),(11,[])] 24 [⟨[24,25],54,41,42⟩,⟨[2,24,25],3,33,34⟩] [11,10,9,8,7,6,5,4,3,2,1,0] rfl kr (fun cx => ?_)
         refine aI tOk 12 54 0 42 44 45 (some (7,true)) ⟨(.box 2),[(0,0)],0,false,3,(CV.frzEs (x0.Rows.map Vrow.row))⟩ (IntKind.wrap .i64 (y2 - 1)) (Vrow.row v12) _ kr kr kr kr kr kr rfl (idx_isF ev12) rfl (fun cx => ?_)
         refine aU tOk [(13,[]),(14,[]),(15,[]),(16,[24,25]),(17,[]),(18,[]),(19,[]),(20,[])] 15 [⟨[24,25],3,48,49⟩,⟨[24,25],54,41,42⟩,⟨[2,24,25],3,33,34⟩] [20,19,18,17,16,15,14,13,12,11,10,9,8,7,6,5,4,3,2,1,0] rfl kr (fun cx => ?_)
         refine aT ⟨82,0,[sB 53 (decide (v12.Id ≥ v8.Id)),sB 52 (decide (v12.Id ≥ v8.Id)),sB 51 (decide (v12.Id ≥ v8.Id)),sB 50 (decide (v12.Id ≥ v8.Id)),sI 49 v8.Id,sA 48 6 3 0,sI 47 v12.Id,(46,.fad ((Vrow.row v12))),(45,.fad ((Vrow.row v12))),sI 44 (IntKind.wrap .i64 (y2 - 1)),sI 43 y2,sR 42 2 2 0 1 false,sA 41 2 2 0,sB 40 true,sB 39 true,sI 38 y2,sB 37 false,sB 36 false,sB 35 r9,sI 34 v8.Id,sA 33 6 3 0,sI 5 y2,sA 6 6 3 0,sI 28 y2,sI 27 (x0.Rows.length : Int),sC 26 (cF 3 x0.Rows Vrow.row),sA 2 2 2 0,sI 1 x1],[(6,(Vrow.row v8)),(2,(CV.frzRow (Vtab.row x0)))]⟩ kr ?_
         rw [h11]
         refine aU tOk [(21,[]),(22,[25]),(23,[])] 12 [⟨[25],3,54,55⟩,⟨[24,25],3,48,49⟩,⟨[24,25],54,41,42⟩,⟨[2,24,25],3,33,34⟩] [23,22,21,20,19,18,17,16,15,14,13,12,11,10,9,8,7,6,5,4,3,2,1,0] rfl kr (fun cx => ?_)
         refine AT.big1 tOk 24 kr kr ?_
         refine lV tOk [.rd] [] (impl_allPorts n x1 r13 er13) kr kr kr kr (.inl rfl) ?_
         refine lF kr kr kr ?_
         refine AT.big1 tOk 25 kr kr ?_
         refine lV tOk [.rd,.rd,.rd] [] (impl_in n v8.Members 0 r13 r14 er14) kr kr kr kr (.inl rfl) ?_
         refine lF kr kr kr ?_
         refine aU tOk [(26,[]),(27,[]),(28,[])] 7 [⟨[25],3,54,55⟩,⟨[24,25],3,48,49⟩,⟨[24,25],54,41,42⟩,⟨[2,24,25],3,33,34⟩] [28,27,26,25,24,23,22,21,20,19,18,17,16,15,14,13,12,11,10,9,8,7,6,5,4,3,2,1,0] rfl kr (fun cx => ?_)
         refine aT ⟨82,0,[sB 61 (!r14),sB 60 (!r14),sB 59 (!r14),sB 58 r14,sI 57 r13,sI 56 x1,sI 55 v8.Members,sA 54 6 3 1,sB 53 false,sB 52 false,sB 51 false,sB 50 false,sI 49 v8.Id,sA 48 6 3 0,sI 47 v12.Id,(46,.fad ((Vrow.row v12))),(45,.fad ((Vrow.row v12))),sI 44 (IntKind.wrap .i64 (y2 - 1)),sI 43 y2,sR 42 2 2 0 1 false,sA 41 2 2 0,sB 40 true,sB 39 true,sI 38 y2,sB 37 false,sB 36 false,sB 35 r9,sI 34 v8.Id,sA 33 6 3 0,sI 5 y2,sA 6 6 3 0,sI 28 y2,sI 27 (x0.Rows.length : Int),sC 26 (cF 3 x0.Rows Vrow.row),sA 2 2 2 0,sI 1 x1],[(6,(Vrow.row v8)),(2,(CV.frzRow (Vtab.row x0)))]⟩ kr ?_
         rw [h12]
         refine aU tOk [(29,[]),(30,[]),(31,[]),(32,[]),(33,[]),(34,[]),(35,[])] 0 [⟨[],3,64,65⟩,⟨[],3,62,63⟩,⟨[25],3,54,55⟩,⟨[24,25],3,48,49⟩,⟨[24,25],54,41,42⟩,⟨[2,24,25],3,33,34⟩] [35,34,33,32,31,30,29,28,27,26,25,24,23,22,21,20,19,18,17,16,15,14,13,12,11,10,9,8,7,6,5,4,3,2,1,0] rfl kr (fun cx => ?_)
         exact AT.done [68,28,27,26,2,1] [2] _ kr kr rfl
        refine tO ⟨82,0,[sB 68 ((IntKind.wrap .i64 (BitVec.ofInt (IntKind.bits .i64) v8.Bare &&& ~~~BitVec.ofInt (IntKind.bits .i64) v8.Members).toNat) != 0),sI 28 y2,sI 27 (x0.Rows.length : Int),sC 26 (cF 3 x0.Rows Vrow.row),sA 2 2 2 0,sI 1 x1],[(2,(CV.frzRow (Vtab.row x0)))]⟩ kr ?_
        cases h13 : ((IntKind.wrap .i64 (BitVec.ofInt (IntKind.bits .i64) v8.Bare &&& ~~~BitVec.ofInt (IntKind.bits .i64) v8.Members).toNat) != 0)
        ·have H := bifF h13 H
         refine tf kr ?_
         refine tK ?_
         refine tE tOk 2 469762054 4 kr kr ?_
         exact jn (mo7,(IntKind.wrap .i64 (y2 + 1))) H (sM mo7 [28,27,26,2,1] [2] kr)
        have H := bifT h13 H
        refine tt kr ?_
        refine tG tOk 1 16 0 kr kr ?_
        refine te ?_
        obtain rfl := si H
        have H := Ho7
        dsimp only at H
        obtain rfl := si H
        exact fO [(false,[cB false])] kr rfl rfl
       have H := bifT h12 H
       refine Tr.draws mixed 36 kr ⟨82,0,[sB 68 true,sI 28 y2,sI 27 (x0.Rows.length : Int),sC 26 (cF 3 x0.Rows Vrow.row),sA 2 2 2 0,sI 1 x1],[(2,(CV.frzRow (Vtab.row x0)))]⟩ (fun cx => ?_) ?_
       ·refine aU tOk [(0,[]),(1,[2,24,25])] 34 [⟨[2,24,25],3,33,34⟩] [1,0] rfl kr (fun cx => ?_)
        refine AT.big1 tOk 2 kr kr ?_
        refine lV tOk [.rd,.rd,.rd] [] (impl_in n v8.Id 1 99 r9 er9) kr kr kr kr (.inl rfl) ?_
        refine lF kr kr kr ?_
        refine aU tOk [(3,[]),(4,[])] 31 [⟨[2,24,25],3,33,34⟩] [4,3,2,1,0] rfl kr (fun cx => ?_)
        refine aT ⟨82,0,[sB 37 (!r9),sB 36 (!r9),sB 35 r9,sI 34 v8.Id,sA 33 6 3 0,sI 5 y2,sA 6 6 3 0,sI 28 y2,sI 27 (x0.Rows.length : Int),sC 26 (cF 3 x0.Rows Vrow.row),sA 2 2 2 0,sI 1 x1],[(6,(Vrow.row v8)),(2,(CV.frzRow (Vtab.row x0)))]⟩ kr ?_
        rw [h7]
        refine aU tOk [(5,[]),(6,[]),(7,[])] 28 [⟨[2,24,25],3,33,34⟩] [7,6,5,4,3,2,1,0] rfl kr (fun cx => ?_)
        refine aT ⟨82,0,[sB 40 (decide (y2 > 0)),sB 39 (decide (y2 > 0)),sI 38 y2,sB 37 false,sB 36 false,sB 35 r9,sI 34 v8.Id,sA 33 6 3 0,sI 5 y2,sA 6 6 3 0,sI 28 y2,sI 27 (x0.Rows.length : Int),sC 26 (cF 3 x0.Rows Vrow.row),sA 2 2 2 0,sI 1 x1],[(6,(Vrow.row v8)),(2,(CV.frzRow (Vtab.row x0)))]⟩ kr ?_
        rw [h8]
        refine aU tOk [(8,[]),(9,[24,25]),(10,[]),(11,[])] 24 [⟨[24,25],54,41,42⟩,⟨[2,24,25],3,33,34⟩] [11,10,9,8,7,6,5,4,3,2,1,0] rfl kr (fun cx => ?_)
        refine aI tOk 12 54 0 42 44 45 (some (7,true)) ⟨(.box 2),[(0,0)],0,false,3,(CV.frzEs (x0.Rows.map Vrow.row))⟩ (IntKind.wrap .i64 (y2 - 1)) (Vrow.row v12) _ kr kr kr kr kr kr rfl (idx_isF ev12) rfl (fun cx => ?_)
        refine aU tOk [(13,[]),(14,[]),(15,[]),(16,[24,25]),(17,[]),(18,[]),(19,[]),(20,[])] 15 [⟨[24,25],3,48,49⟩,⟨[24,25],54,41,42⟩,⟨[2,24,25],3,33,34⟩] [20,19,18,17,16,15,14,13,12,11,10,9,8,7,6,5,4,3,2,1,0] rfl kr (fun cx => ?_)
        refine aT ⟨82,0,[sB 53 (decide (v12.Id ≥ v8.Id)),sB 52 (decide (v12.Id ≥ v8.Id)),sB 51 (decide (v12.Id ≥ v8.Id)),sB 50 (decide (v12.Id ≥ v8.Id)),sI 49 v8.Id,sA 48 6 3 0,sI 47 v12.Id,(46,.fad ((Vrow.row v12))),(45,.fad ((Vrow.row v12))),sI 44 (IntKind.wrap .i64 (y2 - 1)),sI 43 y2,sR 42 2 2 0 1 false,sA 41 2 2 0,sB 40 true,sB 39 true,sI 38 y2,sB 37 false,sB 36 false,sB 35 r9,sI 34 v8.Id,sA 33 6 3 0,sI 5 y2,sA 6 6 3 0,sI 28 y2,sI 27 (x0.Rows.length : Int),sC 26 (cF 3 x0.Rows Vrow.row),sA 2 2 2 0,sI 1 x1],[(6,(Vrow.row v8)),(2,(CV.frzRow (Vtab.row x0)))]⟩ kr ?_
        rw [h11]
        refine aU tOk [(21,[]),(22,[25]),(23,[])] 12 [⟨[25],3,54,55⟩,⟨[24,25],3,48,49⟩,⟨[24,25],54,41,42⟩,⟨[2,24,25],3,33,34⟩] [23,22,21,20,19,18,17,16,15,14,13,12,11,10,9,8,7,6,5,4,3,2,1,0] rfl kr (fun cx => ?_)
        refine AT.big1 tOk 24 kr kr ?_
        refine lV tOk [.rd] [] (impl_allPorts n x1 r13 er13) kr kr kr kr (.inl rfl) ?_
        refine lF kr kr kr ?_
        refine AT.big1 tOk 25 kr kr ?_
        refine lV tOk [.rd,.rd,.rd] [] (impl_in n v8.Members 0 r13 r14 er14) kr kr kr kr (.inl rfl) ?_
        refine lF kr kr kr ?_
        refine aU tOk [(26,[]),(27,[]),(28,[])] 7 [⟨[25],3,54,55⟩,⟨[24,25],3,48,49⟩,⟨[24,25],54,41,42⟩,⟨[2,24,25],3,33,34⟩] [28,27,26,25,24,23,22,21,20,19,18,17,16,15,14,13,12,11,10,9,8,7,6,5,4,3,2,1,0] rfl kr (fun cx => ?_)
        refine aT ⟨82,0,[sB 61 (!r14),sB 60 (!r14),sB 59 (!r14),sB 58 r14,sI 57 r13,sI 56 x1,sI 55 v8.Members,sA 54 6 3 1,sB 53 false,sB 52 false,sB 51 false,sB 50 false,sI 49 v8.Id,sA 48 6 3 0,sI 47 v12.Id,(46,.fad ((Vrow.row v12))),(45,.fad ((Vrow.row v12))),sI 44 (IntKind.wrap .i64 (y2 - 1)),sI 43 y2,sR 42 2 2 0 1 false,sA 41 2 2 0,sB 40 true,sB 39 true,sI 38 y2,sB 37 false,sB 36 false,sB 35 r9,sI 34 v8.Id,sA 33 6 3 0,sI 5 y2,sA 6 6 3 0,sI 28 y2,sI 27 (x0.Rows.length : Int),sC 26 (cF 3 x0.Rows Vrow.row),sA 2 2 2 0,sI 1 x1],[(6,(Vrow.row v8)),(2,(CV.frzRow (Vtab.row x0)))]⟩ kr ?_
        rw [h12]
        refine aU tOk [(29,[]),(30,[]),(31,[]),(32,[]),(33,[]),(34,[]),(35,[])] 0 [⟨[25],3,54,55⟩,⟨[24,25],3,48,49⟩,⟨[24,25],54,41,42⟩,⟨[2,24,25],3,33,34⟩] [35,34,33,32,31,30,29,28,27,26,25,24,23,22,21,20,19,18,17,16,15,14,13,12,11,10,9,8,7,6,5,4,3,2,1,0] rfl kr (fun cx => ?_)
        exact AT.done [68,28,27,26,2,1] [2] _ kr kr rfl
       refine tt kr ?_
       refine tG tOk 1 16 0 kr kr ?_
       refine te ?_
       obtain rfl := si H
       have H := Ho7
       dsimp only at H
       obtain rfl := si H
       exact fO [(false,[cB false])] kr rfl rfl
      have H := bifT h11 H
      refine Tr.draws mixed 36 kr ⟨82,0,[sB 68 true,sI 28 y2,sI 27 (x0.Rows.length : Int),sC 26 (cF 3 x0.Rows Vrow.row),sA 2 2 2 0,sI 1 x1],[(2,(CV.frzRow (Vtab.row x0)))]⟩ (fun cx => ?_) ?_
      ·refine aU tOk [(0,[]),(1,[2])] 34 [⟨[2],3,33,34⟩] [1,0] rfl kr (fun cx => ?_)
       refine AT.big1 tOk 2 kr kr ?_
       refine lV tOk [.rd,.rd,.rd] [] (impl_in n v8.Id 1 99 r9 er9) kr kr kr kr (.inl rfl) ?_
       refine lF kr kr kr ?_
       refine aU tOk [(3,[]),(4,[])] 31 [⟨[2],3,33,34⟩] [4,3,2,1,0] rfl kr (fun cx => ?_)
       refine aT ⟨82,0,[sB 37 (!r9),sB 36 (!r9),sB 35 r9,sI 34 v8.Id,sA 33 6 3 0,sI 5 y2,sA 6 6 3 0,sI 28 y2,sI 27 (x0.Rows.length : Int),sC 26 (cF 3 x0.Rows Vrow.row),sA 2 2 2 0,sI 1 x1],[(6,(Vrow.row v8)),(2,(CV.frzRow (Vtab.row x0)))]⟩ kr ?_
       rw [h7]
       refine aU tOk [(5,[]),(6,[]),(7,[])] 28 [⟨[2],3,33,34⟩] [7,6,5,4,3,2,1,0] rfl kr (fun cx => ?_)
       refine aT ⟨82,0,[sB 40 (decide (y2 > 0)),sB 39 (decide (y2 > 0)),sI 38 y2,sB 37 false,sB 36 false,sB 35 r9,sI 34 v8.Id,sA 33 6 3 0,sI 5 y2,sA 6 6 3 0,sI 28 y2,sI 27 (x0.Rows.length : Int),sC 26 (cF 3 x0.Rows Vrow.row),sA 2 2 2 0,sI 1 x1],[(6,(Vrow.row v8)),(2,(CV.frzRow (Vtab.row x0)))]⟩ kr ?_
       rw [h8]
       refine aU tOk [(8,[]),(9,[]),(10,[]),(11,[])] 24 [⟨[],54,41,42⟩,⟨[2],3,33,34⟩] [11,10,9,8,7,6,5,4,3,2,1,0] rfl kr (fun cx => ?_)
       refine aI tOk 12 54 0 42 44 45 (some (7,true)) ⟨(.box 2),[(0,0)],0,false,3,(CV.frzEs (x0.Rows.map Vrow.row))⟩ (IntKind.wrap .i64 (y2 - 1)) (Vrow.row v12) _ kr kr kr kr kr kr rfl (idx_isF ev12) rfl (fun cx => ?_)
       refine aU tOk [(13,[]),(14,[]),(15,[]),(16,[]),(17,[]),(18,[]),(19,[]),(20,[])] 15 [⟨[],3,48,49⟩,⟨[],54,41,42⟩,⟨[2],3,33,34⟩] [20,19,18,17,16,15,14,13,12,11,10,9,8,7,6,5,4,3,2,1,0] rfl kr (fun cx => ?_)
       refine aT ⟨82,0,[sB 53 (decide (v12.Id ≥ v8.Id)),sB 52 (decide (v12.Id ≥ v8.Id)),sB 51 (decide (v12.Id ≥ v8.Id)),sB 50 (decide (v12.Id ≥ v8.Id)),sI 49 v8.Id,sA 48 6 3 0,sI 47 v12.Id,(46,.fad ((Vrow.row v12))),(45,.fad ((Vrow.row v12))),sI 44 (IntKind.wrap .i64 (y2 - 1)),sI 43 y2,sR 42 2 2 0 1 false,sA 41 2 2 0,sB 40 true,sB 39 true,sI 38 y2,sB 37 false,sB 36 false,sB 35 r9,sI 34 v8.Id,sA 33 6 3 0,sI 5 y2,sA 6 6 3 0,sI 28 y2,sI 27 (x0.Rows.length : Int),sC 26 (cF 3 x0.Rows Vrow.row),sA 2 2 2 0,sI 1 x1],[(6,(Vrow.row v8)),(2,(CV.frzRow (Vtab.row x0)))]⟩ kr ?_
       rw [h11]
       refine aU tOk [(21,[]),(22,[]),(23,[]),(24,[]),(25,[]),(26,[]),(27,[]),(28,[]),(29,[]),(30,[]),(31,[]),(32,[]),(33,[]),(34,[]),(35,[])] 0 [⟨[],3,48,49⟩,⟨[],54,41,42⟩,⟨[2],3,33,34⟩] [35,34,33,32,31,30,29,28,27,26,25,24,23,22,21,20,19,18,17,16,15,14,13,12,11,10,9,8,7,6,5,4,3,2,1,0] rfl kr (fun cx => ?_)
       exact AT.done [68,28,27,26,2,1] [2] _ kr kr rfl
      refine tt kr ?_
      refine tG tOk 1 16 0 kr kr ?_
      refine te ?_
      obtain rfl := si H
      have H := Ho7
      dsimp only at H
      obtain rfl := si H
      exact fO [(false,[cB false])] kr rfl rfl
     have H := bifT h7 H
     refine Tr.draws mixed 36 kr ⟨82,0,[sB 68 true,sI 28 y2,sI 27 (x0.Rows.length : Int),sC 26 (cF 3 x0.Rows Vrow.row),sA 2 2 2 0,sI 1 x1],[(2,(CV.frzRow (Vtab.row x0)))]⟩ (fun cx => ?_) ?_
     ·refine aU tOk [(0,[]),(1,[2])] 34 [⟨[2],3,33,34⟩] [1,0] rfl kr (fun cx => ?_)
      refine AT.big1 tOk 2 kr kr ?_
      refine lV tOk [.rd,.rd,.rd] [] (impl_in n v8.Id 1 99 r9 er9) kr kr kr kr (.inl rfl) ?_
      refine lF kr kr kr ?_
      refine aU tOk [(3,[]),(4,[])] 31 [⟨[2],3,33,34⟩] [4,3,2,1,0] rfl kr (fun cx => ?_)
      refine aT ⟨82,0,[sB 37 (!r9),sB 36 (!r9),sB 35 r9,sI 34 v8.Id,sA 33 6 3 0,sI 5 y2,sA 6 6 3 0,sI 28 y2,sI 27 (x0.Rows.length : Int),sC 26 (cF 3 x0.Rows Vrow.row),sA 2 2 2 0,sI 1 x1],[(6,(Vrow.row v8)),(2,(CV.frzRow (Vtab.row x0)))]⟩ kr ?_
      rw [h7]
      refine aU tOk [(5,[]),(6,[]),(7,[]),(8,[]),(9,[]),(10,[]),(11,[]),(12,[]),(13,[]),(14,[]),(15,[]),(16,[]),(17,[]),(18,[]),(19,[]),(20,[]),(21,[]),(22,[]),(23,[]),(24,[]),(25,[]),(26,[]),(27,[]),(28,[]),(29,[]),(30,[]),(31,[]),(32,[]),(33,[]),(34,[]),(35,[])] 0 [⟨[2],3,33,34⟩] [35,34,33,32,31,30,29,28,27,26,25,24,23,22,21,20,19,18,17,16,15,14,13,12,11,10,9,8,7,6,5,4,3,2,1,0] rfl kr (fun cx => ?_)
      exact AT.done [68,28,27,26,2,1] [2] _ kr kr rfl
     refine tt kr ?_
     refine tG tOk 1 16 0 kr kr ?_
     refine te ?_
     obtain rfl := si H
     have H := Ho7
     dsimp only at H
     obtain rfl := si H
     exact fO [(false,[cB false])] kr rfl rfl
    rintro _ H
    have H : (impl_VtabOk_J1 n x0) = some r := H
    unfold impl_VtabOk_J1 at H
    refine tS ?_
    refine rU tOk 2 kr ?_
    refine lL tOk 22 3 3 71 72 none ⟨(.slot 71),[],0,false,1,(CV.frzEs (x0.Pvid.map intRow))⟩ (x0.Pvid).length _ kr kr kr kr kr (frz_len _ _) rfl ?_
    refine uD tOk 1 0x3800000000000000004 4 kr kr ?_
    obtain ⟨o4,eo4,Ho4⟩ := bind_some H
    clear H
    refine Tr.mid (ι := Unit) (fun v => ⟨82,0,[],[]⟩) (fun v => impl_VtabOk_J2 n = some r) ?_ ?_
    ·refine tB ?_
     refine Tr.loop (ι := Nat × (Int)) (fun v => ⟨82,0,[sI 73 v.2,sI 72 (x0.Pvid.length : Int),sC 71 (cF 1 x0.Pvid intRow),sA 2 2 2 0],[(2,(CV.frzRow (Vtab.row x0)))]⟩) (fun v => impl_VtabOk_L3 n v.1 x0 v.2 = some o4) (fun v => v.1) (n,0) eo4 (St.sub_of [73,72,71,2] [2] kr) ?_
     rintro ⟨mo4,y3⟩ H
     have H : impl_VtabOk_L3 n mo4 x0 y3 = some o4 := H
     obtain _ | mo4 := mo4
     ·cases (show (none : Option _) = some o4 from H)
     rw [impl_VtabOk_L3] at H
     refine tG tOk 1 0x7800000000000000004 4 kr kr ?_
     refine tS ?_
     obtain ⟨h4,H⟩ | ⟨h4,H⟩ := bC H
     ·refine tF h4 kr ?_
      refine Tr.exit ?_
      refine And.intro (fun _ => ?_) (fun h => absurd rfl h)
      obtain rfl := si H
      have H := Ho4
      dsimp only at H
      exact jn () H (sB_ [] [] kr)
     refine tT h4 kr ?_
     refine tK ?_
     refine tS ?_
     refine tB ?_
     refine tR ?_
     obtain ⟨v5,ev5,H⟩ := bind_some H
     refine lI tOk 22 0 71 73 75 none ⟨(.slot 71),[],0,false,1,(CV.frzEs (x0.Pvid.map intRow))⟩ y3 [cI v5] _ kr kr kr kr rfl (idx_isF ev5) rfl ?_
     refine uD tOk 2 0x3800000000000000104 4 kr kr ?_
     refine rU tOk 2 kr ?_
     obtain ⟨r6,er6,H⟩ := bind_some H
     refine lV tOk [.rd,.rd] [] (impl_RowAt n x0 v5 r6 er6) kr kr kr kr (.inl rfl) ?_
     refine uD tOk 1 0x103800000000000000004 4 kr kr ?_
     obtain ⟨h5,H⟩ | ⟨h5,H⟩ := bC H
     ·refine tF h5 kr ?_
      refine tK ?_
      refine tE tOk 2 0x3800000000000000004 4 kr kr ?_
      exact jn (mo4,(IntKind.wrap .i64 (y3 + 1))) H (sM mo4 [73,72,71,2] [2] kr)
     refine tT h5 kr ?_
     refine tG tOk 1 16 0 kr kr ?_
     refine te ?_
     obtain rfl := si H
     have H := Ho4
     dsimp only at H
     obtain rfl := si H
     exact fO [(false,[cB false])] kr rfl rfl
    rintro _ H
    have H : (impl_VtabOk_J2 n) = some r := H
    unfold impl_VtabOk_J2 at H
    refine tG tOk 1 16 0 kr kr ?_
    exact te (by obtain rfl := si H; exact fO [(false,[cB true])] kr rfl rfl)
   refine tT h3 kr ?_
   refine tG tOk 1 16 0 kr kr ?_
   exact te (by obtain rfl := si H; exact fO [(false,[cB false])] kr rfl rfl)
  have H := bifT h2 H
  refine uD tOk 5 16777222 4 kr kr ?_
  refine tt kr ?_
  refine tG tOk 1 16 0 kr kr ?_
  exact te (by obtain rfl := si H; exact fO [(false,[cB false])] kr rfl rfl)
 have H := bifT h1 H
 refine uD tOk 12 16777222 4 kr kr ?_
 refine tt kr ?_
 refine tG tOk 1 16 0 kr kr ?_
 exact te (by obtain rfl := si H; exact fO [(false,[cB false])] kr rfl rfl)
def impl_isCountF (n : Nat) (x0 : Int) : Option (Bool) :=
  ((impl_inF n x0 0 1000000).bind fun r1 => (some r1))
noncomputable abbrev G161 (k : Nat) := Rg Tryz.f161 k
theorem impl_isCount (n : Nat) (x0 : Int) (r : Bool) (H : impl_isCountF n x0 = some r) : LCall Tryz.prog 161 [.val false [.lit (.int .i64 x0)]] [.val false [.lit (.bool r)]] [] := by
 refine LCall.of_body tOk Tryz.func161 rfl (c := (.seq (G161 0) (.seq (G161 1) .ret))) kr (Nat.le_of_ble_eq_true kr) 0 (rs := [.tmp 2]) rfl [] .nil [(false,[.lit (.bool r)])] [] [] fun cx => ?_
 show Tr _ _ _ ⟨5,0,[sI 0 x0],[]⟩ _
 unfold impl_isCountF at H
 refine tG tOk 1 1 0 kr kr ?_
 refine rU tOk 1 kr ?_
 obtain ⟨r1,er1,H⟩ := bind_some H
 refine lV tOk [.rd,.rd,.rd] [] (impl_in n x0 0 1000000 r1 er1) kr kr kr kr (.inl rfl) ?_
 refine uD tOk 1 4 0 kr kr ?_
 exact te (by obtain rfl := si H; exact fO [(false,[cB r1])] kr rfl rfl)
def impl_BridgeOk_J1 (n : Nat) (x0 : Bridge) : Option (Bool) :=
  ((impl_inF n x0.Id 1 99).bind fun r2 => (bif (!r2) then (some false) else (bif (decide ((x0.Name.size : Int) > 10)) then (some false) else ((impl_inF n (x0.Ports.length : Int) 1 6).bind fun r3 => (bif (!r3) then (some false) else ((impl_FdbOkF n x0.F).bind fun r4 => (bif (!r4) then (some false) else ((impl_VtabOkF n x0.V (x0.Ports.length : Int)).bind fun r5 => (bif (!r5) then (some false) else ((impl_isCountF n x0.Ticks).bind fun r6 => (bif r6 then ((impl_isCountF n x0.Parse).bind fun r7 => (bif r7 then ((impl_isCountF n x0.Word).bind fun r8 => (bif r8 then ((impl_isCountF n x0.Drops).bind fun r9 => (bif r9 then ((impl_isCountF n x0.Vers).bind fun r10 => (some r10)) else (some false))) else (some false))) else (some false))) else (some false))))))))))))
def impl_BridgeOk_L2 (n : Nat) : Nat → Bridge → Int → Option ((Unit) ⊕ (Bool))
  | 0,_,_ => none
  | mo11 + 1,x0,y1 => (bif (decide (y1 < (x0.Ports.length : Int))) then ((idx x0.Ports y1).bind fun v12 => ((impl_PtOkF n v12).bind fun r13 => (bif (!r13) then (some (Sum.inr false)) else (impl_BridgeOk_L2 n mo11 x0 (IntKind.wrap .i64 (y1 + 1)))))) else (some (Sum.inl ())))
def impl_BridgeOkF (n : Nat) (x0 : Bridge) : Option (Bool) :=
  ((impl_BridgeOk_L2 n n x0 0).bind fun o => match o with | .inl _ => (impl_BridgeOk_J1 n x0) | .inr r => some r)
noncomputable abbrev G57 (k : Nat) := Rg Tryz.f57 k
theorem impl_BridgeOk (n : Nat) (x0 : Bridge) (r : Bool) (H : impl_BridgeOkF n x0 = some r) : LCall Tryz.prog 57 [.val true (CV.frzRow (Bridge.row x0))] [.val false [.lit (.bool r)]] [] := by
 refine LCall.of_body tOk Tryz.func57 rfl (c := (.seq (G57 0) (.seq (.seq (G57 1) (.block 0 (.loop (.seq (G57 2) (.seq (.cond (.tmp 9) .skip (.exit 0)) (.seq (.block 1 (.seq (G57 3) (.seq (G57 4) (.cond (.tmp 14) (.seq (G57 5) .ret) .skip)))) (G57 6))))))) (.seq (.seq (G57 7) (.cond (.tmp 47) (.seq (G57 8) .ret) .skip)) (.seq (G57 9) .ret))))) kr (Nat.le_of_ble_eq_true kr) 0 (rs := [.tmp 2]) rfl [] .nil [(false,[.lit (.bool r)])] [] [] fun cx => ?_
 show Tr _ _ _ ⟨71,0,[sV 0 (CV.frzRow (Bridge.row x0))],[]⟩ _
 unfold impl_BridgeOkF at H
 refine tG tOk 2 2 2 kr kr ?_
 refine tS ?_
 refine rU tOk 2 kr ?_
 refine lL tOk 52 3 182 6 7 none ⟨(.slot 6),[],0,false,8,(CV.frzEs (x0.Ports.map Pt.row))⟩ (x0.Ports).length _ kr kr kr kr kr (frz_len _ _) rfl ?_
 refine uD tOk 1 450 2 kr kr ?_
 obtain ⟨o11,eo11,Ho11⟩ := bind_some H
 clear H
 refine Tr.mid (ι := Unit) (fun v => ⟨71,0,[sA 1 1 11 0],[(1,(CV.frzRow (Bridge.row x0)))]⟩) (fun v => impl_BridgeOk_J1 n x0 = some r) ?_ ?_
 ·refine tB ?_
  refine Tr.loop (ι := Nat × (Int)) (fun v => ⟨71,0,[sI 8 v.2,sI 7 (x0.Ports.length : Int),sC 6 (cF 8 x0.Ports Pt.row),sA 1 1 11 0],[(1,(CV.frzRow (Bridge.row x0)))]⟩) (fun v => impl_BridgeOk_L2 n v.1 x0 v.2 = some o11) (fun v => v.1) (n,0) eo11 (St.sub_of [8,7,6,1] [1] kr) ?_
  rintro ⟨mo11,y1⟩ H
  have H : impl_BridgeOk_L2 n mo11 x0 y1 = some o11 := H
  obtain _ | mo11 := mo11
  ·cases (show (none : Option _) = some o11 from H)
  rw [impl_BridgeOk_L2] at H
  refine tG tOk 1 962 2 kr kr ?_
  refine tS ?_
  obtain ⟨h10,H⟩ | ⟨h10,H⟩ := bC H
  ·refine tF h10 kr ?_
   refine Tr.exit ?_
   refine And.intro (fun _ => ?_) (fun h => absurd rfl h)
   obtain rfl := si H
   have H := Ho11
   dsimp only at H
   exact jn () H (sB_ [1] [1] kr)
  refine tT h10 kr ?_
  refine tK ?_
  refine tS ?_
  refine tB ?_
  refine tR ?_
  obtain ⟨v12,ev12,H⟩ := bind_some H
  refine lI tOk 52 0 6 8 10 none ⟨(.slot 6),[],0,false,8,(CV.frzEs (x0.Ports.map Pt.row))⟩ y1 (Pt.row v12) _ kr kr kr kr rfl (idx_isF ev12) rfl ?_
  refine uD tOk 3 466 18 kr kr ?_
  refine rU tOk 1 kr ?_
  obtain ⟨r13,er13,H⟩ := bind_some H
  refine lV tOk [.rd] [] (impl_PtOk n v12 r13 er13) kr kr kr kr (.inl rfl) ?_
  refine uD tOk 1 16834 2 kr kr ?_
  obtain ⟨h11,H⟩ | ⟨h11,H⟩ := bC H
  ·refine tF h11 kr ?_
   refine tK ?_
   refine tE tOk 2 450 2 kr kr ?_
   exact jn (mo11,(IntKind.wrap .i64 (y1 + 1))) H (sM mo11 [8,7,6,1] [1] kr)
  refine tT h11 kr ?_
  refine tG tOk 1 4 0 kr kr ?_
  refine te ?_
  obtain rfl := si H
  have H := Ho11
  dsimp only at H
  obtain rfl := si H
  exact fO [(false,[cB false])] kr rfl rfl
 rintro _ H
 have H : (impl_BridgeOk_J1 n x0) = some r := H
 unfold impl_BridgeOk_J1 at H
 refine tS ?_
 refine rU tOk 2 kr ?_
 obtain ⟨r2,er2,H⟩ := bind_some H
 refine lV tOk [.rd,.rd,.rd] [] (impl_in n x0.Id 1 99 r2 er2) kr kr kr kr (.inl rfl) ?_
 refine lU tOk 2 kr ?_
 refine lT ⟨71,0,[sB 20 (!r2),sB 19 (!r2),sB 18 r2,sI 17 x0.Id,sA 16 1 11 0,sA 1 1 11 0],[(1,(CV.frzRow (Bridge.row x0)))]⟩ kr ?_
 cases h1 : (!r2)
 ·have H := bifF h1 H
  refine lU tOk 6 kr ?_
  refine lT ⟨71,0,[sB 26 (decide ((x0.Name.size : Int) > 10)),sB 25 (decide ((x0.Name.size : Int) > 10)),sB 24 (decide ((x0.Name.size : Int) > 10)),sI 23 (x0.Name.size : Int),sC 22 (cS x0.Name),sA 21 1 11 1,sB 20 false,sB 19 false,sB 18 r2,sI 17 x0.Id,sA 16 1 11 0,sA 1 1 11 0],[(1,(CV.frzRow (Bridge.row x0)))]⟩ kr ?_
  cases h2 : (decide ((x0.Name.size : Int) > 10))
  ·have H := bifF h2 H
   refine lU tOk 2 kr ?_
   refine lL tOk 52 3 182 28 29 (some (10,false)) ⟨(.slot 28),[],0,false,8,(CV.frzEs (x0.Ports.map Pt.row))⟩ (x0.Ports).length _ kr kr kr kr kr (frz_len _ _) rfl ?_
   obtain ⟨r3,er3,H⟩ := bind_some H
   refine lV tOk [.rd,.rd,.rd] [] (impl_in n (x0.Ports.length : Int) 1 6 r3 er3) kr kr kr kr (.inl rfl) ?_
   refine lU tOk 3 kr ?_
   refine lT ⟨71,0,[sB 33 (!r3),sB 32 (!r3),sB 31 (!r3),sB 30 r3,sI 29 (x0.Ports.length : Int),sC 28 (cF 8 x0.Ports Pt.row),sA 27 1 11 2,sB 26 false,sB 25 false,sB 24 false,sI 23 (x0.Name.size : Int),sC 22 (cS x0.Name),sA 21 1 11 1,sB 20 false,sB 19 false,sB 18 r2,sI 17 x0.Id,sA 16 1 11 0,sA 1 1 11 0],[(1,(CV.frzRow (Bridge.row x0)))]⟩ kr ?_
   cases h3 : (!r3)
   ·have H := bifF h3 H
    refine lU tOk 2 kr ?_
    obtain ⟨r4,er4,H⟩ := bind_some H
    refine lV tOk [.rd] [] (impl_FdbOk n x0.F r4 er4) kr kr kr kr (.inl rfl) ?_
    refine lU tOk 3 kr ?_
    refine lT ⟨71,0,[sB 39 (!r4),sB 38 (!r4),sB 37 (!r4),sB 36 r4,sC 35 (cF 5 x0.F Fent.row),sA 34 1 11 3,sB 33 false,sB 32 false,sB 31 false,sB 30 r3,sI 29 (x0.Ports.length : Int),sC 28 (cF 8 x0.Ports Pt.row),sA 27 1 11 2,sB 26 false,sB 25 false,sB 24 false,sI 23 (x0.Name.size : Int),sC 22 (cS x0.Name),sA 21 1 11 1,sB 20 false,sB 19 false,sB 18 r2,sI 17 x0.Id,sA 16 1 11 0,sA 1 1 11 0],[(1,(CV.frzRow (Bridge.row x0)))]⟩ kr ?_
    cases h4 : (!r4)
    ·have H := bifF h4 H
     refine lU tOk 4 kr ?_
     refine lL tOk 52 3 182 43 44 (some (23,false)) ⟨(.slot 43),[],0,false,8,(CV.frzEs (x0.Ports.map Pt.row))⟩ (x0.Ports).length _ kr kr kr kr kr (frz_len _ _) rfl ?_
     obtain ⟨r5,er5,H⟩ := bind_some H
     refine lV tOk [.rd,.rd] [] (impl_VtabOk n x0.V (x0.Ports.length : Int) r5 er5) kr kr kr kr (.inl rfl) ?_
     refine uD tOk 2 0x800000000002 2 kr kr ?_
     obtain ⟨h5,H⟩ | ⟨h5,H⟩ := bC H
     ·refine tF h5 kr ?_
      refine tK ?_
      refine rU tOk 2 kr ?_
      obtain ⟨r6,er6,H⟩ := bind_some H
      refine lV tOk [.rd] [] (impl_isCount n x0.Ticks r6 er6) kr kr kr kr (.inl rfl) ?_
      refine lU tOk 1 kr ?_
      refine lT ⟨71,0,[sB 51 r6,sB 50 r6,sI 49 x0.Ticks,sA 48 1 11 6,sB 47 (!r5),sA 1 1 11 0],[(1,(CV.frzRow (Bridge.row x0)))]⟩ kr ?_
      cases h6 : r6
      ·have H := bifF h6 H
       refine uD tOk 20 4 0 kr kr ?_
       exact te (by obtain rfl := si H; exact fO [(false,[cB false])] kr rfl rfl)
      have H := bifT h6 H
      refine lU tOk 2 kr ?_
      obtain ⟨r7,er7,H⟩ := bind_some H
      refine lV tOk [.rd] [] (impl_isCount n x0.Parse r7 er7) kr kr kr kr (.inl rfl) ?_
      refine lU tOk 2 kr ?_
      refine lT ⟨71,0,[sB 56 r7,sB 55 r7,sB 54 r7,sI 53 x0.Parse,sA 52 1 11 7,sB 51 true,sB 50 true,sI 49 x0.Ticks,sA 48 1 11 6,sB 47 (!r5),sA 1 1 11 0],[(1,(CV.frzRow (Bridge.row x0)))]⟩ kr ?_
      cases h7 : r7
      ·have H := bifF h7 H
       refine uD tOk 15 4 0 kr kr ?_
       exact te (by obtain rfl := si H; exact fO [(false,[cB false])] kr rfl rfl)
      have H := bifT h7 H
      refine lU tOk 2 kr ?_
      obtain ⟨r8,er8,H⟩ := bind_some H
      refine lV tOk [.rd] [] (impl_isCount n x0.Word r8 er8) kr kr kr kr (.inl rfl) ?_
      refine lU tOk 2 kr ?_
      refine lT ⟨71,0,[sB 61 r8,sB 60 r8,sB 59 r8,sI 58 x0.Word,sA 57 1 11 8,sB 56 true,sB 55 true,sB 54 true,sI 53 x0.Parse,sA 52 1 11 7,sB 51 true,sB 50 true,sI 49 x0.Ticks,sA 48 1 11 6,sB 47 (!r5),sA 1 1 11 0],[(1,(CV.frzRow (Bridge.row x0)))]⟩ kr ?_
      cases h8 : r8
      ·have H := bifF h8 H
       refine uD tOk 10 4 0 kr kr ?_
       exact te (by obtain rfl := si H; exact fO [(false,[cB false])] kr rfl rfl)
      have H := bifT h8 H
      refine lU tOk 2 kr ?_
      obtain ⟨r9,er9,H⟩ := bind_some H
      refine lV tOk [.rd] [] (impl_isCount n x0.Drops r9 er9) kr kr kr kr (.inl rfl) ?_
      refine lU tOk 2 kr ?_
      refine lT ⟨71,0,[sB 66 r9,sB 65 r9,sB 64 r9,sI 63 x0.Drops,sA 62 1 11 9,sB 61 true,sB 60 true,sB 59 true,sI 58 x0.Word,sA 57 1 11 8,sB 56 true,sB 55 true,sB 54 true,sI 53 x0.Parse,sA 52 1 11 7,sB 51 true,sB 50 true,sI 49 x0.Ticks,sA 48 1 11 6,sB 47 (!r5),sA 1 1 11 0],[(1,(CV.frzRow (Bridge.row x0)))]⟩ kr ?_
      cases h9 : r9
      ·have H := bifF h9 H
       refine uD tOk 5 4 0 kr kr ?_
       exact te (by obtain rfl := si H; exact fO [(false,[cB false])] kr rfl rfl)
      have H := bifT h9 H
      refine lU tOk 2 kr ?_
      obtain ⟨r10,er10,H⟩ := bind_some H
      refine lV tOk [.rd] [] (impl_isCount n x0.Vers r10 er10) kr kr kr kr (.inl rfl) ?_
      refine uD tOk 2 4 0 kr kr ?_
      exact te (by obtain rfl := si H; exact fO [(false,[cB r10])] kr rfl rfl)
     refine tT h5 kr ?_
     refine tG tOk 1 4 0 kr kr ?_
     exact te (by obtain rfl := si H; exact fO [(false,[cB false])] kr rfl rfl)
    have H := bifT h4 H
    refine uD tOk 8 0x800000000002 2 kr kr ?_
    refine tt kr ?_
    refine tG tOk 1 4 0 kr kr ?_
    exact te (by obtain rfl := si H; exact fO [(false,[cB false])] kr rfl rfl)
   have H := bifT h3 H
   refine uD tOk 14 0x800000000002 2 kr kr ?_
   refine tt kr ?_
   refine tG tOk 1 4 0 kr kr ?_
   exact te (by obtain rfl := si H; exact fO [(false,[cB false])] kr rfl rfl)
  have H := bifT h2 H
  refine uD tOk 21 0x800000000002 2 kr kr ?_
  refine tt kr ?_
  refine tG tOk 1 4 0 kr kr ?_
  exact te (by obtain rfl := si H; exact fO [(false,[cB false])] kr rfl rfl)
 have H := bifT h1 H
 refine uD tOk 27 0x800000000002 2 kr kr ?_
 refine tt kr ?_
 refine tG tOk 1 4 0 kr kr ?_
 exact te (by obtain rfl := si H; exact fO [(false,[cB false])] kr rfl rfl)
def impl_isPortF (n : Nat) (x0 : Bridge) (x1 : Int) : Option (Bool) :=
  ((impl_BridgeOkF n x0).bind fun r1 => (bif r1 then ((impl_inF n x1 0 (IntKind.wrap .i64 ((x0.Ports.length : Int) - 1))).bind fun r2 => (some r2)) else (some false)))
noncomputable abbrev G111 (k : Nat) := Rg Tryz.f111 k
theorem impl_isPort (n : Nat) (x0 : Bridge) (x1 : Int) (r : Bool) (H : impl_isPortF n x0 x1 = some r) : LCall Tryz.prog 111 [.val true (CV.frzRow (Bridge.row x0)),.val false [.lit (.int .i64 x1)]] [.val false [.lit (.bool r)]] [] := by
 refine LCall.of_body tOk Tryz.func111 rfl (c := (.seq (G111 0) (.seq (G111 1) .ret))) kr (Nat.le_of_ble_eq_true kr) 0 (rs := [.tmp 4]) rfl [] .nil [(false,[.lit (.bool r)])] [] [] fun cx => ?_
 show Tr _ _ _ ⟨15,0,[sV 0 (CV.frzRow (Bridge.row x0)),sI 1 x1],[]⟩ _
 unfold impl_isPortF at H
 refine tG tOk 2 6 4 kr kr ?_
 refine rU tOk 1 kr ?_
 obtain ⟨r1,er1,H⟩ := bind_some H
 refine lV tOk [.rd] [] (impl_BridgeOk n x0 r1 er1) kr kr kr kr (.inl rfl) ?_
 refine lU tOk 1 kr ?_
 refine lT ⟨15,0,[sB 7 r1,sB 6 r1,sV 5 (CV.frzRow (Bridge.row x0)),sA 2 2 11 0,sI 1 x1],[(2,(CV.frzRow (Bridge.row x0)))]⟩ kr ?_
 cases h1 : r1
 ·have H := bifF h1 H
  refine uD tOk 8 16 0 kr kr ?_
  exact te (by obtain rfl := si H; exact fO [(false,[cB false])] kr rfl rfl)
 have H := bifT h1 H
 refine lU tOk 3 kr ?_
 refine lL tOk 52 3 182 10 11 (some (2,true)) ⟨(.slot 10),[],0,false,8,(CV.frzEs (x0.Ports.map Pt.row))⟩ (x0.Ports).length _ kr kr kr kr kr (frz_len _ _) rfl ?_
 refine lU tOk 1 kr ?_
 obtain ⟨r2,er2,H⟩ := bind_some H
 refine lV tOk [.rd,.rd,.rd] [] (impl_in n x1 0 (IntKind.wrap .i64 ((x0.Ports.length : Int) - 1)) r2 er2) kr kr kr kr (.inl rfl) ?_
 refine uD tOk 2 16 0 kr kr ?_
 exact te (by obtain rfl := si H; exact fO [(false,[cB r2])] kr rfl rfl)
def impl_moreF (n : Nat) (x0 : Int) : Option (Int) :=
  (some (if 1000000 < (IntKind.wrap .i64 (x0 + 1)) then 1000000 else (IntKind.wrap .i64 (x0 + 1))))
noncomputable abbrev G114 (k : Nat) := Rg Tryz.f114 k
theorem impl_more (n : Nat) (x0 : Int) (r : Int) (H : impl_moreF n x0 = some r) : LCall Tryz.prog 114 [.val false [.lit (.int .i64 x0)]] [.val false [.lit (.int .i64 r)]] [] := by
 refine LCall.of_body tOk Tryz.func114 rfl (c := (.seq (G114 0) (.seq (G114 1) .ret))) kr (Nat.le_of_ble_eq_true kr) 0 (rs := [.tmp 2]) rfl [] .nil [(false,[.lit (.int .i64 r)])] [] [] fun cx => ?_
 show Tr _ _ _ ⟨6,0,[sI 0 x0],[]⟩ _
 unfold impl_moreF at H
 refine tG tOk 1 1 0 kr kr ?_
 refine tG tOk 4 4 0 kr kr ?_
 exact te (by obtain rfl := si H; exact fO [(false,[cI (if 1000000 < (IntKind.wrap .i64 (x0 + 1)) then 1000000 else (IntKind.wrap .i64 (x0 + 1)))])] kr rfl rfl)
def impl_StepVecF (n : Nat) (x0 : Vec) (x1 : Int) : Option (Vec × Bool) :=
  ((impl_VecOkF n x0).bind fun r1 => (bif (!r1) then (some (x0,false)) else ((impl_inF n x1 1 1000).bind fun r2 => (bif (!r2) then (some (x0,false)) else ((impl_VecOkF n (⟨x0.Root,(IntKind.wrap .i64 (x0.Cost + x1)),(IntKind.wrap .i64 (x0.Hops + 1)),x0.Bridge,x0.Port⟩ : Vec)).bind fun r3 => (bif (!r3) then (some (x0,false)) else (some ((⟨x0.Root,(IntKind.wrap .i64 (x0.Cost + x1)),(IntKind.wrap .i64 (x0.Hops + 1)),x0.Bridge,x0.Port⟩ : Vec),true))))))))
noncomputable abbrev G256 (k : Nat) := Rg Tryz.f256 k
theorem impl_StepVec (n : Nat) (x0 : Vec) (x1 : Int) (r : Vec × Bool) (H : impl_StepVecF n x0 x1 = some r) : LCall Tryz.prog 256 [.val true (CV.frzRow (Vec.row x0)),.val false [.lit (.int .i64 x1)]] [.val true (Vec.row r.1),.val false [.lit (.bool r.2)]] [] := by
 refine LCall.of_body tOk Tryz.func256 rfl (c := (.seq (G256 0) (.seq (.seq (G256 1) (.cond (.tmp 14) (.seq (G256 2) .ret) .skip)) (.seq (G256 3) (.seq (G256 4) (.seq (G256 5) (.seq (.seq (G256 6) (.cond (.tmp 28) (.seq (G256 7) .ret) .skip)) (.seq (G256 8) .ret)))))))) kr (Nat.le_of_ble_eq_true kr) 0 (rs := [.cell 4 162,.tmp 5]) rfl [] .nil [(true,(Vec.row r.1)),(false,[.lit (.bool r.2)])] [] [] fun cx => ?_
 show Tr _ _ _ ⟨31,0,[sV 0 (Vec.row x0),sI 1 x1],[]⟩ _
 unfold impl_StepVecF at H
 refine tG tOk 3 22 20 kr kr ?_
 refine tS ?_
 refine rU tOk 1 kr ?_
 obtain ⟨r1,er1,H⟩ := bind_some H
 refine lV tOk [.rd] [] (impl_VecOk n x0 r1 er1) kr kr kr kr (.inl rfl) ?_
 refine lU tOk 2 kr ?_
 refine lT ⟨31,0,[sB 10 (!r1),sB 9 (!r1),sB 8 r1,sV 7 (Vec.row x0),sA 4 4 5 0,sA 2 2 5 0,sI 1 x1],[(4,[cI 0,cI 0,cI 0,cI 0,cI 0]),(2,(Vec.row x0))]⟩ kr ?_
 cases h1 : (!r1)
 ·have H := bifF h1 H
  refine lU tOk 1 kr ?_
  obtain ⟨r2,er2,H⟩ := bind_some H
  refine lV tOk [.rd,.rd,.rd] [] (impl_in n x1 1 1000 r2 er2) kr kr kr kr (.inl rfl) ?_
  refine uD tOk 2 16406 20 kr kr ?_
  obtain ⟨h2,H⟩ | ⟨h2,H⟩ := bC H
  ·refine tF h2 kr ?_
   refine tK ?_
   refine tG tOk 3 86 84 kr kr ?_
   refine tG tOk 6 84 84 kr kr ?_
   refine tG tOk 5 84 84 kr kr ?_
   refine tS ?_
   refine rU tOk 1 kr ?_
   obtain ⟨r3,er3,H⟩ := bind_some H
   refine lV tOk [.rd] [] (impl_VecOk n (⟨x0.Root,(IntKind.wrap .i64 (x0.Cost + x1)),(IntKind.wrap .i64 (x0.Hops + 1)),x0.Bridge,x0.Port⟩ : Vec) r3 er3) kr kr kr kr (.inl rfl) ?_
   refine uD tOk 1 268435540 84 kr kr ?_
   obtain ⟨h3,H⟩ | ⟨h3,H⟩ := bC H
   ·refine tF h3 kr ?_
    refine tK ?_
    refine tG tOk 3 48 16 kr kr ?_
    exact te (by obtain rfl := si H; exact fO [(true,[cI x0.Root,cI (IntKind.wrap .i64 (x0.Cost + x1)),cI (IntKind.wrap .i64 (x0.Hops + 1)),cI x0.Bridge,cI x0.Port]),(false,[cB true])] kr rfl rfl)
   refine tT h3 kr ?_
   refine tG tOk 3 48 16 kr kr ?_
   exact te (by obtain rfl := si H; exact fO [(true,(Vec.row x0)),(false,[cB false])] kr rfl rfl)
  refine tT h2 kr ?_
  refine tG tOk 3 48 16 kr kr ?_
  exact te (by obtain rfl := si H; exact fO [(true,(Vec.row x0)),(false,[cB false])] kr rfl rfl)
 have H := bifT h1 H
 refine uD tOk 4 16406 20 kr kr ?_
 refine tt kr ?_
 refine tG tOk 3 48 16 kr kr ?_
 exact te (by obtain rfl := si H; exact fO [(true,(Vec.row x0)),(false,[cB false])] kr rfl rfl)
def impl_LessVecF (n : Nat) (x0 : Vec) (x1 : Vec) : Option (Bool) :=
  (bif (x0.Root != x1.Root) then (some (decide (x0.Root < x1.Root))) else (bif (x0.Cost != x1.Cost) then (some (decide (x0.Cost < x1.Cost))) else (bif (x0.Bridge != x1.Bridge) then (some (decide (x0.Bridge < x1.Bridge))) else (some (decide (x0.Port < x1.Port))))))
noncomputable abbrev G231 (k : Nat) := Rg Tryz.f231 k
theorem impl_LessVec (n : Nat) (x0 : Vec) (x1 : Vec) (r : Bool) (H : impl_LessVecF n x0 x1 = some r) : LCall Tryz.prog 231 [.val true (CV.frzRow (Vec.row x0)),.val true (CV.frzRow (Vec.row x1))] [.val false [.lit (.bool r)]] [] := by
 refine LCall.of_body tOk Tryz.func231 rfl (c := (.seq (G231 0) (.seq (.block 0 (.seq (G231 1) (.cond (.tmp 5) (.seq (G231 2) .ret) (.seq (G231 3) (.cond (.tmp 16) (.seq (G231 4) .ret) (.seq (G231 5) (.cond (.tmp 27) (.seq (G231 6) .ret) .skip))))))) (.seq (G231 7) .ret)))) kr (Nat.le_of_ble_eq_true kr) 0 (rs := [.tmp 4]) rfl [] .nil [(false,[.lit (.bool r)])] [] [] fun cx => ?_
 show Tr _ _ _ ⟨43,0,[sV 0 (Vec.row x0),sV 1 (Vec.row x1)],[]⟩ _
 unfold impl_LessVecF at H
 refine tG tOk 3 12 12 kr kr ?_
 refine tS ?_
 refine tB ?_
 refine tG tOk 6 44 12 kr kr ?_
 obtain ⟨h1,H⟩ | ⟨h1,H⟩ := bC H
 ·refine tF h1 kr ?_
  refine tG tOk 6 65548 12 kr kr ?_
  obtain ⟨h2,H⟩ | ⟨h2,H⟩ := bC H
  ·refine tF h2 kr ?_
   refine tG tOk 6 134217740 12 kr kr ?_
   obtain ⟨h3,H⟩ | ⟨h3,H⟩ := bC H
   ·refine tF h3 kr ?_
    refine tK ?_
    refine tG tOk 6 16 0 kr kr ?_
    exact te (by obtain rfl := si H; exact fO [(false,[cB (decide (x0.Port < x1.Port))])] kr rfl rfl)
   refine tT h3 kr ?_
   refine tG tOk 6 16 0 kr kr ?_
   exact te (by obtain rfl := si H; exact fO [(false,[cB (decide (x0.Bridge < x1.Bridge))])] kr rfl rfl)
  refine tT h2 kr ?_
  refine tG tOk 6 16 0 kr kr ?_
  exact te (by obtain rfl := si H; exact fO [(false,[cB (decide (x0.Cost < x1.Cost))])] kr rfl rfl)
 refine tT h1 kr ?_
 refine tG tOk 6 16 0 kr kr ?_
 exact te (by obtain rfl := si H; exact fO [(false,[cB (decide (x0.Root < x1.Root))])] kr rfl rfl)
def impl_BestVec_J1 (n : Nat) (x0 : Int) (y11 : Int) (y12 : Int) (y13 : Int) (y14 : Int) : Option (Vec × Int) :=
  (some ((⟨y12,y13,y14,x0,0⟩ : Vec),y11))
def impl_BestVec_J3 (n : Nat) (k : (Int × Int × Int × Int × Int × Int × Int × Int × Int × Int → Option ((Int × Int × Int × Int) ⊕ (Vec × Int)))) (r17 : Vec × Bool) (y1 : Int) (y10 : Int) (y2 : Int) (y3 : Int) (y4 : Int) (y5 : Int) (y6 : Int) (y7 : Int) (y8 : Int) (y9 : Int) (y18 : Bool) (y19 : Bool) (y20 : Bool) (y21 : Bool) (y22 : Bool) (y23 : Bool) (y24 : Bool) : Option ((Int × Int × Int × Int) ⊕ (Vec × Int)) :=
  (bif y18 then (k ((IntKind.wrap .i64 (y1 + 1)),y1,r17.1.Root,r17.1.Cost,r17.1.Hops,r17.1.Bridge,r17.1.Port,r17.1.Root,r17.1.Cost,r17.1.Hops)) else (k ((IntKind.wrap .i64 (y1 + 1)),y2,y3,y4,y5,y6,y7,y8,y9,y10)))
def impl_BestVec_L2 (n : Nat) : Nat → Int → (List Pt) → Int → Int → Int → Int → Int → Int → Int → Int → Int → Int → Option ((Int × Int × Int × Int) ⊕ (Vec × Int))
  | 0,_,_,_,_,_,_,_,_,_,_,_,_ => none
  | mo15 + 1,x0,x1,y1,y2,y3,y4,y5,y6,y7,y8,y9,y10 => (bif (decide (y1 < (x1.length : Int))) then ((idx x1 y1).bind fun v16 => (bif (!v16.Up) then (impl_BestVec_L2 n mo15 x0 x1 (IntKind.wrap .i64 (y1 + 1)) y2 y3 y4 y5 y6 y7 y8 y9 y10) else (bif (!v16.Has) then (impl_BestVec_L2 n mo15 x0 x1 (IntKind.wrap .i64 (y1 + 1)) y2 y3 y4 y5 y6 y7 y8 y9 y10) else ((impl_StepVecF n v16.Heard v16.Cost).bind fun r17 => (bif r17.2 then (bif (decide (r17.1.Root < x0)) then (bif (decide (y2 < 0)) then (impl_BestVec_J3 n (fun v => impl_BestVec_L2 n mo15 x0 x1 v.1 v.2.1 v.2.2.1 v.2.2.2.1 v.2.2.2.2.1 v.2.2.2.2.2.1 v.2.2.2.2.2.2.1 v.2.2.2.2.2.2.2.1 v.2.2.2.2.2.2.2.2.1 v.2.2.2.2.2.2.2.2.2) r17 y1 y10 y2 y3 y4 y5 y6 y7 y8 y9 true true true true true true true) else ((impl_LessVecF n r17.1 (⟨y3,y4,y5,y6,y7⟩ : Vec)).bind fun r25 => (impl_BestVec_J3 n (fun v => impl_BestVec_L2 n mo15 x0 x1 v.1 v.2.1 v.2.2.1 v.2.2.2.1 v.2.2.2.2.1 v.2.2.2.2.2.1 v.2.2.2.2.2.2.1 v.2.2.2.2.2.2.2.1 v.2.2.2.2.2.2.2.2.1 v.2.2.2.2.2.2.2.2.2) r17 y1 y10 y2 y3 y4 y5 y6 y7 y8 y9 r25 true true true true true true))) else (impl_BestVec_J3 n (fun v => impl_BestVec_L2 n mo15 x0 x1 v.1 v.2.1 v.2.2.1 v.2.2.2.1 v.2.2.2.2.1 v.2.2.2.2.2.1 v.2.2.2.2.2.2.1 v.2.2.2.2.2.2.2.1 v.2.2.2.2.2.2.2.2.1 v.2.2.2.2.2.2.2.2.2) r17 y1 y10 y2 y3 y4 y5 y6 y7 y8 y9 false false false true true true true)) else (impl_BestVec_J3 n (fun v => impl_BestVec_L2 n mo15 x0 x1 v.1 v.2.1 v.2.2.1 v.2.2.2.1 v.2.2.2.2.1 v.2.2.2.2.2.1 v.2.2.2.2.2.2.1 v.2.2.2.2.2.2.2.1 v.2.2.2.2.2.2.2.2.1 v.2.2.2.2.2.2.2.2.2) r17 y1 y10 y2 y3 y4 y5 y6 y7 y8 y9 false false false false false false false)))))) else (some (Sum.inl (y2,y8,y9,y10))))
def impl_BestVecF (n : Nat) (x0 : Int) (x1 : (List Pt)) : Option (Vec × Int) :=
  ((impl_BestVec_L2 n n x0 x1 0 (-1) 0 0 0 0 0 x0 0 0).bind fun o => match o with | .inl (y11,y12,y13,y14) => (impl_BestVec_J1 n x0 y11 y12 y13 y14) | .inr r => some r)
noncomputable abbrev G230 (k : Nat) := Rg Tryz.f230 k
theorem impl_BestVec (n : Nat) (x0 : Int) (x1 : (List Pt)) (r : Vec × Int) (H : impl_BestVecF n x0 x1 = some r) : LCall Tryz.prog 230 [.val false [.lit (.int .i64 x0)],.val false [.sl false 8 (CV.frzEs (x1.map Pt.row))]] [.val true (Vec.row r.1),.val false [.lit (.int .i64 r.2)]] [] := by
 refine LCall.of_body tOk Tryz.func230 rfl (c := (.seq (G230 0) (.seq (G230 1) (.seq (G230 2) (.seq (.seq (G230 3) (.block 0 (.loop (.seq (G230 4) (.seq (.cond (.tmp 19) .skip (.exit 0)) (.seq (.block 1 (.seq (G230 5) (.seq (.seq (G230 6) (.cond (.tmp 30) (.exit 1) .skip)) (.seq (G230 7) (.seq (G230 8) (.cond (.tmp 54) (.seq (G230 9) (G230 10)) .skip)))))) (G230 11))))))) (.seq (G230 12) .ret)))))) kr (Nat.le_of_ble_eq_true kr) 0 (rs := [.cell 4 162,.tmp 5]) rfl [] .nil [(true,(Vec.row r.1)),(false,[.lit (.int .i64 r.2)])] [] [] fun cx => ?_
 show Tr _ _ _ ⟨68,0,[sI 0 x0,sC 1 (cF 8 x1 Pt.row)],[]⟩ _
 unfold impl_BestVecF at H
 refine tG tOk 2 51 16 kr kr ?_
 refine tG tOk 6 243 80 kr kr ?_
 refine tG tOk 1 499 336 kr kr ?_
 refine tS ?_
 refine rU tOk 1 kr ?_
 refine lL tOk 52 3 182 16 17 none ⟨(.slot 16),[],0,false,8,(CV.frzEs (x1.map Pt.row))⟩ (x1).length _ kr kr kr kr kr (frz_len _ _) rfl ?_
 refine uD tOk 1 459249 336 kr kr ?_
 obtain ⟨o15,eo15,Ho15⟩ := bind_some H
 clear H
 refine Tr.mid (ι := Int × Int × Int × Int) (fun v => ⟨68,0,[sI 7 v.1,sA 6 6 5 0,sI 5 0,sA 4 4 5 0],[(6,[cI v.2.1,cI v.2.2.1,cI v.2.2.2,cI x0,cI 0]),(4,[cI 0,cI 0,cI 0,cI 0,cI 0])]⟩) (fun v => impl_BestVec_J1 n x0 v.1 v.2.1 v.2.2.1 v.2.2.2 = some r) ?_ ?_
 ·refine tB ?_
  refine Tr.loop (ι := Nat × (Int × Int × Int × Int × Int × Int × Int × Int × Int × Int)) (fun v => ⟨68,0,[sI 18 v.2.1,sI 17 (x1.length : Int),sC 16 (cF 8 x1 Pt.row),sA 8 8 5 0,sI 7 v.2.2.1,sA 6 6 5 0,sI 5 0,sA 4 4 5 0,sI 0 x0],[(8,[cI v.2.2.2.1,cI v.2.2.2.2.1,cI v.2.2.2.2.2.1,cI v.2.2.2.2.2.2.1,cI v.2.2.2.2.2.2.2.1]),(6,[cI v.2.2.2.2.2.2.2.2.1,cI v.2.2.2.2.2.2.2.2.2.1,cI v.2.2.2.2.2.2.2.2.2.2,cI x0,cI 0]),(4,[cI 0,cI 0,cI 0,cI 0,cI 0])]⟩) (fun v => impl_BestVec_L2 n v.1 x0 x1 v.2.1 v.2.2.1 v.2.2.2.1 v.2.2.2.2.1 v.2.2.2.2.2.1 v.2.2.2.2.2.2.1 v.2.2.2.2.2.2.2.1 v.2.2.2.2.2.2.2.2.1 v.2.2.2.2.2.2.2.2.2.1 v.2.2.2.2.2.2.2.2.2.2 = some o15) (fun v => v.1) (n,(0,(-1),0,0,0,0,0,x0,0,0)) eo15 (St.sub_of [18,17,16,8,7,6,5,4,0] [8,6,4] kr) ?_
  rintro ⟨mo15,y1,y2,y3,y4,y5,y6,y7,y8,y9,y10⟩ H
  have H : impl_BestVec_L2 n mo15 x0 x1 y1 y2 y3 y4 y5 y6 y7 y8 y9 y10 = some o15 := H
  obtain _ | mo15 := mo15
  ·cases (show (none : Option _) = some o15 from H)
  rw [impl_BestVec_L2] at H
  refine tG tOk 1 983537 336 kr kr ?_
  refine tS ?_
  obtain ⟨h1,H⟩ | ⟨h1,H⟩ := bC H
  ·refine tF h1 kr ?_
   refine Tr.exit ?_
   refine And.intro (fun _ => ?_) (fun h => absurd rfl h)
   obtain rfl := si H
   have H := Ho15
   dsimp only at H
   exact jn (y2,y8,y9,y10) H (sB_ [7,6,5,4] [6,4] kr)
  refine tT h1 kr ?_
  refine tK ?_
  refine tS ?_
  refine tB ?_
  refine rU tOk 1 kr ?_
  obtain ⟨v16,ev16,H⟩ := bind_some H
  refine lI tOk 52 0 16 18 21 none ⟨(.slot 16),[],0,false,8,(CV.frzEs (x1.map Pt.row))⟩ y1 (Pt.row v16) _ kr kr kr kr rfl (idx_isF ev16) rfl ?_
  refine uD tOk 4 8325105 1360 kr kr ?_
  refine tS ?_
  refine rU tOk 4 kr ?_
  refine lT ⟨68,0,[sB 26 (!v16.Up),sB 25 (!v16.Up),sB 24 v16.Up,sA 23 10 8 0,sI 9 y1,sA 10 10 8 0,sV 22 (Pt.row v16),(21,.fad ((Pt.row v16))),sI 20 y1,sB 19 (decide (y1 < (x1.length : Int))),sI 18 y1,sI 17 (x1.length : Int),sC 16 (cF 8 x1 Pt.row),sA 8 8 5 0,sI 7 y2,sA 6 6 5 0,sI 5 0,sA 4 4 5 0,sI 0 x0],[(10,(Pt.row v16)),(8,[cI y3,cI y4,cI y5,cI y6,cI y7]),(6,[cI y8,cI y9,cI y10,cI x0,cI 0]),(4,[cI 0,cI 0,cI 0,cI 0,cI 0])]⟩ kr ?_
  cases h2 : (!v16.Up)
  ·have H := bifF h2 H
   refine uD tOk 4 2147420145 1360 kr kr ?_
   obtain ⟨h3,H⟩ | ⟨h3,H⟩ := bC H
   ·refine tF h3 kr ?_
    refine tK ?_
    refine rU tOk 4 kr ?_
    obtain ⟨r17,er17,H⟩ := bind_some H
    refine lV tOk [.rd,.rd] [] (impl_StepVec n v16.Heard v16.Cost r17 er17) kr kr kr kr (.inl rfl) ?_
    refine LAt.movT tOk (ty := 259) (t := 36) (d := 31) (g := none) [(true,(Vec.row r17.1)),(false,[cB r17.2])] _ kr (.inl rfl) kr kr kr kr rfl ?_
    refine uD tOk 5 481036279793 3408 kr kr ?_
    refine tS ?_
    refine Tr.mid (ι := Bool × Bool × Bool × Bool × Bool × Bool × Bool) (fun v => ⟨68,0,[sB 54 v.1,sB 46 v.2.1,sB 45 v.2.2.1,sB 40 v.2.2.2.1,sB 39 v.2.2.2.2.1,sB 12 v.2.2.2.2.2.1,sA 11 11 5 0,sB 38 v.2.2.2.2.2.2,(31,.tup [(true,[.dead,.dead,.dead,.dead,.dead]),(false,[.dead])]),sV 37 (Vec.row r17.1),sI 35 v16.Cost,sA 34 10 8 1,sV 33 ((Pt.row v16).drop 3),sA 32 10 8 3,sB 30 false,sB 29 false,sB 28 v16.Has,sA 27 10 8 2,sB 26 false,sB 25 false,sB 24 v16.Up,sA 23 10 8 0,sI 9 y1,sA 10 10 8 0,sV 22 (Pt.row v16),(21,.fad ((Pt.row v16))),sI 20 y1,sB 19 true,sI 18 y1,sI 17 (x1.length : Int),sC 16 (cF 8 x1 Pt.row),sA 8 8 5 0,sI 7 y2,sA 6 6 5 0,sI 5 0,sA 4 4 5 0,sI 0 x0],[(11,(Vec.row r17.1)),(10,(Pt.row v16)),(8,[cI y3,cI y4,cI y5,cI y6,cI y7]),(6,[cI y8,cI y9,cI y10,cI x0,cI 0]),(4,[cI 0,cI 0,cI 0,cI 0,cI 0])]⟩) (fun v => impl_BestVec_J3 n (fun v => impl_BestVec_L2 n mo15 x0 x1 v.1 v.2.1 v.2.2.1 v.2.2.2.1 v.2.2.2.2.1 v.2.2.2.2.2.1 v.2.2.2.2.2.2.1 v.2.2.2.2.2.2.2.1 v.2.2.2.2.2.2.2.2.1 v.2.2.2.2.2.2.2.2.2) r17 y1 y10 y2 y3 y4 y5 y6 y7 y8 y9 v.1 v.2.1 v.2.2.1 v.2.2.2.1 v.2.2.2.2.1 v.2.2.2.2.2.1 v.2.2.2.2.2.2 = some o15) ?_ ?_
    ·refine Tr.at ?_
     refine lU tOk 2 kr ?_
     refine lT ⟨68,0,[sB 40 r17.2,sB 39 r17.2,sB 12 r17.2,sA 11 11 5 0,sB 38 r17.2,(31,.tup [(true,[.dead,.dead,.dead,.dead,.dead]),(false,[.dead])]),sV 37 (Vec.row r17.1),sI 35 v16.Cost,sA 34 10 8 1,sV 33 ((Pt.row v16).drop 3),sA 32 10 8 3,sB 30 (!v16.Has),sB 29 (!v16.Has),sB 28 v16.Has,sA 27 10 8 2,sB 26 false,sB 25 false,sB 24 v16.Up,sA 23 10 8 0,sI 9 y1,sA 10 10 8 0,sV 22 (Pt.row v16),(21,.fad ((Pt.row v16))),sI 20 y1,sB 19 (decide (y1 < (x1.length : Int))),sI 18 y1,sI 17 (x1.length : Int),sC 16 (cF 8 x1 Pt.row),sA 8 8 5 0,sI 7 y2,sA 6 6 5 0,sI 5 0,sA 4 4 5 0,sI 0 x0],[(11,(Vec.row r17.1)),(10,(Pt.row v16)),(8,[cI y3,cI y4,cI y5,cI y6,cI y7]),(6,[cI y8,cI y9,cI y10,cI x0,cI 0]),(4,[cI 0,cI 0,cI 0,cI 0,cI 0])]⟩ kr ?_
     cases h5 : r17.2
     ·have H := bifF h5 H
      refine uD tOk 14 0x7fffefffff1ff1 3408 kr kr ?_
      refine Sb.to ⟨68,0,[sB 54 false,(53,.tup []),(52,.tup []),(51,.tup []),(50,.tup []),(49,.tup []),(48,.tup []),(47,.tup []),sB 46 false,sB 45 false,(44,.tup []),(43,.tup []),(42,.tup []),(41,.tup []),sB 40 false,sB 39 false,sB 12 false,sA 11 11 5 0,sB 38 false,(31,.tup [(true,[.dead,.dead,.dead,.dead,.dead]),(false,[.dead])]),sV 37 (Vec.row r17.1),sI 35 v16.Cost,sA 34 10 8 1,sV 33 ((Pt.row v16).drop 3),sA 32 10 8 3,sB 30 (!v16.Has),sB 29 (!v16.Has),sB 28 v16.Has,sA 27 10 8 2,sB 26 false,sB 25 false,sB 24 v16.Up,sA 23 10 8 0,sI 9 y1,sA 10 10 8 0,sV 22 (Pt.row v16),(21,.fad ((Pt.row v16))),sI 20 y1,sB 19 (decide (y1 < (x1.length : Int))),sI 18 y1,sI 17 (x1.length : Int),sC 16 (cF 8 x1 Pt.row),sA 8 8 5 0,sI 7 y2,sA 6 6 5 0,sI 5 0,sA 4 4 5 0,sI 0 x0],[(11,(Vec.row r17.1)),(10,(Pt.row v16)),(8,[cI y3,cI y4,cI y5,cI y6,cI y7]),(6,[cI y8,cI y9,cI y10,cI x0,cI 0]),(4,[cI 0,cI 0,cI 0,cI 0,cI 0])]⟩ kr ?_
      rw [h1]
      rw [h3]
      exact jn (false,false,false,false,false,false,false) H (sB_ [54,46,45,40,39,12,11,38,31,37,35,34,33,32,30,29,28,27,26,25,24,23,9,10,22,21,20,19,18,17,16,8,7,6,5,4,0] [11,10,8,6,4] kr)
     have H := bifT h5 H
     refine lU tOk 6 kr ?_
     refine lT ⟨68,0,[sB 46 (decide (r17.1.Root < x0)),sB 45 (decide (r17.1.Root < x0)),sB 44 (decide (r17.1.Root < x0)),sI 43 x0,sI 42 r17.1.Root,sA 41 11 5 0,sB 40 true,sB 39 true,sB 12 true,sA 11 11 5 0,sB 38 true,(31,.tup [(true,[.dead,.dead,.dead,.dead,.dead]),(false,[.dead])]),sV 37 (Vec.row r17.1),sI 35 v16.Cost,sA 34 10 8 1,sV 33 ((Pt.row v16).drop 3),sA 32 10 8 3,sB 30 (!v16.Has),sB 29 (!v16.Has),sB 28 v16.Has,sA 27 10 8 2,sB 26 false,sB 25 false,sB 24 v16.Up,sA 23 10 8 0,sI 9 y1,sA 10 10 8 0,sV 22 (Pt.row v16),(21,.fad ((Pt.row v16))),sI 20 y1,sB 19 (decide (y1 < (x1.length : Int))),sI 18 y1,sI 17 (x1.length : Int),sC 16 (cF 8 x1 Pt.row),sA 8 8 5 0,sI 7 y2,sA 6 6 5 0,sI 5 0,sA 4 4 5 0,sI 0 x0],[(11,(Vec.row r17.1)),(10,(Pt.row v16)),(8,[cI y3,cI y4,cI y5,cI y6,cI y7]),(6,[cI y8,cI y9,cI y10,cI x0,cI 0]),(4,[cI 0,cI 0,cI 0,cI 0,cI 0])]⟩ kr ?_
     cases h6 : (decide (r17.1.Root < x0))
     ·have H := bifF h6 H
      refine uD tOk 8 0x7fffefffff1ff1 3408 kr kr ?_
      refine Sb.to ⟨68,0,[sB 54 false,(53,.tup []),(52,.tup []),(51,.tup []),(50,.tup []),(49,.tup []),(48,.tup []),(47,.tup []),sB 46 false,sB 45 false,sB 44 false,sI 43 x0,sI 42 r17.1.Root,sA 41 11 5 0,sB 40 true,sB 39 true,sB 12 true,sA 11 11 5 0,sB 38 true,(31,.tup [(true,[.dead,.dead,.dead,.dead,.dead]),(false,[.dead])]),sV 37 (Vec.row r17.1),sI 35 v16.Cost,sA 34 10 8 1,sV 33 ((Pt.row v16).drop 3),sA 32 10 8 3,sB 30 (!v16.Has),sB 29 (!v16.Has),sB 28 v16.Has,sA 27 10 8 2,sB 26 false,sB 25 false,sB 24 v16.Up,sA 23 10 8 0,sI 9 y1,sA 10 10 8 0,sV 22 (Pt.row v16),(21,.fad ((Pt.row v16))),sI 20 y1,sB 19 (decide (y1 < (x1.length : Int))),sI 18 y1,sI 17 (x1.length : Int),sC 16 (cF 8 x1 Pt.row),sA 8 8 5 0,sI 7 y2,sA 6 6 5 0,sI 5 0,sA 4 4 5 0,sI 0 x0],[(11,(Vec.row r17.1)),(10,(Pt.row v16)),(8,[cI y3,cI y4,cI y5,cI y6,cI y7]),(6,[cI y8,cI y9,cI y10,cI x0,cI 0]),(4,[cI 0,cI 0,cI 0,cI 0,cI 0])]⟩ kr ?_
      rw [h1]
      rw [h3]
      exact jn (false,false,false,true,true,true,true) H (sB_ [54,46,45,40,39,12,11,38,31,37,35,34,33,32,30,29,28,27,26,25,24,23,9,10,22,21,20,19,18,17,16,8,7,6,5,4,0] [11,10,8,6,4] kr)
     have H := bifT h6 H
     refine lU tOk 3 kr ?_
     refine lT ⟨68,0,[sB 49 (decide (y2 < 0)),sB 48 (decide (y2 < 0)),sI 47 y2,sB 46 true,sB 45 true,sB 44 true,sI 43 x0,sI 42 r17.1.Root,sA 41 11 5 0,sB 40 true,sB 39 true,sB 12 true,sA 11 11 5 0,sB 38 true,(31,.tup [(true,[.dead,.dead,.dead,.dead,.dead]),(false,[.dead])]),sV 37 (Vec.row r17.1),sI 35 v16.Cost,sA 34 10 8 1,sV 33 ((Pt.row v16).drop 3),sA 32 10 8 3,sB 30 (!v16.Has),sB 29 (!v16.Has),sB 28 v16.Has,sA 27 10 8 2,sB 26 false,sB 25 false,sB 24 v16.Up,sA 23 10 8 0,sI 9 y1,sA 10 10 8 0,sV 22 (Pt.row v16),(21,.fad ((Pt.row v16))),sI 20 y1,sB 19 (decide (y1 < (x1.length : Int))),sI 18 y1,sI 17 (x1.length : Int),sC 16 (cF 8 x1 Pt.row),sA 8 8 5 0,sI 7 y2,sA 6 6 5 0,sI 5 0,sA 4 4 5 0,sI 0 x0],[(11,(Vec.row r17.1)),(10,(Pt.row v16)),(8,[cI y3,cI y4,cI y5,cI y6,cI y7]),(6,[cI y8,cI y9,cI y10,cI x0,cI 0]),(4,[cI 0,cI 0,cI 0,cI 0,cI 0])]⟩ kr ?_
     cases h7 : (decide (y2 < 0))
     ·have H := bifF h7 H
      refine lU tOk 2 kr ?_
      obtain ⟨r25,er25,H⟩ := bind_some H
      refine lV tOk [.rd,.rd] [] (impl_LessVec n r17.1 (⟨y3,y4,y5,y6,y7⟩ : Vec) r25 er25) kr kr kr kr (.inl rfl) ?_
      refine uD tOk 2 0x7fffefffff1ff1 3408 kr kr ?_
      refine Sb.to ⟨68,0,[sB 54 r25,sB 53 r25,sB 52 r25,sV 51 [cI y3,cI y4,cI y5,cI y6,cI y7],sV 50 (Vec.row r17.1),sB 49 false,sB 48 false,sI 47 y2,sB 46 true,sB 45 true,sB 44 true,sI 43 x0,sI 42 r17.1.Root,sA 41 11 5 0,sB 40 true,sB 39 true,sB 12 true,sA 11 11 5 0,sB 38 true,(31,.tup [(true,[.dead,.dead,.dead,.dead,.dead]),(false,[.dead])]),sV 37 (Vec.row r17.1),sI 35 v16.Cost,sA 34 10 8 1,sV 33 ((Pt.row v16).drop 3),sA 32 10 8 3,sB 30 (!v16.Has),sB 29 (!v16.Has),sB 28 v16.Has,sA 27 10 8 2,sB 26 false,sB 25 false,sB 24 v16.Up,sA 23 10 8 0,sI 9 y1,sA 10 10 8 0,sV 22 (Pt.row v16),(21,.fad ((Pt.row v16))),sI 20 y1,sB 19 (decide (y1 < (x1.length : Int))),sI 18 y1,sI 17 (x1.length : Int),sC 16 (cF 8 x1 Pt.row),sA 8 8 5 0,sI 7 y2,sA 6 6 5 0,sI 5 0,sA 4 4 5 0,sI 0 x0],[(11,(Vec.row r17.1)),(10,(Pt.row v16)),(8,[cI y3,cI y4,cI y5,cI y6,cI y7]),(6,[cI y8,cI y9,cI y10,cI x0,cI 0]),(4,[cI 0,cI 0,cI 0,cI 0,cI 0])]⟩ kr ?_
      rw [h1]
      rw [h3]
      exact jn (r25,true,true,true,true,true,true) H (sB_ [54,46,45,40,39,12,11,38,31,37,35,34,33,32,30,29,28,27,26,25,24,23,9,10,22,21,20,19,18,17,16,8,7,6,5,4,0] [11,10,8,6,4] kr)
     have H := bifT h7 H
     refine uD tOk 5 0x7fffefffff1ff1 3408 kr kr ?_
     refine Sb.to ⟨68,0,[sB 54 true,sB 53 true,(52,.tup []),(51,.tup []),(50,.tup []),sB 49 true,sB 48 true,sI 47 y2,sB 46 true,sB 45 true,sB 44 true,sI 43 x0,sI 42 r17.1.Root,sA 41 11 5 0,sB 40 true,sB 39 true,sB 12 true,sA 11 11 5 0,sB 38 true,(31,.tup [(true,[.dead,.dead,.dead,.dead,.dead]),(false,[.dead])]),sV 37 (Vec.row r17.1),sI 35 v16.Cost,sA 34 10 8 1,sV 33 ((Pt.row v16).drop 3),sA 32 10 8 3,sB 30 (!v16.Has),sB 29 (!v16.Has),sB 28 v16.Has,sA 27 10 8 2,sB 26 false,sB 25 false,sB 24 v16.Up,sA 23 10 8 0,sI 9 y1,sA 10 10 8 0,sV 22 (Pt.row v16),(21,.fad ((Pt.row v16))),sI 20 y1,sB 19 (decide (y1 < (x1.length : Int))),sI 18 y1,sI 17 (x1.length : Int),sC 16 (cF 8 x1 Pt.row),sA 8 8 5 0,sI 7 y2,sA 6 6 5 0,sI 5 0,sA 4 4 5 0,sI 0 x0],[(11,(Vec.row r17.1)),(10,(Pt.row v16)),(8,[cI y3,cI y4,cI y5,cI y6,cI y7]),(6,[cI y8,cI y9,cI y10,cI x0,cI 0]),(4,[cI 0,cI 0,cI 0,cI 0,cI 0])]⟩ kr ?_
     rw [h1]
     rw [h3]
     exact jn (true,true,true,true,true,true,true) H (sB_ [54,46,45,40,39,12,11,38,31,37,35,34,33,32,30,29,28,27,26,25,24,23,9,10,22,21,20,19,18,17,16,8,7,6,5,4,0] [11,10,8,6,4] kr)
    rintro ⟨y18,y19,y20,y21,y22,y23,y24⟩ H
    have H : (impl_BestVec_J3 n (fun v => impl_BestVec_L2 n mo15 x0 x1 v.1 v.2.1 v.2.2.1 v.2.2.2.1 v.2.2.2.2.1 v.2.2.2.2.2.1 v.2.2.2.2.2.2.1 v.2.2.2.2.2.2.2.1 v.2.2.2.2.2.2.2.2.1 v.2.2.2.2.2.2.2.2.2) r17 y1 y10 y2 y3 y4 y5 y6 y7 y8 y9 y18 y19 y20 y21 y22 y23 y24) = some o15 := H
    unfold impl_BestVec_J3 at H
    cases h4 : y18
    ·have H := bifF h4 H
     refine tf kr ?_
     refine tK ?_
     refine tE tOk 2 0x2004061efffff1ff1 3408 kr kr ?_
     exact jn (mo15,((IntKind.wrap .i64 (y1 + 1)),y2,y3,y4,y5,y6,y7,y8,y9,y10)) H (sM mo15 [18,17,16,8,7,6,5,4,0] [8,6,4] kr)
    have H := bifT h4 H
    refine tt kr ?_
    refine tG tOk 4 0x1c061efffff1ff1 3408 kr kr ?_
    refine tE tOk 9 0x1ffc061efffff1ff1 3408 kr kr ?_
    refine tE tOk 2 0x3ffc061efffff1ff1 3408 kr kr ?_
    exact jn (mo15,((IntKind.wrap .i64 (y1 + 1)),y1,r17.1.Root,r17.1.Cost,r17.1.Hops,r17.1.Bridge,r17.1.Port,r17.1.Root,r17.1.Cost,r17.1.Hops)) H (sM mo15 [18,17,16,8,7,6,5,4,0] [8,6,4] kr)
   refine tT h3 kr ?_
   refine Tr.exit ?_
   refine And.intro (fun _ => ?_) (fun h => absurd rfl h)
   refine tE tOk 2 0x2000000007fff07f1 1360 kr kr ?_
   exact jn (mo15,((IntKind.wrap .i64 (y1 + 1)),y2,y3,y4,y5,y6,y7,y8,y9,y10)) H (sM mo15 [18,17,16,8,7,6,5,4,0] [8,6,4] kr)
  have H := bifT h2 H
  refine uD tOk 4 2147420145 1360 kr kr ?_
  refine tt kr ?_
  refine Tr.exit ?_
  refine And.intro (fun _ => ?_) (fun h => absurd rfl h)
  refine tE tOk 2 0x2000000007fff07f1 1360 kr kr ?_
  exact jn (mo15,((IntKind.wrap .i64 (y1 + 1)),y2,y3,y4,y5,y6,y7,y8,y9,y10)) H (sM mo15 [18,17,16,8,7,6,5,4,0] [8,6,4] kr)
 rintro ⟨y11,y12,y13,y14⟩ H
 have H : (impl_BestVec_J1 n x0 y11 y12 y13 y14) = some r := H
 unfold impl_BestVec_J1 at H
 refine tG tOk 4 48 16 kr kr ?_
 exact te (by obtain rfl := si H; exact fO [(true,[cI y12,cI y13,cI y14,cI x0,cI 0]),(false,[cI y11])] kr rfl rfl)
def impl_SayVecF (n : Nat) (x0 : Int) (x1 : (List Pt)) (x2 : Int) : Option (Vec) :=
  ((impl_BestVecF n x0 x1).bind fun r1 => (some (⟨r1.1.Root,r1.1.Cost,r1.1.Hops,r1.1.Bridge,x2⟩ : Vec)))
noncomputable abbrev G217 (k : Nat) := Rg Tryz.f217 k
theorem impl_SayVec (n : Nat) (x0 : Int) (x1 : (List Pt)) (x2 : Int) (r : Vec) (H : impl_SayVecF n x0 x1 x2 = some r) : LCall Tryz.prog 217 [.val false [.lit (.int .i64 x0)],.val false [.sl false 8 (CV.frzEs (x1.map Pt.row))],.val false [.lit (.int .i64 x2)]] [.val true (Vec.row r)] [] := by
 refine LCall.of_body tOk Tryz.func217 rfl (c := (.seq (G217 0) (.seq (G217 1) (.seq (G217 2) (.seq (G217 3) .ret))))) kr (Nat.le_of_ble_eq_true kr) 0 (rs := [.cell 6 162]) rfl [] .nil [(true,(Vec.row r))] [] [] fun cx => ?_
 show Tr _ _ _ ⟨18,0,[sI 0 x0,sC 1 (cF 8 x1 Pt.row),sI 2 x2],[]⟩ _
 unfold impl_SayVecF at H
 refine tG tOk 1 71 64 kr kr ?_
 refine rU tOk 2 kr ?_
 obtain ⟨r1,er1,H⟩ := bind_some H
 refine lV tOk [.rd,.rd] [] (impl_BestVec n x0 x1 r1 er1) kr kr kr kr (.inl rfl) ?_
 refine LAt.movT tOk (ty := 240) (t := 12) (d := 9) (g := none) [(true,(Vec.row r1.1)),(false,[cI r1.2])] _ kr (.inl rfl) kr kr kr kr rfl ?_
 refine uD tOk 5 196 192 kr kr ?_
 refine tG tOk 3 192 192 kr kr ?_
 refine tG tOk 2 64 64 kr kr ?_
 exact te (by obtain rfl := si H; exact fO [(true,[cI r1.1.Root,cI r1.1.Cost,cI r1.1.Hops,cI r1.1.Bridge,cI x2])] kr rfl rfl)
def impl_RoleOfF (n : Nat) (x0 : Int) (x1 : (List Pt)) (x2 : Int) : Option (Int) :=
  ((impl_inF n x2 0 (IntKind.wrap .i64 ((x1.length : Int) - 1))).bind fun r1 => (bif (!r1) then (some 4) else ((idx x1 x2).bind fun v2 => (bif (!v2.Up) then (some 4) else ((impl_BestVecF n x0 x1).bind fun r3 => (bif (r3.2 == x2) then (some 1) else ((idx x1 x2).bind fun v4 => (bif (!v4.Has) then (some 2) else ((impl_SayVecF n x0 x1 x2).bind fun r5 => ((idx x1 x2).bind fun v6 => ((impl_LessVecF n r5 v6.Heard).bind fun r7 => (bif r7 then (some 2) else (some 3)))))))))))))
noncomputable abbrev G163 (k : Nat) := Rg Tryz.f163 k
noncomputable abbrev D163 (k : Nat) := Rd Tryz.f163 k
theorem impl_RoleOf (n : Nat) (x0 : Int) (x1 : (List Pt)) (x2 : Int) (r : Int) (H : impl_RoleOfF n x0 x1 x2 = some r) : LCall Tryz.prog 163 [.val false [.lit (.int .i64 x0)],.val false [.sl false 8 (CV.frzEs (x1.map Pt.row))],.val false [.lit (.int .i64 x2)]] [.val false [.lit (.int .i64 r)]] [] := by
 refine LCall.of_body tOk Tryz.func163 rfl (c := (.seq (G163 0) (.seq (.seq (G163 1) (.cond (.tmp 22) (.seq (G163 2) .ret) .skip)) (.seq (G163 3) (.seq (.block 0 (.seq (G163 4) (.cond (.tmp 29) (.seq (G163 5) .ret) (.seq (D163 6) (.cond (.tmp 33) (.seq (G163 7) .ret) .skip))))) (.seq (G163 8) .ret)))))) kr (Nat.le_of_ble_eq_true kr) 0 (rs := [.tmp 6]) rfl [] .nil [(false,[.lit (.int .i64 r)])] [] [] fun cx => ?_
 show Tr _ _ _ ⟨52,0,[sI 0 x0,sC 1 (cF 8 x1 Pt.row),sI 2 x2],[]⟩ _
 unfold impl_RoleOfF at H
 refine tG tOk 1 7 0 kr kr ?_
 refine tS ?_
 refine rU tOk 2 kr ?_
 refine lL tOk 52 3 182 10 11 none ⟨(.slot 10),[],0,false,8,(CV.frzEs (x1.map Pt.row))⟩ (x1).length _ kr kr kr kr kr (frz_len _ _) rfl ?_
 refine lU tOk 1 kr ?_
 obtain ⟨r1,er1,H⟩ := bind_some H
 refine lV tOk [.rd,.rd,.rd] [] (impl_in n x2 0 (IntKind.wrap .i64 ((x1.length : Int) - 1)) r1 er1) kr kr kr kr (.inl rfl) ?_
 refine lU tOk 2 kr ?_
 refine lT ⟨52,0,[sB 15 (!r1),sB 14 (!r1),sB 13 r1,sI 12 (IntKind.wrap .i64 ((x1.length : Int) - 1)),sI 11 (x1.length : Int),sC 10 (cF 8 x1 Pt.row),sI 9 x2,sI 0 x0,sC 1 (cF 8 x1 Pt.row),sI 2 x2],[]⟩ kr ?_
 cases h1 : (!r1)
 ·have H := bifF h1 H
  refine lU tOk 2 kr ?_
  obtain ⟨v2,ev2,H⟩ := bind_some H
  refine lI tOk 52 0 16 17 18 (some (6,false)) ⟨(.slot 16),[],0,false,8,(CV.frzEs (x1.map Pt.row))⟩ x2 (Pt.row v2) _ kr kr kr kr rfl (idx_isF ev2) rfl ?_
  refine uD tOk 4 4194311 0 kr kr ?_
  obtain ⟨h2,H⟩ | ⟨h2,H⟩ := bC H
  ·refine tF h2 kr ?_
   refine tK ?_
   refine rU tOk 2 kr ?_
   obtain ⟨r3,er3,H⟩ := bind_some H
   refine lV tOk [.rd,.rd] [] (impl_BestVec n x0 x1 r3 er3) kr kr kr kr (.inl rfl) ?_
   refine LAt.movT tOk (ty := 240) (t := 26) (d := 23) (g := none) [(true,(Vec.row r3.1)),(false,[cI r3.2])] _ kr (.inl rfl) kr kr kr kr rfl ?_
   refine uD tOk 5 263 0 kr kr ?_
   refine tS ?_
   refine tB ?_
   refine tG tOk 4 536870919 0 kr kr ?_
   obtain ⟨h3,H⟩ | ⟨h3,H⟩ := bC H
   ·refine tF h3 kr ?_
    obtain ⟨v4,ev4,H⟩ := bind_some H
    refine tO ⟨52,0,[sB 29 (r3.2 == x2),sI 0 x0,sC 1 (cF 8 x1 Pt.row),sI 2 x2],[]⟩ kr ?_
    cases h4 : (!v4.Has)
    ·have H := bifF h4 H
     obtain ⟨r5,er5,H⟩ := bind_some H
     obtain ⟨v6,ev6,H⟩ := bind_some H
     obtain ⟨r7,er7,H⟩ := bind_some H
     refine Tr.draws mixed 19 kr ⟨52,0,[sB 33 r7],[]⟩ (fun cx => ?_) ?_
     ·refine aU tOk [(0,[]),(1,[])] 17 [] [1,0] rfl kr (fun cx => ?_)
      refine aI tOk 2 52 0 34 35 36 none ⟨(.slot 34),[],0,false,8,(CV.frzEs (x1.map Pt.row))⟩ x2 (Pt.row v4) _ kr kr kr kr kr kr rfl (idx_isF ev4) rfl (fun cx => ?_)
      refine aU tOk [(3,[]),(4,[]),(5,[]),(6,[])] 12 [] [6,5,4,3,2,1,0] rfl kr (fun cx => ?_)
      refine aT ⟨52,0,[sB 40 (!v4.Has),sB 39 (!v4.Has),sB 38 v4.Has,(37,.fad (((Pt.row v4).drop 2))),(36,.fad ((Pt.row v4))),sI 35 x2,sC 34 (cF 8 x1 Pt.row),sB 29 (r3.2 == x2),sI 0 x0,sC 1 (cF 8 x1 Pt.row),sI 2 x2],[]⟩ kr ?_
      rw [h4]
      refine aU tOk [(7,[]),(8,[]),(9,[]),(11,[]),(12,[])] 7 [] [12,11,9,8,7,6,5,4,3,2,1,0] rfl kr (fun cx => ?_)
      refine aI tOk 13 52 0 45 46 47 (some (6,false)) ⟨(.slot 45),[],0,false,8,(CV.frzEs (x1.map Pt.row))⟩ x2 (Pt.row v6) _ kr kr kr kr kr kr rfl (idx_isF ev6) rfl (fun cx => ?_)
      refine aU tOk [(14,[]),(15,[])] 4 [] [15,14,13,12,11,9,8,7,6,5,4,3,2,1,0] rfl kr (fun cx => ?_)
      refine AT.big1 tOk 10 kr kr ?_
      refine lV tOk [.rd,.rd,.rd] [] (impl_SayVec n x0 x1 x2 r5 er5) kr kr kr kr (.inl rfl) ?_
      refine lF kr kr kr ?_
      refine AT.big1 tOk 16 kr kr ?_
      refine lV tOk [.rd,.rd] [] (impl_LessVec n r5 v6.Heard r7 er7) kr kr kr kr (.inl rfl) ?_
      refine lF kr kr kr ?_
      refine aU tOk [(17,[]),(18,[])] 0 [] [18,17,16,10,15,14,13,12,11,9,8,7,6,5,4,3,2,1,0] rfl kr (fun cx => ?_)
      exact AT.done [33] [] _ kr kr rfl
     cases h5 : r7
     ·have H := bifF h5 H
      refine tf kr ?_
      refine tK ?_
      refine tG tOk 1 64 0 kr kr ?_
      exact te (by obtain rfl := si H; exact fO [(false,[cI 3])] kr rfl rfl)
     have H := bifT h5 H
     refine tt kr ?_
     refine tG tOk 1 64 0 kr kr ?_
     exact te (by obtain rfl := si H; exact fO [(false,[cI 2])] kr rfl rfl)
    have H := bifT h4 H
    refine Tr.draws mixed 19 kr ⟨52,0,[sB 33 true],[]⟩ (fun cx => ?_) ?_
    ·refine aU tOk [(0,[]),(1,[])] 17 [] [1,0] rfl kr (fun cx => ?_)
     refine aI tOk 2 52 0 34 35 36 none ⟨(.slot 34),[],0,false,8,(CV.frzEs (x1.map Pt.row))⟩ x2 (Pt.row v4) _ kr kr kr kr kr kr rfl (idx_isF ev4) rfl (fun cx => ?_)
     refine aU tOk [(3,[]),(4,[]),(5,[]),(6,[])] 12 [] [6,5,4,3,2,1,0] rfl kr (fun cx => ?_)
     refine aT ⟨52,0,[sB 40 (!v4.Has),sB 39 (!v4.Has),sB 38 v4.Has,(37,.fad (((Pt.row v4).drop 2))),(36,.fad ((Pt.row v4))),sI 35 x2,sC 34 (cF 8 x1 Pt.row),sB 29 (r3.2 == x2),sI 0 x0,sC 1 (cF 8 x1 Pt.row),sI 2 x2],[]⟩ kr ?_
     rw [h4]
     refine aU tOk [(7,[]),(8,[]),(9,[]),(10,[]),(11,[]),(12,[]),(13,[]),(14,[]),(15,[]),(16,[]),(17,[]),(18,[])] 0 [] [18,17,16,15,14,13,12,11,10,9,8,7,6,5,4,3,2,1,0] rfl kr (fun cx => ?_)
     exact AT.done [33] [] _ kr kr rfl
    refine tt kr ?_
    refine tG tOk 1 64 0 kr kr ?_
    exact te (by obtain rfl := si H; exact fO [(false,[cI 2])] kr rfl rfl)
   refine tT h3 kr ?_
   refine tG tOk 1 64 0 kr kr ?_
   exact te (by obtain rfl := si H; exact fO [(false,[cI 1])] kr rfl rfl)
  refine tT h2 kr ?_
  refine tG tOk 1 64 0 kr kr ?_
  exact te (by obtain rfl := si H; exact fO [(false,[cI 4])] kr rfl rfl)
 have H := bifT h1 H
 refine uD tOk 7 4194311 0 kr kr ?_
 refine tt kr ?_
 refine tG tOk 1 64 0 kr kr ?_
 exact te (by obtain rfl := si H; exact fO [(false,[cI 4])] kr rfl rfl)
def impl_Sends_J1 (n : Nat) (y3 : Int) : Option (Int) :=
  (some y3)
def impl_Sends_L2 (n : Nat) : Nat → Int → (List Pt) → Int → Int → Option ((Int) ⊕ (Int))
  | 0,_,_,_,_ => none
  | mo4 + 1,x0,x1,y1,y2 => (bif (decide (y1 < (x1.length : Int))) then (bif (decide (y1 < 6)) then ((impl_RoleOfF n x0 x1 y1).bind fun r5 => (bif (r5 == 1) then (bif (decide ((0 : Int) ≤ y1)) then (impl_Sends_L2 n mo4 x0 x1 (IntKind.wrap .i64 (y1 + 1)) (IntKind.wrap .i64 (BitVec.ofInt (IntKind.bits .i64) y2 ||| BitVec.ofInt (IntKind.bits .i64) (IntKind.wrap .i64 (1 * 2 ^ min ((y1 : Int)).toNat (IntKind.bits .i64)))).toNat)) else none) else (bif (r5 == 2) then (bif (decide ((0 : Int) ≤ y1)) then (impl_Sends_L2 n mo4 x0 x1 (IntKind.wrap .i64 (y1 + 1)) (IntKind.wrap .i64 (BitVec.ofInt (IntKind.bits .i64) y2 ||| BitVec.ofInt (IntKind.bits .i64) (IntKind.wrap .i64 (1 * 2 ^ min ((y1 : Int)).toNat (IntKind.bits .i64)))).toNat)) else none) else (impl_Sends_L2 n mo4 x0 x1 (IntKind.wrap .i64 (y1 + 1)) y2)))) else (some (Sum.inl y2))) else (some (Sum.inl y2)))
def impl_SendsF (n : Nat) (x0 : Int) (x1 : (List Pt)) : Option (Int) :=
  ((impl_Sends_L2 n n x0 x1 0 0).bind fun o => match o with | .inl y3 => (impl_Sends_J1 n y3) | .inr r => some r)
noncomputable abbrev G59 (k : Nat) := Rg Tryz.f59 k
theorem impl_Sends (n : Nat) (x0 : Int) (x1 : (List Pt)) (r : Int) (H : impl_SendsF n x0 x1 = some r) : LCall Tryz.prog 59 [.val false [.lit (.int .i64 x0)],.val false [.sl false 8 (CV.frzEs (x1.map Pt.row))]] [.val false [.lit (.int .i64 r)]] [] := by
 refine LCall.of_body tOk Tryz.func59 rfl (c := (.seq (G59 0) (.seq (G59 1) (.seq (.seq (G59 2) (.block 0 (.loop (.seq (.seq (G59 3) (.cond (.tmp 15) .skip (.exit 0))) (.seq (.block 1 (.seq (G59 5) (.seq (G59 6) (.cond (.tmp 27) (G59 7) .skip)))) (G59 4)))))) (.seq (G59 8) .ret))))) kr (Nat.le_of_ble_eq_true kr) 0 (rs := [.tmp 4]) rfl [] .nil [(false,[.lit (.int .i64 r)])] [] [] fun cx => ?_
 show Tr _ _ _ ⟨33,0,[sI 0 x0,sC 1 (cF 8 x1 Pt.row)],[]⟩ _
 unfold impl_SendsF at H
 refine tG tOk 1 3 0 kr kr ?_
 refine tG tOk 1 35 0 kr kr ?_
 refine tS ?_
 refine tG tOk 1 99 0 kr kr ?_
 obtain ⟨o4,eo4,Ho4⟩ := bind_some H
 clear H
 refine Tr.mid (ι := Int) (fun v => ⟨33,0,[sI 5 v],[]⟩) (fun v => impl_Sends_J1 n v = some r) ?_ ?_
 ·refine tB ?_
  refine Tr.loop (ι := Nat × (Int × Int)) (fun v => ⟨33,0,[sI 6 v.2.1,sI 5 v.2.2,sI 0 x0,sC 1 (cF 8 x1 Pt.row)],[]⟩) (fun v => impl_Sends_L2 n v.1 x0 x1 v.2.1 v.2.2 = some o4) (fun v => v.1) (n,(0,0)) eo4 (St.sub_of [6,5,0,1] [] kr) ?_
  rintro ⟨mo4,y1,y2⟩ H
  have H : impl_Sends_L2 n mo4 x0 x1 y1 y2 = some o4 := H
  obtain _ | mo4 := mo4
  ·cases (show (none : Option _) = some o4 from H)
  rw [impl_Sends_L2] at H
  refine tS ?_
  refine rU tOk 2 kr ?_
  refine lL tOk 52 3 182 9 10 none ⟨(.slot 9),[],0,false,8,(CV.frzEs (x1.map Pt.row))⟩ (x1).length _ kr kr kr kr kr (frz_len _ _) rfl ?_
  refine lU tOk 2 kr ?_
  refine lT ⟨33,0,[sB 12 (decide (y1 < (x1.length : Int))),sB 11 (decide (y1 < (x1.length : Int))),sI 10 (x1.length : Int),sC 9 (cF 8 x1 Pt.row),sI 8 y1,sI 6 y1,sI 5 y2,sI 0 x0,sC 1 (cF 8 x1 Pt.row)],[]⟩ kr ?_
  cases h1 : (decide (y1 < (x1.length : Int)))
  ·have H := bifF h1 H
   refine uD tOk 3 32867 0 kr kr ?_
   refine tf kr ?_
   refine Tr.exit ?_
   refine And.intro (fun _ => ?_) (fun h => absurd rfl h)
   obtain rfl := si H
   have H := Ho4
   dsimp only at H
   exact jn y2 H (sB_ [5] [] kr)
  have H := bifT h1 H
  refine uD tOk 3 32867 0 kr kr ?_
  obtain ⟨h2,H⟩ | ⟨h2,H⟩ := bC H
  ·refine tF h2 kr ?_
   refine Tr.exit ?_
   refine And.intro (fun _ => ?_) (fun h => absurd rfl h)
   obtain rfl := si H
   have H := Ho4
   dsimp only at H
   exact jn y2 H (sB_ [5] [] kr)
  refine tT h2 kr ?_
  refine tK ?_
  refine tS ?_
  refine tB ?_
  refine rU tOk 3 kr ?_
  obtain ⟨r5,er5,H⟩ := bind_some H
  refine lV tOk [.rd,.rd,.rd] [] (impl_RoleOf n x0 x1 y1 r5 er5) kr kr kr kr (.inl rfl) ?_
  refine uD tOk 1 227 0 kr kr ?_
  refine rU tOk 3 kr ?_
  refine lT ⟨33,0,[sB 24 (r5 == 1),sB 23 (r5 == 1),sI 22 r5,sI 7 r5,sI 6 y1,sI 5 y2,sI 0 x0,sC 1 (cF 8 x1 Pt.row)],[]⟩ kr ?_
  cases h3 : (r5 == 1)
  ·have H := bifF h3 H
   refine uD tOk 3 134217827 0 kr kr ?_
   obtain ⟨h4,H⟩ | ⟨h4,H⟩ := bC H
   ·refine tF h4 kr ?_
    refine tK ?_
    refine tE tOk 3 99 0 kr kr ?_
    exact jn (mo4,((IntKind.wrap .i64 (y1 + 1)),y2)) H (sM mo4 [6,5,0,1] [] kr)
   refine tT h4 kr ?_
   refine Tr.at ?_
   refine lU tOk 2 kr ?_
   obtain ⟨hg6,H⟩ := guard_some H
   refine LAt.binC tOk (op := .shl) (t := 3) (ty := 3) (ty' := 3) (x := (.const (.int .i64 1))) (y := (.tmp 29)) (d := 30) (g := none) (.int .i64 1) (.int .i64 y1) (.int .i64 (IntKind.wrap .i64 (1 * 2 ^ min ((y1 : Int)).toNat (IntKind.bits .i64)))) _ kr kr kr kr kr (φ := (0 : Int) ≤ y1) kr (of_decide_eq_true hg6) rfl ?_
   refine uD tOk 2 99 0 kr kr ?_
   refine tE tOk 3 99 0 kr kr ?_
   exact jn (mo4,((IntKind.wrap .i64 (y1 + 1)),(IntKind.wrap .i64 (BitVec.ofInt (IntKind.bits .i64) y2 ||| BitVec.ofInt (IntKind.bits .i64) (IntKind.wrap .i64 (1 * 2 ^ min ((y1 : Int)).toNat (IntKind.bits .i64)))).toNat))) H (sM mo4 [6,5,0,1] [] kr)
  have H := bifT h3 H
  refine uD tOk 3 134217827 0 kr kr ?_
  refine tt kr ?_
  refine Tr.at ?_
  refine lU tOk 2 kr ?_
  obtain ⟨hg7,H⟩ := guard_some H
  refine LAt.binC tOk (op := .shl) (t := 3) (ty := 3) (ty' := 3) (x := (.const (.int .i64 1))) (y := (.tmp 29)) (d := 30) (g := none) (.int .i64 1) (.int .i64 y1) (.int .i64 (IntKind.wrap .i64 (1 * 2 ^ min ((y1 : Int)).toNat (IntKind.bits .i64)))) _ kr kr kr kr kr (φ := (0 : Int) ≤ y1) kr (of_decide_eq_true hg7) rfl ?_
  refine uD tOk 2 99 0 kr kr ?_
  refine tE tOk 3 99 0 kr kr ?_
  exact jn (mo4,((IntKind.wrap .i64 (y1 + 1)),(IntKind.wrap .i64 (BitVec.ofInt (IntKind.bits .i64) y2 ||| BitVec.ofInt (IntKind.bits .i64) (IntKind.wrap .i64 (1 * 2 ^ min ((y1 : Int)).toNat (IntKind.bits .i64)))).toNat))) H (sM mo4 [6,5,0,1] [] kr)
 rintro y3 H
 have H : (impl_Sends_J1 n y3) = some r := H
 unfold impl_Sends_J1 at H
 refine tG tOk 2 16 0 kr kr ?_
 exact te (by obtain rfl := si H; exact fO [(false,[cI y3])] kr rfl rfl)
def impl_hasPortF (n : Nat) (x0 : Int) (x1 : Int) : Option (Bool) :=
  ((impl_inF n x1 0 62).bind fun r1 => (bif r1 then (bif (decide ((0 : Int) ≤ x1)) then (some ((IntKind.wrap .i64 (BitVec.ofInt (IntKind.bits .i64) (Int.fdiv x0 (2 ^ min ((x1 : Int)).toNat (IntKind.bits .i64))) &&& BitVec.ofInt (IntKind.bits .i64) 1).toNat) == 1)) else none) else (some false)))
noncomputable abbrev G113 (k : Nat) := Rg Tryz.f113 k
theorem impl_hasPort (n : Nat) (x0 : Int) (x1 : Int) (r : Bool) (H : impl_hasPortF n x0 x1 = some r) : LCall Tryz.prog 113 [.val false [.lit (.int .i64 x0)],.val false [.lit (.int .i64 x1)]] [.val false [.lit (.bool r)]] [] := by
 refine LCall.of_body tOk Tryz.func113 rfl (c := (.seq (G113 0) (.seq (G113 1) .ret))) kr (Nat.le_of_ble_eq_true kr) 0 (rs := [.tmp 4]) rfl [] .nil [(false,[.lit (.bool r)])] [] [] fun cx => ?_
 show Tr _ _ _ ⟨14,0,[sI 0 x0,sI 1 x1],[]⟩ _
 unfold impl_hasPortF at H
 refine tG tOk 1 3 0 kr kr ?_
 refine rU tOk 1 kr ?_
 obtain ⟨r1,er1,H⟩ := bind_some H
 refine lV tOk [.rd,.rd,.rd] [] (impl_in n x1 0 62 r1 er1) kr kr kr kr (.inl rfl) ?_
 refine lU tOk 1 kr ?_
 refine lT ⟨14,0,[sB 7 r1,sB 6 r1,sI 5 x1,sI 0 x0,sI 1 x1],[]⟩ kr ?_
 cases h1 : r1
 ·have H := bifF h1 H
  refine uD tOk 7 16 0 kr kr ?_
  exact te (by obtain rfl := si H; exact fO [(false,[cB false])] kr rfl rfl)
 have H := bifT h1 H
 refine lU tOk 2 kr ?_
 obtain ⟨hg2,H⟩ := guard_some H
 refine LAt.binC tOk (op := .shr) (t := 3) (ty := 3) (ty' := 3) (x := (.tmp 8)) (y := (.tmp 9)) (d := 10) (g := (some (2,true))) (.int .i64 x0) (.int .i64 x1) (.int .i64 (Int.fdiv x0 (2 ^ min ((x1 : Int)).toNat (IntKind.bits .i64)))) _ kr kr kr kr kr (φ := (0 : Int) ≤ x1) kr (of_decide_eq_true hg2) rfl ?_
 refine uD tOk 4 16 0 kr kr ?_
 exact te (by obtain rfl := si H; exact fO [(false,[cB ((IntKind.wrap .i64 (BitVec.ofInt (IntKind.bits .i64) (Int.fdiv x0 (2 ^ min ((x1 : Int)).toNat (IntKind.bits .i64))) &&& BitVec.ofInt (IntKind.bits .i64) 1).toNat) == 1)])] kr rfl rfl)
def impl_FlushPort_J1 (n : Nat) (y3 : (List Fent)) : Option ((List Fent)) :=
  (some y3)
def impl_FlushPort_L2 (n : Nat) : Nat → (List Fent) → Int → Int → (List Fent) → Option (((List Fent)) ⊕ ((List Fent)))
  | 0,_,_,_,_ => none
  | mo4 + 1,x0,x1,y1,y2 => (bif (decide (y1 < (x0.length : Int))) then ((idx x0 y1).bind fun v5 => (bif v5.Static then (bif (decide (y2.length + [v5].length ≤ 268435456)) then (impl_FlushPort_L2 n mo4 x0 x1 (IntKind.wrap .i64 (y1 + 1)) (y2 ++ [v5])) else none) else (bif (v5.Port != x1) then (bif (decide (y2.length + [v5].length ≤ 268435456)) then (impl_FlushPort_L2 n mo4 x0 x1 (IntKind.wrap .i64 (y1 + 1)) (y2 ++ [v5])) else none) else (impl_FlushPort_L2 n mo4 x0 x1 (IntKind.wrap .i64 (y1 + 1)) y2)))) else (some (Sum.inl y2)))
def impl_FlushPortF (n : Nat) (x0 : (List Fent)) (x1 : Int) : Option ((List Fent)) :=
  ((impl_FlushPort_L2 n n x0 x1 0 ([] : List Fent)).bind fun o => match o with | .inl y3 => (impl_FlushPort_J1 n y3) | .inr r => some r)
noncomputable abbrev G237 (k : Nat) := Rg Tryz.f237 k
theorem impl_FlushPort (n : Nat) (x0 : (List Fent)) (x1 : Int) (r : (List Fent)) (H : impl_FlushPortF n x0 x1 = some r) : LCall Tryz.prog 237 [.val false [.sl false 5 (CV.frzEs (x0.map Fent.row))],.val false [.lit (.int .i64 x1)]] [.val false [.sl true 5 (r.map Fent.row)]] [] := by
 refine LCall.of_body tOk Tryz.func237 rfl (c := (.seq (G237 0) (.seq (G237 1) (.seq (.seq (G237 2) (.block 0 (.loop (.seq (G237 3) (.seq (.cond (.tmp 11) .skip (.exit 0)) (.seq (.block 1 (.seq (G237 4) (.seq (G237 5) (.cond (.tmp 21) (G237 6) .skip)))) (G237 7))))))) (.seq (G237 8) .ret))))) kr (Nat.le_of_ble_eq_true kr) 0 (rs := [.tmp 4]) rfl [] .nil [(false,[.sl true 5 (r.map Fent.row)])] [] [] fun cx => ?_
 show Tr _ _ _ ⟨28,0,[sC 0 (cF 5 x0 Fent.row),sI 1 x1],[]⟩ _
 unfold impl_FlushPortF at H
 refine tG tOk 1 3 0 kr kr ?_
 refine tG tOk 1 35 0 kr kr ?_
 refine tS ?_
 refine rU tOk 1 kr ?_
 refine lL tOk 53 3 184 8 9 none ⟨(.slot 8),[],0,false,5,(CV.frzEs (x0.map Fent.row))⟩ (x0).length _ kr kr kr kr kr (frz_len _ _) rfl ?_
 refine uD tOk 1 1826 0 kr kr ?_
 obtain ⟨o4,eo4,Ho4⟩ := bind_some H
 clear H
 refine Tr.mid (ι := (List Fent)) (fun v => ⟨28,0,[sC 5 (cL 5 v Fent.row)],[]⟩) (fun v => impl_FlushPort_J1 n v = some r) ?_ ?_
 ·refine tB ?_
  refine Tr.loop (ι := Nat × (Int × (List Fent))) (fun v => ⟨28,0,[sI 10 v.2.1,sI 9 (x0.length : Int),sC 8 (cF 5 x0 Fent.row),sC 5 (cL 5 v.2.2 Fent.row),sI 1 x1],[]⟩) (fun v => impl_FlushPort_L2 n v.1 x0 x1 v.2.1 v.2.2 = some o4) (fun v => v.1) (n,(0,([] : List Fent))) eo4 (St.sub_of [10,9,8,5,1] [] kr) ?_
  rintro ⟨mo4,y1,y2⟩ H
  have H : impl_FlushPort_L2 n mo4 x0 x1 y1 y2 = some o4 := H
  obtain _ | mo4 := mo4
  ·cases (show (none : Option _) = some o4 from H)
  rw [impl_FlushPort_L2] at H
  refine tG tOk 1 3874 0 kr kr ?_
  refine tS ?_
  obtain ⟨h1,H⟩ | ⟨h1,H⟩ := bC H
  ·refine tF h1 kr ?_
   refine Tr.exit ?_
   refine And.intro (fun _ => ?_) (fun h => absurd rfl h)
   obtain rfl := si H
   have H := Ho4
   dsimp only at H
   exact jn y2 H (sB_ [5] [] kr)
  refine tT h1 kr ?_
  refine tK ?_
  refine tS ?_
  refine tB ?_
  refine tR ?_
  obtain ⟨v5,ev5,H⟩ := bind_some H
  refine lI tOk 53 0 8 10 12 none ⟨(.slot 8),[],0,false,5,(CV.frzEs (x0.map Fent.row))⟩ y1 (Fent.row v5) _ kr kr kr kr rfl (idx_isF ev5) rfl ?_
  refine uD tOk 3 1954 128 kr kr ?_
  refine tS ?_
  refine Tr.at ?_
  refine lU tOk 3 kr ?_
  refine lT ⟨28,0,[sB 16 v5.Static,sB 15 v5.Static,sA 14 7 5 4,sA 7 7 5 0,sI 10 y1,sI 9 (x0.length : Int),sC 8 (cF 5 x0 Fent.row),sC 5 (cL 5 y2 Fent.row),sI 1 x1],[(7,(Fent.row v5))]⟩ kr ?_
  cases h2 : v5.Static
  ·have H := bifF h2 H
   refine uD tOk 5 2099106 128 kr kr ?_
   obtain ⟨h3,H⟩ | ⟨h3,H⟩ := bC H
   ·refine tF h3 kr ?_
    refine tK ?_
    refine tE tOk 2 1826 0 kr kr ?_
    exact jn (mo4,((IntKind.wrap .i64 (y1 + 1)),y2)) H (sM mo4 [10,9,8,5,1] [] kr)
   refine tT h3 kr ?_
   refine Tr.at ?_
   refine lU tOk 3 kr ?_
   obtain ⟨hg6,H⟩ := guard_some H
   refine LAt.appMU tOk (t := 53) (ty := 53) (e := 184) (x := (.tmp 22)) (y := (.tmp 24)) (d := 25) (g := none) (tI 184) Fent.row y2 [v5] kr kr kr kr kr kr kr kr kr kr hg6 ?_
   refine LAt.moveU (T := lk tab) (ty := 53) (x := (.tmp 25)) (d := 5) (g := none) false [cL 5 (y2 ++ [v5]) Fent.row] kr kr kr kr kr ?_
   refine lD 1826 0 kr ?_
   refine tE tOk 2 1826 0 kr kr ?_
   exact jn (mo4,((IntKind.wrap .i64 (y1 + 1)),(y2 ++ [v5]))) H (sM mo4 [10,9,8,5,1] [] kr)
  have H := bifT h2 H
  refine uD tOk 5 2099106 128 kr kr ?_
  refine tt kr ?_
  refine Tr.at ?_
  refine lU tOk 3 kr ?_
  obtain ⟨hg7,H⟩ := guard_some H
  refine LAt.appMU tOk (t := 53) (ty := 53) (e := 184) (x := (.tmp 22)) (y := (.tmp 24)) (d := 25) (g := none) (tI 184) Fent.row y2 [v5] kr kr kr kr kr kr kr kr kr kr hg7 ?_
  refine LAt.moveU (T := lk tab) (ty := 53) (x := (.tmp 25)) (d := 5) (g := none) false [cL 5 (y2 ++ [v5]) Fent.row] kr kr kr kr kr ?_
  refine lD 1826 0 kr ?_
  refine tE tOk 2 1826 0 kr kr ?_
  exact jn (mo4,((IntKind.wrap .i64 (y1 + 1)),(y2 ++ [v5]))) H (sM mo4 [10,9,8,5,1] [] kr)
 rintro y3 H
 have H : (impl_FlushPort_J1 n y3) = some r := H
 unfold impl_FlushPort_J1 at H
 refine tG tOk 2 48 0 kr kr ?_
 exact te (by obtain rfl := si H; exact fO [(false,[cL 5 y3 Fent.row])] kr rfl rfl)
def impl_Bridge_turn_J1 (n : Nat) (r1 : Int) (x0 : Bridge) (y5 : (List Fent)) : Option (Bridge) :=
  (some (⟨x0.Id,x0.Name,x0.Ports,y5,x0.V,x0.Ticks,x0.Parse,x0.Word,x0.Drops,r1⟩ : Bridge))
def impl_Bridge_turn_L2 (n : Nat) : Nat → Int → Bridge → Int → (List Fent) → Option (((List Fent)) ⊕ (Bridge))
  | 0,_,_,_,_ => none
  | mo6 + 1,r2,x0,y3,y4 => (bif (decide (y3 < (x0.Ports.length : Int))) then ((impl_hasPortF n r2 y3).bind fun r7 => (bif (!r7) then ((impl_FlushPortF n y4 y3).bind fun r8 => (impl_Bridge_turn_L2 n mo6 r2 x0 (IntKind.wrap .i64 (y3 + 1)) r8)) else (impl_Bridge_turn_L2 n mo6 r2 x0 (IntKind.wrap .i64 (y3 + 1)) y4))) else (some (Sum.inl y4)))
def impl_Bridge_turnF (n : Nat) (x0 : Bridge) : Option (Bridge) :=
  ((impl_moreF n x0.Vers).bind fun r1 => ((impl_SendsF n x0.Id x0.Ports).bind fun r2 => ((impl_Bridge_turn_L2 n n r2 x0 0 x0.F).bind fun o => match o with | .inl y5 => (impl_Bridge_turn_J1 n r1 x0 y5) | .inr r => some r)))
noncomputable abbrev G183 (k : Nat) := Rg Tryz.f183 k
noncomputable abbrev D183 (k : Nat) := Rd Tryz.f183 k
theorem impl_Bridge_turn (n : Nat) (x0 : Bridge) (r : Bridge) (H : impl_Bridge_turnF n x0 = some r) : LCall Tryz.prog 183 [.ptr (Bridge.row x0)] [] [(0,(Bridge.row r))] := by
 refine LCall.of_body tOk Tryz.func183 rfl (c := (.seq (G183 0) (.seq (D183 1) (.seq (G183 2) (.block 0 (.loop (.seq (G183 3) (.seq (.cond (.tmp 27) .skip (.exit 0)) (.seq (.block 1 (.seq (G183 4) (.seq (G183 5) (.cond (.tmp 32) (G183 6) .skip)))) (G183 7)))))))))) kr (Nat.le_of_ble_eq_true kr) 1 (rs := []) rfl [] .nil [] [] [(0,(Bridge.row r))] fun cx => ?_
 show Tr _ _ _ ⟨43,1,[sA 0 0 11 0],[(0,(Bridge.row x0))]⟩ _
 unfold impl_Bridge_turnF at H
 refine rU tOk 5 kr ?_
 obtain ⟨r1,er1,H⟩ := bind_some H
 refine lV tOk [.rd] [] (impl_more n x0.Vers r1 er1) kr kr kr kr (.inl rfl) ?_
 refine uD tOk 3 1 1 kr kr ?_
 obtain ⟨r2,er2,H⟩ := bind_some H
 refine Tr.draws mixed 10 kr ⟨43,1,[sI 2 r2,sA 0 0 11 0],[(0,[cI x0.Id,cS x0.Name,cL 8 x0.Ports Pt.row,cL 5 x0.F Fent.row,cL 3 x0.V.Rows Vrow.row,cL 1 x0.V.Pvid intRow,cI x0.Ticks,cI x0.Parse,cI x0.Word,cI x0.Drops,cI r1])]⟩ (fun cx => ?_) ?_
 ·refine aU tOk [(0,[]),(1,[]),(2,[]),(3,[8]),(4,[]),(5,[]),(6,[]),(7,[8])] 2 [⟨[8],52,18,19⟩,⟨[8],3,14,15⟩] [7,6,5,4,3,2,1,0] rfl kr (fun cx => ?_)
  refine AT.big1 tOk 8 kr kr ?_
  refine lV tOk [.rd,.rd] [.box 0] (impl_Sends n x0.Id x0.Ports r2 er2) kr kr kr kr (.inr (rets_cons (mine_cons mine_lit mine_nil) rets_nil)) ?_
  refine lF kr kr kr ?_
  refine aU tOk [(9,[])] 0 [⟨[8],52,18,19⟩,⟨[8],3,14,15⟩] [9,8,7,6,5,4,3,2,1,0] rfl kr (fun cx => ?_)
  exact AT.done [2,0] [0] _ kr kr rfl
 refine rU tOk 4 kr ?_
 refine lL tOk 52 3 182 24 25 none ⟨(.box 0),[(0,0)],2,true,8,(x0.Ports.map Pt.row)⟩ (x0.Ports).length _ kr kr kr kr kr (map_len _ _) rfl ?_
 refine uD tOk 1 100663301 1 kr kr ?_
 obtain ⟨o6,eo6,Ho6⟩ := bind_some H
 clear H
 refine Tr.mid (ι := (List Fent)) (fun v => ⟨43,1,[sA 0 0 11 0],[(0,[cI x0.Id,cS x0.Name,cL 8 x0.Ports Pt.row,cL 5 v Fent.row,cL 3 x0.V.Rows Vrow.row,cL 1 x0.V.Pvid intRow,cI x0.Ticks,cI x0.Parse,cI x0.Word,cI x0.Drops,cI r1])]⟩) (fun v => impl_Bridge_turn_J1 n r1 x0 v = some r) ?_ ?_
 ·refine tB ?_
  refine Tr.loop (ι := Nat × (Int × (List Fent))) (fun v => ⟨43,1,[sI 26 v.2.1,sI 25 (x0.Ports.length : Int),sI 2 r2,sA 0 0 11 0],[(0,[cI x0.Id,cS x0.Name,cL 8 x0.Ports Pt.row,cL 5 v.2.2 Fent.row,cL 3 x0.V.Rows Vrow.row,cL 1 x0.V.Pvid intRow,cI x0.Ticks,cI x0.Parse,cI x0.Word,cI x0.Drops,cI r1])]⟩) (fun v => impl_Bridge_turn_L2 n v.1 r2 x0 v.2.1 v.2.2 = some o6) (fun v => v.1) (n,(0,x0.F)) eo6 (St.sub_of [26,25,2,0] [0] kr) ?_
  rintro ⟨mo6,y3,y4⟩ H
  have H : impl_Bridge_turn_L2 n mo6 r2 x0 y3 y4 = some o6 := H
  obtain _ | mo6 := mo6
  ·cases (show (none : Option _) = some o6 from H)
  rw [impl_Bridge_turn_L2] at H
  refine tG tOk 1 234881029 1 kr kr ?_
  refine tS ?_
  obtain ⟨h1,H⟩ | ⟨h1,H⟩ := bC H
  ·refine tF h1 kr ?_
   refine Tr.exit ?_
   refine And.intro (fun _ => ?_) (fun h => absurd rfl h)
   obtain rfl := si H
   have H := Ho6
   dsimp only at H
   exact jn y4 H (sB_ [0] [0] kr)
  refine tT h1 kr ?_
  refine tK ?_
  refine tS ?_
  refine tB ?_
  refine tG tOk 2 100663309 1 kr kr ?_
  refine rU tOk 2 kr ?_
  obtain ⟨r7,er7,H⟩ := bind_some H
  refine lV tOk [.rd,.rd] [] (impl_hasPort n r2 y3 r7 er7) kr kr kr kr (.inl rfl) ?_
  refine uD tOk 1 4395630605 1 kr kr ?_
  obtain ⟨h2,H⟩ | ⟨h2,H⟩ := bC H
  ·refine tF h2 kr ?_
   refine tK ?_
   refine tE tOk 2 100663301 1 kr kr ?_
   exact jn (mo6,((IntKind.wrap .i64 (y3 + 1)),y4)) H (sM mo6 [26,25,2,0] [0] kr)
  refine tT h2 kr ?_
  refine Tr.at ?_
  refine lU tOk 6 kr ?_
  obtain ⟨r8,er8,H⟩ := bind_some H
  refine lV tOk [.rd,.rd] [.box 0] (impl_FlushPort n y4 y3 r8 er8) kr kr kr kr (.inr (rets_cons (mine_cons (mine_sl (mine_map Fent.row_mine _)) mine_nil) rets_nil)) ?_
  refine uD tOk 3 100663301 1 kr kr ?_
  refine tE tOk 2 100663301 1 kr kr ?_
  exact jn (mo6,((IntKind.wrap .i64 (y3 + 1)),r8)) H (sM mo6 [26,25,2,0] [0] kr)
 rintro y5 H
 have H : (impl_Bridge_turn_J1 n r1 x0 y5) = some r := H
 unfold impl_Bridge_turn_J1 at H
 obtain rfl := si H
 exact Fin.ofY _ [] [] _ [] _ [(0,[cI x0.Id,cS x0.Name,cL 8 x0.Ports Pt.row,cL 5 y5 Fent.row,cL 3 x0.V.Rows Vrow.row,cL 1 x0.V.Pvid intRow,cI x0.Ticks,cI x0.Parse,cI x0.Word,cI x0.Drops,cI r1])] kr rfl rfl rfl kr kr kr kr rfl rfl rfl
def impl_LinkSetF (n : Nat) (x0 : Bridge) (x1 : Int) (x2 : Bool) : Option (Bridge) :=
  ((impl_copyBridgeF n x0).bind fun r1 => ((impl_isPortF n x0 x1).bind fun r2 => (bif r2 then ((idx x0.Ports x1).bind fun v3 => ((idx r1.Ports x1).bind fun v4 => ((impl_Bridge_turnF n (⟨r1.Id,r1.Name,(r1.Ports.set (x1.toNat) (⟨x2,v3.Cost,false,(⟨0,0,0,0,0⟩ : Vec)⟩ : Pt)),r1.F,r1.V,r1.Ticks,r1.Parse,r1.Word,r1.Drops,r1.Vers⟩ : Bridge)).bind fun r5 => (some r5)))) else (some r1))))
noncomputable abbrev G82 (k : Nat) := Rg Tryz.f82 k
noncomputable abbrev D82 (k : Nat) := Rd Tryz.f82 k
theorem impl_LinkSet (n : Nat) (x0 : Bridge) (x1 : Int) (x2 : Bool) (r : Bridge) (H : impl_LinkSetF n x0 x1 x2 = some r) : LCall Tryz.prog 82 [.val true (CV.frzRow (Bridge.row x0)),.val false [.lit (.int .i64 x1)],.val false [.lit (.bool x2)]] [.val true (Bridge.row r)] [] := by
 refine LCall.of_body tOk Tryz.func82 rfl (c := (.seq (G82 0) (.seq (G82 1) (.seq (.seq (G82 2) (.cond (.tmp 12) (.seq (D82 3) (G82 4)) .skip)) (.seq (G82 5) .ret))))) kr (Nat.le_of_ble_eq_true kr) 0 (rs := [.cell 6 58]) rfl [] .nil [(true,(Bridge.row r))] [] [] fun cx => ?_
 show Tr _ _ _ ⟨27,0,[sV 0 (CV.frzRow (Bridge.row x0)),sI 1 x1,sB 2 x2],[]⟩ _
 unfold impl_LinkSetF at H
 refine tG tOk 2 78 72 kr kr ?_
 refine rU tOk 1 kr ?_
 obtain ⟨r1,er1,H⟩ := bind_some H
 refine lV tOk [.rd] [] (impl_copyBridge n x0 r1 er1) kr kr kr kr (.inl rfl) ?_
 refine uD tOk 2 206 200 kr kr ?_
 refine tS ?_
 refine rU tOk 2 kr ?_
 obtain ⟨r2,er2,H⟩ := bind_some H
 refine lV tOk [.rd,.rd] [] (impl_isPort n x0 x1 r2 er2) kr kr kr kr (.inl rfl) ?_
 refine lD 4302 200 kr ?_
 cases h1 : r2
 ·have H := bifF h1 H
  refine tf kr ?_
  refine tK ?_
  refine tG tOk 2 64 64 kr kr ?_
  exact te (by obtain rfl := si H; exact fO [(true,(Bridge.row r1))] kr rfl rfl)
 have H := bifT h1 H
 refine tt kr ?_
 obtain ⟨v3,ev3,H⟩ := bind_some H
 obtain ⟨v4,ev4,H⟩ := bind_some H
 refine Tr.draws mixed 13 kr ⟨27,0,[sA 7 7 11 0,sA 6 6 11 0],[(7,[cI r1.Id,cS r1.Name,cL 8 (r1.Ports.set (x1.toNat) (⟨x2,v3.Cost,false,(⟨0,0,0,0,0⟩ : Vec)⟩ : Pt)) Pt.row,cL 5 r1.F Fent.row,cL 3 r1.V.Rows Vrow.row,cL 1 r1.V.Pvid intRow,cI r1.Ticks,cI r1.Parse,cI r1.Word,cI r1.Drops,cI r1.Vers]),(6,[cI 0,cS (⟨#[]⟩ : ByteArray),cL 8 ([] : List Pt) Pt.row,cL 5 ([] : List Fent) Fent.row,cL 3 ([] : List Vrow) Vrow.row,cL 1 ([] : List Int) intRow,cI 0,cI 0,cI 0,cI 0,cI 0])]⟩ (fun cx => ?_) ?_
 ·refine aU tOk [(0,[]),(1,[12]),(2,[]),(3,[]),(4,[]),(5,[10,12]),(6,[])] 6 [⟨[10,12],52,17,18⟩,⟨[12],52,13,14⟩] [6,5,4,3,2,1,0] rfl kr (fun cx => ?_)
  refine aI tOk 7 52 0 18 19 20 none ⟨(.box 3),[(0,0)],2,false,8,(CV.frzEs (x0.Ports.map Pt.row))⟩ x1 (Pt.row v3) _ kr kr kr kr kr kr rfl (idx_isF ev3) rfl (fun cx => ?_)
  refine aU tOk [(8,[]),(9,[])] 3 [⟨[10,12],52,17,18⟩,⟨[12],52,13,14⟩] [9,8,7,6,5,4,3,2,1,0] rfl kr (fun cx => ?_)
  refine AT.big1 tOk 10 kr kr ?_
  refine lU tOk 1 kr ?_
  refine lF kr kr kr ?_
  refine aO tOk 11 52 0 14 15 24 none ⟨(.box 7),[(0,0)],2,true,8,(r1.Ports.map Pt.row)⟩ x1 (x1.toNat) (Pt.row v4) _ kr kr kr kr kr kr rfl kr (idx_isE ev4) rfl rfl (fun cx => ?_)
  refine AT.big1 tOk 12 kr kr ?_
  refine LAt.storeB tOk (t := 182) (ty := 0) (ad := (.tmp 24)) (x := (.tmp 23)) (g := none) (tI 182) true [cB x2,cI v3.Cost,cB false,cI 0,cI 0,cI 0,cI 0,cI 0] 7 2 (x1.toNat) 8 0 8 r1.Ports Pt.row v4 (⟨x2,v3.Cost,false,(⟨0,0,0,0,0⟩ : Vec)⟩ : Pt) kr kr kr kr kr kr kr kr (idx_get ev4).2 kr kr kr kr ?_
  refine lF kr kr kr ?_
  exact AT.done [7,6] [7,6] _ kr kr rfl
 refine Tr.at ?_
 obtain ⟨r5,er5,H⟩ := bind_some H
 refine LAt.callL tOk [.lend] (f := 183) (av := #[.tmp 7]) (ats := #[58]) (d := (some 25)) (ty := 0) (g := none) kr kr kr [] (impl_Bridge_turn n (⟨r1.Id,r1.Name,(r1.Ports.set (x1.toNat) (⟨x2,v3.Cost,false,(⟨0,0,0,0,0⟩ : Vec)⟩ : Pt)),r1.F,r1.V,r1.Ticks,r1.Parse,r1.Word,r1.Drops,r1.Vers⟩ : Bridge) r5 er5) kr (.inl rfl) ?_
 refine lD 192 192 kr ?_
 refine tG tOk 2 64 64 kr kr ?_
 exact te (by obtain rfl := si H; exact fO [(true,(Bridge.row r5))] kr rfl rfl)
def impl_ends_J1 (n : Nat) : Option (Bool) :=
  (some false)
def impl_ends_L2 (n : Nat) : Nat → (List Link) → Int → Int → Int → Option ((Unit) ⊕ (Bool))
  | 0,_,_,_,_ => none
  | mo2 + 1,x0,x1,x2,y1 => (bif (decide (y1 < (x0.length : Int))) then ((idx x0 y1).bind fun v3 => (bif (v3.A == x1) then (bif (v3.P == x2) then (some (Sum.inr true)) else (bif (v3.B == x1) then (bif (v3.Q == x2) then (some (Sum.inr true)) else (impl_ends_L2 n mo2 x0 x1 x2 (IntKind.wrap .i64 (y1 + 1)))) else (impl_ends_L2 n mo2 x0 x1 x2 (IntKind.wrap .i64 (y1 + 1))))) else (bif (v3.B == x1) then (bif (v3.Q == x2) then (some (Sum.inr true)) else (impl_ends_L2 n mo2 x0 x1 x2 (IntKind.wrap .i64 (y1 + 1)))) else (impl_ends_L2 n mo2 x0 x1 x2 (IntKind.wrap .i64 (y1 + 1)))))) else (some (Sum.inl ())))
def impl_endsF (n : Nat) (x0 : (List Link)) (x1 : Int) (x2 : Int) : Option (Bool) :=
  ((impl_ends_L2 n n x0 x1 x2 0).bind fun o => match o with | .inl _ => (impl_ends_J1 n) | .inr r => some r)
noncomputable abbrev G168 (k : Nat) := Rg Tryz.f168 k
theorem impl_ends (n : Nat) (x0 : (List Link)) (x1 : Int) (x2 : Int) (r : Bool) (H : impl_endsF n x0 x1 x2 = some r) : LCall Tryz.prog 168 [.val false [.sl false 4 (CV.frzEs (x0.map Link.row))],.val false [.lit (.int .i64 x1)],.val false [.lit (.int .i64 x2)]] [.val false [.lit (.bool r)]] [] := by
 refine LCall.of_body tOk Tryz.func168 rfl (c := (.seq (G168 0) (.seq (.seq (G168 1) (.block 0 (.loop (.seq (G168 2) (.seq (.cond (.tmp 12) .skip (.exit 0)) (.seq (.block 1 (.seq (G168 3) (.seq (G168 4) (.cond (.tmp 36) (.seq (G168 5) .ret) .skip)))) (G168 6))))))) (.seq (G168 7) .ret)))) kr (Nat.le_of_ble_eq_true kr) 0 (rs := [.tmp 6]) rfl [] .nil [(false,[.lit (.bool r)])] [] [] fun cx => ?_
 show Tr _ _ _ ⟨38,0,[sC 0 (cF 4 x0 Link.row),sI 1 x1,sI 2 x2],[]⟩ _
 unfold impl_endsF at H
 refine tG tOk 1 7 0 kr kr ?_
 refine tS ?_
 refine rU tOk 1 kr ?_
 refine lL tOk 26 3 126 9 10 none ⟨(.slot 9),[],0,false,4,(CV.frzEs (x0.map Link.row))⟩ (x0).length _ kr kr kr kr kr (frz_len _ _) rfl ?_
 refine uD tOk 1 3590 0 kr kr ?_
 obtain ⟨o2,eo2,Ho2⟩ := bind_some H
 clear H
 refine Tr.mid (ι := Unit) (fun v => ⟨38,0,[],[]⟩) (fun v => impl_ends_J1 n = some r) ?_ ?_
 ·refine tB ?_
  refine Tr.loop (ι := Nat × (Int)) (fun v => ⟨38,0,[sI 11 v.2,sI 10 (x0.length : Int),sC 9 (cF 4 x0 Link.row),sI 1 x1,sI 2 x2],[]⟩) (fun v => impl_ends_L2 n v.1 x0 x1 x2 v.2 = some o2) (fun v => v.1) (n,0) eo2 (St.sub_of [11,10,9,1,2] [] kr) ?_
  rintro ⟨mo2,y1⟩ H
  have H : impl_ends_L2 n mo2 x0 x1 x2 y1 = some o2 := H
  obtain _ | mo2 := mo2
  ·cases (show (none : Option _) = some o2 from H)
  rw [impl_ends_L2] at H
  refine tG tOk 1 7686 0 kr kr ?_
  refine tS ?_
  obtain ⟨h1,H⟩ | ⟨h1,H⟩ := bC H
  ·refine tF h1 kr ?_
   refine Tr.exit ?_
   refine And.intro (fun _ => ?_) (fun h => absurd rfl h)
   obtain rfl := si H
   have H := Ho2
   dsimp only at H
   exact jn () H (sB_ [] [] kr)
  refine tT h1 kr ?_
  refine tK ?_
  refine tS ?_
  refine tB ?_
  refine tR ?_
  obtain ⟨v3,ev3,H⟩ := bind_some H
  refine lI tOk 26 0 9 11 13 none ⟨(.slot 9),[],0,false,4,(CV.frzEs (x0.map Link.row))⟩ y1 (Link.row v3) _ kr kr kr kr rfl (idx_isF ev3) rfl ?_
  refine uD tOk 3 3846 256 kr kr ?_
  refine rU tOk 5 kr ?_
  refine lT ⟨38,0,[sB 19 (v3.A == x1),sB 18 (v3.A == x1),sI 17 x1,sI 16 v3.A,sA 15 8 4 0,sA 8 8 4 0,sI 11 y1,sI 10 (x0.length : Int),sC 9 (cF 4 x0 Link.row),sI 1 x1,sI 2 x2],[(8,(Link.row v3))]⟩ kr ?_
  cases h2 : (v3.A == x1)
  ·have H := bifF h2 H
   refine lU tOk 11 kr ?_
   refine lT ⟨38,0,[sB 30 (v3.B == x1),sB 29 (v3.B == x1),sI 28 x1,sI 27 v3.B,sA 26 8 4 2,sB 25 false,sB 24 false,(23,.tup []),(22,.tup []),(21,.tup []),(20,.tup []),sB 19 false,sB 18 false,sI 17 x1,sI 16 v3.A,sA 15 8 4 0,sA 8 8 4 0,sI 11 y1,sI 10 (x0.length : Int),sC 9 (cF 4 x0 Link.row),sI 1 x1,sI 2 x2],[(8,(Link.row v3))]⟩ kr ?_
   cases h3 : (v3.B == x1)
   ·have H := bifF h3 H
    refine uD tOk 6 68719480326 0 kr kr ?_
    refine tf kr ?_
    refine tK ?_
    refine tE tOk 2 3590 0 kr kr ?_
    exact jn (mo2,(IntKind.wrap .i64 (y1 + 1))) H (sM mo2 [11,10,9,1,2] [] kr)
   have H := bifT h3 H
   refine uD tOk 6 68719480326 0 kr kr ?_
   obtain ⟨h4,H⟩ | ⟨h4,H⟩ := bC H
   ·refine tF h4 kr ?_
    refine tK ?_
    refine tE tOk 2 3590 0 kr kr ?_
    exact jn (mo2,(IntKind.wrap .i64 (y1 + 1))) H (sM mo2 [11,10,9,1,2] [] kr)
   refine tT h4 kr ?_
   refine tG tOk 1 64 0 kr kr ?_
   refine te ?_
   obtain rfl := si H
   have H := Ho2
   dsimp only at H
   obtain rfl := si H
   exact fO [(false,[cB true])] kr rfl rfl
  have H := bifT h2 H
  refine lU tOk 6 kr ?_
  refine lT ⟨38,0,[sB 25 (v3.P == x2),sB 24 (v3.P == x2),sB 23 (v3.P == x2),sI 22 x2,sI 21 v3.P,sA 20 8 4 1,sB 19 true,sB 18 true,sI 17 x1,sI 16 v3.A,sA 15 8 4 0,sA 8 8 4 0,sI 11 y1,sI 10 (x0.length : Int),sC 9 (cF 4 x0 Link.row),sI 1 x1,sI 2 x2],[(8,(Link.row v3))]⟩ kr ?_
  cases h5 : (v3.P == x2)
  ·have H := bifF h5 H
   refine lU tOk 5 kr ?_
   refine lT ⟨38,0,[sB 30 (v3.B == x1),sB 29 (v3.B == x1),sI 28 x1,sI 27 v3.B,sA 26 8 4 2,sB 25 false,sB 24 false,sB 23 false,sI 22 x2,sI 21 v3.P,sA 20 8 4 1,sB 19 true,sB 18 true,sI 17 x1,sI 16 v3.A,sA 15 8 4 0,sA 8 8 4 0,sI 11 y1,sI 10 (x0.length : Int),sC 9 (cF 4 x0 Link.row),sI 1 x1,sI 2 x2],[(8,(Link.row v3))]⟩ kr ?_
   cases h6 : (v3.B == x1)
   ·have H := bifF h6 H
    refine uD tOk 6 68719480326 0 kr kr ?_
    refine tf kr ?_
    refine tK ?_
    refine tE tOk 2 3590 0 kr kr ?_
    exact jn (mo2,(IntKind.wrap .i64 (y1 + 1))) H (sM mo2 [11,10,9,1,2] [] kr)
   have H := bifT h6 H
   refine uD tOk 6 68719480326 0 kr kr ?_
   obtain ⟨h7,H⟩ | ⟨h7,H⟩ := bC H
   ·refine tF h7 kr ?_
    refine tK ?_
    refine tE tOk 2 3590 0 kr kr ?_
    exact jn (mo2,(IntKind.wrap .i64 (y1 + 1))) H (sM mo2 [11,10,9,1,2] [] kr)
   refine tT h7 kr ?_
   refine tG tOk 1 64 0 kr kr ?_
   refine te ?_
   obtain rfl := si H
   have H := Ho2
   dsimp only at H
   obtain rfl := si H
   exact fO [(false,[cB true])] kr rfl rfl
  have H := bifT h5 H
  refine uD tOk 11 68719480326 0 kr kr ?_
  refine tt kr ?_
  refine tG tOk 1 64 0 kr kr ?_
  refine te ?_
  obtain rfl := si H
  have H := Ho2
  dsimp only at H
  obtain rfl := si H
  exact fO [(false,[cB true])] kr rfl rfl
 rintro _ H
 have H : (impl_ends_J1 n) = some r := H
 unfold impl_ends_J1 at H
 refine tG tOk 1 64 0 kr kr ?_
 exact te (by obtain rfl := si H; exact fO [(false,[cB false])] kr rfl rfl)
def impl_portAtF (n : Nat) (x0 : Net) (x1 : Int) (x2 : Int) : Option (Pt × Bool) :=
  ((impl_inF n x1 0 (IntKind.wrap .i64 ((x0.Bridges.length : Int) - 1))).bind fun r1 => (bif (!r1) then (some ((⟨false,0,false,(⟨0,0,0,0,0⟩ : Vec)⟩ : Pt),false)) else ((idx x0.Bridges x1).bind fun v2 => ((impl_inF n x2 0 (IntKind.wrap .i64 ((v2.Ports.length : Int) - 1))).bind fun r3 => (bif (!r3) then (some ((⟨false,0,false,(⟨0,0,0,0,0⟩ : Vec)⟩ : Pt),false)) else ((idx x0.Bridges x1).bind fun v4 => ((idx v4.Ports x2).bind fun v5 => (some (v5,true)))))))))
noncomputable abbrev G178 (k : Nat) := Rg Tryz.f178 k
theorem impl_portAt (n : Nat) (x0 : Net) (x1 : Int) (x2 : Int) (r : Pt × Bool) (H : impl_portAtF n x0 x1 x2 = some r) : LCall Tryz.prog 178 [.val true (CV.frzRow (Net.row x0)),.val false [.lit (.int .i64 x1)],.val false [.lit (.int .i64 x2)]] [.val true (Pt.row r.1),.val false [.lit (.bool r.2)]] [] := by
 refine LCall.of_body tOk Tryz.func178 rfl (c := (.seq (G178 0) (.seq (.seq (G178 1) (.cond (.tmp 27) (.seq (G178 2) .ret) .skip)) (.seq (G178 3) .ret)))) kr (Nat.le_of_ble_eq_true kr) 0 (rs := [.cell 6 182,.tmp 7]) rfl [] .nil [(true,(Pt.row r.1)),(false,[.lit (.bool r.2)])] [] [] fun cx => ?_
 show Tr _ _ _ ⟨38,0,[sV 0 (CV.frzRow (Net.row x0)),sI 1 x1,sI 2 x2],[]⟩ _
 unfold impl_portAtF at H
 refine tG tOk 3 78 72 kr kr ?_
 refine tS ?_
 refine rU tOk 3 kr ?_
 refine lL tOk 25 3 58 10 11 none ⟨(.slot 10),[],0,false,11,(CV.frzEs (x0.Bridges.map Bridge.row))⟩ (x0.Bridges).length _ kr kr kr kr kr (frz_len _ _) rfl ?_
 refine lU tOk 1 kr ?_
 obtain ⟨r1,er1,H⟩ := bind_some H
 refine lV tOk [.rd,.rd,.rd] [] (impl_in n x1 0 (IntKind.wrap .i64 ((x0.Bridges.length : Int) - 1)) r1 er1) kr kr kr kr (.inl rfl) ?_
 refine lU tOk 2 kr ?_
 refine lT ⟨38,0,[sB 15 (!r1),sB 14 (!r1),sB 13 r1,sI 12 (IntKind.wrap .i64 ((x0.Bridges.length : Int) - 1)),sI 11 (x0.Bridges.length : Int),sC 10 (cF 11 x0.Bridges Bridge.row),sA 9 3 3 0,sI 8 x1,sA 6 6 8 0,sA 3 3 3 0,sI 1 x1,sI 2 x2],[(6,[cB false,cI 0,cB false,cI 0,cI 0,cI 0,cI 0,cI 0]),(3,(CV.frzRow (Net.row x0)))]⟩ kr ?_
 cases h1 : (!r1)
 ·have H := bifF h1 H
  refine lU tOk 4 kr ?_
  obtain ⟨v2,ev2,H⟩ := bind_some H
  refine lI tOk 25 0 18 19 20 (some (7,false)) ⟨(.slot 18),[],0,false,11,(CV.frzEs (x0.Bridges.map Bridge.row))⟩ x1 (CV.frzRow (Bridge.row v2)) _ kr kr kr kr rfl (idx_isF ev2) rfl ?_
  refine lU tOk 2 kr ?_
  refine lL tOk 52 3 182 22 23 (some (7,false)) ⟨(.slot 22),[],0,false,8,(CV.frzEs (v2.Ports.map Pt.row))⟩ (v2.Ports).length _ kr kr kr kr kr (frz_len _ _) rfl ?_
  refine lU tOk 1 kr ?_
  obtain ⟨r3,er3,H⟩ := bind_some H
  refine lV tOk [.rd,.rd,.rd] [] (impl_in n x2 0 (IntKind.wrap .i64 ((v2.Ports.length : Int) - 1)) r3 er3) kr kr kr kr (.inl rfl) ?_
  refine uD tOk 2 134217806 72 kr kr ?_
  obtain ⟨h2,H⟩ | ⟨h2,H⟩ := bC H
  ·refine tF h2 kr ?_
   refine tK ?_
   refine rU tOk 3 kr ?_
   obtain ⟨v4,ev4,H⟩ := bind_some H
   refine lI tOk 25 0 30 31 32 none ⟨(.slot 30),[],0,false,11,(CV.frzEs (x0.Bridges.map Bridge.row))⟩ x1 (CV.frzRow (Bridge.row v4)) _ kr kr kr kr rfl (idx_isF ev4) rfl ?_
   refine lU tOk 3 kr ?_
   obtain ⟨v5,ev5,H⟩ := bind_some H
   refine lI tOk 52 0 34 35 36 none ⟨(.slot 34),[],0,false,8,(CV.frzEs (v4.Ports.map Pt.row))⟩ x2 (Pt.row v5) _ kr kr kr kr rfl (idx_isF ev5) rfl ?_
   refine uD tOk 3 192 64 kr kr ?_
   exact te (by obtain rfl := si H; exact fO [(true,(Pt.row v5)),(false,[cB true])] kr rfl rfl)
  refine tT h2 kr ?_
  refine tG tOk 3 192 64 kr kr ?_
  exact te (by obtain rfl := si H; exact fO [(true,[cB false,cI 0,cB false,cI 0,cI 0,cI 0,cI 0,cI 0]),(false,[cB false])] kr rfl rfl)
 have H := bifT h1 H
 refine uD tOk 12 134217806 72 kr kr ?_
 refine tt kr ?_
 refine tG tOk 3 192 64 kr kr ?_
 exact te (by obtain rfl := si H; exact fO [(true,[cB false,cI 0,cB false,cI 0,cI 0,cI 0,cI 0,cI 0]),(false,[cB false])] kr rfl rfl)
def impl_linksOk_J1 (n : Nat) : Option (Bool) :=
  (some true)
def impl_linksOk_L2 (n : Nat) : Nat → Net → Int → Option ((Unit) ⊕ (Bool))
  | 0,_,_ => none
  | mo2 + 1,x0,y1 => (bif (decide (y1 < (x0.Links.length : Int))) then ((idx x0.Links y1).bind fun v3 => ((impl_portAtF n x0 v3.A v3.P).bind fun r4 => ((impl_portAtF n x0 v3.B v3.Q).bind fun r5 => (bif (decide (y1 ≥ 9)) then (some (Sum.inr false)) else (bif (!r4.2) then (some (Sum.inr false)) else (bif (!r5.2) then (some (Sum.inr false)) else (bif (v3.A == v3.B) then (some (Sum.inr false)) else (bif (!(r4.1.Up == r5.1.Up)) then (some (Sum.inr false)) else (bif (decide ((0 : Int) ≤ 0) && (decide ((0 : Int) ≤ y1) && decide ((y1 : Int) ≤ (x0.Links.length : Int)))) then ((impl_endsF n ((x0.Links.drop ((0 : Int)).toNat).take (((y1 : Int)).toNat - ((0 : Int)).toNat)) v3.A v3.P).bind fun r7 => (bif r7 then (some (Sum.inr false)) else (bif (decide ((0 : Int) ≤ 0) && (decide ((0 : Int) ≤ y1) && decide ((y1 : Int) ≤ (x0.Links.length : Int)))) then ((impl_endsF n ((x0.Links.drop ((0 : Int)).toNat).take (((y1 : Int)).toNat - ((0 : Int)).toNat)) v3.B v3.Q).bind fun r9 => (bif r9 then (some (Sum.inr false)) else (impl_linksOk_L2 n mo2 x0 (IntKind.wrap .i64 (y1 + 1))))) else none))) else none))))))))) else (some (Sum.inl ())))
def impl_linksOkF (n : Nat) (x0 : Net) : Option (Bool) :=
  ((impl_linksOk_L2 n n x0 0).bind fun o => match o with | .inl _ => (impl_linksOk_J1 n) | .inr r => some r)
noncomputable abbrev G170 (k : Nat) := Rg Tryz.f170 k
noncomputable abbrev D170 (k : Nat) := Rd Tryz.f170 k
theorem impl_linksOk (n : Nat) (x0 : Net) (r : Bool) (H : impl_linksOkF n x0 = some r) : LCall Tryz.prog 170 [.val true (CV.frzRow (Net.row x0))] [.val false [.lit (.bool r)]] [] := by
 refine LCall.of_body tOk Tryz.func170 rfl (c := (.seq (G170 0) (.seq (.seq (G170 1) (.block 0 (.loop (.seq (G170 2) (.seq (.cond (.tmp 13) .skip (.exit 0)) (.seq (.block 1 (.seq (G170 3) (.seq (G170 4) (.seq (G170 5) (.seq (.seq (G170 6) (.cond (.tmp 58) (.seq (G170 7) .ret) .skip)) (.seq (D170 8) (.cond (.tmp 78) (.seq (G170 9) .ret) .skip))))))) (G170 10))))))) (.seq (G170 11) .ret)))) kr (Nat.le_of_ble_eq_true kr) 0 (rs := [.tmp 2]) rfl [] .nil [(false,[.lit (.bool r)])] [] [] fun cx => ?_
 show Tr _ _ _ ⟨80,0,[sV 0 (CV.frzRow (Net.row x0))],[]⟩ _
 unfold impl_linksOkF at H
 refine tG tOk 2 2 2 kr kr ?_
 refine tS ?_
 refine rU tOk 2 kr ?_
 refine lL tOk 26 3 126 10 11 none ⟨(.slot 10),[],0,false,4,(CV.frzEs (x0.Links.map Link.row))⟩ (x0.Links).length _ kr kr kr kr kr (frz_len _ _) rfl ?_
 refine uD tOk 1 7170 2 kr kr ?_
 obtain ⟨o2,eo2,Ho2⟩ := bind_some H
 clear H
 refine Tr.mid (ι := Unit) (fun v => ⟨80,0,[],[]⟩) (fun v => impl_linksOk_J1 n = some r) ?_ ?_
 ·refine tB ?_
  refine Tr.loop (ι := Nat × (Int)) (fun v => ⟨80,0,[sI 12 v.2,sI 11 (x0.Links.length : Int),sC 10 (cF 4 x0.Links Link.row),sA 1 1 3 0],[(1,(CV.frzRow (Net.row x0)))]⟩) (fun v => impl_linksOk_L2 n v.1 x0 v.2 = some o2) (fun v => v.1) (n,0) eo2 (St.sub_of [12,11,10,1] [1] kr) ?_
  rintro ⟨mo2,y1⟩ H
  have H : impl_linksOk_L2 n mo2 x0 y1 = some o2 := H
  obtain _ | mo2 := mo2
  ·cases (show (none : Option _) = some o2 from H)
  rw [impl_linksOk_L2] at H
  refine tG tOk 1 15362 2 kr kr ?_
  refine tS ?_
  obtain ⟨h1,H⟩ | ⟨h1,H⟩ := bC H
  ·refine tF h1 kr ?_
   refine Tr.exit ?_
   refine And.intro (fun _ => ?_) (fun h => absurd rfl h)
   obtain rfl := si H
   have H := Ho2
   dsimp only at H
   exact jn () H (sB_ [] [] kr)
  refine tT h1 kr ?_
  refine tK ?_
  refine tS ?_
  refine tB ?_
  refine rU tOk 1 kr ?_
  obtain ⟨v3,ev3,H⟩ := bind_some H
  refine lI tOk 26 0 10 12 15 none ⟨(.slot 10),[],0,false,4,(CV.frzEs (x0.Links.map Link.row))⟩ y1 (Link.row v3) _ kr kr kr kr rfl (idx_isF ev3) rfl ?_
  refine uD tOk 4 7194 18 kr kr ?_
  refine rU tOk 5 kr ?_
  obtain ⟨r4,er4,H⟩ := bind_some H
  refine lV tOk [.rd,.rd,.rd] [] (impl_portAt n x0 v3.A v3.P r4 er4) kr kr kr kr (.inl rfl) ?_
  refine LAt.movT tOk (ty := 202) (t := 23) (d := 17) (g := none) [(true,(Pt.row r4.1)),(false,[cB r4.2])] _ kr (.inl rfl) kr kr kr kr rfl ?_
  refine uD tOk 5 7290 50 kr kr ?_
  refine rU tOk 5 kr ?_
  obtain ⟨r5,er5,H⟩ := bind_some H
  refine lV tOk [.rd,.rd,.rd] [] (impl_portAt n x0 v3.B v3.Q r5 er5) kr kr kr kr (.inl rfl) ?_
  refine LAt.movT tOk (ty := 202) (t := 32) (d := 26) (g := none) [(true,(Pt.row r5.1)),(false,[cB r5.2])] _ kr (.inl rfl) kr kr kr kr rfl ?_
  refine uD tOk 5 7674 178 kr kr ?_
  refine tS ?_
  refine rU tOk 3 kr ?_
  refine lT ⟨80,0,[sB 37 (decide (y1 ≥ 9)),sB 36 (decide (y1 ≥ 9)),sI 35 y1,sB 8 r5.2,sA 7 7 8 0,sB 6 r4.2,sA 5 5 8 0,sI 3 y1,sA 4 4 4 0,sI 12 y1,sI 11 (x0.Links.length : Int),sC 10 (cF 4 x0.Links Link.row),sA 1 1 3 0],[(7,(Pt.row r5.1)),(5,(Pt.row r4.1)),(4,(Link.row v3)),(1,(CV.frzRow (Net.row x0)))]⟩ kr ?_
  cases h2 : (decide (y1 ≥ 9))
  ·have H := bifF h2 H
   refine lU tOk 4 kr ?_
   refine lT ⟨80,0,[sB 41 (!r4.2),sB 40 (!r4.2),sB 39 (!r4.2),sB 38 r4.2,sB 37 false,sB 36 false,sI 35 y1,sB 8 r5.2,sA 7 7 8 0,sB 6 r4.2,sA 5 5 8 0,sI 3 y1,sA 4 4 4 0,sI 12 y1,sI 11 (x0.Links.length : Int),sC 10 (cF 4 x0.Links Link.row),sA 1 1 3 0],[(7,(Pt.row r5.1)),(5,(Pt.row r4.1)),(4,(Link.row v3)),(1,(CV.frzRow (Net.row x0)))]⟩ kr ?_
   cases h3 : (!r4.2)
   ·have H := bifF h3 H
    refine lU tOk 4 kr ?_
    refine lT ⟨80,0,[sB 45 (!r5.2),sB 44 (!r5.2),sB 43 (!r5.2),sB 42 r5.2,sB 41 false,sB 40 false,sB 39 false,sB 38 r4.2,sB 37 false,sB 36 false,sI 35 y1,sB 8 r5.2,sA 7 7 8 0,sB 6 r4.2,sA 5 5 8 0,sI 3 y1,sA 4 4 4 0,sI 12 y1,sI 11 (x0.Links.length : Int),sC 10 (cF 4 x0.Links Link.row),sA 1 1 3 0],[(7,(Pt.row r5.1)),(5,(Pt.row r4.1)),(4,(Link.row v3)),(1,(CV.frzRow (Net.row x0)))]⟩ kr ?_
    cases h4 : (!r5.2)
    ·have H := bifF h4 H
     refine lU tOk 7 kr ?_
     refine lT ⟨80,0,[sB 52 (v3.A == v3.B),sB 51 (v3.A == v3.B),sB 50 (v3.A == v3.B),sI 49 v3.B,sA 48 4 4 2,sI 47 v3.A,sA 46 4 4 0,sB 45 false,sB 44 false,sB 43 false,sB 42 r5.2,sB 41 false,sB 40 false,sB 39 false,sB 38 r4.2,sB 37 false,sB 36 false,sI 35 y1,sB 8 r5.2,sA 7 7 8 0,sB 6 r4.2,sA 5 5 8 0,sI 3 y1,sA 4 4 4 0,sI 12 y1,sI 11 (x0.Links.length : Int),sC 10 (cF 4 x0.Links Link.row),sA 1 1 3 0],[(7,(Pt.row r5.1)),(5,(Pt.row r4.1)),(4,(Link.row v3)),(1,(CV.frzRow (Net.row x0)))]⟩ kr ?_
     cases h5 : (v3.A == v3.B)
     ·have H := bifF h5 H
      refine uD tOk 6 0x400000000001c1a 18 kr kr ?_
      obtain ⟨h6,H⟩ | ⟨h6,H⟩ := bC H
      ·refine tF h6 kr ?_
       refine tK ?_
       obtain ⟨hg6,H⟩ := guard_some H
       obtain ⟨r7,er7,H⟩ := bind_some H
       refine tO ⟨80,0,[sB 58 (!(r4.1.Up == r5.1.Up)),sI 3 y1,sA 4 4 4 0,sI 12 y1,sI 11 (x0.Links.length : Int),sC 10 (cF 4 x0.Links Link.row),sA 1 1 3 0],[(4,(Link.row v3)),(1,(CV.frzRow (Net.row x0)))]⟩ kr ?_
       cases h7 : r7
       ·have H := bifF h7 H
        obtain ⟨hg8,H⟩ := guard_some H
        obtain ⟨r9,er9,H⟩ := bind_some H
        refine Tr.draws mixed 20 kr ⟨80,0,[sB 78 r9,sI 12 y1,sI 11 (x0.Links.length : Int),sC 10 (cF 4 x0.Links Link.row),sA 1 1 3 0],[(1,(CV.frzRow (Net.row x0)))]⟩ (fun cx => ?_) ?_
        ·refine aU tOk [(0,[]),(1,[3,8,13,18]),(2,[]),(4,[]),(5,[8,13,18]),(6,[]),(7,[8,13,18])] 13 [⟨[8,13,18],3,65,66⟩,⟨[8,13,18],3,63,64⟩,⟨[3,8,13,18],26,59,60⟩] [7,6,5,4,2,1,0] rfl kr (fun cx => ?_)
         refine AT.big1 tOk 3 kr kr ?_
         refine LAt.cutG tOk (t := 26) (ty := 26) (e := 126) (x := (.tmp 60)) (lo := none) (hi := (some (.tmp 61))) (d := 62) (g := none) (tI 126) Link.row x0.Links ⟨(.box 1),[(0,0)],1,false,4,(CV.frzEs (x0.Links.map Link.row))⟩ 0 y1 kr kr kr kr kr kr rfl kr rfl kr kr hg6 ?_
         refine lF kr kr kr ?_
         refine AT.big1 tOk 8 kr kr ?_
         refine lV tOk [.rd,.rd,.rd] [] (impl_ends n ((x0.Links.drop ((0 : Int)).toNat).take (((y1 : Int)).toNat - ((0 : Int)).toNat)) v3.A v3.P r7 er7) kr kr kr kr (.inl rfl) ?_
         refine lF kr kr kr ?_
         refine aU tOk [(9,[])] 10 [⟨[8,13,18],3,65,66⟩,⟨[8,13,18],3,63,64⟩,⟨[3,8,13,18],26,59,60⟩] [9,8,3,7,6,5,4,2,1,0] rfl kr (fun cx => ?_)
         refine aT ⟨80,0,[sB 68 r7,sB 67 r7,sC 62 (cF 4 ((x0.Links.drop ((0 : Int)).toNat).take (((y1 : Int)).toNat - ((0 : Int)).toNat)) Link.row),sI 66 v3.P,sA 65 4 4 1,sI 64 v3.A,sA 63 4 4 0,sI 61 y1,sR 60 1 3 1 1 false,sA 59 1 3 1,sB 58 (!(r4.1.Up == r5.1.Up)),sI 3 y1,sA 4 4 4 0,sI 12 y1,sI 11 (x0.Links.length : Int),sC 10 (cF 4 x0.Links Link.row),sA 1 1 3 0],[(4,(Link.row v3)),(1,(CV.frzRow (Net.row x0)))]⟩ kr ?_
         rw [h7]
         refine aU tOk [(10,[]),(11,[13,18]),(12,[]),(14,[]),(15,[18]),(16,[]),(17,[18])] 3 [⟨[18],3,75,76⟩,⟨[18],3,73,74⟩,⟨[13,18],26,69,70⟩,⟨[8,13,18],3,65,66⟩,⟨[8,13,18],3,63,64⟩,⟨[3,8,13,18],26,59,60⟩] [17,16,15,14,12,11,10,9,8,3,7,6,5,4,2,1,0] rfl kr (fun cx => ?_)
         refine AT.big1 tOk 13 kr kr ?_
         refine LAt.cutG tOk (t := 26) (ty := 26) (e := 126) (x := (.tmp 70)) (lo := none) (hi := (some (.tmp 71))) (d := 72) (g := (some (9,false))) (tI 126) Link.row x0.Links ⟨(.box 1),[(0,0)],1,false,4,(CV.frzEs (x0.Links.map Link.row))⟩ 0 y1 kr kr kr kr kr kr rfl kr rfl kr kr hg8 ?_
         refine lF kr kr kr ?_
         refine AT.big1 tOk 18 kr kr ?_
         refine lV tOk [.rd,.rd,.rd] [] (impl_ends n ((x0.Links.drop ((0 : Int)).toNat).take (((y1 : Int)).toNat - ((0 : Int)).toNat)) v3.B v3.Q r9 er9) kr kr kr kr (.inl rfl) ?_
         refine lF kr kr kr ?_
         refine aU tOk [(19,[])] 0 [⟨[18],3,75,76⟩,⟨[18],3,73,74⟩,⟨[13,18],26,69,70⟩,⟨[8,13,18],3,65,66⟩,⟨[8,13,18],3,63,64⟩,⟨[3,8,13,18],26,59,60⟩] [19,18,13,17,16,15,14,12,11,10,9,8,3,7,6,5,4,2,1,0] rfl kr (fun cx => ?_)
         exact AT.done [78,12,11,10,1] [1] _ kr kr rfl
        cases h8 : r9
        ·have H := bifF h8 H
         refine tf kr ?_
         refine tK ?_
         refine tE tOk 2 7170 2 kr kr ?_
         exact jn (mo2,(IntKind.wrap .i64 (y1 + 1))) H (sM mo2 [12,11,10,1] [1] kr)
        have H := bifT h8 H
        refine tt kr ?_
        refine tG tOk 1 4 0 kr kr ?_
        refine te ?_
        obtain rfl := si H
        have H := Ho2
        dsimp only at H
        obtain rfl := si H
        exact fO [(false,[cB false])] kr rfl rfl
       have H := bifT h7 H
       refine Tr.draws mixed 20 kr ⟨80,0,[sB 78 true,sI 12 y1,sI 11 (x0.Links.length : Int),sC 10 (cF 4 x0.Links Link.row),sA 1 1 3 0],[(1,(CV.frzRow (Net.row x0)))]⟩ (fun cx => ?_) ?_
       ·refine aU tOk [(0,[]),(1,[3,8]),(2,[]),(4,[]),(5,[8]),(6,[]),(7,[8])] 13 [⟨[8],3,65,66⟩,⟨[8],3,63,64⟩,⟨[3,8],26,59,60⟩] [7,6,5,4,2,1,0] rfl kr (fun cx => ?_)
        refine AT.big1 tOk 3 kr kr ?_
        refine LAt.cutG tOk (t := 26) (ty := 26) (e := 126) (x := (.tmp 60)) (lo := none) (hi := (some (.tmp 61))) (d := 62) (g := none) (tI 126) Link.row x0.Links ⟨(.box 1),[(0,0)],1,false,4,(CV.frzEs (x0.Links.map Link.row))⟩ 0 y1 kr kr kr kr kr kr rfl kr rfl kr kr hg6 ?_
        refine lF kr kr kr ?_
        refine AT.big1 tOk 8 kr kr ?_
        refine lV tOk [.rd,.rd,.rd] [] (impl_ends n ((x0.Links.drop ((0 : Int)).toNat).take (((y1 : Int)).toNat - ((0 : Int)).toNat)) v3.A v3.P r7 er7) kr kr kr kr (.inl rfl) ?_
        refine lF kr kr kr ?_
        refine aU tOk [(9,[])] 10 [⟨[8],3,65,66⟩,⟨[8],3,63,64⟩,⟨[3,8],26,59,60⟩] [9,8,3,7,6,5,4,2,1,0] rfl kr (fun cx => ?_)
        refine aT ⟨80,0,[sB 68 r7,sB 67 r7,sC 62 (cF 4 ((x0.Links.drop ((0 : Int)).toNat).take (((y1 : Int)).toNat - ((0 : Int)).toNat)) Link.row),sI 66 v3.P,sA 65 4 4 1,sI 64 v3.A,sA 63 4 4 0,sI 61 y1,sR 60 1 3 1 1 false,sA 59 1 3 1,sB 58 (!(r4.1.Up == r5.1.Up)),sI 3 y1,sA 4 4 4 0,sI 12 y1,sI 11 (x0.Links.length : Int),sC 10 (cF 4 x0.Links Link.row),sA 1 1 3 0],[(4,(Link.row v3)),(1,(CV.frzRow (Net.row x0)))]⟩ kr ?_
        rw [h7]
        refine aU tOk [(10,[]),(11,[]),(12,[]),(13,[]),(14,[]),(15,[]),(16,[]),(17,[]),(18,[]),(19,[])] 0 [⟨[8],3,65,66⟩,⟨[8],3,63,64⟩,⟨[3,8],26,59,60⟩] [19,18,17,16,15,14,13,12,11,10,9,8,3,7,6,5,4,2,1,0] rfl kr (fun cx => ?_)
        exact AT.done [78,12,11,10,1] [1] _ kr kr rfl
       refine tt kr ?_
       refine tG tOk 1 4 0 kr kr ?_
       refine te ?_
       obtain rfl := si H
       have H := Ho2
       dsimp only at H
       obtain rfl := si H
       exact fO [(false,[cB false])] kr rfl rfl
      refine tT h6 kr ?_
      refine tG tOk 1 4 0 kr kr ?_
      refine te ?_
      obtain rfl := si H
      have H := Ho2
      dsimp only at H
      obtain rfl := si H
      exact fO [(false,[cB false])] kr rfl rfl
     have H := bifT h5 H
     refine uD tOk 6 0x400000000001c1a 18 kr kr ?_
     refine tt kr ?_
     refine tG tOk 1 4 0 kr kr ?_
     refine te ?_
     obtain rfl := si H
     have H := Ho2
     dsimp only at H
     obtain rfl := si H
     exact fO [(false,[cB false])] kr rfl rfl
    have H := bifT h4 H
    refine uD tOk 13 0x400000000001c1a 18 kr kr ?_
    refine tt kr ?_
    refine tG tOk 1 4 0 kr kr ?_
    refine te ?_
    obtain rfl := si H
    have H := Ho2
    dsimp only at H
    obtain rfl := si H
    exact fO [(false,[cB false])] kr rfl rfl
   have H := bifT h3 H
   refine uD tOk 17 0x400000000001c1a 18 kr kr ?_
   refine tt kr ?_
   refine tG tOk 1 4 0 kr kr ?_
   refine te ?_
   obtain rfl := si H
   have H := Ho2
   dsimp only at H
   obtain rfl := si H
   exact fO [(false,[cB false])] kr rfl rfl
  have H := bifT h2 H
  refine uD tOk 21 0x400000000001c1a 18 kr kr ?_
  refine tt kr ?_
  refine tG tOk 1 4 0 kr kr ?_
  refine te ?_
  obtain rfl := si H
  have H := Ho2
  dsimp only at H
  obtain rfl := si H
  exact fO [(false,[cB false])] kr rfl rfl
 rintro _ H
 have H : (impl_linksOk_J1 n) = some r := H
 unfold impl_linksOk_J1 at H
 refine tG tOk 1 4 0 kr kr ?_
 exact te (by obtain rfl := si H; exact fO [(false,[cB true])] kr rfl rfl)
def impl_NetOk_J2 (n : Nat) (x0 : Net) : Option (Bool) :=
  ((impl_linksOkF n x0).bind fun r4 => (some r4))
def impl_NetOk_L3 (n : Nat) : Nat → Net → Int → Option ((Unit) ⊕ (Bool))
  | 0,_,_ => none
  | mo5 + 1,x0,y3 => (bif (decide (y3 < (x0.Said.length : Int))) then ((idx x0.Said y3).bind fun v6 => ((impl_inF n v6.Link 0 (IntKind.wrap .i64 ((x0.Links.length : Int) - 1))).bind fun r7 => (bif (!r7) then (some (Sum.inr false)) else ((impl_VecOkF n v6.V).bind fun r8 => (bif (!r8) then (some (Sum.inr false)) else (impl_NetOk_L3 n mo5 x0 (IntKind.wrap .i64 (y3 + 1)))))))) else (some (Sum.inl ())))
def impl_NetOk_J1 (n : Nat) (x0 : Net) : Option (Bool) :=
  ((impl_NetOk_L3 n n x0 0).bind fun o => match o with | .inl _ => (impl_NetOk_J2 n x0) | .inr r => some r)
def impl_NetOk_J6 (n : Nat) (k : (Int → Option ((Unit) ⊕ (Bool)))) (y2 : Int) (y16 : Int) : Option ((Unit) ⊕ (Bool)) :=
  (k (IntKind.wrap .i64 (y2 + 1)))
def impl_NetOk_L7 (n : Nat) : Nat → Bridge → Net → Int → Int → Option ((Int) ⊕ (Bool))
  | 0,_,_,_,_ => none
  | mo17 + 1,v10,x0,y2,y15 => (bif (decide (y15 < (v10.Ports.length : Int))) then ((idx v10.Ports y15).bind fun v18 => (bif v18.Has then ((impl_endsF n x0.Links y2 y15).bind fun r19 => (bif (!r19) then (some (Sum.inr false)) else (impl_NetOk_L7 n mo17 v10 x0 y2 (IntKind.wrap .i64 (y15 + 1))))) else (impl_NetOk_L7 n mo17 v10 x0 y2 (IntKind.wrap .i64 (y15 + 1))))) else (some (Sum.inl y15)))
def impl_NetOk_J5 (n : Nat) (k : (Int → Option ((Unit) ⊕ (Bool)))) (v10 : Bridge) (x0 : Net) (y2 : Int) (y14 : Int) : Option ((Unit) ⊕ (Bool)) :=
  ((impl_NetOk_L7 n n v10 x0 y2 0).bind fun o => match o with | .inl y16 => (impl_NetOk_J6 n k y2 y16) | .inr r => some (Sum.inr r))
def impl_NetOk_L8 (n : Nat) : Nat → Bridge → Net → Int → Int → Option ((Int) ⊕ (Bool))
  | 0,_,_,_,_ => none
  | mo20 + 1,v10,x0,y2,y13 => (bif (decide (y13 < (((x0.Bridges.drop ((0 : Int)).toNat).take (((y2 : Int)).toNat - ((0 : Int)).toNat)).length : Int))) then ((idx ((x0.Bridges.drop ((0 : Int)).toNat).take (((y2 : Int)).toNat - ((0 : Int)).toNat)) y13).bind fun v21 => (bif (v21.Id == v10.Id) then (some (Sum.inr false)) else (impl_NetOk_L8 n mo20 v10 x0 y2 (IntKind.wrap .i64 (y13 + 1))))) else (some (Sum.inl y13)))
def impl_NetOk_L4 (n : Nat) : Nat → Net → Int → Option ((Unit) ⊕ (Bool))
  | 0,_,_ => none
  | mo9 + 1,x0,y2 => (bif (decide (y2 < (x0.Bridges.length : Int))) then ((idx x0.Bridges y2).bind fun v10 => ((impl_BridgeOkF n v10).bind fun r11 => (bif (!r11) then (some (Sum.inr false)) else (bif (decide ((0 : Int) ≤ 0) && (decide ((0 : Int) ≤ y2) && decide ((y2 : Int) ≤ (x0.Bridges.length : Int)))) then ((impl_NetOk_L8 n n v10 x0 y2 0).bind fun o => match o with | .inl y14 => (impl_NetOk_J5 n (fun v => impl_NetOk_L4 n mo9 x0 v) v10 x0 y2 y14) | .inr r => some (Sum.inr r)) else none)))) else (some (Sum.inl ())))
def impl_NetOkF (n : Nat) (x0 : Net) : Option (Bool) :=
  ((impl_inF n (x0.Bridges.length : Int) 1 6).bind fun r1 => (bif (!r1) then (some false) else (bif (decide ((x0.Said.length : Int) > 40)) then (some false) else ((impl_NetOk_L4 n n x0 0).bind fun o => match o with | .inl _ => (impl_NetOk_J1 n x0) | .inr r => some r))))
noncomputable abbrev G68 (k : Nat) := Rg Tryz.f68 k
theorem impl_NetOk (n : Nat) (x0 : Net) (r : Bool) (H : impl_NetOkF n x0 = some r) : LCall Tryz.prog 68 [.val true (CV.frzRow (Net.row x0))] [.val false [.lit (.bool r)]] [] := by
 refine LCall.of_body tOk Tryz.func68 rfl (c := (.seq (G68 0) (.seq (.seq (G68 1) (.cond (.tmp 21) (.seq (G68 2) .ret) .skip)) (.seq (.seq (G68 3) (.block 0 (.loop (.seq (G68 4) (.seq (.cond (.tmp 26) .skip (.exit 0)) (.seq (.block 1 (.seq (G68 5) (.seq (.seq (G68 6) (.cond (.tmp 32) (.seq (G68 7) .ret) .skip)) (.seq (.seq (G68 8) (.block 2 (.loop (.seq (G68 9) (.seq (.cond (.tmp 39) .skip (.exit 2)) (.seq (.block 3 (.seq (G68 10) (.seq (G68 11) (.cond (.tmp 46) (.seq (G68 12) .ret) .skip)))) (G68 13))))))) (.seq (G68 14) (.block 4 (.loop (.seq (G68 15) (.seq (.cond (.tmp 52) .skip (.exit 4)) (.seq (.block 5 (.seq (G68 16) (.seq (G68 17) (.cond (.tmp 65) (.seq (G68 18) .ret) .skip)))) (G68 19))))))))))) (G68 20))))))) (.seq (.seq (G68 21) (.block 6 (.loop (.seq (G68 22) (.seq (.cond (.tmp 72) .skip (.exit 6)) (.seq (.block 7 (.seq (G68 23) (.seq (G68 24) (.cond (.tmp 88) (.seq (G68 25) .ret) .skip)))) (G68 26))))))) (.seq (G68 27) .ret)))))) kr (Nat.le_of_ble_eq_true kr) 0 (rs := [.tmp 2]) rfl [] .nil [(false,[.lit (.bool r)])] [] [] fun cx => ?_
 show Tr _ _ _ ⟨92,0,[sV 0 (CV.frzRow (Net.row x0))],[]⟩ _
 unfold impl_NetOkF at H
 refine tG tOk 2 6 2 kr kr ?_
 refine tS ?_
 refine rU tOk 2 kr ?_
 refine lL tOk 25 3 58 12 13 none ⟨(.slot 12),[],0,false,11,(CV.frzEs (x0.Bridges.map Bridge.row))⟩ (x0.Bridges).length _ kr kr kr kr kr (frz_len _ _) rfl ?_
 obtain ⟨r1,er1,H⟩ := bind_some H
 refine lV tOk [.rd,.rd,.rd] [] (impl_in n (x0.Bridges.length : Int) 1 6 r1 er1) kr kr kr kr (.inl rfl) ?_
 refine lU tOk 2 kr ?_
 refine lT ⟨92,0,[sB 16 (!r1),sB 15 (!r1),sB 14 r1,sI 13 (x0.Bridges.length : Int),sC 12 (cF 11 x0.Bridges Bridge.row),sA 11 1 3 0,sB 2 false,sA 1 1 3 0],[(1,(CV.frzRow (Net.row x0)))]⟩ kr ?_
 cases h1 : (!r1)
 ·have H := bifF h1 H
  refine lU tOk 2 kr ?_
  refine lL tOk 27 3 195 18 19 (some (5,false)) ⟨(.slot 18),[],0,false,7,(CV.frzEs (x0.Said.map Say.row))⟩ (x0.Said).length _ kr kr kr kr kr (frz_len _ _) rfl ?_
  refine uD tOk 2 2097158 2 kr kr ?_
  obtain ⟨h2,H⟩ | ⟨h2,H⟩ := bC H
  ·refine tF h2 kr ?_
   refine tK ?_
   refine tS ?_
   refine rU tOk 2 kr ?_
   refine lL tOk 25 3 58 23 24 none ⟨(.slot 23),[],0,false,11,(CV.frzEs (x0.Bridges.map Bridge.row))⟩ (x0.Bridges).length _ kr kr kr kr kr (frz_len _ _) rfl ?_
   refine uD tOk 1 58720262 2 kr kr ?_
   obtain ⟨o9,eo9,Ho9⟩ := bind_some H
   clear H
   refine Tr.mid (ι := Unit) (fun v => ⟨92,0,[sB 2 false,sA 1 1 3 0],[(1,(CV.frzRow (Net.row x0)))]⟩) (fun v => impl_NetOk_J1 n x0 = some r) ?_ ?_
   ·refine tB ?_
    refine Tr.loop (ι := Nat × (Int)) (fun v => ⟨92,0,[sI 25 v.2,sI 24 (x0.Bridges.length : Int),sC 23 (cF 11 x0.Bridges Bridge.row),sB 2 false,sA 1 1 3 0],[(1,(CV.frzRow (Net.row x0)))]⟩) (fun v => impl_NetOk_L4 n v.1 x0 v.2 = some o9) (fun v => v.1) (n,0) eo9 (St.sub_of [25,24,23,2,1] [1] kr) ?_
    rintro ⟨mo9,y2⟩ H
    have H : impl_NetOk_L4 n mo9 x0 y2 = some o9 := H
    obtain _ | mo9 := mo9
    ·cases (show (none : Option _) = some o9 from H)
    rw [impl_NetOk_L4] at H
    refine tG tOk 1 125829126 2 kr kr ?_
    refine tS ?_
    obtain ⟨h6,H⟩ | ⟨h6,H⟩ := bC H
    ·refine tF h6 kr ?_
     refine Tr.exit ?_
     refine And.intro (fun _ => ?_) (fun h => absurd rfl h)
     obtain rfl := si H
     have H := Ho9
     dsimp only at H
     exact jn () H (sB_ [2,1] [1] kr)
    refine tT h6 kr ?_
    refine tK ?_
    refine tS ?_
    refine tB ?_
    refine rU tOk 1 kr ?_
    obtain ⟨v10,ev10,H⟩ := bind_some H
    refine lI tOk 25 0 23 25 28 none ⟨(.slot 23),[],0,false,11,(CV.frzEs (x0.Bridges.map Bridge.row))⟩ y2 (CV.frzRow (Bridge.row v10)) _ kr kr kr kr rfl (idx_isF ev10) rfl ?_
    refine uD tOk 4 1065353246 18 kr kr ?_
    refine tS ?_
    refine rU tOk 1 kr ?_
    obtain ⟨r11,er11,H⟩ := bind_some H
    refine lV tOk [.rd] [] (impl_BridgeOk n v10 r11 er11) kr kr kr kr (.inl rfl) ?_
    refine uD tOk 1 8581546014 18 kr kr ?_
    obtain ⟨h7,H⟩ | ⟨h7,H⟩ := bC H
    ·refine tF h7 kr ?_
     refine tK ?_
     refine tS ?_
     refine rU tOk 3 kr ?_
     obtain ⟨hg12,H⟩ := guard_some H
     refine LAt.cutG tOk (t := 25) (ty := 25) (e := 58) (x := (.tmp 34)) (lo := none) (hi := (some (.tmp 35))) (d := 36) (g := none) (tI 58) Bridge.row x0.Bridges ⟨(.slot 34),[],0,false,11,(CV.frzEs (x0.Bridges.map Bridge.row))⟩ 0 y2 kr kr kr kr kr kr rfl kr rfl kr kr hg12 ?_
     refine lL tOk 25 3 58 36 37 none ⟨(.slot 36),[],0,false,11,(CV.frzEs (((x0.Bridges.drop ((0 : Int)).toNat).take (((y2 : Int)).toNat - ((0 : Int)).toNat)).map Bridge.row))⟩ (((x0.Bridges.drop ((0 : Int)).toNat).take (((y2 : Int)).toNat - ((0 : Int)).toNat))).length _ kr kr kr kr kr (frz_len _ _) rfl ?_
     refine uD tOk 1 549747425310 18 kr kr ?_
     refine tO ⟨92,0,[sI 38 0,sI 37 (((x0.Bridges.drop ((0 : Int)).toNat).take (((y2 : Int)).toNat - ((0 : Int)).toNat)).length : Int),sC 36 (cF 11 ((x0.Bridges.drop ((0 : Int)).toNat).take (((y2 : Int)).toNat - ((0 : Int)).toNat)) Bridge.row),sI 35 y2,sC 34 (cF 11 x0.Bridges Bridge.row),sA 33 1 3 0,sB 32 (!r11),sB 31 r11,sV 30 (CV.frzRow (Bridge.row v10)),sI 3 y2,sA 4 4 11 0,sV 29 (CV.frzRow (Bridge.row v10)),(28,.fad ((CV.frzRow (Bridge.row v10)))),sI 27 y2,sB 26 (decide (y2 < (x0.Bridges.length : Int))),sI 25 y2,sI 24 (x0.Bridges.length : Int),sC 23 (cF 11 x0.Bridges Bridge.row),sB 2 false,sA 1 1 3 0],[(4,(CV.frzRow (Bridge.row v10))),(1,(CV.frzRow (Net.row x0)))]⟩ kr ?_
     rw [h6]
     rw [h7]
     obtain ⟨o20,eo20,Ho20⟩ := bind_some H
     clear H
     refine Tr.mid (ι := Int) (fun v => ⟨92,0,[sB 39 false,sI 38 v,sI 37 (((x0.Bridges.drop ((0 : Int)).toNat).take (((y2 : Int)).toNat - ((0 : Int)).toNat)).length : Int),sC 36 (cF 11 ((x0.Bridges.drop ((0 : Int)).toNat).take (((y2 : Int)).toNat - ((0 : Int)).toNat)) Bridge.row),sI 35 y2,sC 34 (cF 11 x0.Bridges Bridge.row),sA 33 1 3 0,sB 32 false,sB 31 r11,sV 30 (CV.frzRow (Bridge.row v10)),sI 3 y2,sA 4 4 11 0,sV 29 (CV.frzRow (Bridge.row v10)),(28,.fad ((CV.frzRow (Bridge.row v10)))),sI 27 y2,sB 26 true,sI 25 y2,sI 24 (x0.Bridges.length : Int),sC 23 (cF 11 x0.Bridges Bridge.row),sB 2 false,sA 1 1 3 0],[(4,(CV.frzRow (Bridge.row v10))),(1,(CV.frzRow (Net.row x0)))]⟩) (fun v => impl_NetOk_J5 n (fun v => impl_NetOk_L4 n mo9 x0 v) v10 x0 y2 v = some o9) ?_ ?_
     ·refine tB ?_
      refine Tr.loop (ι := Nat × (Int)) (fun v => ⟨92,0,[sI 38 v.2,sI 37 (((x0.Bridges.drop ((0 : Int)).toNat).take (((y2 : Int)).toNat - ((0 : Int)).toNat)).length : Int),sC 36 (cF 11 ((x0.Bridges.drop ((0 : Int)).toNat).take (((y2 : Int)).toNat - ((0 : Int)).toNat)) Bridge.row),sI 35 y2,sC 34 (cF 11 x0.Bridges Bridge.row),sA 33 1 3 0,sB 32 false,sB 31 r11,sV 30 (CV.frzRow (Bridge.row v10)),sI 3 y2,sA 4 4 11 0,sV 29 (CV.frzRow (Bridge.row v10)),(28,.fad ((CV.frzRow (Bridge.row v10)))),sI 27 y2,sB 26 true,sI 25 y2,sI 24 (x0.Bridges.length : Int),sC 23 (cF 11 x0.Bridges Bridge.row),sB 2 false,sA 1 1 3 0],[(4,(CV.frzRow (Bridge.row v10))),(1,(CV.frzRow (Net.row x0)))]⟩) (fun v => impl_NetOk_L8 n v.1 v10 x0 y2 v.2 = some o20) (fun v => v.1) (n,0) eo20 (St.sub_of [38,37,36,35,34,33,32,31,30,3,4,29,28,27,26,25,24,23,2,1] [4,1] kr) ?_
      rintro ⟨mo20,y13⟩ H
      have H : impl_NetOk_L8 n mo20 v10 x0 y2 y13 = some o20 := H
      obtain _ | mo20 := mo20
      ·cases (show (none : Option _) = some o20 from H)
      rw [impl_NetOk_L8] at H
      refine tG tOk 1 0xffff80001e 18 kr kr ?_
      refine tS ?_
      obtain ⟨h11,H⟩ | ⟨h11,H⟩ := bC H
      ·refine tF h11 kr ?_
       refine Tr.exit ?_
       refine And.intro (fun _ => ?_) (fun h => absurd rfl h)
       obtain rfl := si H
       have H := Ho20
       dsimp only at H
       refine Sb.to ⟨92,0,[sB 39 (decide (y13 < (((x0.Bridges.drop ((0 : Int)).toNat).take (((y2 : Int)).toNat - ((0 : Int)).toNat)).length : Int))),sI 38 y13,sI 37 (((x0.Bridges.drop ((0 : Int)).toNat).take (((y2 : Int)).toNat - ((0 : Int)).toNat)).length : Int),sC 36 (cF 11 ((x0.Bridges.drop ((0 : Int)).toNat).take (((y2 : Int)).toNat - ((0 : Int)).toNat)) Bridge.row),sI 35 y2,sC 34 (cF 11 x0.Bridges Bridge.row),sA 33 1 3 0,sB 32 false,sB 31 r11,sV 30 (CV.frzRow (Bridge.row v10)),sI 3 y2,sA 4 4 11 0,sV 29 (CV.frzRow (Bridge.row v10)),(28,.fad ((CV.frzRow (Bridge.row v10)))),sI 27 y2,sB 26 true,sI 25 y2,sI 24 (x0.Bridges.length : Int),sC 23 (cF 11 x0.Bridges Bridge.row),sB 2 false,sA 1 1 3 0],[(4,(CV.frzRow (Bridge.row v10))),(1,(CV.frzRow (Net.row x0)))]⟩ kr ?_
       rw [h11]
       exact jn y13 H (sB_ [39,38,37,36,35,34,33,32,31,30,3,4,29,28,27,26,25,24,23,2,1] [4,1] kr)
      refine tT h11 kr ?_
      refine tK ?_
      refine tS ?_
      refine tB ?_
      refine tR ?_
      obtain ⟨v21,ev21,H⟩ := bind_some H
      refine lI tOk 25 0 36 38 40 none ⟨(.slot 36),[],0,false,11,(CV.frzEs (((x0.Bridges.drop ((0 : Int)).toNat).take (((y2 : Int)).toNat - ((0 : Int)).toNat)).map Bridge.row))⟩ y13 (CV.frzRow (Bridge.row v21)) _ kr kr kr kr rfl (idx_isF ev21) rfl ?_
      refine uD tOk 3 4398038122590 82 kr kr ?_
      refine tG tOk 5 0x7fffff80005e 82 kr kr ?_
      obtain ⟨h12,H⟩ | ⟨h12,H⟩ := bC H
      ·refine tF h12 kr ?_
       refine tK ?_
       refine tE tOk 2 0xffffff80005e 82 kr kr ?_
       exact jn (mo20,(IntKind.wrap .i64 (y13 + 1))) H (sM mo20 [38,37,36,35,34,33,32,31,30,3,4,29,28,27,26,25,24,23,2,1] [4,1] kr)
      refine tT h12 kr ?_
      refine tG tOk 1 0x7fffff80005e 82 kr kr ?_
      refine te ?_
      obtain rfl := si H
      have H := Ho20
      dsimp only at H
      obtain rfl := si H
      have H := Ho9
      dsimp only at H
      obtain rfl := si H
      exact fO [(false,[cB false])] kr rfl rfl
     rintro y14 H
     have H : (impl_NetOk_J5 n (fun v => impl_NetOk_L4 n mo9 x0 v) v10 x0 y2 y14) = some o9 := H
     unfold impl_NetOk_J5 at H
     refine rU tOk 2 kr ?_
     refine lL tOk 52 3 182 49 50 none ⟨(.slot 49),[],0,false,8,(CV.frzEs (v10.Ports.map Pt.row))⟩ (v10.Ports).length _ kr kr kr kr kr (frz_len _ _) rfl ?_
     refine uD tOk 1 0xf00ffff80001e 18 kr kr ?_
     obtain ⟨o17,eo17,Ho17⟩ := bind_some H
     clear H
     refine Tr.mid (ι := Int) (fun v => ⟨92,0,[sB 52 false,sI 51 v,sI 50 (v10.Ports.length : Int),sC 49 (cF 8 v10.Ports Pt.row),sA 48 4 11 2,sB 39 false,sI 38 y14,sI 37 (((x0.Bridges.drop ((0 : Int)).toNat).take (((y2 : Int)).toNat - ((0 : Int)).toNat)).length : Int),sC 36 (cF 11 ((x0.Bridges.drop ((0 : Int)).toNat).take (((y2 : Int)).toNat - ((0 : Int)).toNat)) Bridge.row),sI 35 y2,sC 34 (cF 11 x0.Bridges Bridge.row),sA 33 1 3 0,sB 32 false,sB 31 r11,sV 30 (CV.frzRow (Bridge.row v10)),sI 3 y2,sA 4 4 11 0,sV 29 (CV.frzRow (Bridge.row v10)),(28,.fad ((CV.frzRow (Bridge.row v10)))),sI 27 y2,sB 26 true,sI 25 y2,sI 24 (x0.Bridges.length : Int),sC 23 (cF 11 x0.Bridges Bridge.row),sB 2 false,sA 1 1 3 0],[(4,(CV.frzRow (Bridge.row v10))),(1,(CV.frzRow (Net.row x0)))]⟩) (fun v => impl_NetOk_J6 n (fun v => impl_NetOk_L4 n mo9 x0 v) y2 v = some o9) ?_ ?_
     ·refine tB ?_
      refine Tr.loop (ι := Nat × (Int)) (fun v => ⟨92,0,[sI 51 v.2,sI 50 (v10.Ports.length : Int),sC 49 (cF 8 v10.Ports Pt.row),sA 48 4 11 2,sB 39 false,sI 38 y14,sI 37 (((x0.Bridges.drop ((0 : Int)).toNat).take (((y2 : Int)).toNat - ((0 : Int)).toNat)).length : Int),sC 36 (cF 11 ((x0.Bridges.drop ((0 : Int)).toNat).take (((y2 : Int)).toNat - ((0 : Int)).toNat)) Bridge.row),sI 35 y2,sC 34 (cF 11 x0.Bridges Bridge.row),sA 33 1 3 0,sB 32 false,sB 31 r11,sV 30 (CV.frzRow (Bridge.row v10)),sI 3 y2,sA 4 4 11 0,sV 29 (CV.frzRow (Bridge.row v10)),(28,.fad ((CV.frzRow (Bridge.row v10)))),sI 27 y2,sB 26 true,sI 25 y2,sI 24 (x0.Bridges.length : Int),sC 23 (cF 11 x0.Bridges Bridge.row),sB 2 false,sA 1 1 3 0],[(4,(CV.frzRow (Bridge.row v10))),(1,(CV.frzRow (Net.row x0)))]⟩) (fun v => impl_NetOk_L7 n v.1 v10 x0 y2 v.2 = some o17) (fun v => v.1) (n,0) eo17 (St.sub_of [51,50,49,48,39,38,37,36,35,34,33,32,31,30,3,4,29,28,27,26,25,24,23,2,1] [4,1] kr) ?_
      rintro ⟨mo17,y15⟩ H
      have H : impl_NetOk_L7 n mo17 v10 x0 y2 y15 = some o17 := H
      obtain _ | mo17 := mo17
      ·cases (show (none : Option _) = some o17 from H)
      rw [impl_NetOk_L7] at H
      refine tG tOk 1 8726823781269534 18 kr kr ?_
      refine tS ?_
      obtain ⟨h8,H⟩ | ⟨h8,H⟩ := bC H
      ·refine tF h8 kr ?_
       refine Tr.exit ?_
       refine And.intro (fun _ => ?_) (fun h => absurd rfl h)
       obtain rfl := si H
       have H := Ho17
       dsimp only at H
       refine Sb.to ⟨92,0,[sB 52 (decide (y15 < (v10.Ports.length : Int))),sI 51 y15,sI 50 (v10.Ports.length : Int),sC 49 (cF 8 v10.Ports Pt.row),sA 48 4 11 2,sB 39 false,sI 38 y14,sI 37 (((x0.Bridges.drop ((0 : Int)).toNat).take (((y2 : Int)).toNat - ((0 : Int)).toNat)).length : Int),sC 36 (cF 11 ((x0.Bridges.drop ((0 : Int)).toNat).take (((y2 : Int)).toNat - ((0 : Int)).toNat)) Bridge.row),sI 35 y2,sC 34 (cF 11 x0.Bridges Bridge.row),sA 33 1 3 0,sB 32 false,sB 31 r11,sV 30 (CV.frzRow (Bridge.row v10)),sI 3 y2,sA 4 4 11 0,sV 29 (CV.frzRow (Bridge.row v10)),(28,.fad ((CV.frzRow (Bridge.row v10)))),sI 27 y2,sB 26 true,sI 25 y2,sI 24 (x0.Bridges.length : Int),sC 23 (cF 11 x0.Bridges Bridge.row),sB 2 false,sA 1 1 3 0],[(4,(CV.frzRow (Bridge.row v10))),(1,(CV.frzRow (Net.row x0)))]⟩ kr ?_
       rw [h8]
       exact jn y15 H (sB_ [52,51,50,49,48,39,38,37,36,35,34,33,32,31,30,3,4,29,28,27,26,25,24,23,2,1] [4,1] kr)
      refine tT h8 kr ?_
      refine tK ?_
      refine tS ?_
      refine tB ?_
      refine rU tOk 1 kr ?_
      obtain ⟨v18,ev18,H⟩ := bind_some H
      refine lI tOk 52 0 49 51 54 none ⟨(.slot 49),[],0,false,8,(CV.frzEs (v10.Ports.map Pt.row))⟩ y15 (Pt.row v18) _ kr kr kr kr rfl (idx_isF ev18) rfl ?_
      refine uD tOk 4 0xff00ffff80019e 274 kr kr ?_
      refine rU tOk 3 kr ?_
      refine lT ⟨92,0,[sB 58 v18.Has,sB 57 v18.Has,sA 56 8 8 2,sI 7 y15,sA 8 8 8 0,sV 55 (Pt.row v18),(54,.fad ((Pt.row v18))),sI 53 y15,sB 52 (decide (y15 < (v10.Ports.length : Int))),sI 51 y15,sI 50 (v10.Ports.length : Int),sC 49 (cF 8 v10.Ports Pt.row),sA 48 4 11 2,sB 39 false,sI 38 y14,sI 37 (((x0.Bridges.drop ((0 : Int)).toNat).take (((y2 : Int)).toNat - ((0 : Int)).toNat)).length : Int),sC 36 (cF 11 ((x0.Bridges.drop ((0 : Int)).toNat).take (((y2 : Int)).toNat - ((0 : Int)).toNat)) Bridge.row),sI 35 y2,sC 34 (cF 11 x0.Bridges Bridge.row),sA 33 1 3 0,sB 32 false,sB 31 r11,sV 30 (CV.frzRow (Bridge.row v10)),sI 3 y2,sA 4 4 11 0,sV 29 (CV.frzRow (Bridge.row v10)),(28,.fad ((CV.frzRow (Bridge.row v10)))),sI 27 y2,sB 26 true,sI 25 y2,sI 24 (x0.Bridges.length : Int),sC 23 (cF 11 x0.Bridges Bridge.row),sB 2 false,sA 1 1 3 0],[(8,(Pt.row v18)),(4,(CV.frzRow (Bridge.row v10))),(1,(CV.frzRow (Net.row x0)))]⟩ kr ?_
      cases h9 : v18.Has
      ·have H := bifF h9 H
       refine uD tOk 7 0x3ffff00ffff80019e 274 kr kr ?_
       refine tf kr ?_
       refine tK ?_
       refine tE tOk 2 0x7ffff00ffff80019e 274 kr kr ?_
       exact jn (mo17,(IntKind.wrap .i64 (y15 + 1))) H (sM mo17 [51,50,49,48,39,38,37,36,35,34,33,32,31,30,3,4,29,28,27,26,25,24,23,2,1] [4,1] kr)
      have H := bifT h9 H
      refine lU tOk 4 kr ?_
      obtain ⟨r19,er19,H⟩ := bind_some H
      refine lV tOk [.rd,.rd,.rd] [] (impl_ends n x0.Links y2 y15 r19 er19) kr kr kr kr (.inl rfl) ?_
      refine uD tOk 2 0x3ffff00ffff80019e 274 kr kr ?_
      obtain ⟨h10,H⟩ | ⟨h10,H⟩ := bC H
      ·refine tF h10 kr ?_
       refine tK ?_
       refine tE tOk 2 0x7ffff00ffff80019e 274 kr kr ?_
       exact jn (mo17,(IntKind.wrap .i64 (y15 + 1))) H (sM mo17 [51,50,49,48,39,38,37,36,35,34,33,32,31,30,3,4,29,28,27,26,25,24,23,2,1] [4,1] kr)
      refine tT h10 kr ?_
      refine tG tOk 1 0x3ffff00ffff80019e 274 kr kr ?_
      refine te ?_
      obtain rfl := si H
      have H := Ho17
      dsimp only at H
      obtain rfl := si H
      have H := Ho9
      dsimp only at H
      obtain rfl := si H
      exact fO [(false,[cB false])] kr rfl rfl
     rintro y16 H
     have H : (impl_NetOk_J6 n (fun v => impl_NetOk_L4 n mo9 x0 v) y2 y16) = some o9 := H
     unfold impl_NetOk_J6 at H
     refine tE tOk 2 0x8001f00ffff80001e 18 kr kr ?_
     exact jn (mo9,(IntKind.wrap .i64 (y2 + 1))) H (sM mo9 [25,24,23,2,1] [1] kr)
    refine tT h7 kr ?_
    refine tG tOk 1 8581546014 18 kr kr ?_
    refine te ?_
    obtain rfl := si H
    have H := Ho9
    dsimp only at H
    obtain rfl := si H
    exact fO [(false,[cB false])] kr rfl rfl
   rintro _ H
   have H : (impl_NetOk_J1 n x0) = some r := H
   unfold impl_NetOk_J1 at H
   refine tS ?_
   refine rU tOk 2 kr ?_
   refine lL tOk 27 3 195 69 70 none ⟨(.slot 69),[],0,false,7,(CV.frzEs (x0.Said.map Say.row))⟩ (x0.Said).length _ kr kr kr kr kr (frz_len _ _) rfl ?_
   refine uD tOk 1 0xe00000000000000006 2 kr kr ?_
   obtain ⟨o5,eo5,Ho5⟩ := bind_some H
   clear H
   refine Tr.mid (ι := Unit) (fun v => ⟨92,0,[sB 2 false,sA 1 1 3 0],[(1,(CV.frzRow (Net.row x0)))]⟩) (fun v => impl_NetOk_J2 n x0 = some r) ?_ ?_
   ·refine tB ?_
    refine Tr.loop (ι := Nat × (Int)) (fun v => ⟨92,0,[sI 71 v.2,sI 70 (x0.Said.length : Int),sC 69 (cF 7 x0.Said Say.row),sB 2 false,sA 1 1 3 0],[(1,(CV.frzRow (Net.row x0)))]⟩) (fun v => impl_NetOk_L3 n v.1 x0 v.2 = some o5) (fun v => v.1) (n,0) eo5 (St.sub_of [71,70,69,2,1] [1] kr) ?_
    rintro ⟨mo5,y3⟩ H
    have H : impl_NetOk_L3 n mo5 x0 y3 = some o5 := H
    obtain _ | mo5 := mo5
    ·cases (show (none : Option _) = some o5 from H)
    rw [impl_NetOk_L3] at H
    refine tG tOk 1 0x1e00000000000000006 2 kr kr ?_
    refine tS ?_
    obtain ⟨h3,H⟩ | ⟨h3,H⟩ := bC H
    ·refine tF h3 kr ?_
     refine Tr.exit ?_
     refine And.intro (fun _ => ?_) (fun h => absurd rfl h)
     obtain rfl := si H
     have H := Ho5
     dsimp only at H
     exact jn () H (sB_ [2,1] [1] kr)
    refine tT h3 kr ?_
    refine tK ?_
    refine tS ?_
    refine tB ?_
    refine tR ?_
    obtain ⟨v6,ev6,H⟩ := bind_some H
    refine lI tOk 27 0 69 71 73 none ⟨(.slot 69),[],0,false,7,(CV.frzEs (x0.Said.map Say.row))⟩ y3 (Say.row v6) _ kr kr kr kr rfl (idx_isF ev6) rfl ?_
    refine uD tOk 3 0x7e00000000000000406 1026 kr kr ?_
    refine rU tOk 4 kr ?_
    refine lL tOk 26 3 126 78 79 none ⟨(.slot 78),[],0,false,4,(CV.frzEs (x0.Links.map Link.row))⟩ (x0.Links).length _ kr kr kr kr kr (frz_len _ _) rfl ?_
    refine lU tOk 1 kr ?_
    obtain ⟨r7,er7,H⟩ := bind_some H
    refine lV tOk [.rd,.rd,.rd] [] (impl_in n v6.Link 0 (IntKind.wrap .i64 ((x0.Links.length : Int) - 1)) r7 er7) kr kr kr kr (.inl rfl) ?_
    refine lU tOk 2 kr ?_
    refine lT ⟨92,0,[sB 83 (!r7),sB 82 (!r7),sB 81 r7,sI 80 (IntKind.wrap .i64 ((x0.Links.length : Int) - 1)),sI 79 (x0.Links.length : Int),sC 78 (cF 4 x0.Links Link.row),sA 77 1 3 1,sI 76 v6.Link,sA 75 10 7 0,sA 10 10 7 0,sV 74 (Say.row v6),(73,.fad ((Say.row v6))),sB 72 (decide (y3 < (x0.Said.length : Int))),sI 71 y3,sI 70 (x0.Said.length : Int),sC 69 (cF 7 x0.Said Say.row),sB 2 false,sA 1 1 3 0],[(10,(Say.row v6)),(1,(CV.frzRow (Net.row x0)))]⟩ kr ?_
    cases h4 : (!r7)
    ·have H := bifF h4 H
     refine lU tOk 2 kr ?_
     obtain ⟨r8,er8,H⟩ := bind_some H
     refine lV tOk [.rd] [] (impl_VecOk n v6.V r8 er8) kr kr kr kr (.inl rfl) ?_
     refine uD tOk 2 0x1ffffe00000000000000406 1026 kr kr ?_
     obtain ⟨h5,H⟩ | ⟨h5,H⟩ := bC H
     ·refine tF h5 kr ?_
      refine tK ?_
      refine tE tOk 2 0x3ffffe00000000000000406 1026 kr kr ?_
      exact jn (mo5,(IntKind.wrap .i64 (y3 + 1))) H (sM mo5 [71,70,69,2,1] [1] kr)
     refine tT h5 kr ?_
     refine tG tOk 1 0x1ffffe00000000000000406 1026 kr kr ?_
     refine te ?_
     obtain rfl := si H
     have H := Ho5
     dsimp only at H
     obtain rfl := si H
     exact fO [(false,[cB false])] kr rfl rfl
    have H := bifT h4 H
    refine uD tOk 5 0x1ffffe00000000000000406 1026 kr kr ?_
    refine tt kr ?_
    refine tG tOk 1 0x1ffffe00000000000000406 1026 kr kr ?_
    refine te ?_
    obtain rfl := si H
    have H := Ho5
    dsimp only at H
    obtain rfl := si H
    exact fO [(false,[cB false])] kr rfl rfl
   rintro _ H
   have H : (impl_NetOk_J2 n x0) = some r := H
   unfold impl_NetOk_J2 at H
   refine rU tOk 1 kr ?_
   obtain ⟨r4,er4,H⟩ := bind_some H
   refine lV tOk [.rd] [] (impl_linksOk n x0 r4 er4) kr kr kr kr (.inl rfl) ?_
   refine uD tOk 1 4 0 kr kr ?_
   exact te (by obtain rfl := si H; exact fO [(false,[cB r4])] kr rfl rfl)
  refine tT h2 kr ?_
  refine tG tOk 1 6 2 kr kr ?_
  exact te (by obtain rfl := si H; exact fO [(false,[cB false])] kr rfl rfl)
 have H := bifT h1 H
 refine uD tOk 5 2097158 2 kr kr ?_
 refine tt kr ?_
 refine tG tOk 1 6 2 kr kr ?_
 exact te (by obtain rfl := si H; exact fO [(false,[cB false])] kr rfl rfl)
end Go.Proofs.YtibocmoaaahjfaaGreat.Tw
