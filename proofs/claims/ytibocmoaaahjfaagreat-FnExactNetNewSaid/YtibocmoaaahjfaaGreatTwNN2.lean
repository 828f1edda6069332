import Derived.Test.YtibocmoaaahjfaaGreatProg
import Derived.Test.YtibocmoaaahjfaaGreatTlRule
import Derived.Test.YtibocmoaaahjfaaGreatTlU8
import Derived.Test.YtibocmoaaahjfaaGreatTwNN1
import Derived.WalkKit
set_option linter.unusedVariables false
set_option linter.unusedSimpArgs false
set_option maxRecDepth 100000
set_option maxHeartbeats 1000000
namespace Go.Proofs.YtibocmoaaahjfaaGreat.Tw
open Go Go.TL Go.Proofs
def impl_NetNew_J1 (n : Nat) (x2 : (List Link)) (y4 : (List Bridge)) : Option (Net) :=
  ((impl_NetOkF n (⟨y4,(([] : List Link) ++ x2),([] : List Say)⟩ : Net)).bind fun r5 => (bif (!r5) then (some (⟨([] : List Bridge),([] : List Link),([] : List Say)⟩ : Net)) else (some (⟨y4,(([] : List Link) ++ x2),([] : List Say)⟩ : Net))))
def impl_NetNew_J3 (n : Nat) (k : (Int × (List Bridge) → Option (((List Bridge)) ⊕ (Net)))) (y2 : Int) (y3 : (List Bridge)) (y21 : Int) (y22 : ByteArray) (y23 : (List Pt)) (y24 : (List Fent)) (y25 : (List Vrow)) (y26 : (List Int)) (y27 : Int) (y28 : Int) (y29 : Int) (y30 : Int) (y31 : Int) : Option (((List Bridge)) ⊕ (Net)) :=
  (bif (decide (y3.length + [(⟨y21,y22,y23,y24,(⟨y25,y26⟩ : Vtab),y27,y28,y29,y30,y31⟩ : Bridge)].length ≤ 268435456)) then (k ((IntKind.wrap .i64 (y2 + 1)),(y3 ++ [(⟨y21,y22,y23,y24,(⟨y25,y26⟩ : Vtab),y27,y28,y29,y30,y31⟩ : Bridge)]))) else none)
def impl_NetNew_L4 (n : Nat) : Nat → Bridge → Int → Int → ByteArray → (List Pt) → (List Fent) → (List Vrow) → (List Int) → Int → Int → Int → Int → Int → Option ((Int × ByteArray × (List Pt) × (List Fent) × (List Vrow) × (List Int) × Int × Int × Int × Int × Int) ⊕ (Net))
  | 0,_,_,_,_,_,_,_,_,_,_,_,_,_ => none
  | mo33 + 1,r8,y9,y10,y11,y12,y13,y14,y15,y16,y17,y18,y19,y20 => (bif (decide (y9 < (r8.Ports.length : Int))) then ((impl_LinkSetF n (⟨y10,y11,y12,y13,(⟨y14,y15⟩ : Vtab),y16,y17,y18,y19,y20⟩ : Bridge) y9 true).bind fun r34 => (impl_NetNew_L4 n mo33 r8 (IntKind.wrap .i64 (y9 + 1)) r34.Id r34.Name r34.Ports r34.F r34.V.Rows r34.V.Pvid r34.Ticks r34.Parse r34.Word r34.Drops r34.Vers)) else (some (Sum.inl (y10,y11,y12,y13,y14,y15,y16,y17,y18,y19,y20))))
def impl_NetNew_L2 (n : Nat) : Nat → (List Int) → Int → Int → (List Bridge) → Option (((List Bridge)) ⊕ (Net))
  | 0,_,_,_,_ => none
  | mo6 + 1,x0,x1,y2,y3 => (bif (decide (y2 < (x0.length : Int))) then ((idx x0 y2).bind fun v7 => ((impl_BridgeNewF n v7 x1).bind fun r8 => ((impl_NetNew_L4 n n r8 0 r8.Id r8.Name r8.Ports r8.F r8.V.Rows r8.V.Pvid r8.Ticks r8.Parse r8.Word r8.Drops r8.Vers).bind fun o => match o with | .inl (y21,y22,y23,y24,y25,y26,y27,y28,y29,y30,y31) => (impl_NetNew_J3 n (fun v => impl_NetNew_L2 n mo6 x0 x1 v.1 v.2) y2 y3 y21 y22 y23 y24 y25 y26 y27 y28 y29 y30 y31) | .inr r => some (Sum.inr r)))) else (some (Sum.inl y3)))
def impl_NetNewF (n : Nat) (x0 : (List Int)) (x1 : Int) (x2 : (List Link)) : Option (Net) :=
  (bif (decide ((x0.length : Int) > 6)) then (some (⟨([] : List Bridge),([] : List Link),([] : List Say)⟩ : Net)) else (bif (decide (([] : List Link).length + x2.length ≤ 268435456)) then ((impl_NetNew_L2 n n x0 x1 0 ([] : List Bridge)).bind fun o => match o with | .inl y4 => (impl_NetNew_J1 n x2 y4) | .inr r => some r) else none))
noncomputable abbrev G16 (k : Nat) := Rg Tryz.f16 k
theorem impl_NetNew (n : Nat) (x0 : (List Int)) (x1 : Int) (x2 : (List Link)) (r : Net) (H : impl_NetNewF n x0 x1 x2 = some r) : LCall Tryz.prog 16 [.val false [.sl false 1 (CV.frzEs (x0.map intRow))],.val false [.lit (.int .i64 x1)],.val false [.sl false 4 (CV.frzEs (x2.map Link.row))]] [.val true (Net.row r)] [] := by
 refine LCall.of_body tOk Tryz.func16 rfl (c := (.seq (G16 0) (.seq (.seq (G16 1) (.cond (.tmp 14) (.seq (G16 2) .ret) .skip)) (.seq (G16 3) (.seq (.seq (G16 4) (.block 0 (.loop (.seq (G16 5) (.seq (.cond (.tmp 22) .skip (.exit 0)) (.seq (.block 1 (.seq (G16 6) (.seq (G16 7) (.seq (.seq (G16 8) (.block 2 (.loop (.seq (G16 9) (.seq (.cond (.tmp 32) .skip (.exit 2)) (.seq (.block 3 (.seq (G16 10) (G16 11))) (G16 12))))))) (G16 13))))) (G16 14))))))) (.seq (.seq (G16 15) (.cond (.tmp 47) (.seq (G16 16) .ret) .skip)) (.seq (G16 17) .ret))))))) kr (Nat.le_of_ble_eq_true kr) 0 (rs := [.cell 6 29]) rfl [] .nil [(true,(Net.row r))] [] [] fun cx => ?_
 show Tr _ _ _ ⟨50,0,[sC 0 (cF 1 x0 intRow),sI 1 x1,sC 2 (cF 4 x2 Link.row)],[]⟩ _
 unfold impl_NetNewF at H
 refine tG tOk 1 71 64 kr kr ?_
 refine tS ?_
 refine rU tOk 1 kr ?_
 refine lL tOk 22 3 3 12 13 none ⟨(.slot 12),[],0,false,1,(CV.frzEs (x0.map intRow))⟩ (x0).length _ kr kr kr kr kr (frz_len _ _) rfl ?_
 refine uD tOk 1 16455 64 kr kr ?_
 obtain ⟨h1,H⟩ | ⟨h1,H⟩ := bC H
 ·refine tF h1 kr ?_
  refine tK ?_
  refine rU tOk 1 kr ?_
  obtain ⟨hg1,H⟩ := guard_some H
  refine LAt.appCU tOk (t := 26) (ty := 26) (e := 126) (x := (.const (.slice none 0 0))) (y := (.tmp 16)) (d := 17) (g := none) (tI 126) Link.row ([] : List Link) x2 ⟨(.slot 16),[],0,false,4,(CV.frzEs (x2.map Link.row))⟩ kr kr kr kr kr kr kr kr kr kr kr (.inr rfl) (fun _ => rfl) (fun _ => rfl) hg1 ?_
  refine uD tOk 3 195 192 kr kr ?_
  refine tS ?_
  refine rU tOk 1 kr ?_
  refine lL tOk 22 3 3 19 20 none ⟨(.slot 19),[],0,false,1,(CV.frzEs (x0.map intRow))⟩ (x0).length _ kr kr kr kr kr (frz_len _ _) rfl ?_
  refine uD tOk 1 3670210 192 kr kr ?_
  obtain ⟨o6,eo6,Ho6⟩ := bind_some H
  clear H
  refine Tr.mid (ι := (List Bridge)) (fun v => ⟨50,0,[sA 7 7 3 0,sA 6 6 3 0],[(7,[cL 11 v Bridge.row,cL 4 (([] : List Link) ++ x2) Link.row,cL 7 ([] : List Say) Say.row]),(6,[cL 11 ([] : List Bridge) Bridge.row,cL 4 ([] : List Link) Link.row,cL 7 ([] : List Say) Say.row])]⟩) (fun v => impl_NetNew_J1 n x2 v = some r) ?_ ?_
  ·refine tB ?_
   refine Tr.loop (ι := Nat × (Int × (List Bridge))) (fun v => ⟨50,0,[sI 21 v.2.1,sI 20 (x0.length : Int),sC 19 (cF 1 x0 intRow),sA 7 7 3 0,sA 6 6 3 0,sI 1 x1],[(7,[cL 11 v.2.2 Bridge.row,cL 4 (([] : List Link) ++ x2) Link.row,cL 7 ([] : List Say) Say.row]),(6,[cL 11 ([] : List Bridge) Bridge.row,cL 4 ([] : List Link) Link.row,cL 7 ([] : List Say) Say.row])]⟩) (fun v => impl_NetNew_L2 n v.1 x0 x1 v.2.1 v.2.2 = some o6) (fun v => v.1) (n,(0,([] : List Bridge))) eo6 (St.sub_of [21,20,19,7,6,1] [7,6] kr) ?_
   rintro ⟨mo6,y2,y3⟩ H
   have H : impl_NetNew_L2 n mo6 x0 x1 y2 y3 = some o6 := H
   obtain _ | mo6 := mo6
   ·cases (show (none : Option _) = some o6 from H)
   rw [impl_NetNew_L2] at H
   refine tG tOk 1 7864514 192 kr kr ?_
   refine tS ?_
   obtain ⟨h3,H⟩ | ⟨h3,H⟩ := bC H
   ·refine tF h3 kr ?_
    refine Tr.exit ?_
    refine And.intro (fun _ => ?_) (fun h => absurd rfl h)
    obtain rfl := si H
    have H := Ho6
    dsimp only at H
    exact jn y3 H (sB_ [7,6] [7,6] kr)
   refine tT h3 kr ?_
   refine tK ?_
   refine tS ?_
   refine tB ?_
   refine tR ?_
   obtain ⟨v7,ev7,H⟩ := bind_some H
   refine lI tOk 22 0 19 21 23 none ⟨(.slot 19),[],0,false,1,(CV.frzEs (x0.map intRow))⟩ y2 [cI v7] _ kr kr kr kr rfl (idx_isF ev7) rfl ?_
   refine uD tOk 2 3670722 192 kr kr ?_
   refine rU tOk 2 kr ?_
   obtain ⟨r8,er8,H⟩ := bind_some H
   refine lV tOk [.rd,.rd] [] (impl_BridgeNew n v7 x1 r8 er8) kr kr kr kr (.inl rfl) ?_
   refine uD tOk 2 3671234 1216 kr kr ?_
   refine tS ?_
   refine rU tOk 2 kr ?_
   refine lL tOk 52 3 182 29 30 none ⟨(.box 10),[(0,0)],2,true,8,(r8.Ports.map Pt.row)⟩ (r8.Ports).length _ kr kr kr kr kr (map_len _ _) rfl ?_
   refine uD tOk 1 3224896706 1216 kr kr ?_
   obtain ⟨o33,eo33,Ho33⟩ := bind_some H
   clear H
   refine Tr.mid (ι := Int × ByteArray × (List Pt) × (List Fent) × (List Vrow) × (List Int) × Int × Int × Int × Int × Int) (fun v => ⟨50,0,[sA 10 10 11 0,sI 21 y2,sI 20 (x0.length : Int),sC 19 (cF 1 x0 intRow),sA 7 7 3 0,sA 6 6 3 0,sI 1 x1],[(10,[cI v.1,cS v.2.1,cL 8 v.2.2.1 Pt.row,cL 5 v.2.2.2.1 Fent.row,cL 3 v.2.2.2.2.1 Vrow.row,cL 1 v.2.2.2.2.2.1 intRow,cI v.2.2.2.2.2.2.1,cI v.2.2.2.2.2.2.2.1,cI v.2.2.2.2.2.2.2.2.1,cI v.2.2.2.2.2.2.2.2.2.1,cI v.2.2.2.2.2.2.2.2.2.2]),(7,[cL 11 y3 Bridge.row,cL 4 (([] : List Link) ++ x2) Link.row,cL 7 ([] : List Say) Say.row]),(6,[cL 11 ([] : List Bridge) Bridge.row,cL 4 ([] : List Link) Link.row,cL 7 ([] : List Say) Say.row])]⟩) (fun v => impl_NetNew_J3 n (fun v => impl_NetNew_L2 n mo6 x0 x1 v.1 v.2) y2 y3 v.1 v.2.1 v.2.2.1 v.2.2.2.1 v.2.2.2.2.1 v.2.2.2.2.2.1 v.2.2.2.2.2.2.1 v.2.2.2.2.2.2.2.1 v.2.2.2.2.2.2.2.2.1 v.2.2.2.2.2.2.2.2.2.1 v.2.2.2.2.2.2.2.2.2.2 = some o6) ?_ ?_
   ·refine tB ?_
    refine Tr.loop (ι := Nat × (Int × Int × ByteArray × (List Pt) × (List Fent) × (List Vrow) × (List Int) × Int × Int × Int × Int × Int)) (fun v => ⟨50,0,[sI 31 v.2.1,sI 30 (r8.Ports.length : Int),sA 10 10 11 0,sI 21 y2,sI 20 (x0.length : Int),sC 19 (cF 1 x0 intRow),sA 7 7 3 0,sA 6 6 3 0,sI 1 x1],[(10,[cI v.2.2.1,cS v.2.2.2.1,cL 8 v.2.2.2.2.1 Pt.row,cL 5 v.2.2.2.2.2.1 Fent.row,cL 3 v.2.2.2.2.2.2.1 Vrow.row,cL 1 v.2.2.2.2.2.2.2.1 intRow,cI v.2.2.2.2.2.2.2.2.1,cI v.2.2.2.2.2.2.2.2.2.1,cI v.2.2.2.2.2.2.2.2.2.2.1,cI v.2.2.2.2.2.2.2.2.2.2.2.1,cI v.2.2.2.2.2.2.2.2.2.2.2.2]),(7,[cL 11 y3 Bridge.row,cL 4 (([] : List Link) ++ x2) Link.row,cL 7 ([] : List Say) Say.row]),(6,[cL 11 ([] : List Bridge) Bridge.row,cL 4 ([] : List Link) Link.row,cL 7 ([] : List Say) Say.row])]⟩) (fun v => impl_NetNew_L4 n v.1 r8 v.2.1 v.2.2.1 v.2.2.2.1 v.2.2.2.2.1 v.2.2.2.2.2.1 v.2.2.2.2.2.2.1 v.2.2.2.2.2.2.2.1 v.2.2.2.2.2.2.2.2.1 v.2.2.2.2.2.2.2.2.2.1 v.2.2.2.2.2.2.2.2.2.2.1 v.2.2.2.2.2.2.2.2.2.2.2.1 v.2.2.2.2.2.2.2.2.2.2.2.2 = some o33) (fun v => v.1) (n,(0,r8.Id,r8.Name,r8.Ports,r8.F,r8.V.Rows,r8.V.Pvid,r8.Ticks,r8.Parse,r8.Word,r8.Drops,r8.Vers)) eo33 (St.sub_of [31,30,10,21,20,19,7,6,1] [10,7,6] kr) ?_
    rintro ⟨mo33,y9,y10,y11,y12,y13,y14,y15,y16,y17,y18,y19,y20⟩ H
    have H : impl_NetNew_L4 n mo33 r8 y9 y10 y11 y12 y13 y14 y15 y16 y17 y18 y19 y20 = some o33 := H
    obtain _ | mo33 := mo33
    ·cases (show (none : Option _) = some o33 from H)
    rw [impl_NetNew_L4] at H
    refine tG tOk 1 7519864002 1216 kr kr ?_
    refine tS ?_
    obtain ⟨h4,H⟩ | ⟨h4,H⟩ := bC H
    ·refine tF h4 kr ?_
     refine Tr.exit ?_
     refine And.intro (fun _ => ?_) (fun h => absurd rfl h)
     obtain rfl := si H
     have H := Ho33
     dsimp only at H
     exact jn (y10,y11,y12,y13,y14,y15,y16,y17,y18,y19,y20) H (sB_ [10,21,20,19,7,6,1] [10,7,6] kr)
    refine tT h4 kr ?_
    refine tK ?_
    refine tS ?_
    refine tB ?_
    refine tG tOk 2 3224898754 1216 kr kr ?_
    refine Tr.at ?_
    refine lU tOk 2 kr ?_
    obtain ⟨r34,er34,H⟩ := bind_some H
    refine lV tOk [.rd,.rd,.rd] [.box 10] (impl_LinkSet n (⟨y10,y11,y12,y13,(⟨y14,y15⟩ : Vtab),y16,y17,y18,y19,y20⟩ : Bridge) y9 true r34 er34) kr kr kr kr (.inr (rets_cons (Bridge.row_mine _) rets_nil)) ?_
    refine uD tOk 1 3224896706 1216 kr kr ?_
    refine tE tOk 2 3224896706 1216 kr kr ?_
    exact jn (mo33,((IntKind.wrap .i64 (y9 + 1)),r34.Id,r34.Name,r34.Ports,r34.F,r34.V.Rows,r34.V.Pvid,r34.Ticks,r34.Parse,r34.Word,r34.Drops,r34.Vers)) H (sM mo33 [31,30,10,21,20,19,7,6,1] [10,7,6] kr)
   rintro ⟨y21,y22,y23,y24,y25,y26,y27,y28,y29,y30,y31⟩ H
   have H : (impl_NetNew_J3 n (fun v => impl_NetNew_L2 n mo6 x0 x1 v.1 v.2) y2 y3 y21 y22 y23 y24 y25 y26 y27 y28 y29 y30 y31) = some o6 := H
   unfold impl_NetNew_J3 at H
   refine Tr.at ?_
   refine lU tOk 4 kr ?_
   obtain ⟨hg32,H⟩ := guard_some H
   refine LAt.appMU tOk (t := 25) (ty := 25) (e := 58) (x := (.tmp 39)) (y := (.tmp 41)) (d := 42) (g := none) (tI 58) Bridge.row y3 [(⟨y21,y22,y23,y24,(⟨y25,y26⟩ : Vtab),y27,y28,y29,y30,y31⟩ : Bridge)] kr kr kr kr kr kr kr kr kr kr hg32 ?_
   refine uD tOk 2 3670210 192 kr kr ?_
   refine tE tOk 2 3670210 192 kr kr ?_
   exact jn (mo6,((IntKind.wrap .i64 (y2 + 1)),(y3 ++ [(⟨y21,y22,y23,y24,(⟨y25,y26⟩ : Vtab),y27,y28,y29,y30,y31⟩ : Bridge)]))) H (sM mo6 [21,20,19,7,6,1] [7,6] kr)
  rintro y4 H
  have H : (impl_NetNew_J1 n x2 y4) = some r := H
  unfold impl_NetNew_J1 at H
  refine tS ?_
  refine rU tOk 1 kr ?_
  obtain ⟨r5,er5,H⟩ := bind_some H
  refine lV tOk [.rd] [.box 7] (impl_NetOk n (⟨y4,(([] : List Link) ++ x2),([] : List Say)⟩ : Net) r5 er5) kr kr kr kr (.inr (rets_cons (mine_cons mine_lit mine_nil) rets_nil)) ?_
  refine uD tOk 1 0x8000000000c0 192 kr kr ?_
  obtain ⟨h2,H⟩ | ⟨h2,H⟩ := bC H
  ·refine tF h2 kr ?_
   refine tK ?_
   refine tG tOk 2 64 64 kr kr ?_
   exact te (by obtain rfl := si H; exact fO [(true,[cL 11 y4 Bridge.row,cL 4 (([] : List Link) ++ x2) Link.row,cL 7 ([] : List Say) Say.row])] kr rfl rfl)
  refine tT h2 kr ?_
  refine tG tOk 2 64 64 kr kr ?_
  exact te (by obtain rfl := si H; exact fO [(true,[cL 11 ([] : List Bridge) Bridge.row,cL 4 ([] : List Link) Link.row,cL 7 ([] : List Say) Say.row])] kr rfl rfl)
 refine tT h1 kr ?_
 refine tG tOk 2 64 64 kr kr ?_
 exact te (by obtain rfl := si H; exact fO [(true,[cL 11 ([] : List Bridge) Bridge.row,cL 4 ([] : List Link) Link.row,cL 7 ([] : List Say) Say.row])] kr rfl rfl)
def laws_eqVecF (n : Nat) (x0 : Vec) (x1 : Vec) : Option (Bool) :=
  (bif (x0.Root != x1.Root) then (some false) else (bif (x0.Cost != x1.Cost) then (some false) else (bif (x0.Hops != x1.Hops) then (some false) else (bif (x0.Bridge != x1.Bridge) then (some false) else (bif (x0.Port != x1.Port) then (some false) else (some true))))))
noncomputable abbrev G238 (k : Nat) := Rg Tryz.f238 k
theorem laws_eqVec (n : Nat) (x0 : Vec) (x1 : Vec) (r : Bool) (H : laws_eqVecF n x0 x1 = some r) : LCall Tryz.prog 238 [.val true (CV.frzRow (Vec.row x0)),.val true (CV.frzRow (Vec.row x1))] [.val false [.lit (.bool r)]] [] := by
 refine LCall.of_body tOk Tryz.func238 rfl (c := (.seq (G238 0) (.seq (.seq (G238 1) (.cond (.tmp 9) (.seq (G238 2) .ret) .skip)) (.seq (.seq (G238 3) (.cond (.tmp 14) (.seq (G238 4) .ret) .skip)) (.seq (.seq (G238 5) (.cond (.tmp 19) (.seq (G238 6) .ret) .skip)) (.seq (.seq (G238 7) (.cond (.tmp 24) (.seq (G238 8) .ret) .skip)) (.seq (.seq (G238 9) (.cond (.tmp 29) (.seq (G238 10) .ret) .skip)) (.seq (G238 11) .ret)))))))) kr (Nat.le_of_ble_eq_true kr) 0 (rs := [.tmp 4]) rfl [] .nil [(false,[.lit (.bool r)])] [] [] fun cx => ?_
 show Tr _ _ _ ⟨30,0,[sV 0 (Vec.row x0),sV 1 (Vec.row x1)],[]⟩ _
 unfold laws_eqVecF at H
 refine tG tOk 3 12 12 kr kr ?_
 refine tS ?_
 refine tG tOk 5 524 12 kr kr ?_
 obtain ⟨h1,H⟩ | ⟨h1,H⟩ := bC H
 ·refine tF h1 kr ?_
  refine tK ?_
  refine tS ?_
  refine tG tOk 5 16396 12 kr kr ?_
  obtain ⟨h2,H⟩ | ⟨h2,H⟩ := bC H
  ·refine tF h2 kr ?_
   refine tK ?_
   refine tS ?_
   refine tG tOk 5 524300 12 kr kr ?_
   obtain ⟨h3,H⟩ | ⟨h3,H⟩ := bC H
   ·refine tF h3 kr ?_
    refine tK ?_
    refine tS ?_
    refine tG tOk 5 16777228 12 kr kr ?_
    obtain ⟨h4,H⟩ | ⟨h4,H⟩ := bC H
    ·refine tF h4 kr ?_
     refine tK ?_
     refine tS ?_
     refine tG tOk 5 536870912 0 kr kr ?_
     obtain ⟨h5,H⟩ | ⟨h5,H⟩ := bC H
     ·refine tF h5 kr ?_
      refine tK ?_
      refine tG tOk 1 16 0 kr kr ?_
      exact te (by obtain rfl := si H; exact fO [(false,[cB true])] kr rfl rfl)
     refine tT h5 kr ?_
     refine tG tOk 1 16 0 kr kr ?_
     exact te (by obtain rfl := si H; exact fO [(false,[cB false])] kr rfl rfl)
    refine tT h4 kr ?_
    refine tG tOk 1 16 0 kr kr ?_
    exact te (by obtain rfl := si H; exact fO [(false,[cB false])] kr rfl rfl)
   refine tT h3 kr ?_
   refine tG tOk 1 16 0 kr kr ?_
   exact te (by obtain rfl := si H; exact fO [(false,[cB false])] kr rfl rfl)
  refine tT h2 kr ?_
  refine tG tOk 1 16 0 kr kr ?_
  exact te (by obtain rfl := si H; exact fO [(false,[cB false])] kr rfl rfl)
 refine tT h1 kr ?_
 refine tG tOk 1 16 0 kr kr ?_
 exact te (by obtain rfl := si H; exact fO [(false,[cB false])] kr rfl rfl)
def laws_eqPtF (n : Nat) (x0 : Pt) (x1 : Pt) : Option (Bool) :=
  (bif (!(x0.Up == x1.Up)) then (some false) else (bif (x0.Cost != x1.Cost) then (some false) else (bif (!(x0.Has == x1.Has)) then (some false) else ((laws_eqVecF n x0.Heard x1.Heard).bind fun r1 => (bif (!r1) then (some false) else (some true))))))
noncomputable abbrev G210 (k : Nat) := Rg Tryz.f210 k
theorem laws_eqPt (n : Nat) (x0 : Pt) (x1 : Pt) (r : Bool) (H : laws_eqPtF n x0 x1 = some r) : LCall Tryz.prog 210 [.val true (CV.frzRow (Pt.row x0)),.val true (CV.frzRow (Pt.row x1))] [.val false [.lit (.bool r)]] [] := by
 refine LCall.of_body tOk Tryz.func210 rfl (c := (.seq (G210 0) (.seq (.seq (G210 1) (.cond (.tmp 9) (.seq (G210 2) .ret) .skip)) (.seq (.seq (G210 3) (.cond (.tmp 14) (.seq (G210 4) .ret) .skip)) (.seq (.seq (G210 5) (.cond (.tmp 19) (.seq (G210 6) .ret) .skip)) (.seq (.seq (G210 7) (.cond (.tmp 25) (.seq (G210 8) .ret) .skip)) (.seq (G210 9) .ret))))))) kr (Nat.le_of_ble_eq_true kr) 0 (rs := [.tmp 4]) rfl [] .nil [(false,[.lit (.bool r)])] [] [] fun cx => ?_
 show Tr _ _ _ ⟨26,0,[sV 0 (Pt.row x0),sV 1 (Pt.row x1)],[]⟩ _
 unfold laws_eqPtF at H
 refine tG tOk 3 12 12 kr kr ?_
 refine tS ?_
 refine tG tOk 5 524 12 kr kr ?_
 obtain ⟨h1,H⟩ | ⟨h1,H⟩ := bC H
 ·refine tF h1 kr ?_
  refine tK ?_
  refine tS ?_
  refine tG tOk 5 16396 12 kr kr ?_
  obtain ⟨h2,H⟩ | ⟨h2,H⟩ := bC H
  ·refine tF h2 kr ?_
   refine tK ?_
   refine tS ?_
   refine tG tOk 5 524300 12 kr kr ?_
   obtain ⟨h3,H⟩ | ⟨h3,H⟩ := bC H
   ·refine tF h3 kr ?_
    refine tK ?_
    refine tS ?_
    refine rU tOk 4 kr ?_
    obtain ⟨r1,er1,H⟩ := bind_some H
    refine lV tOk [.rd,.rd] [] (laws_eqVec n x0.Heard x1.Heard r1 er1) kr kr kr kr (.inl rfl) ?_
    refine uD tOk 1 33554432 0 kr kr ?_
    obtain ⟨h4,H⟩ | ⟨h4,H⟩ := bC H
    ·refine tF h4 kr ?_
     refine tK ?_
     refine tG tOk 1 16 0 kr kr ?_
     exact te (by obtain rfl := si H; exact fO [(false,[cB true])] kr rfl rfl)
    refine tT h4 kr ?_
    refine tG tOk 1 16 0 kr kr ?_
    exact te (by obtain rfl := si H; exact fO [(false,[cB false])] kr rfl rfl)
   refine tT h3 kr ?_
   refine tG tOk 1 16 0 kr kr ?_
   exact te (by obtain rfl := si H; exact fO [(false,[cB false])] kr rfl rfl)
  refine tT h2 kr ?_
  refine tG tOk 1 16 0 kr kr ?_
  exact te (by obtain rfl := si H; exact fO [(false,[cB false])] kr rfl rfl)
 refine tT h1 kr ?_
 refine tG tOk 1 16 0 kr kr ?_
 exact te (by obtain rfl := si H; exact fO [(false,[cB false])] kr rfl rfl)
def laws_eqPtS_J1 (n : Nat) : Option (Bool) :=
  (some true)
def laws_eqPtS_L2 (n : Nat) : Nat → (List Pt) → (List Pt) → Int → Option ((Unit) ⊕ (Bool))
  | 0,_,_,_ => none
  | mo2 + 1,x0,x1,y1 => (bif (decide (y1 < (x0.length : Int))) then ((idx x0 y1).bind fun v3 => ((idx x1 y1).bind fun v4 => ((laws_eqPtF n v3 v4).bind fun r5 => (bif (!r5) then (some (Sum.inr false)) else (laws_eqPtS_L2 n mo2 x0 x1 (IntKind.wrap .i64 (y1 + 1))))))) else (some (Sum.inl ())))
def laws_eqPtSF (n : Nat) (x0 : (List Pt)) (x1 : (List Pt)) : Option (Bool) :=
  (bif ((x0.length : Int) != (x1.length : Int)) then (some false) else ((laws_eqPtS_L2 n n x0 x1 0).bind fun o => match o with | .inl _ => (laws_eqPtS_J1 n) | .inr r => some r))
noncomputable abbrev G117 (k : Nat) := Rg Tryz.f117 k
noncomputable abbrev D117 (k : Nat) := Rd Tryz.f117 k
theorem laws_eqPtS (n : Nat) (x0 : (List Pt)) (x1 : (List Pt)) (r : Bool) (H : laws_eqPtSF n x0 x1 = some r) : LCall Tryz.prog 117 [.val false [.sl false 8 (CV.frzEs (x0.map Pt.row))],.val false [.sl false 8 (CV.frzEs (x1.map Pt.row))]] [.val false [.lit (.bool r)]] [] := by
 refine LCall.of_body tOk Tryz.func117 rfl (c := (.seq (G117 0) (.seq (.seq (G117 1) (.cond (.tmp 10) (.seq (G117 2) .ret) .skip)) (.seq (.seq (G117 3) (.block 0 (.loop (.seq (.seq (G117 4) (.cond (.tmp 14) .skip (.exit 0))) (.seq (.block 1 (.seq (D117 6) (.cond (.tmp 26) (.seq (G117 7) .ret) .skip))) (G117 5)))))) (.seq (G117 8) .ret))))) kr (Nat.le_of_ble_eq_true kr) 0 (rs := [.tmp 4]) rfl [] .nil [(false,[.lit (.bool r)])] [] [] fun cx => ?_
 show Tr _ _ _ ⟨27,0,[sC 0 (cF 8 x0 Pt.row),sC 1 (cF 8 x1 Pt.row)],[]⟩ _
 unfold laws_eqPtSF at H
 refine tG tOk 1 3 0 kr kr ?_
 refine tS ?_
 refine rU tOk 1 kr ?_
 refine lL tOk 52 3 182 6 7 none ⟨(.slot 6),[],0,false,8,(CV.frzEs (x0.map Pt.row))⟩ (x0).length _ kr kr kr kr kr (frz_len _ _) rfl ?_
 refine lU tOk 1 kr ?_
 refine lL tOk 52 3 182 8 9 none ⟨(.slot 8),[],0,false,8,(CV.frzEs (x1.map Pt.row))⟩ (x1).length _ kr kr kr kr kr (frz_len _ _) rfl ?_
 refine uD tOk 1 1027 0 kr kr ?_
 obtain ⟨h1,H⟩ | ⟨h1,H⟩ := bC H
 ·refine tF h1 kr ?_
  refine tK ?_
  refine tS ?_
  refine tG tOk 1 35 0 kr kr ?_
  obtain ⟨o2,eo2,Ho2⟩ := bind_some H
  clear H
  refine Tr.mid (ι := Unit) (fun v => ⟨27,0,[],[]⟩) (fun v => laws_eqPtS_J1 n = some r) ?_ ?_
  ·refine tB ?_
   refine Tr.loop (ι := Nat × (Int)) (fun v => ⟨27,0,[sI 5 v.2,sC 0 (cF 8 x0 Pt.row),sC 1 (cF 8 x1 Pt.row)],[]⟩) (fun v => laws_eqPtS_L2 n v.1 x0 x1 v.2 = some o2) (fun v => v.1) (n,0) eo2 (St.sub_of [5,0,1] [] kr) ?_
   rintro ⟨mo2,y1⟩ H
   have H : laws_eqPtS_L2 n mo2 x0 x1 y1 = some o2 := H
   obtain _ | mo2 := mo2
   ·cases (show (none : Option _) = some o2 from H)
   rw [laws_eqPtS_L2] at H
   refine tS ?_
   refine rU tOk 2 kr ?_
   refine lL tOk 52 3 182 12 13 none ⟨(.slot 12),[],0,false,8,(CV.frzEs (x0.map Pt.row))⟩ (x0).length _ kr kr kr kr kr (frz_len _ _) rfl ?_
   refine uD tOk 1 16419 0 kr kr ?_
   obtain ⟨h2,H⟩ | ⟨h2,H⟩ := bC H
   ·refine tF h2 kr ?_
    refine Tr.exit ?_
    refine And.intro (fun _ => ?_) (fun h => absurd rfl h)
    obtain rfl := si H
    have H := Ho2
    dsimp only at H
    exact jn () H (sB_ [] [] kr)
   refine tT h2 kr ?_
   refine tK ?_
   refine tS ?_
   refine tB ?_
   obtain ⟨v3,ev3,H⟩ := bind_some H
   obtain ⟨v4,ev4,H⟩ := bind_some H
   obtain ⟨r5,er5,H⟩ := bind_some H
   refine Tr.draws mixed 10 kr ⟨27,0,[sB 26 (!r5),sI 5 y1,sC 0 (cF 8 x0 Pt.row),sC 1 (cF 8 x1 Pt.row)],[]⟩ (fun cx => ?_) ?_
   ·refine aU tOk [(0,[]),(1,[])] 8 [] [1,0] rfl kr (fun cx => ?_)
    refine aI tOk 2 52 0 17 18 19 none ⟨(.slot 17),[],0,false,8,(CV.frzEs (x0.map Pt.row))⟩ y1 (Pt.row v3) _ kr kr kr kr kr kr rfl (idx_isF ev3) rfl (fun cx => ?_)
    refine aU tOk [(3,[]),(4,[]),(5,[])] 4 [] [5,4,3,2,1,0] rfl kr (fun cx => ?_)
    refine aI tOk 6 52 0 21 22 23 none ⟨(.slot 21),[],0,false,8,(CV.frzEs (x1.map Pt.row))⟩ y1 (Pt.row v4) _ kr kr kr kr kr kr rfl (idx_isF ev4) rfl (fun cx => ?_)
    refine aU tOk [(7,[])] 2 [] [7,6,5,4,3,2,1,0] rfl kr (fun cx => ?_)
    refine AT.big1 tOk 8 kr kr ?_
    refine lV tOk [.rd,.rd] [] (laws_eqPt n v3 v4 r5 er5) kr kr kr kr (.inl rfl) ?_
    refine lF kr kr kr ?_
    refine aU tOk [(9,[])] 0 [] [9,8,7,6,5,4,3,2,1,0] rfl kr (fun cx => ?_)
    exact AT.done [26,5,0,1] [] _ kr kr rfl
   refine tO ⟨27,0,[sB 26 (!r5),sI 5 y1,sC 0 (cF 8 x0 Pt.row),sC 1 (cF 8 x1 Pt.row)],[]⟩ kr ?_
   cases h3 : (!r5)
   ·have H := bifF h3 H
    refine tf kr ?_
    refine tK ?_
    refine tE tOk 3 35 0 kr kr ?_
    exact jn (mo2,(IntKind.wrap .i64 (y1 + 1))) H (sM mo2 [5,0,1] [] kr)
   have H := bifT h3 H
   refine tt kr ?_
   refine tG tOk 1 16 0 kr kr ?_
   refine te ?_
   obtain rfl := si H
   have H := Ho2
   dsimp only at H
   obtain rfl := si H
   exact fO [(false,[cB false])] kr rfl rfl
  rintro _ H
  have H : (laws_eqPtS_J1 n) = some r := H
  unfold laws_eqPtS_J1 at H
  refine tG tOk 1 16 0 kr kr ?_
  exact te (by obtain rfl := si H; exact fO [(false,[cB true])] kr rfl rfl)
 refine tT h1 kr ?_
 refine tG tOk 1 16 0 kr kr ?_
 exact te (by obtain rfl := si H; exact fO [(false,[cB false])] kr rfl rfl)
def laws_eqFentF (n : Nat) (x0 : Fent) (x1 : Fent) : Option (Bool) :=
  (bif (x0.Tag != x1.Tag) then (some false) else (bif (x0.Mac != x1.Mac) then (some false) else (bif (x0.Port != x1.Port) then (some false) else (bif (x0.Age != x1.Age) then (some false) else (bif (!(x0.Static == x1.Static)) then (some false) else (some true))))))
noncomputable abbrev G211 (k : Nat) := Rg Tryz.f211 k
theorem laws_eqFent (n : Nat) (x0 : Fent) (x1 : Fent) (r : Bool) (H : laws_eqFentF n x0 x1 = some r) : LCall Tryz.prog 211 [.val true (CV.frzRow (Fent.row x0)),.val true (CV.frzRow (Fent.row x1))] [.val false [.lit (.bool r)]] [] := by
 refine LCall.of_body tOk Tryz.func211 rfl (c := (.seq (G211 0) (.seq (.seq (G211 1) (.cond (.tmp 9) (.seq (G211 2) .ret) .skip)) (.seq (.seq (G211 3) (.cond (.tmp 14) (.seq (G211 4) .ret) .skip)) (.seq (.seq (G211 5) (.cond (.tmp 19) (.seq (G211 6) .ret) .skip)) (.seq (.seq (G211 7) (.cond (.tmp 24) (.seq (G211 8) .ret) .skip)) (.seq (.seq (G211 9) (.cond (.tmp 29) (.seq (G211 10) .ret) .skip)) (.seq (G211 11) .ret)))))))) kr (Nat.le_of_ble_eq_true kr) 0 (rs := [.tmp 4]) rfl [] .nil [(false,[.lit (.bool r)])] [] [] fun cx => ?_
 show Tr _ _ _ ⟨30,0,[sV 0 (Fent.row x0),sV 1 (Fent.row x1)],[]⟩ _
 unfold laws_eqFentF at H
 refine tG tOk 3 12 12 kr kr ?_
 refine tS ?_
 refine tG tOk 5 524 12 kr kr ?_
 obtain ⟨h1,H⟩ | ⟨h1,H⟩ := bC H
 ·refine tF h1 kr ?_
  refine tK ?_
  refine tS ?_
  refine tG tOk 5 16396 12 kr kr ?_
  obtain ⟨h2,H⟩ | ⟨h2,H⟩ := bC H
  ·refine tF h2 kr ?_
   refine tK ?_
   refine tS ?_
   refine tG tOk 5 524300 12 kr kr ?_
   obtain ⟨h3,H⟩ | ⟨h3,H⟩ := bC H
   ·refine tF h3 kr ?_
    refine tK ?_
    refine tS ?_
    refine tG tOk 5 16777228 12 kr kr ?_
    obtain ⟨h4,H⟩ | ⟨h4,H⟩ := bC H
    ·refine tF h4 kr ?_
     refine tK ?_
     refine tS ?_
     refine tG tOk 5 536870912 0 kr kr ?_
     obtain ⟨h5,H⟩ | ⟨h5,H⟩ := bC H
     ·refine tF h5 kr ?_
      refine tK ?_
      refine tG tOk 1 16 0 kr kr ?_
      exact te (by obtain rfl := si H; exact fO [(false,[cB true])] kr rfl rfl)
     refine tT h5 kr ?_
     refine tG tOk 1 16 0 kr kr ?_
     exact te (by obtain rfl := si H; exact fO [(false,[cB false])] kr rfl rfl)
    refine tT h4 kr ?_
    refine tG tOk 1 16 0 kr kr ?_
    exact te (by obtain rfl := si H; exact fO [(false,[cB false])] kr rfl rfl)
   refine tT h3 kr ?_
   refine tG tOk 1 16 0 kr kr ?_
   exact te (by obtain rfl := si H; exact fO [(false,[cB false])] kr rfl rfl)
  refine tT h2 kr ?_
  refine tG tOk 1 16 0 kr kr ?_
  exact te (by obtain rfl := si H; exact fO [(false,[cB false])] kr rfl rfl)
 refine tT h1 kr ?_
 refine tG tOk 1 16 0 kr kr ?_
 exact te (by obtain rfl := si H; exact fO [(false,[cB false])] kr rfl rfl)
def laws_eqFentS_J1 (n : Nat) : Option (Bool) :=
  (some true)
def laws_eqFentS_L2 (n : Nat) : Nat → (List Fent) → (List Fent) → Int → Option ((Unit) ⊕ (Bool))
  | 0,_,_,_ => none
  | mo2 + 1,x0,x1,y1 => (bif (decide (y1 < (x0.length : Int))) then ((idx x0 y1).bind fun v3 => ((idx x1 y1).bind fun v4 => ((laws_eqFentF n v3 v4).bind fun r5 => (bif (!r5) then (some (Sum.inr false)) else (laws_eqFentS_L2 n mo2 x0 x1 (IntKind.wrap .i64 (y1 + 1))))))) else (some (Sum.inl ())))
def laws_eqFentSF (n : Nat) (x0 : (List Fent)) (x1 : (List Fent)) : Option (Bool) :=
  (bif ((x0.length : Int) != (x1.length : Int)) then (some false) else ((laws_eqFentS_L2 n n x0 x1 0).bind fun o => match o with | .inl _ => (laws_eqFentS_J1 n) | .inr r => some r))
noncomputable abbrev G118 (k : Nat) := Rg Tryz.f118 k
noncomputable abbrev D118 (k : Nat) := Rd Tryz.f118 k
theorem laws_eqFentS (n : Nat) (x0 : (List Fent)) (x1 : (List Fent)) (r : Bool) (H : laws_eqFentSF n x0 x1 = some r) : LCall Tryz.prog 118 [.val false [.sl false 5 (CV.frzEs (x0.map Fent.row))],.val false [.sl false 5 (CV.frzEs (x1.map Fent.row))]] [.val false [.lit (.bool r)]] [] := by
 refine LCall.of_body tOk Tryz.func118 rfl (c := (.seq (G118 0) (.seq (.seq (G118 1) (.cond (.tmp 10) (.seq (G118 2) .ret) .skip)) (.seq (.seq (G118 3) (.block 0 (.loop (.seq (.seq (G118 4) (.cond (.tmp 14) .skip (.exit 0))) (.seq (.block 1 (.seq (D118 6) (.cond (.tmp 26) (.seq (G118 7) .ret) .skip))) (G118 5)))))) (.seq (G118 8) .ret))))) kr (Nat.le_of_ble_eq_true kr) 0 (rs := [.tmp 4]) rfl [] .nil [(false,[.lit (.bool r)])] [] [] fun cx => ?_
 show Tr _ _ _ ⟨27,0,[sC 0 (cF 5 x0 Fent.row),sC 1 (cF 5 x1 Fent.row)],[]⟩ _
 unfold laws_eqFentSF at H
 refine tG tOk 1 3 0 kr kr ?_
 refine tS ?_
 refine rU tOk 1 kr ?_
 refine lL tOk 53 3 184 6 7 none ⟨(.slot 6),[],0,false,5,(CV.frzEs (x0.map Fent.row))⟩ (x0).length _ kr kr kr kr kr (frz_len _ _) rfl ?_
 refine lU tOk 1 kr ?_
 refine lL tOk 53 3 184 8 9 none ⟨(.slot 8),[],0,false,5,(CV.frzEs (x1.map Fent.row))⟩ (x1).length _ kr kr kr kr kr (frz_len _ _) rfl ?_
 refine uD tOk 1 1027 0 kr kr ?_
 obtain ⟨h1,H⟩ | ⟨h1,H⟩ := bC H
 ·refine tF h1 kr ?_
  refine tK ?_
  refine tS ?_
  refine tG tOk 1 35 0 kr kr ?_
  obtain ⟨o2,eo2,Ho2⟩ := bind_some H
  clear H
  refine Tr.mid (ι := Unit) (fun v => ⟨27,0,[],[]⟩) (fun v => laws_eqFentS_J1 n = some r) ?_ ?_
  ·refine tB ?_
   refine Tr.loop (ι := Nat × (Int)) (fun v => ⟨27,0,[sI 5 v.2,sC 0 (cF 5 x0 Fent.row),sC 1 (cF 5 x1 Fent.row)],[]⟩) (fun v => laws_eqFentS_L2 n v.1 x0 x1 v.2 = some o2) (fun v => v.1) (n,0) eo2 (St.sub_of [5,0,1] [] kr) ?_
   rintro ⟨mo2,y1⟩ H
   have H : laws_eqFentS_L2 n mo2 x0 x1 y1 = some o2 := H
   obtain _ | mo2 := mo2
   ·cases (show (none : Option _) = some o2 from H)
   rw [laws_eqFentS_L2] at H
   refine tS ?_
   refine rU tOk 2 kr ?_
   refine lL tOk 53 3 184 12 13 none ⟨(.slot 12),[],0,false,5,(CV.frzEs (x0.map Fent.row))⟩ (x0).length _ kr kr kr kr kr (frz_len _ _) rfl ?_
   refine uD tOk 1 16419 0 kr kr ?_
   obtain ⟨h2,H⟩ | ⟨h2,H⟩ := bC H
   ·refine tF h2 kr ?_
    refine Tr.exit ?_
    refine And.intro (fun _ => ?_) (fun h => absurd rfl h)
    obtain rfl := si H
    have H := Ho2
    dsimp only at H
    exact jn () H (sB_ [] [] kr)
   refine tT h2 kr ?_
   refine tK ?_
   refine tS ?_
   refine tB ?_
   obtain ⟨v3,ev3,H⟩ := bind_some H
   obtain ⟨v4,ev4,H⟩ := bind_some H
   obtain ⟨r5,er5,H⟩ := bind_some H
   refine Tr.draws mixed 10 kr ⟨27,0,[sB 26 (!r5),sI 5 y1,sC 0 (cF 5 x0 Fent.row),sC 1 (cF 5 x1 Fent.row)],[]⟩ (fun cx => ?_) ?_
   ·refine aU tOk [(0,[]),(1,[])] 8 [] [1,0] rfl kr (fun cx => ?_)
    refine aI tOk 2 53 0 17 18 19 none ⟨(.slot 17),[],0,false,5,(CV.frzEs (x0.map Fent.row))⟩ y1 (Fent.row v3) _ kr kr kr kr kr kr rfl (idx_isF ev3) rfl (fun cx => ?_)
    refine aU tOk [(3,[]),(4,[]),(5,[])] 4 [] [5,4,3,2,1,0] rfl kr (fun cx => ?_)
    refine aI tOk 6 53 0 21 22 23 none ⟨(.slot 21),[],0,false,5,(CV.frzEs (x1.map Fent.row))⟩ y1 (Fent.row v4) _ kr kr kr kr kr kr rfl (idx_isF ev4) rfl (fun cx => ?_)
    refine aU tOk [(7,[])] 2 [] [7,6,5,4,3,2,1,0] rfl kr (fun cx => ?_)
    refine AT.big1 tOk 8 kr kr ?_
    refine lV tOk [.rd,.rd] [] (laws_eqFent n v3 v4 r5 er5) kr kr kr kr (.inl rfl) ?_
    refine lF kr kr kr ?_
    refine aU tOk [(9,[])] 0 [] [9,8,7,6,5,4,3,2,1,0] rfl kr (fun cx => ?_)
    exact AT.done [26,5,0,1] [] _ kr kr rfl
   refine tO ⟨27,0,[sB 26 (!r5),sI 5 y1,sC 0 (cF 5 x0 Fent.row),sC 1 (cF 5 x1 Fent.row)],[]⟩ kr ?_
   cases h3 : (!r5)
   ·have H := bifF h3 H
    refine tf kr ?_
    refine tK ?_
    refine tE tOk 3 35 0 kr kr ?_
    exact jn (mo2,(IntKind.wrap .i64 (y1 + 1))) H (sM mo2 [5,0,1] [] kr)
   have H := bifT h3 H
   refine tt kr ?_
   refine tG tOk 1 16 0 kr kr ?_
   refine te ?_
   obtain rfl := si H
   have H := Ho2
   dsimp only at H
   obtain rfl := si H
   exact fO [(false,[cB false])] kr rfl rfl
  rintro _ H
  have H : (laws_eqFentS_J1 n) = some r := H
  unfold laws_eqFentS_J1 at H
  refine tG tOk 1 16 0 kr kr ?_
  exact te (by obtain rfl := si H; exact fO [(false,[cB true])] kr rfl rfl)
 refine tT h1 kr ?_
 refine tG tOk 1 16 0 kr kr ?_
 exact te (by obtain rfl := si H; exact fO [(false,[cB false])] kr rfl rfl)
def laws_eqVrowF (n : Nat) (x0 : Vrow) (x1 : Vrow) : Option (Bool) :=
  (bif (x0.Id != x1.Id) then (some false) else (bif (x0.Members != x1.Members) then (some false) else (bif (x0.Bare != x1.Bare) then (some false) else (some true))))
noncomputable abbrev G249 (k : Nat) := Rg Tryz.f249 k
theorem laws_eqVrow (n : Nat) (x0 : Vrow) (x1 : Vrow) (r : Bool) (H : laws_eqVrowF n x0 x1 = some r) : LCall Tryz.prog 249 [.val true (CV.frzRow (Vrow.row x0)),.val true (CV.frzRow (Vrow.row x1))] [.val false [.lit (.bool r)]] [] := by
 refine LCall.of_body tOk Tryz.func249 rfl (c := (.seq (G249 0) (.seq (.seq (G249 1) (.cond (.tmp 9) (.seq (G249 2) .ret) .skip)) (.seq (.seq (G249 3) (.cond (.tmp 14) (.seq (G249 4) .ret) .skip)) (.seq (.seq (G249 5) (.cond (.tmp 19) (.seq (G249 6) .ret) .skip)) (.seq (G249 7) .ret)))))) kr (Nat.le_of_ble_eq_true kr) 0 (rs := [.tmp 4]) rfl [] .nil [(false,[.lit (.bool r)])] [] [] fun cx => ?_
 show Tr _ _ _ ⟨20,0,[sV 0 (Vrow.row x0),sV 1 (Vrow.row x1)],[]⟩ _
 unfold laws_eqVrowF at H
 refine tG tOk 3 12 12 kr kr ?_
 refine tS ?_
 refine tG tOk 5 524 12 kr kr ?_
 obtain ⟨h1,H⟩ | ⟨h1,H⟩ := bC H
 ·refine tF h1 kr ?_
  refine tK ?_
  refine tS ?_
  refine tG tOk 5 16396 12 kr kr ?_
  obtain ⟨h2,H⟩ | ⟨h2,H⟩ := bC H
  ·refine tF h2 kr ?_
   refine tK ?_
   refine tS ?_
   refine tG tOk 5 524288 0 kr kr ?_
   obtain ⟨h3,H⟩ | ⟨h3,H⟩ := bC H
   ·refine tF h3 kr ?_
    refine tK ?_
    refine tG tOk 1 16 0 kr kr ?_
    exact te (by obtain rfl := si H; exact fO [(false,[cB true])] kr rfl rfl)
   refine tT h3 kr ?_
   refine tG tOk 1 16 0 kr kr ?_
   exact te (by obtain rfl := si H; exact fO [(false,[cB false])] kr rfl rfl)
  refine tT h2 kr ?_
  refine tG tOk 1 16 0 kr kr ?_
  exact te (by obtain rfl := si H; exact fO [(false,[cB false])] kr rfl rfl)
 refine tT h1 kr ?_
 refine tG tOk 1 16 0 kr kr ?_
 exact te (by obtain rfl := si H; exact fO [(false,[cB false])] kr rfl rfl)
def laws_eqVrowS_J1 (n : Nat) : Option (Bool) :=
  (some true)
def laws_eqVrowS_L2 (n : Nat) : Nat → (List Vrow) → (List Vrow) → Int → Option ((Unit) ⊕ (Bool))
  | 0,_,_,_ => none
  | mo2 + 1,x0,x1,y1 => (bif (decide (y1 < (x0.length : Int))) then ((idx x0 y1).bind fun v3 => ((idx x1 y1).bind fun v4 => ((laws_eqVrowF n v3 v4).bind fun r5 => (bif (!r5) then (some (Sum.inr false)) else (laws_eqVrowS_L2 n mo2 x0 x1 (IntKind.wrap .i64 (y1 + 1))))))) else (some (Sum.inl ())))
def laws_eqVrowSF (n : Nat) (x0 : (List Vrow)) (x1 : (List Vrow)) : Option (Bool) :=
  (bif ((x0.length : Int) != (x1.length : Int)) then (some false) else ((laws_eqVrowS_L2 n n x0 x1 0).bind fun o => match o with | .inl _ => (laws_eqVrowS_J1 n) | .inr r => some r))
noncomputable abbrev G212 (k : Nat) := Rg Tryz.f212 k
noncomputable abbrev D212 (k : Nat) := Rd Tryz.f212 k
theorem laws_eqVrowS (n : Nat) (x0 : (List Vrow)) (x1 : (List Vrow)) (r : Bool) (H : laws_eqVrowSF n x0 x1 = some r) : LCall Tryz.prog 212 [.val false [.sl false 3 (CV.frzEs (x0.map Vrow.row))],.val false [.sl false 3 (CV.frzEs (x1.map Vrow.row))]] [.val false [.lit (.bool r)]] [] := by
 refine LCall.of_body tOk Tryz.func212 rfl (c := (.seq (G212 0) (.seq (.seq (G212 1) (.cond (.tmp 10) (.seq (G212 2) .ret) .skip)) (.seq (.seq (G212 3) (.block 0 (.loop (.seq (.seq (G212 4) (.cond (.tmp 14) .skip (.exit 0))) (.seq (.block 1 (.seq (D212 6) (.cond (.tmp 26) (.seq (G212 7) .ret) .skip))) (G212 5)))))) (.seq (G212 8) .ret))))) kr (Nat.le_of_ble_eq_true kr) 0 (rs := [.tmp 4]) rfl [] .nil [(false,[.lit (.bool r)])] [] [] fun cx => ?_
 show Tr _ _ _ ⟨27,0,[sC 0 (cF 3 x0 Vrow.row),sC 1 (cF 3 x1 Vrow.row)],[]⟩ _
 unfold laws_eqVrowSF at H
 refine tG tOk 1 3 0 kr kr ?_
 refine tS ?_
 refine rU tOk 1 kr ?_
 refine lL tOk 54 3 190 6 7 none ⟨(.slot 6),[],0,false,3,(CV.frzEs (x0.map Vrow.row))⟩ (x0).length _ kr kr kr kr kr (frz_len _ _) rfl ?_
 refine lU tOk 1 kr ?_
 refine lL tOk 54 3 190 8 9 none ⟨(.slot 8),[],0,false,3,(CV.frzEs (x1.map Vrow.row))⟩ (x1).length _ kr kr kr kr kr (frz_len _ _) rfl ?_
 refine uD tOk 1 1027 0 kr kr ?_
 obtain ⟨h1,H⟩ | ⟨h1,H⟩ := bC H
 ·refine tF h1 kr ?_
  refine tK ?_
  refine tS ?_
  refine tG tOk 1 35 0 kr kr ?_
  obtain ⟨o2,eo2,Ho2⟩ := bind_some H
  clear H
  refine Tr.mid (ι := Unit) (fun v => ⟨27,0,[],[]⟩) (fun v => laws_eqVrowS_J1 n = some r) ?_ ?_
  ·refine tB ?_
   refine Tr.loop (ι := Nat × (Int)) (fun v => ⟨27,0,[sI 5 v.2,sC 0 (cF 3 x0 Vrow.row),sC 1 (cF 3 x1 Vrow.row)],[]⟩) (fun v => laws_eqVrowS_L2 n v.1 x0 x1 v.2 = some o2) (fun v => v.1) (n,0) eo2 (St.sub_of [5,0,1] [] kr) ?_
   rintro ⟨mo2,y1⟩ H
   have H : laws_eqVrowS_L2 n mo2 x0 x1 y1 = some o2 := H
   obtain _ | mo2 := mo2
   ·cases (show (none : Option _) = some o2 from H)
   rw [laws_eqVrowS_L2] at H
   refine tS ?_
   refine rU tOk 2 kr ?_
   refine lL tOk 54 3 190 12 13 none ⟨(.slot 12),[],0,false,3,(CV.frzEs (x0.map Vrow.row))⟩ (x0).length _ kr kr kr kr kr (frz_len _ _) rfl ?_
   refine uD tOk 1 16419 0 kr kr ?_
   obtain ⟨h2,H⟩ | ⟨h2,H⟩ := bC H
   ·refine tF h2 kr ?_
    refine Tr.exit ?_
    refine And.intro (fun _ => ?_) (fun h => absurd rfl h)
    obtain rfl := si H
    have H := Ho2
    dsimp only at H
    exact jn () H (sB_ [] [] kr)
   refine tT h2 kr ?_
   refine tK ?_
   refine tS ?_
   refine tB ?_
   obtain ⟨v3,ev3,H⟩ := bind_some H
   obtain ⟨v4,ev4,H⟩ := bind_some H
   obtain ⟨r5,er5,H⟩ := bind_some H
   refine Tr.draws mixed 10 kr ⟨27,0,[sB 26 (!r5),sI 5 y1,sC 0 (cF 3 x0 Vrow.row),sC 1 (cF 3 x1 Vrow.row)],[]⟩ (fun cx => ?_) ?_
   ·refine aU tOk [(0,[]),(1,[])] 8 [] [1,0] rfl kr (fun cx => ?_)
    refine aI tOk 2 54 0 17 18 19 none ⟨(.slot 17),[],0,false,3,(CV.frzEs (x0.map Vrow.row))⟩ y1 (Vrow.row v3) _ kr kr kr kr kr kr rfl (idx_isF ev3) rfl (fun cx => ?_)
    refine aU tOk [(3,[]),(4,[]),(5,[])] 4 [] [5,4,3,2,1,0] rfl kr (fun cx => ?_)
    refine aI tOk 6 54 0 21 22 23 none ⟨(.slot 21),[],0,false,3,(CV.frzEs (x1.map Vrow.row))⟩ y1 (Vrow.row v4) _ kr kr kr kr kr kr rfl (idx_isF ev4) rfl (fun cx => ?_)
    refine aU tOk [(7,[])] 2 [] [7,6,5,4,3,2,1,0] rfl kr (fun cx => ?_)
    refine AT.big1 tOk 8 kr kr ?_
    refine lV tOk [.rd,.rd] [] (laws_eqVrow n v3 v4 r5 er5) kr kr kr kr (.inl rfl) ?_
    refine lF kr kr kr ?_
    refine aU tOk [(9,[])] 0 [] [9,8,7,6,5,4,3,2,1,0] rfl kr (fun cx => ?_)
    exact AT.done [26,5,0,1] [] _ kr kr rfl
   refine tO ⟨27,0,[sB 26 (!r5),sI 5 y1,sC 0 (cF 3 x0 Vrow.row),sC 1 (cF 3 x1 Vrow.row)],[]⟩ kr ?_
   cases h3 : (!r5)
   ·have H := bifF h3 H
    refine tf kr ?_
    refine tK ?_
    refine tE tOk 3 35 0 kr kr ?_
    exact jn (mo2,(IntKind.wrap .i64 (y1 + 1))) H (sM mo2 [5,0,1] [] kr)
   have H := bifT h3 H
   refine tt kr ?_
   refine tG tOk 1 16 0 kr kr ?_
   refine te ?_
   obtain rfl := si H
   have H := Ho2
   dsimp only at H
   obtain rfl := si H
   exact fO [(false,[cB false])] kr rfl rfl
  rintro _ H
  have H : (laws_eqVrowS_J1 n) = some r := H
  unfold laws_eqVrowS_J1 at H
  refine tG tOk 1 16 0 kr kr ?_
  exact te (by obtain rfl := si H; exact fO [(false,[cB true])] kr rfl rfl)
 refine tT h1 kr ?_
 refine tG tOk 1 16 0 kr kr ?_
 exact te (by obtain rfl := si H; exact fO [(false,[cB false])] kr rfl rfl)
def laws_eqIntS_J1 (n : Nat) : Option (Bool) :=
  (some true)
def laws_eqIntS_L2 (n : Nat) : Nat → (List Int) → (List Int) → Int → Option ((Unit) ⊕ (Bool))
  | 0,_,_,_ => none
  | mo2 + 1,x0,x1,y1 => (bif (decide (y1 < (x0.length : Int))) then ((idx x0 y1).bind fun v3 => ((idx x1 y1).bind fun v4 => (bif (v3 != v4) then (some (Sum.inr false)) else (laws_eqIntS_L2 n mo2 x0 x1 (IntKind.wrap .i64 (y1 + 1)))))) else (some (Sum.inl ())))
def laws_eqIntSF (n : Nat) (x0 : (List Int)) (x1 : (List Int)) : Option (Bool) :=
  (bif ((x0.length : Int) != (x1.length : Int)) then (some false) else ((laws_eqIntS_L2 n n x0 x1 0).bind fun o => match o with | .inl _ => (laws_eqIntS_J1 n) | .inr r => some r))
noncomputable abbrev G18 (k : Nat) := Rg Tryz.f18 k
noncomputable abbrev D18 (k : Nat) := Rd Tryz.f18 k
theorem laws_eqIntS (n : Nat) (x0 : (List Int)) (x1 : (List Int)) (r : Bool) (H : laws_eqIntSF n x0 x1 = some r) : LCall Tryz.prog 18 [.val false [.sl false 1 (CV.frzEs (x0.map intRow))],.val false [.sl false 1 (CV.frzEs (x1.map intRow))]] [.val false [.lit (.bool r)]] [] := by
 refine LCall.of_body tOk Tryz.func18 rfl (c := (.seq (G18 0) (.seq (.seq (G18 1) (.cond (.tmp 10) (.seq (G18 2) .ret) .skip)) (.seq (.seq (G18 3) (.block 0 (.loop (.seq (.seq (G18 4) (.cond (.tmp 14) .skip (.exit 0))) (.seq (.block 1 (.seq (D18 6) (.cond (.tmp 25) (.seq (G18 7) .ret) .skip))) (G18 5)))))) (.seq (G18 8) .ret))))) kr (Nat.le_of_ble_eq_true kr) 0 (rs := [.tmp 4]) rfl [] .nil [(false,[.lit (.bool r)])] [] [] fun cx => ?_
 show Tr _ _ _ ⟨26,0,[sC 0 (cF 1 x0 intRow),sC 1 (cF 1 x1 intRow)],[]⟩ _
 unfold laws_eqIntSF at H
 refine tG tOk 1 3 0 kr kr ?_
 refine tS ?_
 refine rU tOk 1 kr ?_
 refine lL tOk 22 3 3 6 7 none ⟨(.slot 6),[],0,false,1,(CV.frzEs (x0.map intRow))⟩ (x0).length _ kr kr kr kr kr (frz_len _ _) rfl ?_
 refine lU tOk 1 kr ?_
 refine lL tOk 22 3 3 8 9 none ⟨(.slot 8),[],0,false,1,(CV.frzEs (x1.map intRow))⟩ (x1).length _ kr kr kr kr kr (frz_len _ _) rfl ?_
 refine uD tOk 1 1027 0 kr kr ?_
 obtain ⟨h1,H⟩ | ⟨h1,H⟩ := bC H
 ·refine tF h1 kr ?_
  refine tK ?_
  refine tS ?_
  refine tG tOk 1 35 0 kr kr ?_
  obtain ⟨o2,eo2,Ho2⟩ := bind_some H
  clear H
  refine Tr.mid (ι := Unit) (fun v => ⟨26,0,[],[]⟩) (fun v => laws_eqIntS_J1 n = some r) ?_ ?_
  ·refine tB ?_
   refine Tr.loop (ι := Nat × (Int)) (fun v => ⟨26,0,[sI 5 v.2,sC 0 (cF 1 x0 intRow),sC 1 (cF 1 x1 intRow)],[]⟩) (fun v => laws_eqIntS_L2 n v.1 x0 x1 v.2 = some o2) (fun v => v.1) (n,0) eo2 (St.sub_of [5,0,1] [] kr) ?_
   rintro ⟨mo2,y1⟩ H
   have H : laws_eqIntS_L2 n mo2 x0 x1 y1 = some o2 := H
   obtain _ | mo2 := mo2
   ·cases (show (none : Option _) = some o2 from H)
   rw [laws_eqIntS_L2] at H
   refine tS ?_
   refine rU tOk 2 kr ?_
   refine lL tOk 22 3 3 12 13 none ⟨(.slot 12),[],0,false,1,(CV.frzEs (x0.map intRow))⟩ (x0).length _ kr kr kr kr kr (frz_len _ _) rfl ?_
   refine uD tOk 1 16419 0 kr kr ?_
   obtain ⟨h2,H⟩ | ⟨h2,H⟩ := bC H
   ·refine tF h2 kr ?_
    refine Tr.exit ?_
    refine And.intro (fun _ => ?_) (fun h => absurd rfl h)
    obtain rfl := si H
    have H := Ho2
    dsimp only at H
    exact jn () H (sB_ [] [] kr)
   refine tT h2 kr ?_
   refine tK ?_
   refine tS ?_
   refine tB ?_
   obtain ⟨v3,ev3,H⟩ := bind_some H
   obtain ⟨v4,ev4,H⟩ := bind_some H
   refine Tr.draws mixed 9 kr ⟨26,0,[sB 25 (v3 != v4),sI 5 y1,sC 0 (cF 1 x0 intRow),sC 1 (cF 1 x1 intRow)],[]⟩ (fun cx => ?_) ?_
   ·refine aU tOk [(0,[]),(1,[])] 7 [] [1,0] rfl kr (fun cx => ?_)
    refine aI tOk 2 22 0 17 18 19 none ⟨(.slot 17),[],0,false,1,(CV.frzEs (x0.map intRow))⟩ y1 [cI v3] _ kr kr kr kr kr kr rfl (idx_isF ev3) rfl (fun cx => ?_)
    refine aU tOk [(3,[]),(4,[]),(5,[])] 3 [] [5,4,3,2,1,0] rfl kr (fun cx => ?_)
    refine aI tOk 6 22 0 21 22 23 none ⟨(.slot 21),[],0,false,1,(CV.frzEs (x1.map intRow))⟩ y1 [cI v4] _ kr kr kr kr kr kr rfl (idx_isF ev4) rfl (fun cx => ?_)
    refine aU tOk [(7,[]),(8,[])] 0 [] [8,7,6,5,4,3,2,1,0] rfl kr (fun cx => ?_)
    exact AT.done [25,5,0,1] [] _ kr kr rfl
   refine tO ⟨26,0,[sB 25 (v3 != v4),sI 5 y1,sC 0 (cF 1 x0 intRow),sC 1 (cF 1 x1 intRow)],[]⟩ kr ?_
   cases h3 : (v3 != v4)
   ·have H := bifF h3 H
    refine tf kr ?_
    refine tK ?_
    refine tE tOk 3 35 0 kr kr ?_
    exact jn (mo2,(IntKind.wrap .i64 (y1 + 1))) H (sM mo2 [5,0,1] [] kr)
   have H := bifT h3 H
   refine tt kr ?_
   refine tG tOk 1 16 0 kr kr ?_
   refine te ?_
   obtain rfl := si H
   have H := Ho2
   dsimp only at H
   obtain rfl := si H
   exact fO [(false,[cB false])] kr rfl rfl
  rintro _ H
  have H : (laws_eqIntS_J1 n) = some r := H
  unfold laws_eqIntS_J1 at H
  refine tG tOk 1 16 0 kr kr ?_
  exact te (by obtain rfl := si H; exact fO [(false,[cB true])] kr rfl rfl)
 refine tT h1 kr ?_
 refine tG tOk 1 16 0 kr kr ?_
 exact te (by obtain rfl := si H; exact fO [(false,[cB false])] kr rfl rfl)
def laws_eqVtabF (n : Nat) (x0 : Vtab) (x1 : Vtab) : Option (Bool) :=
  ((laws_eqVrowSF n x0.Rows x1.Rows).bind fun r1 => (bif (!r1) then (some false) else ((laws_eqIntSF n x0.Pvid x1.Pvid).bind fun r2 => (bif (!r2) then (some false) else (some true)))))
noncomputable abbrev G119 (k : Nat) := Rg Tryz.f119 k
theorem laws_eqVtab (n : Nat) (x0 : Vtab) (x1 : Vtab) (r : Bool) (H : laws_eqVtabF n x0 x1 = some r) : LCall Tryz.prog 119 [.val true (CV.frzRow (Vtab.row x0)),.val true (CV.frzRow (Vtab.row x1))] [.val false [.lit (.bool r)]] [] := by
 refine LCall.of_body tOk Tryz.func119 rfl (c := (.seq (G119 0) (.seq (.seq (G119 1) (.cond (.tmp 10) (.seq (G119 2) .ret) .skip)) (.seq (.seq (G119 3) (.cond (.tmp 16) (.seq (G119 4) .ret) .skip)) (.seq (G119 5) .ret))))) kr (Nat.le_of_ble_eq_true kr) 0 (rs := [.tmp 4]) rfl [] .nil [(false,[.lit (.bool r)])] [] [] fun cx => ?_
 show Tr _ _ _ ⟨17,0,[sV 0 (CV.frzRow (Vtab.row x0)),sV 1 (CV.frzRow (Vtab.row x1))],[]⟩ _
 unfold laws_eqVtabF at H
 refine tG tOk 3 12 12 kr kr ?_
 refine tS ?_
 refine rU tOk 4 kr ?_
 obtain ⟨r1,er1,H⟩ := bind_some H
 refine lV tOk [.rd,.rd] [] (laws_eqVrowS n x0.Rows x1.Rows r1 er1) kr kr kr kr (.inl rfl) ?_
 refine uD tOk 1 1036 12 kr kr ?_
 obtain ⟨h1,H⟩ | ⟨h1,H⟩ := bC H
 ·refine tF h1 kr ?_
  refine tK ?_
  refine tS ?_
  refine rU tOk 4 kr ?_
  obtain ⟨r2,er2,H⟩ := bind_some H
  refine lV tOk [.rd,.rd] [] (laws_eqIntS n x0.Pvid x1.Pvid r2 er2) kr kr kr kr (.inl rfl) ?_
  refine uD tOk 1 65536 0 kr kr ?_
  obtain ⟨h2,H⟩ | ⟨h2,H⟩ := bC H
  ·refine tF h2 kr ?_
   refine tK ?_
   refine tG tOk 1 16 0 kr kr ?_
   exact te (by obtain rfl := si H; exact fO [(false,[cB true])] kr rfl rfl)
  refine tT h2 kr ?_
  refine tG tOk 1 16 0 kr kr ?_
  exact te (by obtain rfl := si H; exact fO [(false,[cB false])] kr rfl rfl)
 refine tT h1 kr ?_
 refine tG tOk 1 16 0 kr kr ?_
 exact te (by obtain rfl := si H; exact fO [(false,[cB false])] kr rfl rfl)
def laws_eqBridgeF (n : Nat) (x0 : Bridge) (x1 : Bridge) : Option (Bool) :=
  (bif (x0.Id != x1.Id) then (some false) else (bif (!(x0.Name.toList == x1.Name.toList)) then (some false) else ((laws_eqPtSF n x0.Ports x1.Ports).bind fun r1 => (bif (!r1) then (some false) else ((laws_eqFentSF n x0.F x1.F).bind fun r2 => (bif (!r2) then (some false) else ((laws_eqVtabF n x0.V x1.V).bind fun r3 => (bif (!r3) then (some false) else (bif (x0.Ticks != x1.Ticks) then (some false) else (bif (x0.Parse != x1.Parse) then (some false) else (bif (x0.Word != x1.Word) then (some false) else (bif (x0.Drops != x1.Drops) then (some false) else (bif (x0.Vers != x1.Vers) then (some false) else (some true))))))))))))))
noncomputable abbrev G30 (k : Nat) := Rg Tryz.f30 k
theorem laws_eqBridge (n : Nat) (x0 : Bridge) (x1 : Bridge) (r : Bool) (H : laws_eqBridgeF n x0 x1 = some r) : LCall Tryz.prog 30 [.val true (CV.frzRow (Bridge.row x0)),.val true (CV.frzRow (Bridge.row x1))] [.val false [.lit (.bool r)]] [] := by
 refine LCall.of_body tOk Tryz.func30 rfl (c := (.seq (G30 0) (.seq (.seq (G30 1) (.cond (.tmp 9) (.seq (G30 2) .ret) .skip)) (.seq (.seq (G30 3) (.cond (.tmp 14) (.seq (G30 4) .ret) .skip)) (.seq (.seq (G30 5) (.cond (.tmp 20) (.seq (G30 6) .ret) .skip)) (.seq (.seq (G30 7) (.cond (.tmp 26) (.seq (G30 8) .ret) .skip)) (.seq (.seq (G30 9) (.cond (.tmp 32) (.seq (G30 10) .ret) .skip)) (.seq (.seq (G30 11) (.cond (.tmp 37) (.seq (G30 12) .ret) .skip)) (.seq (.seq (G30 13) (.cond (.tmp 42) (.seq (G30 14) .ret) .skip)) (.seq (.seq (G30 15) (.cond (.tmp 47) (.seq (G30 16) .ret) .skip)) (.seq (.seq (G30 17) (.cond (.tmp 52) (.seq (G30 18) .ret) .skip)) (.seq (.seq (G30 19) (.cond (.tmp 57) (.seq (G30 20) .ret) .skip)) (.seq (G30 21) .ret))))))))))))) kr (Nat.le_of_ble_eq_true kr) 0 (rs := [.tmp 4]) rfl [] .nil [(false,[.lit (.bool r)])] [] [] fun cx => ?_
 show Tr _ _ _ ⟨58,0,[sV 0 (CV.frzRow (Bridge.row x0)),sV 1 (CV.frzRow (Bridge.row x1))],[]⟩ _
 unfold laws_eqBridgeF at H
 refine tG tOk 3 12 12 kr kr ?_
 refine tS ?_
 refine tG tOk 5 524 12 kr kr ?_
 obtain ⟨h1,H⟩ | ⟨h1,H⟩ := bC H
 ·refine tF h1 kr ?_
  refine tK ?_
  refine tS ?_
  refine tG tOk 5 16396 12 kr kr ?_
  obtain ⟨h2,H⟩ | ⟨h2,H⟩ := bC H
  ·refine tF h2 kr ?_
   refine tK ?_
   refine tS ?_
   refine rU tOk 4 kr ?_
   obtain ⟨r1,er1,H⟩ := bind_some H
   refine lV tOk [.rd,.rd] [] (laws_eqPtS n x0.Ports x1.Ports r1 er1) kr kr kr kr (.inl rfl) ?_
   refine uD tOk 1 1048588 12 kr kr ?_
   obtain ⟨h3,H⟩ | ⟨h3,H⟩ := bC H
   ·refine tF h3 kr ?_
    refine tK ?_
    refine tS ?_
    refine rU tOk 4 kr ?_
    obtain ⟨r2,er2,H⟩ := bind_some H
    refine lV tOk [.rd,.rd] [] (laws_eqFentS n x0.F x1.F r2 er2) kr kr kr kr (.inl rfl) ?_
    refine uD tOk 1 67108876 12 kr kr ?_
    obtain ⟨h4,H⟩ | ⟨h4,H⟩ := bC H
    ·refine tF h4 kr ?_
     refine tK ?_
     refine tS ?_
     refine rU tOk 4 kr ?_
     obtain ⟨r3,er3,H⟩ := bind_some H
     refine lV tOk [.rd,.rd] [] (laws_eqVtab n x0.V x1.V r3 er3) kr kr kr kr (.inl rfl) ?_
     refine uD tOk 1 4294967308 12 kr kr ?_
     obtain ⟨h5,H⟩ | ⟨h5,H⟩ := bC H
     ·refine tF h5 kr ?_
      refine tK ?_
      refine tS ?_
      refine tG tOk 5 137438953484 12 kr kr ?_
      refine tO ⟨58,0,[sB 37 (x0.Ticks != x1.Ticks),sA 3 3 11 0,sA 2 2 11 0],[(3,(CV.frzRow (Bridge.row x1))),(2,(CV.frzRow (Bridge.row x0)))]⟩ kr ?_
      cases h6 : (x0.Ticks != x1.Ticks)
      ·have H := bifF h6 H
       refine tf kr ?_
       refine tK ?_
       refine tS ?_
       refine tG tOk 5 4398046511116 12 kr kr ?_
       obtain ⟨h7,H⟩ | ⟨h7,H⟩ := bC H
       ·refine tF h7 kr ?_
        refine tK ?_
        refine tS ?_
        refine tG tOk 5 0x80000000000c 12 kr kr ?_
        obtain ⟨h8,H⟩ | ⟨h8,H⟩ := bC H
        ·refine tF h8 kr ?_
         refine tK ?_
         refine tS ?_
         refine tG tOk 5 4503599627370508 12 kr kr ?_
         obtain ⟨h9,H⟩ | ⟨h9,H⟩ := bC H
         ·refine tF h9 kr ?_
          refine tK ?_
          refine tS ?_
          refine tG tOk 5 0x200000000000000 0 kr kr ?_
          obtain ⟨h10,H⟩ | ⟨h10,H⟩ := bC H
          ·refine tF h10 kr ?_
           refine tK ?_
           refine tG tOk 1 16 0 kr kr ?_
           exact te (by obtain rfl := si H; exact fO [(false,[cB true])] kr rfl rfl)
          refine tT h10 kr ?_
          refine tG tOk 1 16 0 kr kr ?_
          exact te (by obtain rfl := si H; exact fO [(false,[cB false])] kr rfl rfl)
         refine tT h9 kr ?_
         refine tG tOk 1 16 0 kr kr ?_
         exact te (by obtain rfl := si H; exact fO [(false,[cB false])] kr rfl rfl)
        refine tT h8 kr ?_
        refine tG tOk 1 16 0 kr kr ?_
        exact te (by obtain rfl := si H; exact fO [(false,[cB false])] kr rfl rfl)
       refine tT h7 kr ?_
       refine tG tOk 1 16 0 kr kr ?_
       exact te (by obtain rfl := si H; exact fO [(false,[cB false])] kr rfl rfl)
      have H := bifT h6 H
      refine tt kr ?_
      refine tG tOk 1 16 0 kr kr ?_
      exact te (by obtain rfl := si H; exact fO [(false,[cB false])] kr rfl rfl)
     refine tT h5 kr ?_
     refine tG tOk 1 16 0 kr kr ?_
     exact te (by obtain rfl := si H; exact fO [(false,[cB false])] kr rfl rfl)
    refine tT h4 kr ?_
    refine tG tOk 1 16 0 kr kr ?_
    exact te (by obtain rfl := si H; exact fO [(false,[cB false])] kr rfl rfl)
   refine tT h3 kr ?_
   refine tG tOk 1 16 0 kr kr ?_
   exact te (by obtain rfl := si H; exact fO [(false,[cB false])] kr rfl rfl)
  refine tT h2 kr ?_
  refine tG tOk 1 16 0 kr kr ?_
  exact te (by obtain rfl := si H; exact fO [(false,[cB false])] kr rfl rfl)
 refine tT h1 kr ?_
 refine tG tOk 1 16 0 kr kr ?_
 exact te (by obtain rfl := si H; exact fO [(false,[cB false])] kr rfl rfl)
def laws_eqBridgeS_J1 (n : Nat) : Option (Bool) :=
  (some true)
def laws_eqBridgeS_L2 (n : Nat) : Nat → (List Bridge) → (List Bridge) → Int → Option ((Unit) ⊕ (Bool))
  | 0,_,_,_ => none
  | mo2 + 1,x0,x1,y1 => (bif (decide (y1 < (x0.length : Int))) then ((idx x0 y1).bind fun v3 => ((idx x1 y1).bind fun v4 => ((laws_eqBridgeF n v3 v4).bind fun r5 => (bif (!r5) then (some (Sum.inr false)) else (laws_eqBridgeS_L2 n mo2 x0 x1 (IntKind.wrap .i64 (y1 + 1))))))) else (some (Sum.inl ())))
def laws_eqBridgeSF (n : Nat) (x0 : (List Bridge)) (x1 : (List Bridge)) : Option (Bool) :=
  (bif ((x0.length : Int) != (x1.length : Int)) then (some false) else ((laws_eqBridgeS_L2 n n x0 x1 0).bind fun o => match o with | .inl _ => (laws_eqBridgeS_J1 n) | .inr r => some r))
noncomputable abbrev G83 (k : Nat) := Rg Tryz.f83 k
noncomputable abbrev D83 (k : Nat) := Rd Tryz.f83 k
theorem laws_eqBridgeS (n : Nat) (x0 : (List Bridge)) (x1 : (List Bridge)) (r : Bool) (H : laws_eqBridgeSF n x0 x1 = some r) : LCall Tryz.prog 83 [.val false [.sl false 11 (CV.frzEs (x0.map Bridge.row))],.val false [.sl false 11 (CV.frzEs (x1.map Bridge.row))]] [.val false [.lit (.bool r)]] [] := by
 refine LCall.of_body tOk Tryz.func83 rfl (c := (.seq (G83 0) (.seq (.seq (G83 1) (.cond (.tmp 10) (.seq (G83 2) .ret) .skip)) (.seq (.seq (G83 3) (.block 0 (.loop (.seq (.seq (G83 4) (.cond (.tmp 14) .skip (.exit 0))) (.seq (.block 1 (.seq (D83 6) (.cond (.tmp 26) (.seq (G83 7) .ret) .skip))) (G83 5)))))) (.seq (G83 8) .ret))))) kr (Nat.le_of_ble_eq_true kr) 0 (rs := [.tmp 4]) rfl [] .nil [(false,[.lit (.bool r)])] [] [] fun cx => ?_
 show Tr _ _ _ ⟨27,0,[sC 0 (cF 11 x0 Bridge.row),sC 1 (cF 11 x1 Bridge.row)],[]⟩ _
 unfold laws_eqBridgeSF at H
 refine tG tOk 1 3 0 kr kr ?_
 refine tS ?_
 refine rU tOk 1 kr ?_
 refine lL tOk 25 3 58 6 7 none ⟨(.slot 6),[],0,false,11,(CV.frzEs (x0.map Bridge.row))⟩ (x0).length _ kr kr kr kr kr (frz_len _ _) rfl ?_
 refine lU tOk 1 kr ?_
 refine lL tOk 25 3 58 8 9 none ⟨(.slot 8),[],0,false,11,(CV.frzEs (x1.map Bridge.row))⟩ (x1).length _ kr kr kr kr kr (frz_len _ _) rfl ?_
 refine uD tOk 1 1027 0 kr kr ?_
 obtain ⟨h1,H⟩ | ⟨h1,H⟩ := bC H
 ·refine tF h1 kr ?_
  refine tK ?_
  refine tS ?_
  refine tG tOk 1 35 0 kr kr ?_
  obtain ⟨o2,eo2,Ho2⟩ := bind_some H
  clear H
  refine Tr.mid (ι := Unit) (fun v => ⟨27,0,[],[]⟩) (fun v => laws_eqBridgeS_J1 n = some r) ?_ ?_
  ·refine tB ?_
   refine Tr.loop (ι := Nat × (Int)) (fun v => ⟨27,0,[sI 5 v.2,sC 0 (cF 11 x0 Bridge.row),sC 1 (cF 11 x1 Bridge.row)],[]⟩) (fun v => laws_eqBridgeS_L2 n v.1 x0 x1 v.2 = some o2) (fun v => v.1) (n,0) eo2 (St.sub_of [5,0,1] [] kr) ?_
   rintro ⟨mo2,y1⟩ H
   have H : laws_eqBridgeS_L2 n mo2 x0 x1 y1 = some o2 := H
   obtain _ | mo2 := mo2
   ·cases (show (none : Option _) = some o2 from H)
   rw [laws_eqBridgeS_L2] at H
   refine tS ?_
   refine rU tOk 2 kr ?_
   refine lL tOk 25 3 58 12 13 none ⟨(.slot 12),[],0,false,11,(CV.frzEs (x0.map Bridge.row))⟩ (x0).length _ kr kr kr kr kr (frz_len _ _) rfl ?_
   refine uD tOk 1 16419 0 kr kr ?_
   obtain ⟨h2,H⟩ | ⟨h2,H⟩ := bC H
   ·refine tF h2 kr ?_
    refine Tr.exit ?_
    refine And.intro (fun _ => ?_) (fun h => absurd rfl h)
    obtain rfl := si H
    have H := Ho2
    dsimp only at H
    exact jn () H (sB_ [] [] kr)
   refine tT h2 kr ?_
   refine tK ?_
   refine tS ?_
   refine tB ?_
   obtain ⟨v3,ev3,H⟩ := bind_some H
   obtain ⟨v4,ev4,H⟩ := bind_some H
   obtain ⟨r5,er5,H⟩ := bind_some H
   refine Tr.draws mixed 10 kr ⟨27,0,[sB 26 (!r5),sI 5 y1,sC 0 (cF 11 x0 Bridge.row),sC 1 (cF 11 x1 Bridge.row)],[]⟩ (fun cx => ?_) ?_
   ·refine aU tOk [(0,[]),(1,[])] 8 [] [1,0] rfl kr (fun cx => ?_)
    refine aI tOk 2 25 0 17 18 19 none ⟨(.slot 17),[],0,false,11,(CV.frzEs (x0.map Bridge.row))⟩ y1 (CV.frzRow (Bridge.row v3)) _ kr kr kr kr kr kr rfl (idx_isF ev3) rfl (fun cx => ?_)
    refine aU tOk [(3,[]),(4,[]),(5,[])] 4 [] [5,4,3,2,1,0] rfl kr (fun cx => ?_)
    refine aI tOk 6 25 0 21 22 23 none ⟨(.slot 21),[],0,false,11,(CV.frzEs (x1.map Bridge.row))⟩ y1 (CV.frzRow (Bridge.row v4)) _ kr kr kr kr kr kr rfl (idx_isF ev4) rfl (fun cx => ?_)
    refine aU tOk [(7,[])] 2 [] [7,6,5,4,3,2,1,0] rfl kr (fun cx => ?_)
    refine AT.big1 tOk 8 kr kr ?_
    refine lV tOk [.rd,.rd] [] (laws_eqBridge n v3 v4 r5 er5) kr kr kr kr (.inl rfl) ?_
    refine lF kr kr kr ?_
    refine aU tOk [(9,[])] 0 [] [9,8,7,6,5,4,3,2,1,0] rfl kr (fun cx => ?_)
    exact AT.done [26,5,0,1] [] _ kr kr rfl
   refine tO ⟨27,0,[sB 26 (!r5),sI 5 y1,sC 0 (cF 11 x0 Bridge.row),sC 1 (cF 11 x1 Bridge.row)],[]⟩ kr ?_
   cases h3 : (!r5)
   ·have H := bifF h3 H
    refine tf kr ?_
    refine tK ?_
    refine tE tOk 3 35 0 kr kr ?_
    exact jn (mo2,(IntKind.wrap .i64 (y1 + 1))) H (sM mo2 [5,0,1] [] kr)
   have H := bifT h3 H
   refine tt kr ?_
   refine tG tOk 1 16 0 kr kr ?_
   refine te ?_
   obtain rfl := si H
   have H := Ho2
   dsimp only at H
   obtain rfl := si H
   exact fO [(false,[cB false])] kr rfl rfl
  rintro _ H
  have H : (laws_eqBridgeS_J1 n) = some r := H
  unfold laws_eqBridgeS_J1 at H
  refine tG tOk 1 16 0 kr kr ?_
  exact te (by obtain rfl := si H; exact fO [(false,[cB true])] kr rfl rfl)
 refine tT h1 kr ?_
 refine tG tOk 1 16 0 kr kr ?_
 exact te (by obtain rfl := si H; exact fO [(false,[cB false])] kr rfl rfl)
def laws_eqLinkF (n : Nat) (x0 : Link) (x1 : Link) : Option (Bool) :=
  (bif (x0.A != x1.A) then (some false) else (bif (x0.P != x1.P) then (some false) else (bif (x0.B != x1.B) then (some false) else (bif (x0.Q != x1.Q) then (some false) else (some true)))))
noncomputable abbrev G85 (k : Nat) := Rg Tryz.f85 k
theorem laws_eqLink (n : Nat) (x0 : Link) (x1 : Link) (r : Bool) (H : laws_eqLinkF n x0 x1 = some r) : LCall Tryz.prog 85 [.val true (CV.frzRow (Link.row x0)),.val true (CV.frzRow (Link.row x1))] [.val false [.lit (.bool r)]] [] := by
 refine LCall.of_body tOk Tryz.func85 rfl (c := (.seq (G85 0) (.seq (.seq (G85 1) (.cond (.tmp 9) (.seq (G85 2) .ret) .skip)) (.seq (.seq (G85 3) (.cond (.tmp 14) (.seq (G85 4) .ret) .skip)) (.seq (.seq (G85 5) (.cond (.tmp 19) (.seq (G85 6) .ret) .skip)) (.seq (.seq (G85 7) (.cond (.tmp 24) (.seq (G85 8) .ret) .skip)) (.seq (G85 9) .ret))))))) kr (Nat.le_of_ble_eq_true kr) 0 (rs := [.tmp 4]) rfl [] .nil [(false,[.lit (.bool r)])] [] [] fun cx => ?_
 show Tr _ _ _ ⟨25,0,[sV 0 (Link.row x0),sV 1 (Link.row x1)],[]⟩ _
 unfold laws_eqLinkF at H
 refine tG tOk 3 12 12 kr kr ?_
 refine tS ?_
 refine tG tOk 5 524 12 kr kr ?_
 obtain ⟨h1,H⟩ | ⟨h1,H⟩ := bC H
 ·refine tF h1 kr ?_
  refine tK ?_
  refine tS ?_
  refine tG tOk 5 16396 12 kr kr ?_
  obtain ⟨h2,H⟩ | ⟨h2,H⟩ := bC H
  ·refine tF h2 kr ?_
   refine tK ?_
   refine tS ?_
   refine tG tOk 5 524300 12 kr kr ?_
   obtain ⟨h3,H⟩ | ⟨h3,H⟩ := bC H
   ·refine tF h3 kr ?_
    refine tK ?_
    refine tS ?_
    refine tG tOk 5 16777216 0 kr kr ?_
    obtain ⟨h4,H⟩ | ⟨h4,H⟩ := bC H
    ·refine tF h4 kr ?_
     refine tK ?_
     refine tG tOk 1 16 0 kr kr ?_
     exact te (by obtain rfl := si H; exact fO [(false,[cB true])] kr rfl rfl)
    refine tT h4 kr ?_
    refine tG tOk 1 16 0 kr kr ?_
    exact te (by obtain rfl := si H; exact fO [(false,[cB false])] kr rfl rfl)
   refine tT h3 kr ?_
   refine tG tOk 1 16 0 kr kr ?_
   exact te (by obtain rfl := si H; exact fO [(false,[cB false])] kr rfl rfl)
  refine tT h2 kr ?_
  refine tG tOk 1 16 0 kr kr ?_
  exact te (by obtain rfl := si H; exact fO [(false,[cB false])] kr rfl rfl)
 refine tT h1 kr ?_
 refine tG tOk 1 16 0 kr kr ?_
 exact te (by obtain rfl := si H; exact fO [(false,[cB false])] kr rfl rfl)
def laws_eqLinkS_J1 (n : Nat) : Option (Bool) :=
  (some true)
def laws_eqLinkS_L2 (n : Nat) : Nat → (List Link) → (List Link) → Int → Option ((Unit) ⊕ (Bool))
  | 0,_,_,_ => none
  | mo2 + 1,x0,x1,y1 => (bif (decide (y1 < (x0.length : Int))) then ((idx x0 y1).bind fun v3 => ((idx x1 y1).bind fun v4 => ((laws_eqLinkF n v3 v4).bind fun r5 => (bif (!r5) then (some (Sum.inr false)) else (laws_eqLinkS_L2 n mo2 x0 x1 (IntKind.wrap .i64 (y1 + 1))))))) else (some (Sum.inl ())))
def laws_eqLinkSF (n : Nat) (x0 : (List Link)) (x1 : (List Link)) : Option (Bool) :=
  (bif ((x0.length : Int) != (x1.length : Int)) then (some false) else ((laws_eqLinkS_L2 n n x0 x1 0).bind fun o => match o with | .inl _ => (laws_eqLinkS_J1 n) | .inr r => some r))
noncomputable abbrev G19 (k : Nat) := Rg Tryz.f19 k
noncomputable abbrev D19 (k : Nat) := Rd Tryz.f19 k
theorem laws_eqLinkS (n : Nat) (x0 : (List Link)) (x1 : (List Link)) (r : Bool) (H : laws_eqLinkSF n x0 x1 = some r) : LCall Tryz.prog 19 [.val false [.sl false 4 (CV.frzEs (x0.map Link.row))],.val false [.sl false 4 (CV.frzEs (x1.map Link.row))]] [.val false [.lit (.bool r)]] [] := by
 refine LCall.of_body tOk Tryz.func19 rfl (c := (.seq (G19 0) (.seq (.seq (G19 1) (.cond (.tmp 10) (.seq (G19 2) .ret) .skip)) (.seq (.seq (G19 3) (.block 0 (.loop (.seq (.seq (G19 4) (.cond (.tmp 14) .skip (.exit 0))) (.seq (.block 1 (.seq (D19 6) (.cond (.tmp 26) (.seq (G19 7) .ret) .skip))) (G19 5)))))) (.seq (G19 8) .ret))))) kr (Nat.le_of_ble_eq_true kr) 0 (rs := [.tmp 4]) rfl [] .nil [(false,[.lit (.bool r)])] [] [] fun cx => ?_
 show Tr _ _ _ ⟨27,0,[sC 0 (cF 4 x0 Link.row),sC 1 (cF 4 x1 Link.row)],[]⟩ _
 unfold laws_eqLinkSF at H
 refine tG tOk 1 3 0 kr kr ?_
 refine tS ?_
 refine rU tOk 1 kr ?_
 refine lL tOk 26 3 126 6 7 none ⟨(.slot 6),[],0,false,4,(CV.frzEs (x0.map Link.row))⟩ (x0).length _ kr kr kr kr kr (frz_len _ _) rfl ?_
 refine lU tOk 1 kr ?_
 refine lL tOk 26 3 126 8 9 none ⟨(.slot 8),[],0,false,4,(CV.frzEs (x1.map Link.row))⟩ (x1).length _ kr kr kr kr kr (frz_len _ _) rfl ?_
 refine uD tOk 1 1027 0 kr kr ?_
 obtain ⟨h1,H⟩ | ⟨h1,H⟩ := bC H
 ·refine tF h1 kr ?_
  refine tK ?_
  refine tS ?_
  refine tG tOk 1 35 0 kr kr ?_
  obtain ⟨o2,eo2,Ho2⟩ := bind_some H
  clear H
  refine Tr.mid (ι := Unit) (fun v => ⟨27,0,[],[]⟩) (fun v => laws_eqLinkS_J1 n = some r) ?_ ?_
  ·refine tB ?_
   refine Tr.loop (ι := Nat × (Int)) (fun v => ⟨27,0,[sI 5 v.2,sC 0 (cF 4 x0 Link.row),sC 1 (cF 4 x1 Link.row)],[]⟩) (fun v => laws_eqLinkS_L2 n v.1 x0 x1 v.2 = some o2) (fun v => v.1) (n,0) eo2 (St.sub_of [5,0,1] [] kr) ?_
   rintro ⟨mo2,y1⟩ H
   have H : laws_eqLinkS_L2 n mo2 x0 x1 y1 = some o2 := H
   obtain _ | mo2 := mo2
   ·cases (show (none : Option _) = some o2 from H)
   rw [laws_eqLinkS_L2] at H
   refine tS ?_
   refine rU tOk 2 kr ?_
   refine lL tOk 26 3 126 12 13 none ⟨(.slot 12),[],0,false,4,(CV.frzEs (x0.map Link.row))⟩ (x0).length _ kr kr kr kr kr (frz_len _ _) rfl ?_
   refine uD tOk 1 16419 0 kr kr ?_
   obtain ⟨h2,H⟩ | ⟨h2,H⟩ := bC H
   ·refine tF h2 kr ?_
    refine Tr.exit ?_
    refine And.intro (fun _ => ?_) (fun h => absurd rfl h)
    obtain rfl := si H
    have H := Ho2
    dsimp only at H
    exact jn () H (sB_ [] [] kr)
   refine tT h2 kr ?_
   refine tK ?_
   refine tS ?_
   refine tB ?_
   obtain ⟨v3,ev3,H⟩ := bind_some H
   obtain ⟨v4,ev4,H⟩ := bind_some H
   obtain ⟨r5,er5,H⟩ := bind_some H
   refine Tr.draws mixed 10 kr ⟨27,0,[sB 26 (!r5),sI 5 y1,sC 0 (cF 4 x0 Link.row),sC 1 (cF 4 x1 Link.row)],[]⟩ (fun cx => ?_) ?_
   ·refine aU tOk [(0,[]),(1,[])] 8 [] [1,0] rfl kr (fun cx => ?_)
    refine aI tOk 2 26 0 17 18 19 none ⟨(.slot 17),[],0,false,4,(CV.frzEs (x0.map Link.row))⟩ y1 (Link.row v3) _ kr kr kr kr kr kr rfl (idx_isF ev3) rfl (fun cx => ?_)
    refine aU tOk [(3,[]),(4,[]),(5,[])] 4 [] [5,4,3,2,1,0] rfl kr (fun cx => ?_)
    refine aI tOk 6 26 0 21 22 23 none ⟨(.slot 21),[],0,false,4,(CV.frzEs (x1.map Link.row))⟩ y1 (Link.row v4) _ kr kr kr kr kr kr rfl (idx_isF ev4) rfl (fun cx => ?_)
    refine aU tOk [(7,[])] 2 [] [7,6,5,4,3,2,1,0] rfl kr (fun cx => ?_)
    refine AT.big1 tOk 8 kr kr ?_
    refine lV tOk [.rd,.rd] [] (laws_eqLink n v3 v4 r5 er5) kr kr kr kr (.inl rfl) ?_
    refine lF kr kr kr ?_
    refine aU tOk [(9,[])] 0 [] [9,8,7,6,5,4,3,2,1,0] rfl kr (fun cx => ?_)
    exact AT.done [26,5,0,1] [] _ kr kr rfl
   refine tO ⟨27,0,[sB 26 (!r5),sI 5 y1,sC 0 (cF 4 x0 Link.row),sC 1 (cF 4 x1 Link.row)],[]⟩ kr ?_
   cases h3 : (!r5)
   ·have H := bifF h3 H
    refine tf kr ?_
    refine tK ?_
    refine tE tOk 3 35 0 kr kr ?_
    exact jn (mo2,(IntKind.wrap .i64 (y1 + 1))) H (sM mo2 [5,0,1] [] kr)
   have H := bifT h3 H
   refine tt kr ?_
   refine tG tOk 1 16 0 kr kr ?_
   refine te ?_
   obtain rfl := si H
   have H := Ho2
   dsimp only at H
   obtain rfl := si H
   exact fO [(false,[cB false])] kr rfl rfl
  rintro _ H
  have H : (laws_eqLinkS_J1 n) = some r := H
  unfold laws_eqLinkS_J1 at H
  refine tG tOk 1 16 0 kr kr ?_
  exact te (by obtain rfl := si H; exact fO [(false,[cB true])] kr rfl rfl)
 refine tT h1 kr ?_
 refine tG tOk 1 16 0 kr kr ?_
 exact te (by obtain rfl := si H; exact fO [(false,[cB false])] kr rfl rfl)
def laws_eqSayF (n : Nat) (x0 : Say) (x1 : Say) : Option (Bool) :=
  (bif (x0.Link != x1.Link) then (some false) else (bif (!(x0.Back == x1.Back)) then (some false) else ((laws_eqVecF n x0.V x1.V).bind fun r1 => (bif (!r1) then (some false) else (some true)))))
noncomputable abbrev G184 (k : Nat) := Rg Tryz.f184 k
theorem laws_eqSay (n : Nat) (x0 : Say) (x1 : Say) (r : Bool) (H : laws_eqSayF n x0 x1 = some r) : LCall Tryz.prog 184 [.val true (CV.frzRow (Say.row x0)),.val true (CV.frzRow (Say.row x1))] [.val false [.lit (.bool r)]] [] := by
 refine LCall.of_body tOk Tryz.func184 rfl (c := (.seq (G184 0) (.seq (.seq (G184 1) (.cond (.tmp 9) (.seq (G184 2) .ret) .skip)) (.seq (.seq (G184 3) (.cond (.tmp 14) (.seq (G184 4) .ret) .skip)) (.seq (.seq (G184 5) (.cond (.tmp 20) (.seq (G184 6) .ret) .skip)) (.seq (G184 7) .ret)))))) kr (Nat.le_of_ble_eq_true kr) 0 (rs := [.tmp 4]) rfl [] .nil [(false,[.lit (.bool r)])] [] [] fun cx => ?_
 show Tr _ _ _ ⟨21,0,[sV 0 (Say.row x0),sV 1 (Say.row x1)],[]⟩ _
 unfold laws_eqSayF at H
 refine tG tOk 3 12 12 kr kr ?_
 refine tS ?_
 refine tG tOk 5 524 12 kr kr ?_
 obtain ⟨h1,H⟩ | ⟨h1,H⟩ := bC H
 ·refine tF h1 kr ?_
  refine tK ?_
  refine tS ?_
  refine tG tOk 5 16396 12 kr kr ?_
  obtain ⟨h2,H⟩ | ⟨h2,H⟩ := bC H
  ·refine tF h2 kr ?_
   refine tK ?_
   refine tS ?_
   refine rU tOk 4 kr ?_
   obtain ⟨r1,er1,H⟩ := bind_some H
   refine lV tOk [.rd,.rd] [] (laws_eqVec n x0.V x1.V r1 er1) kr kr kr kr (.inl rfl) ?_
   refine uD tOk 1 1048576 0 kr kr ?_
   obtain ⟨h3,H⟩ | ⟨h3,H⟩ := bC H
   ·refine tF h3 kr ?_
    refine tK ?_
    refine tG tOk 1 16 0 kr kr ?_
    exact te (by obtain rfl := si H; exact fO [(false,[cB true])] kr rfl rfl)
   refine tT h3 kr ?_
   refine tG tOk 1 16 0 kr kr ?_
   exact te (by obtain rfl := si H; exact fO [(false,[cB false])] kr rfl rfl)
  refine tT h2 kr ?_
  refine tG tOk 1 16 0 kr kr ?_
  exact te (by obtain rfl := si H; exact fO [(false,[cB false])] kr rfl rfl)
 refine tT h1 kr ?_
 refine tG tOk 1 16 0 kr kr ?_
 exact te (by obtain rfl := si H; exact fO [(false,[cB false])] kr rfl rfl)
def laws_eqSayS_J1 (n : Nat) : Option (Bool) :=
  (some true)
def laws_eqSayS_L2 (n : Nat) : Nat → (List Say) → (List Say) → Int → Option ((Unit) ⊕ (Bool))
  | 0,_,_,_ => none
  | mo2 + 1,x0,x1,y1 => (bif (decide (y1 < (x0.length : Int))) then ((idx x0 y1).bind fun v3 => ((idx x1 y1).bind fun v4 => ((laws_eqSayF n v3 v4).bind fun r5 => (bif (!r5) then (some (Sum.inr false)) else (laws_eqSayS_L2 n mo2 x0 x1 (IntKind.wrap .i64 (y1 + 1))))))) else (some (Sum.inl ())))
def laws_eqSaySF (n : Nat) (x0 : (List Say)) (x1 : (List Say)) : Option (Bool) :=
  (bif ((x0.length : Int) != (x1.length : Int)) then (some false) else ((laws_eqSayS_L2 n n x0 x1 0).bind fun o => match o with | .inl _ => (laws_eqSayS_J1 n) | .inr r => some r))
noncomputable abbrev G84 (k : Nat) := Rg Tryz.f84 k
noncomputable abbrev D84 (k : Nat) := Rd Tryz.f84 k
theorem laws_eqSayS (n : Nat) (x0 : (List Say)) (x1 : (List Say)) (r : Bool) (H : laws_eqSaySF n x0 x1 = some r) : LCall Tryz.prog 84 [.val false [.sl false 7 (CV.frzEs (x0.map Say.row))],.val false [.sl false 7 (CV.frzEs (x1.map Say.row))]] [.val false [.lit (.bool r)]] [] := by
 refine LCall.of_body tOk Tryz.func84 rfl (c := (.seq (G84 0) (.seq (.seq (G84 1) (.cond (.tmp 10) (.seq (G84 2) .ret) .skip)) (.seq (.seq (G84 3) (.block 0 (.loop (.seq (.seq (G84 4) (.cond (.tmp 14) .skip (.exit 0))) (.seq (.block 1 (.seq (D84 6) (.cond (.tmp 26) (.seq (G84 7) .ret) .skip))) (G84 5)))))) (.seq (G84 8) .ret))))) kr (Nat.le_of_ble_eq_true kr) 0 (rs := [.tmp 4]) rfl [] .nil [(false,[.lit (.bool r)])] [] [] fun cx => ?_
 show Tr _ _ _ ⟨27,0,[sC 0 (cF 7 x0 Say.row),sC 1 (cF 7 x1 Say.row)],[]⟩ _
 unfold laws_eqSaySF at H
 refine tG tOk 1 3 0 kr kr ?_
 refine tS ?_
 refine rU tOk 1 kr ?_
 refine lL tOk 27 3 195 6 7 none ⟨(.slot 6),[],0,false,7,(CV.frzEs (x0.map Say.row))⟩ (x0).length _ kr kr kr kr kr (frz_len _ _) rfl ?_
 refine lU tOk 1 kr ?_
 refine lL tOk 27 3 195 8 9 none ⟨(.slot 8),[],0,false,7,(CV.frzEs (x1.map Say.row))⟩ (x1).length _ kr kr kr kr kr (frz_len _ _) rfl ?_
 refine uD tOk 1 1027 0 kr kr ?_
 obtain ⟨h1,H⟩ | ⟨h1,H⟩ := bC H
 ·refine tF h1 kr ?_
  refine tK ?_
  refine tS ?_
  refine tG tOk 1 35 0 kr kr ?_
  obtain ⟨o2,eo2,Ho2⟩ := bind_some H
  clear H
  refine Tr.mid (ι := Unit) (fun v => ⟨27,0,[],[]⟩) (fun v => laws_eqSayS_J1 n = some r) ?_ ?_
  ·refine tB ?_
   refine Tr.loop (ι := Nat × (Int)) (fun v => ⟨27,0,[sI 5 v.2,sC 0 (cF 7 x0 Say.row),sC 1 (cF 7 x1 Say.row)],[]⟩) (fun v => laws_eqSayS_L2 n v.1 x0 x1 v.2 = some o2) (fun v => v.1) (n,0) eo2 (St.sub_of [5,0,1] [] kr) ?_
   rintro ⟨mo2,y1⟩ H
   have H : laws_eqSayS_L2 n mo2 x0 x1 y1 = some o2 := H
   obtain _ | mo2 := mo2
   ·cases (show (none : Option _) = some o2 from H)
   rw [laws_eqSayS_L2] at H
   refine tS ?_
   refine rU tOk 2 kr ?_
   refine lL tOk 27 3 195 12 13 none ⟨(.slot 12),[],0,false,7,(CV.frzEs (x0.map Say.row))⟩ (x0).length _ kr kr kr kr kr (frz_len _ _) rfl ?_
   refine uD tOk 1 16419 0 kr kr ?_
   obtain ⟨h2,H⟩ | ⟨h2,H⟩ := bC H
   ·refine tF h2 kr ?_
    refine Tr.exit ?_
    refine And.intro (fun _ => ?_) (fun h => absurd rfl h)
    obtain rfl := si H
    have H := Ho2
    dsimp only at H
    exact jn () H (sB_ [] [] kr)
   refine tT h2 kr ?_
   refine tK ?_
   refine tS ?_
   refine tB ?_
   obtain ⟨v3,ev3,H⟩ := bind_some H
   obtain ⟨v4,ev4,H⟩ := bind_some H
   obtain ⟨r5,er5,H⟩ := bind_some H
   refine Tr.draws mixed 10 kr ⟨27,0,[sB 26 (!r5),sI 5 y1,sC 0 (cF 7 x0 Say.row),sC 1 (cF 7 x1 Say.row)],[]⟩ (fun cx => ?_) ?_
   ·refine aU tOk [(0,[]),(1,[])] 8 [] [1,0] rfl kr (fun cx => ?_)
    refine aI tOk 2 27 0 17 18 19 none ⟨(.slot 17),[],0,false,7,(CV.frzEs (x0.map Say.row))⟩ y1 (Say.row v3) _ kr kr kr kr kr kr rfl (idx_isF ev3) rfl (fun cx => ?_)
    refine aU tOk [(3,[]),(4,[]),(5,[])] 4 [] [5,4,3,2,1,0] rfl kr (fun cx => ?_)
    refine aI tOk 6 27 0 21 22 23 none ⟨(.slot 21),[],0,false,7,(CV.frzEs (x1.map Say.row))⟩ y1 (Say.row v4) _ kr kr kr kr kr kr rfl (idx_isF ev4) rfl (fun cx => ?_)
    refine aU tOk [(7,[])] 2 [] [7,6,5,4,3,2,1,0] rfl kr (fun cx => ?_)
    refine AT.big1 tOk 8 kr kr ?_
    refine lV tOk [.rd,.rd] [] (laws_eqSay n v3 v4 r5 er5) kr kr kr kr (.inl rfl) ?_
    refine lF kr kr kr ?_
    refine aU tOk [(9,[])] 0 [] [9,8,7,6,5,4,3,2,1,0] rfl kr (fun cx => ?_)
    exact AT.done [26,5,0,1] [] _ kr kr rfl
   refine tO ⟨27,0,[sB 26 (!r5),sI 5 y1,sC 0 (cF 7 x0 Say.row),sC 1 (cF 7 x1 Say.row)],[]⟩ kr ?_
   cases h3 : (!r5)
   ·have H := bifF h3 H
    refine tf kr ?_
    refine tK ?_
    refine tE tOk 3 35 0 kr kr ?_
    exact jn (mo2,(IntKind.wrap .i64 (y1 + 1))) H (sM mo2 [5,0,1] [] kr)
   have H := bifT h3 H
   refine tt kr ?_
   refine tG tOk 1 16 0 kr kr ?_
   refine te ?_
   obtain rfl := si H
   have H := Ho2
   dsimp only at H
   obtain rfl := si H
   exact fO [(false,[cB false])] kr rfl rfl
  rintro _ H
  have H : (laws_eqSayS_J1 n) = some r := H
  unfold laws_eqSayS_J1 at H
  refine tG tOk 1 16 0 kr kr ?_
  exact te (by obtain rfl := si H; exact fO [(false,[cB true])] kr rfl rfl)
 refine tT h1 kr ?_
 refine tG tOk 1 16 0 kr kr ?_
 exact te (by obtain rfl := si H; exact fO [(false,[cB false])] kr rfl rfl)
def laws_eqNetF (n : Nat) (x0 : Net) (x1 : Net) : Option (Bool) :=
  ((laws_eqBridgeSF n x0.Bridges x1.Bridges).bind fun r1 => (bif (!r1) then (some false) else ((laws_eqLinkSF n x0.Links x1.Links).bind fun r2 => (bif (!r2) then (some false) else ((laws_eqSaySF n x0.Said x1.Said).bind fun r3 => (bif (!r3) then (some false) else (some true)))))))
noncomputable abbrev G17 (k : Nat) := Rg Tryz.f17 k
theorem laws_eqNet (n : Nat) (x0 : Net) (x1 : Net) (r : Bool) (H : laws_eqNetF n x0 x1 = some r) : LCall Tryz.prog 17 [.val true (CV.frzRow (Net.row x0)),.val true (CV.frzRow (Net.row x1))] [.val false [.lit (.bool r)]] [] := by
 refine LCall.of_body tOk Tryz.func17 rfl (c := (.seq (G17 0) (.seq (.seq (G17 1) (.cond (.tmp 10) (.seq (G17 2) .ret) .skip)) (.seq (.seq (G17 3) (.cond (.tmp 16) (.seq (G17 4) .ret) .skip)) (.seq (.seq (G17 5) (.cond (.tmp 22) (.seq (G17 6) .ret) .skip)) (.seq (G17 7) .ret)))))) kr (Nat.le_of_ble_eq_true kr) 0 (rs := [.tmp 4]) rfl [] .nil [(false,[.lit (.bool r)])] [] [] fun cx => ?_
 show Tr _ _ _ ⟨23,0,[sV 0 (CV.frzRow (Net.row x0)),sV 1 (CV.frzRow (Net.row x1))],[]⟩ _
 unfold laws_eqNetF at H
 refine tG tOk 3 12 12 kr kr ?_
 refine tS ?_
 refine rU tOk 4 kr ?_
 obtain ⟨r1,er1,H⟩ := bind_some H
 refine lV tOk [.rd,.rd] [] (laws_eqBridgeS n x0.Bridges x1.Bridges r1 er1) kr kr kr kr (.inl rfl) ?_
 refine uD tOk 1 1036 12 kr kr ?_
 obtain ⟨h1,H⟩ | ⟨h1,H⟩ := bC H
 ·refine tF h1 kr ?_
  refine tK ?_
  refine tS ?_
  refine rU tOk 4 kr ?_
  obtain ⟨r2,er2,H⟩ := bind_some H
  refine lV tOk [.rd,.rd] [] (laws_eqLinkS n x0.Links x1.Links r2 er2) kr kr kr kr (.inl rfl) ?_
  refine uD tOk 1 65548 12 kr kr ?_
  obtain ⟨h2,H⟩ | ⟨h2,H⟩ := bC H
  ·refine tF h2 kr ?_
   refine tK ?_
   refine tS ?_
   refine rU tOk 4 kr ?_
   obtain ⟨r3,er3,H⟩ := bind_some H
   refine lV tOk [.rd,.rd] [] (laws_eqSayS n x0.Said x1.Said r3 er3) kr kr kr kr (.inl rfl) ?_
   refine uD tOk 1 4194304 0 kr kr ?_
   obtain ⟨h3,H⟩ | ⟨h3,H⟩ := bC H
   ·refine tF h3 kr ?_
    refine tK ?_
    refine tG tOk 1 16 0 kr kr ?_
    exact te (by obtain rfl := si H; exact fO [(false,[cB true])] kr rfl rfl)
   refine tT h3 kr ?_
   refine tG tOk 1 16 0 kr kr ?_
   exact te (by obtain rfl := si H; exact fO [(false,[cB false])] kr rfl rfl)
  refine tT h2 kr ?_
  refine tG tOk 1 16 0 kr kr ?_
  exact te (by obtain rfl := si H; exact fO [(false,[cB false])] kr rfl rfl)
 refine tT h1 kr ?_
 refine tG tOk 1 16 0 kr kr ?_
 exact te (by obtain rfl := si H; exact fO [(false,[cB false])] kr rfl rfl)
def laws_markIntS_J1 (n : Nat) (y4 : (List Int)) (y5 : Int) : Option (Int × (List Int)) :=
  (some (y5,y4))
def laws_markIntS_L2 (n : Nat) : Nat → Int → (List Int) → Int → Option (((List Int) × Int) ⊕ (Int × (List Int)))
  | 0,_,_,_ => none
  | mo6 + 1,y1,y2,y3 => (bif (decide (y1 < (y2.length : Int))) then ((idx y2 y1).bind fun v7 => (laws_markIntS_L2 n mo6 (IntKind.wrap .i64 (y1 + 1)) (y2.set (y1.toNat) y3) (IntKind.wrap .i64 (y3 + 1)))) else (some (Sum.inl (y2,y3))))
def laws_markIntSF (n : Nat) (x0 : (List Int)) (x1 : Int) : Option (Int × (List Int)) :=
  ((laws_markIntS_L2 n n 0 x0 x1).bind fun o => match o with | .inl (y4,y5) => (laws_markIntS_J1 n y4 y5) | .inr r => some r)
noncomputable abbrev G20 (k : Nat) := Rg Tryz.f20 k
theorem laws_markIntS (n : Nat) (x0 : (List Int)) (x1 : Int) (r : Int × (List Int)) (H : laws_markIntSF n x0 x1 = some r) : LCall Tryz.prog 20 [.io false [.sl true 1 (x0.map intRow)],.val false [.lit (.int .i64 x1)]] [.val false [.lit (.int .i64 r.1)]] [(0,[.sl true 1 (r.2.map intRow)])] := by
 refine LCall.of_body tOk Tryz.func20 rfl (c := (.seq (G20 0) (.seq (.seq (G20 1) (.block 0 (.loop (.seq (.seq (G20 2) (.cond (.tmp 9) .skip (.exit 0))) (.seq (.block 1 (.seq (G20 4) (G20 5))) (G20 3)))))) (.seq (G20 6) .ret)))) kr (Nat.le_of_ble_eq_true kr) 1 (rs := [.tmp 4]) rfl [0] (by decide) [(false,[.lit (.int .i64 r.1)])] [[.sl true 1 (r.2.map intRow)]] [] fun cx => ?_
 show Tr _ _ _ ⟨19,1,[sC 0 (cL 1 x0 intRow),sI 1 x1],[]⟩ _
 unfold laws_markIntSF at H
 refine tG tOk 1 3 0 kr kr ?_
 refine tS ?_
 refine tG tOk 1 35 0 kr kr ?_
 obtain ⟨o6,eo6,Ho6⟩ := bind_some H
 clear H
 refine Tr.mid (ι := (List Int) × Int) (fun v => ⟨19,1,[sC 0 (cL 1 v.1 intRow),sI 1 v.2],[]⟩) (fun v => laws_markIntS_J1 n v.1 v.2 = some r) ?_ ?_
 ·refine tB ?_
  refine Tr.loop (ι := Nat × (Int × (List Int) × Int)) (fun v => ⟨19,1,[sI 5 v.2.1,sC 0 (cL 1 v.2.2.1 intRow),sI 1 v.2.2.2],[]⟩) (fun v => laws_markIntS_L2 n v.1 v.2.1 v.2.2.1 v.2.2.2 = some o6) (fun v => v.1) (n,(0,x0,x1)) eo6 (St.sub_of [5,0,1] [] kr) ?_
  rintro ⟨mo6,y1,y2,y3⟩ H
  have H : laws_markIntS_L2 n mo6 y1 y2 y3 = some o6 := H
  obtain _ | mo6 := mo6
  ·cases (show (none : Option _) = some o6 from H)
  rw [laws_markIntS_L2] at H
  refine tS ?_
  refine rU tOk 2 kr ?_
  refine lL tOk 22 3 3 7 8 none ⟨(.slot 0),[],0,true,1,(y2.map intRow)⟩ (y2).length _ kr kr kr kr kr (map_len _ _) rfl ?_
  refine uD tOk 1 547 0 kr kr ?_
  obtain ⟨h1,H⟩ | ⟨h1,H⟩ := bC H
  ·refine tF h1 kr ?_
   refine Tr.exit ?_
   refine And.intro (fun _ => ?_) (fun h => absurd rfl h)
   obtain rfl := si H
   have H := Ho6
   dsimp only at H
   exact jn (y2,y3) H (sB_ [0,1] [] kr)
  refine tT h1 kr ?_
  refine tK ?_
  refine tS ?_
  refine tB ?_
  refine rU tOk 3 kr ?_
  obtain ⟨v7,ev7,H⟩ := bind_some H
  refine lO tOk 22 0 12 13 15 none ⟨(.slot 0),[],0,true,1,(y2.map intRow)⟩ y1 (y1.toNat) (intRow v7) _ kr kr kr kr rfl kr (idx_isE ev7) rfl rfl ?_
  refine lW tOk (t := 3) (ty := 0) (ad := (.tmp 15)) (x := (.tmp 14)) (g := none) (tI 3) false [cI y3] 0 0 (y1.toNat) 1 0 1 y2 intRow v7 y3 kr kr kr kr kr kr kr kr (idx_get ev7).2 kr kr kr kr ?_
  refine lD 35 0 kr ?_
  refine tE tOk 3 35 0 kr kr ?_
  refine tE tOk 3 35 0 kr kr ?_
  exact jn (mo6,((IntKind.wrap .i64 (y1 + 1)),(y2.set (y1.toNat) y3),(IntKind.wrap .i64 (y3 + 1)))) H (sM mo6 [5,0,1] [] kr)
 rintro ⟨y4,y5⟩ H
 have H : (laws_markIntS_J1 n y4 y5) = some r := H
 unfold laws_markIntS_J1 at H
 refine tG tOk 2 17 0 kr kr ?_
 refine te ?_
 obtain rfl := si H
 exact Fin.ofY _ [(false,[cI y5])] [false] _ [[cL 1 y4 intRow]] _ [] kr rfl rfl rfl kr kr kr kr rfl rfl rfl
def laws_markLinkS_J1 (n : Nat) (y4 : (List Link)) (y5 : Int) : Option (Int × (List Link)) :=
  (some (y5,y4))
def laws_markLinkS_L2 (n : Nat) : Nat → Int → (List Link) → Int → Option (((List Link) × Int) ⊕ (Int × (List Link)))
  | 0,_,_,_ => none
  | mo6 + 1,y1,y2,y3 => (bif (decide (y1 < (y2.length : Int))) then ((idx y2 y1).bind fun v7 => ((idx (y2.set (y1.toNat) (⟨y3,v7.P,v7.B,v7.Q⟩ : Link)) y1).bind fun v8 => ((idx ((y2.set (y1.toNat) (⟨y3,v7.P,v7.B,v7.Q⟩ : Link)).set (y1.toNat) (⟨v8.A,(IntKind.wrap .i64 (y3 + 1)),v8.B,v8.Q⟩ : Link)) y1).bind fun v9 => ((idx (((y2.set (y1.toNat) (⟨y3,v7.P,v7.B,v7.Q⟩ : Link)).set (y1.toNat) (⟨v8.A,(IntKind.wrap .i64 (y3 + 1)),v8.B,v8.Q⟩ : Link)).set (y1.toNat) (⟨v9.A,v9.P,(IntKind.wrap .i64 ((IntKind.wrap .i64 (y3 + 1)) + 1)),v9.Q⟩ : Link)) y1).bind fun v10 => (laws_markLinkS_L2 n mo6 (IntKind.wrap .i64 (y1 + 1)) ((((y2.set (y1.toNat) (⟨y3,v7.P,v7.B,v7.Q⟩ : Link)).set (y1.toNat) (⟨v8.A,(IntKind.wrap .i64 (y3 + 1)),v8.B,v8.Q⟩ : Link)).set (y1.toNat) (⟨v9.A,v9.P,(IntKind.wrap .i64 ((IntKind.wrap .i64 (y3 + 1)) + 1)),v9.Q⟩ : Link)).set (y1.toNat) (⟨v10.A,v10.P,v10.B,(IntKind.wrap .i64 ((IntKind.wrap .i64 ((IntKind.wrap .i64 (y3 + 1)) + 1)) + 1))⟩ : Link)) (IntKind.wrap .i64 ((IntKind.wrap .i64 ((IntKind.wrap .i64 ((IntKind.wrap .i64 (y3 + 1)) + 1)) + 1)) + 1))))))) else (some (Sum.inl (y2,y3))))
def laws_markLinkSF (n : Nat) (x0 : (List Link)) (x1 : Int) : Option (Int × (List Link)) :=
  ((laws_markLinkS_L2 n n 0 x0 x1).bind fun o => match o with | .inl (y4,y5) => (laws_markLinkS_J1 n y4 y5) | .inr r => some r)
noncomputable abbrev G21 (k : Nat) := Rg Tryz.f21 k
theorem laws_markLinkS (n : Nat) (x0 : (List Link)) (x1 : Int) (r : Int × (List Link)) (H : laws_markLinkSF n x0 x1 = some r) : LCall Tryz.prog 21 [.io false [.sl true 4 (x0.map Link.row)],.val false [.lit (.int .i64 x1)]] [.val false [.lit (.int .i64 r.1)]] [(0,[.sl true 4 (r.2.map Link.row)])] := by
 refine LCall.of_body tOk Tryz.func21 rfl (c := (.seq (G21 0) (.seq (.seq (G21 1) (.block 0 (.loop (.seq (.seq (G21 2) (.cond (.tmp 9) .skip (.exit 0))) (.seq (.block 1 (.seq (G21 4) (.seq (G21 5) (.seq (G21 6) (.seq (G21 7) (.seq (G21 8) (.seq (G21 9) (.seq (G21 10) (G21 11))))))))) (G21 3)))))) (.seq (G21 12) .ret)))) kr (Nat.le_of_ble_eq_true kr) 1 (rs := [.tmp 4]) rfl [0] (by decide) [(false,[.lit (.int .i64 r.1)])] [[.sl true 4 (r.2.map Link.row)]] [] fun cx => ?_
 show Tr _ _ _ ⟨41,1,[sC 0 (cL 4 x0 Link.row),sI 1 x1],[]⟩ _
 unfold laws_markLinkSF at H
 refine tG tOk 1 3 0 kr kr ?_
 refine tS ?_
 refine tG tOk 1 35 0 kr kr ?_
 obtain ⟨o6,eo6,Ho6⟩ := bind_some H
 clear H
 refine Tr.mid (ι := (List Link) × Int) (fun v => ⟨41,1,[sC 0 (cL 4 v.1 Link.row),sI 1 v.2],[]⟩) (fun v => laws_markLinkS_J1 n v.1 v.2 = some r) ?_ ?_
 ·refine tB ?_
  refine Tr.loop (ι := Nat × (Int × (List Link) × Int)) (fun v => ⟨41,1,[sI 5 v.2.1,sC 0 (cL 4 v.2.2.1 Link.row),sI 1 v.2.2.2],[]⟩) (fun v => laws_markLinkS_L2 n v.1 v.2.1 v.2.2.1 v.2.2.2 = some o6) (fun v => v.1) (n,(0,x0,x1)) eo6 (St.sub_of [5,0,1] [] kr) ?_
  rintro ⟨mo6,y1,y2,y3⟩ H
  have H : laws_markLinkS_L2 n mo6 y1 y2 y3 = some o6 := H
  obtain _ | mo6 := mo6
  ·cases (show (none : Option _) = some o6 from H)
  rw [laws_markLinkS_L2] at H
  refine tS ?_
  refine rU tOk 2 kr ?_
  refine lL tOk 26 3 126 7 8 none ⟨(.slot 0),[],0,true,4,(y2.map Link.row)⟩ (y2).length _ kr kr kr kr kr (map_len _ _) rfl ?_
  refine uD tOk 1 547 0 kr kr ?_
  obtain ⟨h1,H⟩ | ⟨h1,H⟩ := bC H
  ·refine tF h1 kr ?_
   refine Tr.exit ?_
   refine And.intro (fun _ => ?_) (fun h => absurd rfl h)
   obtain rfl := si H
   have H := Ho6
   dsimp only at H
   exact jn (y2,y3) H (sB_ [0,1] [] kr)
  refine tT h1 kr ?_
  refine tK ?_
  refine tS ?_
  refine tB ?_
  refine rU tOk 3 kr ?_
  obtain ⟨v7,ev7,H⟩ := bind_some H
  refine lO tOk 26 0 12 13 15 none ⟨(.slot 0),[],0,true,4,(y2.map Link.row)⟩ y1 (y1.toNat) (Link.row v7) _ kr kr kr kr rfl kr (idx_isE ev7) rfl rfl ?_
  refine lU tOk 1 kr ?_
  refine lW tOk (t := 3) (ty := 0) (ad := (.tmp 16)) (x := (.tmp 14)) (g := none) (tI 3) false [cI y3] 0 0 (y1.toNat) 4 0 4 y2 Link.row v7 (⟨y3,v7.P,v7.B,v7.Q⟩ : Link) kr kr kr kr kr kr kr kr (idx_get ev7).2 kr kr kr kr ?_
  refine lD 35 0 kr ?_
  refine tG tOk 3 35 0 kr kr ?_
  refine rU tOk 3 kr ?_
  obtain ⟨v8,ev8,H⟩ := bind_some H
  refine lO tOk 26 0 19 20 22 none ⟨(.slot 0),[],0,true,4,((y2.set (y1.toNat) (⟨y3,v7.P,v7.B,v7.Q⟩ : Link)).map Link.row)⟩ y1 (y1.toNat) (Link.row v8) _ kr kr kr kr rfl kr (idx_isE ev8) rfl rfl ?_
  refine lU tOk 1 kr ?_
  refine lW tOk (t := 3) (ty := 0) (ad := (.tmp 23)) (x := (.tmp 21)) (g := none) (tI 3) false [cI (IntKind.wrap .i64 (y3 + 1))] 0 0 (y1.toNat) 4 1 4 (y2.set (y1.toNat) (⟨y3,v7.P,v7.B,v7.Q⟩ : Link)) Link.row v8 (⟨v8.A,(IntKind.wrap .i64 (y3 + 1)),v8.B,v8.Q⟩ : Link) kr kr kr kr kr kr kr kr (idx_get ev8).2 kr kr kr kr ?_
  refine lD 35 0 kr ?_
  refine tG tOk 3 35 0 kr kr ?_
  refine rU tOk 3 kr ?_
  obtain ⟨v9,ev9,H⟩ := bind_some H
  refine lO tOk 26 0 26 27 29 none ⟨(.slot 0),[],0,true,4,(((y2.set (y1.toNat) (⟨y3,v7.P,v7.B,v7.Q⟩ : Link)).set (y1.toNat) (⟨v8.A,(IntKind.wrap .i64 (y3 + 1)),v8.B,v8.Q⟩ : Link)).map Link.row)⟩ y1 (y1.toNat) (Link.row v9) _ kr kr kr kr rfl kr (idx_isE ev9) rfl rfl ?_
  refine lU tOk 1 kr ?_
  refine lW tOk (t := 3) (ty := 0) (ad := (.tmp 30)) (x := (.tmp 28)) (g := none) (tI 3) false [cI (IntKind.wrap .i64 ((IntKind.wrap .i64 (y3 + 1)) + 1))] 0 0 (y1.toNat) 4 2 4 ((y2.set (y1.toNat) (⟨y3,v7.P,v7.B,v7.Q⟩ : Link)).set (y1.toNat) (⟨v8.A,(IntKind.wrap .i64 (y3 + 1)),v8.B,v8.Q⟩ : Link)) Link.row v9 (⟨v9.A,v9.P,(IntKind.wrap .i64 ((IntKind.wrap .i64 (y3 + 1)) + 1)),v9.Q⟩ : Link) kr kr kr kr kr kr kr kr (idx_get ev9).2 kr kr kr kr ?_
  refine lD 35 0 kr ?_
  refine tG tOk 3 35 0 kr kr ?_
  refine rU tOk 3 kr ?_
  obtain ⟨v10,ev10,H⟩ := bind_some H
  refine lO tOk 26 0 33 34 36 none ⟨(.slot 0),[],0,true,4,((((y2.set (y1.toNat) (⟨y3,v7.P,v7.B,v7.Q⟩ : Link)).set (y1.toNat) (⟨v8.A,(IntKind.wrap .i64 (y3 + 1)),v8.B,v8.Q⟩ : Link)).set (y1.toNat) (⟨v9.A,v9.P,(IntKind.wrap .i64 ((IntKind.wrap .i64 (y3 + 1)) + 1)),v9.Q⟩ : Link)).map Link.row)⟩ y1 (y1.toNat) (Link.row v10) _ kr kr kr kr rfl kr (idx_isE ev10) rfl rfl ?_
  refine lU tOk 1 kr ?_
  refine lW tOk (t := 3) (ty := 0) (ad := (.tmp 37)) (x := (.tmp 35)) (g := none) (tI 3) false [cI (IntKind.wrap .i64 ((IntKind.wrap .i64 ((IntKind.wrap .i64 (y3 + 1)) + 1)) + 1))] 0 0 (y1.toNat) 4 3 4 (((y2.set (y1.toNat) (⟨y3,v7.P,v7.B,v7.Q⟩ : Link)).set (y1.toNat) (⟨v8.A,(IntKind.wrap .i64 (y3 + 1)),v8.B,v8.Q⟩ : Link)).set (y1.toNat) (⟨v9.A,v9.P,(IntKind.wrap .i64 ((IntKind.wrap .i64 (y3 + 1)) + 1)),v9.Q⟩ : Link)) Link.row v10 (⟨v10.A,v10.P,v10.B,(IntKind.wrap .i64 ((IntKind.wrap .i64 ((IntKind.wrap .i64 (y3 + 1)) + 1)) + 1))⟩ : Link) kr kr kr kr kr kr kr kr (idx_get ev10).2 kr kr kr kr ?_
  refine lD 35 0 kr ?_
  refine tE tOk 3 35 0 kr kr ?_
  refine tE tOk 3 35 0 kr kr ?_
  exact jn (mo6,((IntKind.wrap .i64 (y1 + 1)),((((y2.set (y1.toNat) (⟨y3,v7.P,v7.B,v7.Q⟩ : Link)).set (y1.toNat) (⟨v8.A,(IntKind.wrap .i64 (y3 + 1)),v8.B,v8.Q⟩ : Link)).set (y1.toNat) (⟨v9.A,v9.P,(IntKind.wrap .i64 ((IntKind.wrap .i64 (y3 + 1)) + 1)),v9.Q⟩ : Link)).set (y1.toNat) (⟨v10.A,v10.P,v10.B,(IntKind.wrap .i64 ((IntKind.wrap .i64 ((IntKind.wrap .i64 (y3 + 1)) + 1)) + 1))⟩ : Link)),(IntKind.wrap .i64 ((IntKind.wrap .i64 ((IntKind.wrap .i64 ((IntKind.wrap .i64 (y3 + 1)) + 1)) + 1)) + 1)))) H (sM mo6 [5,0,1] [] kr)
 rintro ⟨y4,y5⟩ H
 have H : (laws_markLinkS_J1 n y4 y5) = some r := H
 unfold laws_markLinkS_J1 at H
 refine tG tOk 2 17 0 kr kr ?_
 refine te ?_
 obtain rfl := si H
 exact Fin.ofY _ [(false,[cI y5])] [false] _ [[cL 4 y4 Link.row]] _ [] kr rfl rfl rfl kr kr kr kr rfl rfl rfl
def laws_markText_J1 (n : Nat) (y3 : ByteArray) : Option (ByteArray) :=
  (bif (decide ((⟨#[109]⟩ : ByteArray).size + y3.size ≤ 268435456)) then (some ((⟨#[109]⟩ : ByteArray) ++ y3)) else none)
def laws_markText_L2 (n : Nat) : Nat → ByteArray → Int → Option ((ByteArray) ⊕ (ByteArray))
  | 0,_,_ => none
  | mo5 + 1,y1,y2 => (bif (decide (y2 > 0)) then (bif (decide ((10 : Int) ≠ 0)) then (bif (decide ((strOf [(IntKind.wrap .u8 (IntKind.wrap .i64 (48 + (Int.tmod y2 10))))]).size + y1.size ≤ 268435456)) then (bif (decide ((10 : Int) ≠ 0)) then (laws_markText_L2 n mo5 ((strOf [(IntKind.wrap .u8 (IntKind.wrap .i64 (48 + (Int.tmod y2 10))))]) ++ y1) (IntKind.wrap .i64 (Int.tdiv y2 10))) else none) else none) else none) else (some (Sum.inl y1)))
def laws_markTextF (n : Nat) (x0 : Int) : Option (ByteArray) :=
  (bif (decide (x0 ≤ 0)) then (some (⟨#[109,48]⟩ : ByteArray)) else ((laws_markText_L2 n n (⟨#[]⟩ : ByteArray) x0).bind fun o => match o with | .inl y3 => (laws_markText_J1 n y3) | .inr r => some r))
noncomputable abbrev G185 (k : Nat) := Rg Tryz.f185 k
theorem laws_markText (n : Nat) (x0 : Int) (r : ByteArray) (H : laws_markTextF n x0 = some r) : LCall Tryz.prog 185 [.val false [.lit (.int .i64 x0)]] [.val false [.lit (.string r)]] [] := by
 refine LCall.of_body tOk Tryz.func185 rfl (c := (.seq (G185 0) (.seq (.seq (G185 1) (.cond (.tmp 5) (.seq (G185 2) .ret) .skip)) (.seq (G185 3) (.seq (.block 0 (.loop (.seq (.seq (G185 4) (.cond (.tmp 7) .skip (.exit 0))) (.block 1 (.seq (G185 5) (G185 6)))))) (.seq (G185 7) .ret)))))) kr (Nat.le_of_ble_eq_true kr) 0 (rs := [.tmp 2]) rfl [] .nil [(false,[.lit (.string r)])] [] [] fun cx => ?_
 show Tr _ _ _ ⟨20,0,[sI 0 x0],[]⟩ _
 unfold laws_markTextF at H
 refine tG tOk 1 1 0 kr kr ?_
 refine tS ?_
 refine tG tOk 2 33 0 kr kr ?_
 obtain ⟨h1,H⟩ | ⟨h1,H⟩ := bC H
 ·refine tF h1 kr ?_
  refine tK ?_
  refine tG tOk 1 9 0 kr kr ?_
  refine tS ?_
  obtain ⟨o5,eo5,Ho5⟩ := bind_some H
  clear H
  refine Tr.mid (ι := ByteArray) (fun v => ⟨20,0,[sC 3 (cS v)],[]⟩) (fun v => laws_markText_J1 n v = some r) ?_ ?_
  ·refine tB ?_
   refine Tr.loop (ι := Nat × (ByteArray × Int)) (fun v => ⟨20,0,[sC 3 (cS v.2.1),sI 0 v.2.2],[]⟩) (fun v => laws_markText_L2 n v.1 v.2.1 v.2.2 = some o5) (fun v => v.1) (n,((⟨#[]⟩ : ByteArray),x0)) eo5 (St.sub_of [3,0] [] kr) ?_
   rintro ⟨mo5,y1,y2⟩ H
   have H : laws_markText_L2 n mo5 y1 y2 = some o5 := H
   obtain _ | mo5 := mo5
   ·cases (show (none : Option _) = some o5 from H)
   rw [laws_markText_L2] at H
   refine tS ?_
   refine tG tOk 2 137 0 kr kr ?_
   obtain ⟨h2,H⟩ | ⟨h2,H⟩ := bC H
   ·refine tF h2 kr ?_
    refine Tr.exit ?_
    refine And.intro (fun _ => ?_) (fun h => absurd rfl h)
    obtain rfl := si H
    have H := Ho5
    dsimp only at H
    exact jn y1 H (sB_ [3] [] kr)
   refine tT h2 kr ?_
   refine tK ?_
   refine tB ?_
   refine rU tOk 1 kr ?_
   obtain ⟨hg6,H⟩ := guard_some H
   refine LAt.binC tOk (op := .rem) (t := 3) (ty := 3) (ty' := 3) (x := (.tmp 8)) (y := (.const (.int .i64 10))) (d := 9) (g := none) (.int .i64 y2) (.int .i64 10) (.int .i64 (Int.tmod y2 10)) _ kr kr kr kr kr (φ := (IntKind.i64 = IntKind.i64 ∧ (10 : Int) ≠ 0)) kr (⟨rfl,of_decide_eq_true hg6⟩) rfl ?_
   refine lU tOk 3 kr ?_
   refine LAt.b2s tOk (t := 47) (u := 9) (ty := 9) (x := (.tmp 12)) (d := 13) (g := none) ⟨(.slot 12),[],0,true,1,([(IntKind.wrap .u8 (IntKind.wrap .i64 (48 + (Int.tmod y2 10))))].map byteRow)⟩ [(IntKind.wrap .u8 (IntKind.wrap .i64 (48 + (Int.tmod y2 10))))] kr kr kr kr kr kr kr (.inl rfl) ?_
   refine lU tOk 1 kr ?_
   obtain ⟨hg7,H⟩ := guard_some H
   refine LAt.cat tOk (t := 9) (u := 9) (ty := 9) (x := (.tmp 13)) (y := (.tmp 14)) (d := 15) (g := none) (strOf [(IntKind.wrap .u8 (IntKind.wrap .i64 (48 + (Int.tmod y2 10))))]) y1 kr kr kr kr kr kr hg7 ?_
   refine uD tOk 1 9 0 kr kr ?_
   refine Tr.at ?_
   refine lU tOk 1 kr ?_
   obtain ⟨hg8,H⟩ := guard_some H
   refine LAt.binC tOk (op := .quo) (t := 3) (ty := 3) (ty' := 3) (x := (.tmp 16)) (y := (.const (.int .i64 10))) (d := 17) (g := none) (.int .i64 y2) (.int .i64 10) (.int .i64 (IntKind.wrap .i64 (Int.tdiv y2 10))) _ kr kr kr kr kr (φ := (IntKind.i64 = IntKind.i64 ∧ (10 : Int) ≠ 0)) kr (⟨rfl,of_decide_eq_true hg8⟩) rfl ?_
   refine uD tOk 1 9 0 kr kr ?_
   exact jn (mo5,(((strOf [(IntKind.wrap .u8 (IntKind.wrap .i64 (48 + (Int.tmod y2 10))))]) ++ y1),(IntKind.wrap .i64 (Int.tdiv y2 10)))) H (sM mo5 [3,0] [] kr)
  rintro y3 H
  have H : (laws_markText_J1 n y3) = some r := H
  unfold laws_markText_J1 at H
  refine rU tOk 1 kr ?_
  obtain ⟨hg4,H⟩ := guard_some H
  refine LAt.cat tOk (t := 9) (u := 9) (ty := 9) (x := (.const (.string (⟨#[109]⟩ : ByteArray)))) (y := (.tmp 18)) (d := 19) (g := none) (⟨#[109]⟩ : ByteArray) y3 kr kr kr kr kr kr hg4 ?_
  refine uD tOk 1 4 0 kr kr ?_
  exact te (by obtain rfl := si H; exact fO [(false,[cS ((⟨#[109]⟩ : ByteArray) ++ y3)])] kr rfl rfl)
 refine tT h1 kr ?_
 refine tG tOk 1 4 0 kr kr ?_
 exact te (by obtain rfl := si H; exact fO [(false,[cS (⟨#[109,48]⟩ : ByteArray)])] kr rfl rfl)
def laws_markPtS_J1 (n : Nat) (y4 : (List Pt)) (y5 : Int) : Option (Int × (List Pt)) :=
  (some (y5,y4))
def laws_markPtS_L2 (n : Nat) : Nat → Int → (List Pt) → Int → Option (((List Pt) × Int) ⊕ (Int × (List Pt)))
  | 0,_,_,_ => none
  | mo6 + 1,y1,y2,y3 => (bif (decide (y1 < (y2.length : Int))) then (bif (decide ((3 : Int) ≠ 0)) then ((idx y2 y1).bind fun v8 => ((idx (y2.set (y1.toNat) (⟨((Int.tmod y3 3) == 0),v8.Cost,v8.Has,v8.Heard⟩ : Pt)) y1).bind fun v9 => (bif (decide ((3 : Int) ≠ 0)) then ((idx ((y2.set (y1.toNat) (⟨((Int.tmod y3 3) == 0),v8.Cost,v8.Has,v8.Heard⟩ : Pt)).set (y1.toNat) (⟨v9.Up,(IntKind.wrap .i64 (y3 + 1)),v9.Has,v9.Heard⟩ : Pt)) y1).bind fun v11 => ((idx (((y2.set (y1.toNat) (⟨((Int.tmod y3 3) == 0),v8.Cost,v8.Has,v8.Heard⟩ : Pt)).set (y1.toNat) (⟨v9.Up,(IntKind.wrap .i64 (y3 + 1)),v9.Has,v9.Heard⟩ : Pt)).set (y1.toNat) (⟨v11.Up,v11.Cost,((Int.tmod (IntKind.wrap .i64 ((IntKind.wrap .i64 (y3 + 1)) + 1)) 3) == 0),v11.Heard⟩ : Pt)) y1).bind fun v12 => ((idx ((((y2.set (y1.toNat) (⟨((Int.tmod y3 3) == 0),v8.Cost,v8.Has,v8.Heard⟩ : Pt)).set (y1.toNat) (⟨v9.Up,(IntKind.wrap .i64 (y3 + 1)),v9.Has,v9.Heard⟩ : Pt)).set (y1.toNat) (⟨v11.Up,v11.Cost,((Int.tmod (IntKind.wrap .i64 ((IntKind.wrap .i64 (y3 + 1)) + 1)) 3) == 0),v11.Heard⟩ : Pt)).set (y1.toNat) (⟨v12.Up,v12.Cost,v12.Has,(⟨(IntKind.wrap .i64 ((IntKind.wrap .i64 ((IntKind.wrap .i64 (y3 + 1)) + 1)) + 1)),v12.Heard.Cost,v12.Heard.Hops,v12.Heard.Bridge,v12.Heard.Port⟩ : Vec)⟩ : Pt)) y1).bind fun v13 => ((idx (((((y2.set (y1.toNat) (⟨((Int.tmod y3 3) == 0),v8.Cost,v8.Has,v8.Heard⟩ : Pt)).set (y1.toNat) (⟨v9.Up,(IntKind.wrap .i64 (y3 + 1)),v9.Has,v9.Heard⟩ : Pt)).set (y1.toNat) (⟨v11.Up,v11.Cost,((Int.tmod (IntKind.wrap .i64 ((IntKind.wrap .i64 (y3 + 1)) + 1)) 3) == 0),v11.Heard⟩ : Pt)).set (y1.toNat) (⟨v12.Up,v12.Cost,v12.Has,(⟨(IntKind.wrap .i64 ((IntKind.wrap .i64 ((IntKind.wrap .i64 (y3 + 1)) + 1)) + 1)),v12.Heard.Cost,v12.Heard.Hops,v12.Heard.Bridge,v12.Heard.Port⟩ : Vec)⟩ : Pt)).set (y1.toNat) (⟨v13.Up,v13.Cost,v13.Has,(⟨v13.Heard.Root,(IntKind.wrap .i64 ((IntKind.wrap .i64 ((IntKind.wrap .i64 ((IntKind.wrap .i64 (y3 + 1)) + 1)) + 1)) + 1)),v13.Heard.Hops,v13.Heard.Bridge,v13.Heard.Port⟩ : Vec)⟩ : Pt)) y1).bind fun v14 => ((idx ((((((y2.set (y1.toNat) (⟨((Int.tmod y3 3) == 0),v8.Cost,v8.Has,v8.Heard⟩ : Pt)).set (y1.toNat) (⟨v9.Up,(IntKind.wrap .i64 (y3 + 1)),v9.Has,v9.Heard⟩ : Pt)).set (y1.toNat) (⟨v11.Up,v11.Cost,((Int.tmod (IntKind.wrap .i64 ((IntKind.wrap .i64 (y3 + 1)) + 1)) 3) == 0),v11.Heard⟩ : Pt)).set (y1.toNat) (⟨v12.Up,v12.Cost,v12.Has,(⟨(IntKind.wrap .i64 ((IntKind.wrap .i64 ((IntKind.wrap .i64 (y3 + 1)) + 1)) + 1)),v12.Heard.Cost,v12.Heard.Hops,v12.Heard.Bridge,v12.Heard.Port⟩ : Vec)⟩ : Pt)).set (y1.toNat) (⟨v13.Up,v13.Cost,v13.Has,(⟨v13.Heard.Root,(IntKind.wrap .i64 ((IntKind.wrap .i64 ((IntKind.wrap .i64 ((IntKind.wrap .i64 (y3 + 1)) + 1)) + 1)) + 1)),v13.Heard.Hops,v13.Heard.Bridge,v13.Heard.Port⟩ : Vec)⟩ : Pt)).set (y1.toNat) (⟨v14.Up,v14.Cost,v14.Has,(⟨v14.Heard.Root,v14.Heard.Cost,(IntKind.wrap .i64 ((IntKind.wrap .i64 ((IntKind.wrap .i64 ((IntKind.wrap .i64 ((IntKind.wrap .i64 (y3 + 1)) + 1)) + 1)) + 1)) + 1)),v14.Heard.Bridge,v14.Heard.Port⟩ : Vec)⟩ : Pt)) y1).bind fun v15 => ((idx (((((((y2.set (y1.toNat) (⟨((Int.tmod y3 3) == 0),v8.Cost,v8.Has,v8.Heard⟩ : Pt)).set (y1.toNat) (⟨v9.Up,(IntKind.wrap .i64 (y3 + 1)),v9.Has,v9.Heard⟩ : Pt)).set (y1.toNat) (⟨v11.Up,v11.Cost,((Int.tmod (IntKind.wrap .i64 ((IntKind.wrap .i64 (y3 + 1)) + 1)) 3) == 0),v11.Heard⟩ : Pt)).set (y1.toNat) (⟨v12.Up,v12.Cost,v12.Has,(⟨(IntKind.wrap .i64 ((IntKind.wrap .i64 ((IntKind.wrap .i64 (y3 + 1)) + 1)) + 1)),v12.Heard.Cost,v12.Heard.Hops,v12.Heard.Bridge,v12.Heard.Port⟩ : Vec)⟩ : Pt)).set (y1.toNat) (⟨v13.Up,v13.Cost,v13.Has,(⟨v13.Heard.Root,(IntKind.wrap .i64 ((IntKind.wrap .i64 ((IntKind.wrap .i64 ((IntKind.wrap .i64 (y3 + 1)) + 1)) + 1)) + 1)),v13.Heard.Hops,v13.Heard.Bridge,v13.Heard.Port⟩ : Vec)⟩ : Pt)).set (y1.toNat) (⟨v14.Up,v14.Cost,v14.Has,(⟨v14.Heard.Root,v14.Heard.Cost,(IntKind.wrap .i64 ((IntKind.wrap .i64 ((IntKind.wrap .i64 ((IntKind.wrap .i64 ((IntKind.wrap .i64 (y3 + 1)) + 1)) + 1)) + 1)) + 1)),v14.Heard.Bridge,v14.Heard.Port⟩ : Vec)⟩ : Pt)).set (y1.toNat) (⟨v15.Up,v15.Cost,v15.Has,(⟨v15.Heard.Root,v15.Heard.Cost,v15.Heard.Hops,(IntKind.wrap .i64 ((IntKind.wrap .i64 ((IntKind.wrap .i64 ((IntKind.wrap .i64 ((IntKind.wrap .i64 ((IntKind.wrap .i64 (y3 + 1)) + 1)) + 1)) + 1)) + 1)) + 1)),v15.Heard.Port⟩ : Vec)⟩ : Pt)) y1).bind fun v16 => (laws_markPtS_L2 n mo6 (IntKind.wrap .i64 (y1 + 1)) ((((((((y2.set (y1.toNat) (⟨((Int.tmod y3 3) == 0),v8.Cost,v8.Has,v8.Heard⟩ : Pt)).set (y1.toNat) (⟨v9.Up,(IntKind.wrap .i64 (y3 + 1)),v9.Has,v9.Heard⟩ : Pt)).set (y1.toNat) (⟨v11.Up,v11.Cost,((Int.tmod (IntKind.wrap .i64 ((IntKind.wrap .i64 (y3 + 1)) + 1)) 3) == 0),v11.Heard⟩ : Pt)).set (y1.toNat) (⟨v12.Up,v12.Cost,v12.Has,(⟨(IntKind.wrap .i64 ((IntKind.wrap .i64 ((IntKind.wrap .i64 (y3 + 1)) + 1)) + 1)),v12.Heard.Cost,v12.Heard.Hops,v12.Heard.Bridge,v12.Heard.Port⟩ : Vec)⟩ : Pt)).set (y1.toNat) (⟨v13.Up,v13.Cost,v13.Has,(⟨v13.Heard.Root,(IntKind.wrap .i64 ((IntKind.wrap .i64 ((IntKind.wrap .i64 ((IntKind.wrap .i64 (y3 + 1)) + 1)) + 1)) + 1)),v13.Heard.Hops,v13.Heard.Bridge,v13.Heard.Port⟩ : Vec)⟩ : Pt)).set (y1.toNat) (⟨v14.Up,v14.Cost,v14.Has,(⟨v14.Heard.Root,v14.Heard.Cost,(IntKind.wrap .i64 ((IntKind.wrap .i64 ((IntKind.wrap .i64 ((IntKind.wrap .i64 ((IntKind.wrap .i64 (y3 + 1)) + 1)) + 1)) + 1)) + 1)),v14.Heard.Bridge,v14.Heard.Port⟩ : Vec)⟩ : Pt)).set (y1.toNat) (⟨v15.Up,v15.Cost,v15.Has,(⟨v15.Heard.Root,v15.Heard.Cost,v15.Heard.Hops,(IntKind.wrap .i64 ((IntKind.wrap .i64 ((IntKind.wrap .i64 ((IntKind.wrap .i64 ((IntKind.wrap .i64 ((IntKind.wrap .i64 (y3 + 1)) + 1)) + 1)) + 1)) + 1)) + 1)),v15.Heard.Port⟩ : Vec)⟩ : Pt)).set (y1.toNat) (⟨v16.Up,v16.Cost,v16.Has,(⟨v16.Heard.Root,v16.Heard.Cost,v16.Heard.Hops,v16.Heard.Bridge,(IntKind.wrap .i64 ((IntKind.wrap .i64 ((IntKind.wrap .i64 ((IntKind.wrap .i64 ((IntKind.wrap .i64 ((IntKind.wrap .i64 ((IntKind.wrap .i64 (y3 + 1)) + 1)) + 1)) + 1)) + 1)) + 1)) + 1))⟩ : Vec)⟩ : Pt)) (IntKind.wrap .i64 ((IntKind.wrap .i64 ((IntKind.wrap .i64 ((IntKind.wrap .i64 ((IntKind.wrap .i64 ((IntKind.wrap .i64 ((IntKind.wrap .i64 ((IntKind.wrap .i64 (y3 + 1)) + 1)) + 1)) + 1)) + 1)) + 1)) + 1)) + 1))))))))) else none))) else none) else (some (Sum.inl (y2,y3))))
def laws_markPtSF (n : Nat) (x0 : (List Pt)) (x1 : Int) : Option (Int × (List Pt)) :=
  ((laws_markPtS_L2 n n 0 x0 x1).bind fun o => match o with | .inl (y4,y5) => (laws_markPtS_J1 n y4 y5) | .inr r => some r)
noncomputable abbrev G122 (k : Nat) := Rg Tryz.f122 k
theorem laws_markPtS (n : Nat) (x0 : (List Pt)) (x1 : Int) (r : Int × (List Pt)) (H : laws_markPtSF n x0 x1 = some r) : LCall Tryz.prog 122 [.io false [.sl true 8 (x0.map Pt.row)],.val false [.lit (.int .i64 x1)]] [.val false [.lit (.int .i64 r.1)]] [(0,[.sl true 8 (r.2.map Pt.row)])] := by
 refine LCall.of_body tOk Tryz.func122 rfl (c := (.seq (G122 0) (.seq (.seq (G122 1) (.block 0 (.loop (.seq (.seq (G122 2) (.cond (.tmp 9) .skip (.exit 0))) (.seq (.block 1 (.seq (G122 4) (.seq (G122 5) (.seq (G122 6) (.seq (G122 7) (.seq (G122 8) (.seq (G122 9) (.seq (G122 10) (.seq (G122 11) (.seq (G122 12) (.seq (G122 13) (.seq (G122 14) (.seq (G122 15) (.seq (G122 16) (.seq (G122 17) (.seq (G122 18) (G122 19))))))))))))))))) (G122 3)))))) (.seq (G122 20) .ret)))) kr (Nat.le_of_ble_eq_true kr) 1 (rs := [.tmp 4]) rfl [0] (by decide) [(false,[.lit (.int .i64 r.1)])] [[.sl true 8 (r.2.map Pt.row)]] [] fun cx => ?_
 show Tr _ _ _ ⟨78,1,[sC 0 (cL 8 x0 Pt.row),sI 1 x1],[]⟩ _
 unfold laws_markPtSF at H
 refine tG tOk 1 3 0 kr kr ?_
 refine tS ?_
 refine tG tOk 1 35 0 kr kr ?_
 obtain ⟨o6,eo6,Ho6⟩ := bind_some H
 clear H
 refine Tr.mid (ι := (List Pt) × Int) (fun v => ⟨78,1,[sC 0 (cL 8 v.1 Pt.row),sI 1 v.2],[]⟩) (fun v => laws_markPtS_J1 n v.1 v.2 = some r) ?_ ?_
 ·refine tB ?_
  refine Tr.loop (ι := Nat × (Int × (List Pt) × Int)) (fun v => ⟨78,1,[sI 5 v.2.1,sC 0 (cL 8 v.2.2.1 Pt.row),sI 1 v.2.2.2],[]⟩) (fun v => laws_markPtS_L2 n v.1 v.2.1 v.2.2.1 v.2.2.2 = some o6) (fun v => v.1) (n,(0,x0,x1)) eo6 (St.sub_of [5,0,1] [] kr) ?_
  rintro ⟨mo6,y1,y2,y3⟩ H
  have H : laws_markPtS_L2 n mo6 y1 y2 y3 = some o6 := H
  obtain _ | mo6 := mo6
  ·cases (show (none : Option _) = some o6 from H)
  rw [laws_markPtS_L2] at H
  refine tS ?_
  refine rU tOk 2 kr ?_
  refine lL tOk 52 3 182 7 8 none ⟨(.slot 0),[],0,true,8,(y2.map Pt.row)⟩ (y2).length _ kr kr kr kr kr (map_len _ _) rfl ?_
  refine uD tOk 1 547 0 kr kr ?_
  obtain ⟨h1,H⟩ | ⟨h1,H⟩ := bC H
  ·refine tF h1 kr ?_
   refine Tr.exit ?_
   refine And.intro (fun _ => ?_) (fun h => absurd rfl h)
   obtain rfl := si H
   have H := Ho6
   dsimp only at H
   exact jn (y2,y3) H (sB_ [0,1] [] kr)
  refine tT h1 kr ?_
  refine tK ?_
  refine tS ?_
  refine tB ?_
  refine rU tOk 3 kr ?_
  obtain ⟨hg7,H⟩ := guard_some H
  refine LAt.binC tOk (op := .rem) (t := 3) (ty := 3) (ty' := 3) (x := (.tmp 14)) (y := (.const (.int .i64 3))) (d := 15) (g := none) (.int .i64 y3) (.int .i64 3) (.int .i64 (Int.tmod y3 3)) _ kr kr kr kr kr (φ := (IntKind.i64 = IntKind.i64 ∧ (3 : Int) ≠ 0)) kr (⟨rfl,of_decide_eq_true hg7⟩) rfl ?_
  refine lU tOk 1 kr ?_
  obtain ⟨v8,ev8,H⟩ := bind_some H
  refine lO tOk 52 0 12 13 17 none ⟨(.slot 0),[],0,true,8,(y2.map Pt.row)⟩ y1 (y1.toNat) (Pt.row v8) _ kr kr kr kr rfl kr (idx_isE ev8) rfl rfl ?_
  refine lU tOk 1 kr ?_
  refine lW tOk (t := 4) (ty := 0) (ad := (.tmp 18)) (x := (.tmp 16)) (g := none) (tI 4) false [cB ((Int.tmod y3 3) == 0)] 0 0 (y1.toNat) 8 0 8 y2 Pt.row v8 (⟨((Int.tmod y3 3) == 0),v8.Cost,v8.Has,v8.Heard⟩ : Pt) kr kr kr kr kr kr kr kr (idx_get ev8).2 kr kr kr kr ?_
  refine lD 35 0 kr ?_
  refine tG tOk 3 35 0 kr kr ?_
  refine rU tOk 3 kr ?_
  obtain ⟨v9,ev9,H⟩ := bind_some H
  refine lO tOk 52 0 21 22 24 none ⟨(.slot 0),[],0,true,8,((y2.set (y1.toNat) (⟨((Int.tmod y3 3) == 0),v8.Cost,v8.Has,v8.Heard⟩ : Pt)).map Pt.row)⟩ y1 (y1.toNat) (Pt.row v9) _ kr kr kr kr rfl kr (idx_isE ev9) rfl rfl ?_
  refine lU tOk 1 kr ?_
  refine lW tOk (t := 3) (ty := 0) (ad := (.tmp 25)) (x := (.tmp 23)) (g := none) (tI 3) false [cI (IntKind.wrap .i64 (y3 + 1))] 0 0 (y1.toNat) 8 1 8 (y2.set (y1.toNat) (⟨((Int.tmod y3 3) == 0),v8.Cost,v8.Has,v8.Heard⟩ : Pt)) Pt.row v9 (⟨v9.Up,(IntKind.wrap .i64 (y3 + 1)),v9.Has,v9.Heard⟩ : Pt) kr kr kr kr kr kr kr kr (idx_get ev9).2 kr kr kr kr ?_
  refine lD 35 0 kr ?_
  refine tG tOk 3 35 0 kr kr ?_
  refine rU tOk 3 kr ?_
  obtain ⟨hg10,H⟩ := guard_some H
  refine LAt.binC tOk (op := .rem) (t := 3) (ty := 3) (ty' := 3) (x := (.tmp 30)) (y := (.const (.int .i64 3))) (d := 31) (g := none) (.int .i64 (IntKind.wrap .i64 ((IntKind.wrap .i64 (y3 + 1)) + 1))) (.int .i64 3) (.int .i64 (Int.tmod (IntKind.wrap .i64 ((IntKind.wrap .i64 (y3 + 1)) + 1)) 3)) _ kr kr kr kr kr (φ := (IntKind.i64 = IntKind.i64 ∧ (3 : Int) ≠ 0)) kr (⟨rfl,of_decide_eq_true hg10⟩) rfl ?_
  refine lU tOk 1 kr ?_
  obtain ⟨v11,ev11,H⟩ := bind_some H
  refine lO tOk 52 0 28 29 33 none ⟨(.slot 0),[],0,true,8,(((y2.set (y1.toNat) (⟨((Int.tmod y3 3) == 0),v8.Cost,v8.Has,v8.Heard⟩ : Pt)).set (y1.toNat) (⟨v9.Up,(IntKind.wrap .i64 (y3 + 1)),v9.Has,v9.Heard⟩ : Pt)).map Pt.row)⟩ y1 (y1.toNat) (Pt.row v11) _ kr kr kr kr rfl kr (idx_isE ev11) rfl rfl ?_
  refine lU tOk 1 kr ?_
  refine lW tOk (t := 4) (ty := 0) (ad := (.tmp 34)) (x := (.tmp 32)) (g := none) (tI 4) false [cB ((Int.tmod (IntKind.wrap .i64 ((IntKind.wrap .i64 (y3 + 1)) + 1)) 3) == 0)] 0 0 (y1.toNat) 8 2 8 ((y2.set (y1.toNat) (⟨((Int.tmod y3 3) == 0),v8.Cost,v8.Has,v8.Heard⟩ : Pt)).set (y1.toNat) (⟨v9.Up,(IntKind.wrap .i64 (y3 + 1)),v9.Has,v9.Heard⟩ : Pt)) Pt.row v11 (⟨v11.Up,v11.Cost,((Int.tmod (IntKind.wrap .i64 ((IntKind.wrap .i64 (y3 + 1)) + 1)) 3) == 0),v11.Heard⟩ : Pt) kr kr kr kr kr kr kr kr (idx_get ev11).2 kr kr kr kr ?_
  refine lD 35 0 kr ?_
  refine tG tOk 3 35 0 kr kr ?_
  refine rU tOk 3 kr ?_
  obtain ⟨v12,ev12,H⟩ := bind_some H
  refine lO tOk 52 0 37 38 40 none ⟨(.slot 0),[],0,true,8,((((y2.set (y1.toNat) (⟨((Int.tmod y3 3) == 0),v8.Cost,v8.Has,v8.Heard⟩ : Pt)).set (y1.toNat) (⟨v9.Up,(IntKind.wrap .i64 (y3 + 1)),v9.Has,v9.Heard⟩ : Pt)).set (y1.toNat) (⟨v11.Up,v11.Cost,((Int.tmod (IntKind.wrap .i64 ((IntKind.wrap .i64 (y3 + 1)) + 1)) 3) == 0),v11.Heard⟩ : Pt)).map Pt.row)⟩ y1 (y1.toNat) (Pt.row v12) _ kr kr kr kr rfl kr (idx_isE ev12) rfl rfl ?_
  refine lU tOk 2 kr ?_
  refine lW tOk (t := 3) (ty := 0) (ad := (.tmp 42)) (x := (.tmp 39)) (g := none) (tI 3) false [cI (IntKind.wrap .i64 ((IntKind.wrap .i64 ((IntKind.wrap .i64 (y3 + 1)) + 1)) + 1))] 0 0 (y1.toNat) 8 3 8 (((y2.set (y1.toNat) (⟨((Int.tmod y3 3) == 0),v8.Cost,v8.Has,v8.Heard⟩ : Pt)).set (y1.toNat) (⟨v9.Up,(IntKind.wrap .i64 (y3 + 1)),v9.Has,v9.Heard⟩ : Pt)).set (y1.toNat) (⟨v11.Up,v11.Cost,((Int.tmod (IntKind.wrap .i64 ((IntKind.wrap .i64 (y3 + 1)) + 1)) 3) == 0),v11.Heard⟩ : Pt)) Pt.row v12 (⟨v12.Up,v12.Cost,v12.Has,(⟨(IntKind.wrap .i64 ((IntKind.wrap .i64 ((IntKind.wrap .i64 (y3 + 1)) + 1)) + 1)),v12.Heard.Cost,v12.Heard.Hops,v12.Heard.Bridge,v12.Heard.Port⟩ : Vec)⟩ : Pt) kr kr kr kr kr kr kr kr (idx_get ev12).2 kr kr kr kr ?_
  refine lD 35 0 kr ?_
  refine tG tOk 3 35 0 kr kr ?_
  refine rU tOk 3 kr ?_
  obtain ⟨v13,ev13,H⟩ := bind_some H
  refine lO tOk 52 0 45 46 48 none ⟨(.slot 0),[],0,true,8,(((((y2.set (y1.toNat) (⟨((Int.tmod y3 3) == 0),v8.Cost,v8.Has,v8.Heard⟩ : Pt)).set (y1.toNat) (⟨v9.Up,(IntKind.wrap .i64 (y3 + 1)),v9.Has,v9.Heard⟩ : Pt)).set (y1.toNat) (⟨v11.Up,v11.Cost,((Int.tmod (IntKind.wrap .i64 ((IntKind.wrap .i64 (y3 + 1)) + 1)) 3) == 0),v11.Heard⟩ : Pt)).set (y1.toNat) (⟨v12.Up,v12.Cost,v12.Has,(⟨(IntKind.wrap .i64 ((IntKind.wrap .i64 ((IntKind.wrap .i64 (y3 + 1)) + 1)) + 1)),v12.Heard.Cost,v12.Heard.Hops,v12.Heard.Bridge,v12.Heard.Port⟩ : Vec)⟩ : Pt)).map Pt.row)⟩ y1 (y1.toNat) (Pt.row v13) _ kr kr kr kr rfl kr (idx_isE ev13) rfl rfl ?_
  refine lU tOk 2 kr ?_
  refine lW tOk (t := 3) (ty := 0) (ad := (.tmp 50)) (x := (.tmp 47)) (g := none) (tI 3) false [cI (IntKind.wrap .i64 ((IntKind.wrap .i64 ((IntKind.wrap .i64 ((IntKind.wrap .i64 (y3 + 1)) + 1)) + 1)) + 1))] 0 0 (y1.toNat) 8 4 8 ((((y2.set (y1.toNat) (⟨((Int.tmod y3 3) == 0),v8.Cost,v8.Has,v8.Heard⟩ : Pt)).set (y1.toNat) (⟨v9.Up,(IntKind.wrap .i64 (y3 + 1)),v9.Has,v9.Heard⟩ : Pt)).set (y1.toNat) (⟨v11.Up,v11.Cost,((Int.tmod (IntKind.wrap .i64 ((IntKind.wrap .i64 (y3 + 1)) + 1)) 3) == 0),v11.Heard⟩ : Pt)).set (y1.toNat) (⟨v12.Up,v12.Cost,v12.Has,(⟨(IntKind.wrap .i64 ((IntKind.wrap .i64 ((IntKind.wrap .i64 (y3 + 1)) + 1)) + 1)),v12.Heard.Cost,v12.Heard.Hops,v12.Heard.Bridge,v12.Heard.Port⟩ : Vec)⟩ : Pt)) Pt.row v13 (⟨v13.Up,v13.Cost,v13.Has,(⟨v13.Heard.Root,(IntKind.wrap .i64 ((IntKind.wrap .i64 ((IntKind.wrap .i64 ((IntKind.wrap .i64 (y3 + 1)) + 1)) + 1)) + 1)),v13.Heard.Hops,v13.Heard.Bridge,v13.Heard.Port⟩ : Vec)⟩ : Pt) kr kr kr kr kr kr kr kr (idx_get ev13).2 kr kr kr kr ?_
  refine lD 35 0 kr ?_
  refine tG tOk 3 35 0 kr kr ?_
  refine rU tOk 3 kr ?_
  obtain ⟨v14,ev14,H⟩ := bind_some H
  refine lO tOk 52 0 53 54 56 none ⟨(.slot 0),[],0,true,8,((((((y2.set (y1.toNat) (⟨((Int.tmod y3 3) == 0),v8.Cost,v8.Has,v8.Heard⟩ : Pt)).set (y1.toNat) (⟨v9.Up,(IntKind.wrap .i64 (y3 + 1)),v9.Has,v9.Heard⟩ : Pt)).set (y1.toNat) (⟨v11.Up,v11.Cost,((Int.tmod (IntKind.wrap .i64 ((IntKind.wrap .i64 (y3 + 1)) + 1)) 3) == 0),v11.Heard⟩ : Pt)).set (y1.toNat) (⟨v12.Up,v12.Cost,v12.Has,(⟨(IntKind.wrap .i64 ((IntKind.wrap .i64 ((IntKind.wrap .i64 (y3 + 1)) + 1)) + 1)),v12.Heard.Cost,v12.Heard.Hops,v12.Heard.Bridge,v12.Heard.Port⟩ : Vec)⟩ : Pt)).set (y1.toNat) (⟨v13.Up,v13.Cost,v13.Has,(⟨v13.Heard.Root,(IntKind.wrap .i64 ((IntKind.wrap .i64 ((IntKind.wrap .i64 ((IntKind.wrap .i64 (y3 + 1)) + 1)) + 1)) + 1)),v13.Heard.Hops,v13.Heard.Bridge,v13.Heard.Port⟩ : Vec)⟩ : Pt)).map Pt.row)⟩ y1 (y1.toNat) (Pt.row v14) _ kr kr kr kr rfl kr (idx_isE ev14) rfl rfl ?_
  refine lU tOk 2 kr ?_
  refine lW tOk (t := 3) (ty := 0) (ad := (.tmp 58)) (x := (.tmp 55)) (g := none) (tI 3) false [cI (IntKind.wrap .i64 ((IntKind.wrap .i64 ((IntKind.wrap .i64 ((IntKind.wrap .i64 ((IntKind.wrap .i64 (y3 + 1)) + 1)) + 1)) + 1)) + 1))] 0 0 (y1.toNat) 8 5 8 (((((y2.set (y1.toNat) (⟨((Int.tmod y3 3) == 0),v8.Cost,v8.Has,v8.Heard⟩ : Pt)).set (y1.toNat) (⟨v9.Up,(IntKind.wrap .i64 (y3 + 1)),v9.Has,v9.Heard⟩ : Pt)).set (y1.toNat) (⟨v11.Up,v11.Cost,((Int.tmod (IntKind.wrap .i64 ((IntKind.wrap .i64 (y3 + 1)) + 1)) 3) == 0),v11.Heard⟩ : Pt)).set (y1.toNat) (⟨v12.Up,v12.Cost,v12.Has,(⟨(IntKind.wrap .i64 ((IntKind.wrap .i64 ((IntKind.wrap .i64 (y3 + 1)) + 1)) + 1)),v12.Heard.Cost,v12.Heard.Hops,v12.Heard.Bridge,v12.Heard.Port⟩ : Vec)⟩ : Pt)).set (y1.toNat) (⟨v13.Up,v13.Cost,v13.Has,(⟨v13.Heard.Root,(IntKind.wrap .i64 ((IntKind.wrap .i64 ((IntKind.wrap .i64 ((IntKind.wrap .i64 (y3 + 1)) + 1)) + 1)) + 1)),v13.Heard.Hops,v13.Heard.Bridge,v13.Heard.Port⟩ : Vec)⟩ : Pt)) Pt.row v14 (⟨v14.Up,v14.Cost,v14.Has,(⟨v14.Heard.Root,v14.Heard.Cost,(IntKind.wrap .i64 ((IntKind.wrap .i64 ((IntKind.wrap .i64 ((IntKind.wrap .i64 ((IntKind.wrap .i64 (y3 + 1)) + 1)) + 1)) + 1)) + 1)),v14.Heard.Bridge,v14.Heard.Port⟩ : Vec)⟩ : Pt) kr kr kr kr kr kr kr kr (idx_get ev14).2 kr kr kr kr ?_
  refine lD 35 0 kr ?_
  refine tG tOk 3 35 0 kr kr ?_
  refine rU tOk 3 kr ?_
  obtain ⟨v15,ev15,H⟩ := bind_some H
  refine lO tOk 52 0 61 62 64 none ⟨(.slot 0),[],0,true,8,(((((((y2.set (y1.toNat) (⟨((Int.tmod y3 3) == 0),v8.Cost,v8.Has,v8.Heard⟩ : Pt)).set (y1.toNat) (⟨v9.Up,(IntKind.wrap .i64 (y3 + 1)),v9.Has,v9.Heard⟩ : Pt)).set (y1.toNat) (⟨v11.Up,v11.Cost,((Int.tmod (IntKind.wrap .i64 ((IntKind.wrap .i64 (y3 + 1)) + 1)) 3) == 0),v11.Heard⟩ : Pt)).set (y1.toNat) (⟨v12.Up,v12.Cost,v12.Has,(⟨(IntKind.wrap .i64 ((IntKind.wrap .i64 ((IntKind.wrap .i64 (y3 + 1)) + 1)) + 1)),v12.Heard.Cost,v12.Heard.Hops,v12.Heard.Bridge,v12.Heard.Port⟩ : Vec)⟩ : Pt)).set (y1.toNat) (⟨v13.Up,v13.Cost,v13.Has,(⟨v13.Heard.Root,(IntKind.wrap .i64 ((IntKind.wrap .i64 ((IntKind.wrap .i64 ((IntKind.wrap .i64 (y3 + 1)) + 1)) + 1)) + 1)),v13.Heard.Hops,v13.Heard.Bridge,v13.Heard.Port⟩ : Vec)⟩ : Pt)).set (y1.toNat) (⟨v14.Up,v14.Cost,v14.Has,(⟨v14.Heard.Root,v14.Heard.Cost,(IntKind.wrap .i64 ((IntKind.wrap .i64 ((IntKind.wrap .i64 ((IntKind.wrap .i64 ((IntKind.wrap .i64 (y3 + 1)) + 1)) + 1)) + 1)) + 1)),v14.Heard.Bridge,v14.Heard.Port⟩ : Vec)⟩ : Pt)).map Pt.row)⟩ y1 (y1.toNat) (Pt.row v15) _ kr kr kr kr rfl kr (idx_isE ev15) rfl rfl ?_
  refine lU tOk 2 kr ?_
  refine lW tOk (t := 3) (ty := 0) (ad := (.tmp 66)) (x := (.tmp 63)) (g := none) (tI 3) false [cI (IntKind.wrap .i64 ((IntKind.wrap .i64 ((IntKind.wrap .i64 ((IntKind.wrap .i64 ((IntKind.wrap .i64 ((IntKind.wrap .i64 (y3 + 1)) + 1)) + 1)) + 1)) + 1)) + 1))] 0 0 (y1.toNat) 8 6 8 ((((((y2.set (y1.toNat) (⟨((Int.tmod y3 3) == 0),v8.Cost,v8.Has,v8.Heard⟩ : Pt)).set (y1.toNat) (⟨v9.Up,(IntKind.wrap .i64 (y3 + 1)),v9.Has,v9.Heard⟩ : Pt)).set (y1.toNat) (⟨v11.Up,v11.Cost,((Int.tmod (IntKind.wrap .i64 ((IntKind.wrap .i64 (y3 + 1)) + 1)) 3) == 0),v11.Heard⟩ : Pt)).set (y1.toNat) (⟨v12.Up,v12.Cost,v12.Has,(⟨(IntKind.wrap .i64 ((IntKind.wrap .i64 ((IntKind.wrap .i64 (y3 + 1)) + 1)) + 1)),v12.Heard.Cost,v12.Heard.Hops,v12.Heard.Bridge,v12.Heard.Port⟩ : Vec)⟩ : Pt)).set (y1.toNat) (⟨v13.Up,v13.Cost,v13.Has,(⟨v13.Heard.Root,(IntKind.wrap .i64 ((IntKind.wrap .i64 ((IntKind.wrap .i64 ((IntKind.wrap .i64 (y3 + 1)) + 1)) + 1)) + 1)),v13.Heard.Hops,v13.Heard.Bridge,v13.Heard.Port⟩ : Vec)⟩ : Pt)).set (y1.toNat) (⟨v14.Up,v14.Cost,v14.Has,(⟨v14.Heard.Root,v14.Heard.Cost,(IntKind.wrap .i64 ((IntKind.wrap .i64 ((IntKind.wrap .i64 ((IntKind.wrap .i64 ((IntKind.wrap .i64 (y3 + 1)) + 1)) + 1)) + 1)) + 1)),v14.Heard.Bridge,v14.Heard.Port⟩ : Vec)⟩ : Pt)) Pt.row v15 (⟨v15.Up,v15.Cost,v15.Has,(⟨v15.Heard.Root,v15.Heard.Cost,v15.Heard.Hops,(IntKind.wrap .i64 ((IntKind.wrap .i64 ((IntKind.wrap .i64 ((IntKind.wrap .i64 ((IntKind.wrap .i64 ((IntKind.wrap .i64 (y3 + 1)) + 1)) + 1)) + 1)) + 1)) + 1)),v15.Heard.Port⟩ : Vec)⟩ : Pt) kr kr kr kr kr kr kr kr (idx_get ev15).2 kr kr kr kr ?_
  refine lD 35 0 kr ?_
  refine tG tOk 3 35 0 kr kr ?_
  refine rU tOk 3 kr ?_
  obtain ⟨v16,ev16,H⟩ := bind_some H
  refine lO tOk 52 0 69 70 72 none ⟨(.slot 0),[],0,true,8,((((((((y2.set (y1.toNat) (⟨((Int.tmod y3 3) == 0),v8.Cost,v8.Has,v8.Heard⟩ : Pt)).set (y1.toNat) (⟨v9.Up,(IntKind.wrap .i64 (y3 + 1)),v9.Has,v9.Heard⟩ : Pt)).set (y1.toNat) (⟨v11.Up,v11.Cost,((Int.tmod (IntKind.wrap .i64 ((IntKind.wrap .i64 (y3 + 1)) + 1)) 3) == 0),v11.Heard⟩ : Pt)).set (y1.toNat) (⟨v12.Up,v12.Cost,v12.Has,(⟨(IntKind.wrap .i64 ((IntKind.wrap .i64 ((IntKind.wrap .i64 (y3 + 1)) + 1)) + 1)),v12.Heard.Cost,v12.Heard.Hops,v12.Heard.Bridge,v12.Heard.Port⟩ : Vec)⟩ : Pt)).set (y1.toNat) (⟨v13.Up,v13.Cost,v13.Has,(⟨v13.Heard.Root,(IntKind.wrap .i64 ((IntKind.wrap .i64 ((IntKind.wrap .i64 ((IntKind.wrap .i64 (y3 + 1)) + 1)) + 1)) + 1)),v13.Heard.Hops,v13.Heard.Bridge,v13.Heard.Port⟩ : Vec)⟩ : Pt)).set (y1.toNat) (⟨v14.Up,v14.Cost,v14.Has,(⟨v14.Heard.Root,v14.Heard.Cost,(IntKind.wrap .i64 ((IntKind.wrap .i64 ((IntKind.wrap .i64 ((IntKind.wrap .i64 ((IntKind.wrap .i64 (y3 + 1)) + 1)) + 1)) + 1)) + 1)),v14.Heard.Bridge,v14.Heard.Port⟩ : Vec)⟩ : Pt)).set (y1.toNat) (⟨v15.Up,v15.Cost,v15.Has,(⟨v15.Heard.Root,v15.Heard.Cost,v15.Heard.Hops,(IntKind.wrap .i64 ((IntKind.wrap .i64 ((IntKind.wrap .i64 ((IntKind.wrap .i64 ((IntKind.wrap .i64 ((IntKind.wrap .i64 (y3 + 1)) + 1)) + 1)) + 1)) + 1)) + 1)),v15.Heard.Port⟩ : Vec)⟩ : Pt)).map Pt.row)⟩ y1 (y1.toNat) (Pt.row v16) _ kr kr kr kr rfl kr (idx_isE ev16) rfl rfl ?_
  refine lU tOk 2 kr ?_
  refine lW tOk (t := 3) (ty := 0) (ad := (.tmp 74)) (x := (.tmp 71)) (g := none) (tI 3) false [cI (IntKind.wrap .i64 ((IntKind.wrap .i64 ((IntKind.wrap .i64 ((IntKind.wrap .i64 ((IntKind.wrap .i64 ((IntKind.wrap .i64 ((IntKind.wrap .i64 (y3 + 1)) + 1)) + 1)) + 1)) + 1)) + 1)) + 1))] 0 0 (y1.toNat) 8 7 8 (((((((y2.set (y1.toNat) (⟨((Int.tmod y3 3) == 0),v8.Cost,v8.Has,v8.Heard⟩ : Pt)).set (y1.toNat) (⟨v9.Up,(IntKind.wrap .i64 (y3 + 1)),v9.Has,v9.Heard⟩ : Pt)).set (y1.toNat) (⟨v11.Up,v11.Cost,((Int.tmod (IntKind.wrap .i64 ((IntKind.wrap .i64 (y3 + 1)) + 1)) 3) == 0),v11.Heard⟩ : Pt)).set (y1.toNat) (⟨v12.Up,v12.Cost,v12.Has,(⟨(IntKind.wrap .i64 ((IntKind.wrap .i64 ((IntKind.wrap .i64 (y3 + 1)) + 1)) + 1)),v12.Heard.Cost,v12.Heard.Hops,v12.Heard.Bridge,v12.Heard.Port⟩ : Vec)⟩ : Pt)).set (y1.toNat) (⟨v13.Up,v13.Cost,v13.Has,(⟨v13.Heard.Root,(IntKind.wrap .i64 ((IntKind.wrap .i64 ((IntKind.wrap .i64 ((IntKind.wrap .i64 (y3 + 1)) + 1)) + 1)) + 1)),v13.Heard.Hops,v13.Heard.Bridge,v13.Heard.Port⟩ : Vec)⟩ : Pt)).set (y1.toNat) (⟨v14.Up,v14.Cost,v14.Has,(⟨v14.Heard.Root,v14.Heard.Cost,(IntKind.wrap .i64 ((IntKind.wrap .i64 ((IntKind.wrap .i64 ((IntKind.wrap .i64 ((IntKind.wrap .i64 (y3 + 1)) + 1)) + 1)) + 1)) + 1)),v14.Heard.Bridge,v14.Heard.Port⟩ : Vec)⟩ : Pt)).set (y1.toNat) (⟨v15.Up,v15.Cost,v15.Has,(⟨v15.Heard.Root,v15.Heard.Cost,v15.Heard.Hops,(IntKind.wrap .i64 ((IntKind.wrap .i64 ((IntKind.wrap .i64 ((IntKind.wrap .i64 ((IntKind.wrap .i64 ((IntKind.wrap .i64 (y3 + 1)) + 1)) + 1)) + 1)) + 1)) + 1)),v15.Heard.Port⟩ : Vec)⟩ : Pt)) Pt.row v16 (⟨v16.Up,v16.Cost,v16.Has,(⟨v16.Heard.Root,v16.Heard.Cost,v16.Heard.Hops,v16.Heard.Bridge,(IntKind.wrap .i64 ((IntKind.wrap .i64 ((IntKind.wrap .i64 ((IntKind.wrap .i64 ((IntKind.wrap .i64 ((IntKind.wrap .i64 ((IntKind.wrap .i64 (y3 + 1)) + 1)) + 1)) + 1)) + 1)) + 1)) + 1))⟩ : Vec)⟩ : Pt) kr kr kr kr kr kr kr kr (idx_get ev16).2 kr kr kr kr ?_
  refine lD 35 0 kr ?_
  refine tE tOk 3 35 0 kr kr ?_
  refine tE tOk 3 35 0 kr kr ?_
  exact jn (mo6,((IntKind.wrap .i64 (y1 + 1)),((((((((y2.set (y1.toNat) (⟨((Int.tmod y3 3) == 0),v8.Cost,v8.Has,v8.Heard⟩ : Pt)).set (y1.toNat) (⟨v9.Up,(IntKind.wrap .i64 (y3 + 1)),v9.Has,v9.Heard⟩ : Pt)).set (y1.toNat) (⟨v11.Up,v11.Cost,((Int.tmod (IntKind.wrap .i64 ((IntKind.wrap .i64 (y3 + 1)) + 1)) 3) == 0),v11.Heard⟩ : Pt)).set (y1.toNat) (⟨v12.Up,v12.Cost,v12.Has,(⟨(IntKind.wrap .i64 ((IntKind.wrap .i64 ((IntKind.wrap .i64 (y3 + 1)) + 1)) + 1)),v12.Heard.Cost,v12.Heard.Hops,v12.Heard.Bridge,v12.Heard.Port⟩ : Vec)⟩ : Pt)).set (y1.toNat) (⟨v13.Up,v13.Cost,v13.Has,(⟨v13.Heard.Root,(IntKind.wrap .i64 ((IntKind.wrap .i64 ((IntKind.wrap .i64 ((IntKind.wrap .i64 (y3 + 1)) + 1)) + 1)) + 1)),v13.Heard.Hops,v13.Heard.Bridge,v13.Heard.Port⟩ : Vec)⟩ : Pt)).set (y1.toNat) (⟨v14.Up,v14.Cost,v14.Has,(⟨v14.Heard.Root,v14.Heard.Cost,(IntKind.wrap .i64 ((IntKind.wrap .i64 ((IntKind.wrap .i64 ((IntKind.wrap .i64 ((IntKind.wrap .i64 (y3 + 1)) + 1)) + 1)) + 1)) + 1)),v14.Heard.Bridge,v14.Heard.Port⟩ : Vec)⟩ : Pt)).set (y1.toNat) (⟨v15.Up,v15.Cost,v15.Has,(⟨v15.Heard.Root,v15.Heard.Cost,v15.Heard.Hops,(IntKind.wrap .i64 ((IntKind.wrap .i64 ((IntKind.wrap .i64 ((IntKind.wrap .i64 ((IntKind.wrap .i64 ((IntKind.wrap .i64 (y3 + 1)) + 1)) + 1)) + 1)) + 1)) + 1)),v15.Heard.Port⟩ : Vec)⟩ : Pt)).set (y1.toNat) (⟨v16.Up,v16.Cost,v16.Has,(⟨v16.Heard.Root,v16.Heard.Cost,v16.Heard.Hops,v16.Heard.Bridge,(IntKind.wrap .i64 ((IntKind.wrap .i64 ((IntKind.wrap .i64 ((IntKind.wrap .i64 ((IntKind.wrap .i64 ((IntKind.wrap .i64 ((IntKind.wrap .i64 (y3 + 1)) + 1)) + 1)) + 1)) + 1)) + 1)) + 1))⟩ : Vec)⟩ : Pt)),(IntKind.wrap .i64 ((IntKind.wrap .i64 ((IntKind.wrap .i64 ((IntKind.wrap .i64 ((IntKind.wrap .i64 ((IntKind.wrap .i64 ((IntKind.wrap .i64 ((IntKind.wrap .i64 (y3 + 1)) + 1)) + 1)) + 1)) + 1)) + 1)) + 1)) + 1)))) H (sM mo6 [5,0,1] [] kr)
 rintro ⟨y4,y5⟩ H
 have H : (laws_markPtS_J1 n y4 y5) = some r := H
 unfold laws_markPtS_J1 at H
 refine tG tOk 2 17 0 kr kr ?_
 refine te ?_
 obtain rfl := si H
 exact Fin.ofY _ [(false,[cI y5])] [false] _ [[cL 8 y4 Pt.row]] _ [] kr rfl rfl rfl kr kr kr kr rfl rfl rfl
def laws_markFentS_J1 (n : Nat) (y4 : (List Fent)) (y5 : Int) : Option (Int × (List Fent)) :=
  (some (y5,y4))
def laws_markFentS_L2 (n : Nat) : Nat → Int → (List Fent) → Int → Option (((List Fent) × Int) ⊕ (Int × (List Fent)))
  | 0,_,_,_ => none
  | mo6 + 1,y1,y2,y3 => (bif (decide (y1 < (y2.length : Int))) then ((idx y2 y1).bind fun v7 => ((idx (y2.set (y1.toNat) (⟨y3,v7.Mac,v7.Port,v7.Age,v7.Static⟩ : Fent)) y1).bind fun v8 => ((idx ((y2.set (y1.toNat) (⟨y3,v7.Mac,v7.Port,v7.Age,v7.Static⟩ : Fent)).set (y1.toNat) (⟨v8.Tag,(IntKind.wrap .i64 (y3 + 1)),v8.Port,v8.Age,v8.Static⟩ : Fent)) y1).bind fun v9 => ((idx (((y2.set (y1.toNat) (⟨y3,v7.Mac,v7.Port,v7.Age,v7.Static⟩ : Fent)).set (y1.toNat) (⟨v8.Tag,(IntKind.wrap .i64 (y3 + 1)),v8.Port,v8.Age,v8.Static⟩ : Fent)).set (y1.toNat) (⟨v9.Tag,v9.Mac,(IntKind.wrap .i64 ((IntKind.wrap .i64 (y3 + 1)) + 1)),v9.Age,v9.Static⟩ : Fent)) y1).bind fun v10 => (bif (decide ((3 : Int) ≠ 0)) then ((idx ((((y2.set (y1.toNat) (⟨y3,v7.Mac,v7.Port,v7.Age,v7.Static⟩ : Fent)).set (y1.toNat) (⟨v8.Tag,(IntKind.wrap .i64 (y3 + 1)),v8.Port,v8.Age,v8.Static⟩ : Fent)).set (y1.toNat) (⟨v9.Tag,v9.Mac,(IntKind.wrap .i64 ((IntKind.wrap .i64 (y3 + 1)) + 1)),v9.Age,v9.Static⟩ : Fent)).set (y1.toNat) (⟨v10.Tag,v10.Mac,v10.Port,(IntKind.wrap .i64 ((IntKind.wrap .i64 ((IntKind.wrap .i64 (y3 + 1)) + 1)) + 1)),v10.Static⟩ : Fent)) y1).bind fun v12 => (laws_markFentS_L2 n mo6 (IntKind.wrap .i64 (y1 + 1)) (((((y2.set (y1.toNat) (⟨y3,v7.Mac,v7.Port,v7.Age,v7.Static⟩ : Fent)).set (y1.toNat) (⟨v8.Tag,(IntKind.wrap .i64 (y3 + 1)),v8.Port,v8.Age,v8.Static⟩ : Fent)).set (y1.toNat) (⟨v9.Tag,v9.Mac,(IntKind.wrap .i64 ((IntKind.wrap .i64 (y3 + 1)) + 1)),v9.Age,v9.Static⟩ : Fent)).set (y1.toNat) (⟨v10.Tag,v10.Mac,v10.Port,(IntKind.wrap .i64 ((IntKind.wrap .i64 ((IntKind.wrap .i64 (y3 + 1)) + 1)) + 1)),v10.Static⟩ : Fent)).set (y1.toNat) (⟨v12.Tag,v12.Mac,v12.Port,v12.Age,((Int.tmod (IntKind.wrap .i64 ((IntKind.wrap .i64 ((IntKind.wrap .i64 ((IntKind.wrap .i64 (y3 + 1)) + 1)) + 1)) + 1)) 3) == 0)⟩ : Fent)) (IntKind.wrap .i64 ((IntKind.wrap .i64 ((IntKind.wrap .i64 ((IntKind.wrap .i64 ((IntKind.wrap .i64 (y3 + 1)) + 1)) + 1)) + 1)) + 1)))) else none))))) else (some (Sum.inl (y2,y3))))
def laws_markFentSF (n : Nat) (x0 : (List Fent)) (x1 : Int) : Option (Int × (List Fent)) :=
  ((laws_markFentS_L2 n n 0 x0 x1).bind fun o => match o with | .inl (y4,y5) => (laws_markFentS_J1 n y4 y5) | .inr r => some r)
noncomputable abbrev G123 (k : Nat) := Rg Tryz.f123 k
theorem laws_markFentS (n : Nat) (x0 : (List Fent)) (x1 : Int) (r : Int × (List Fent)) (H : laws_markFentSF n x0 x1 = some r) : LCall Tryz.prog 123 [.io false [.sl true 5 (x0.map Fent.row)],.val false [.lit (.int .i64 x1)]] [.val false [.lit (.int .i64 r.1)]] [(0,[.sl true 5 (r.2.map Fent.row)])] := by
 refine LCall.of_body tOk Tryz.func123 rfl (c := (.seq (G123 0) (.seq (.seq (G123 1) (.block 0 (.loop (.seq (.seq (G123 2) (.cond (.tmp 9) .skip (.exit 0))) (.seq (.block 1 (.seq (G123 4) (.seq (G123 5) (.seq (G123 6) (.seq (G123 7) (.seq (G123 8) (.seq (G123 9) (.seq (G123 10) (.seq (G123 11) (.seq (G123 12) (G123 13))))))))))) (G123 3)))))) (.seq (G123 14) .ret)))) kr (Nat.le_of_ble_eq_true kr) 1 (rs := [.tmp 4]) rfl [0] (by decide) [(false,[.lit (.int .i64 r.1)])] [[.sl true 5 (r.2.map Fent.row)]] [] fun cx => ?_
 show Tr _ _ _ ⟨50,1,[sC 0 (cL 5 x0 Fent.row),sI 1 x1],[]⟩ _
 unfold laws_markFentSF at H
 refine tG tOk 1 3 0 kr kr ?_
 refine tS ?_
 refine tG tOk 1 35 0 kr kr ?_
 obtain ⟨o6,eo6,Ho6⟩ := bind_some H
 clear H
 refine Tr.mid (ι := (List Fent) × Int) (fun v => ⟨50,1,[sC 0 (cL 5 v.1 Fent.row),sI 1 v.2],[]⟩) (fun v => laws_markFentS_J1 n v.1 v.2 = some r) ?_ ?_
 ·refine tB ?_
  refine Tr.loop (ι := Nat × (Int × (List Fent) × Int)) (fun v => ⟨50,1,[sI 5 v.2.1,sC 0 (cL 5 v.2.2.1 Fent.row),sI 1 v.2.2.2],[]⟩) (fun v => laws_markFentS_L2 n v.1 v.2.1 v.2.2.1 v.2.2.2 = some o6) (fun v => v.1) (n,(0,x0,x1)) eo6 (St.sub_of [5,0,1] [] kr) ?_
  rintro ⟨mo6,y1,y2,y3⟩ H
  have H : laws_markFentS_L2 n mo6 y1 y2 y3 = some o6 := H
  obtain _ | mo6 := mo6
  ·cases (show (none : Option _) = some o6 from H)
  rw [laws_markFentS_L2] at H
  refine tS ?_
  refine rU tOk 2 kr ?_
  refine lL tOk 53 3 184 7 8 none ⟨(.slot 0),[],0,true,5,(y2.map Fent.row)⟩ (y2).length _ kr kr kr kr kr (map_len _ _) rfl ?_
  refine uD tOk 1 547 0 kr kr ?_
  obtain ⟨h1,H⟩ | ⟨h1,H⟩ := bC H
  ·refine tF h1 kr ?_
   refine Tr.exit ?_
   refine And.intro (fun _ => ?_) (fun h => absurd rfl h)
   obtain rfl := si H
   have H := Ho6
   dsimp only at H
   exact jn (y2,y3) H (sB_ [0,1] [] kr)
  refine tT h1 kr ?_
  refine tK ?_
  refine tS ?_
  refine tB ?_
  refine rU tOk 3 kr ?_
  obtain ⟨v7,ev7,H⟩ := bind_some H
  refine lO tOk 53 0 12 13 15 none ⟨(.slot 0),[],0,true,5,(y2.map Fent.row)⟩ y1 (y1.toNat) (Fent.row v7) _ kr kr kr kr rfl kr (idx_isE ev7) rfl rfl ?_
  refine lU tOk 1 kr ?_
  refine lW tOk (t := 3) (ty := 0) (ad := (.tmp 16)) (x := (.tmp 14)) (g := none) (tI 3) false [cI y3] 0 0 (y1.toNat) 5 0 5 y2 Fent.row v7 (⟨y3,v7.Mac,v7.Port,v7.Age,v7.Static⟩ : Fent) kr kr kr kr kr kr kr kr (idx_get ev7).2 kr kr kr kr ?_
  refine lD 35 0 kr ?_
  refine tG tOk 3 35 0 kr kr ?_
  refine rU tOk 3 kr ?_
  obtain ⟨v8,ev8,H⟩ := bind_some H
  refine lO tOk 53 0 19 20 22 none ⟨(.slot 0),[],0,true,5,((y2.set (y1.toNat) (⟨y3,v7.Mac,v7.Port,v7.Age,v7.Static⟩ : Fent)).map Fent.row)⟩ y1 (y1.toNat) (Fent.row v8) _ kr kr kr kr rfl kr (idx_isE ev8) rfl rfl ?_
  refine lU tOk 1 kr ?_
  refine lW tOk (t := 3) (ty := 0) (ad := (.tmp 23)) (x := (.tmp 21)) (g := none) (tI 3) false [cI (IntKind.wrap .i64 (y3 + 1))] 0 0 (y1.toNat) 5 1 5 (y2.set (y1.toNat) (⟨y3,v7.Mac,v7.Port,v7.Age,v7.Static⟩ : Fent)) Fent.row v8 (⟨v8.Tag,(IntKind.wrap .i64 (y3 + 1)),v8.Port,v8.Age,v8.Static⟩ : Fent) kr kr kr kr kr kr kr kr (idx_get ev8).2 kr kr kr kr ?_
  refine lD 35 0 kr ?_
  refine tG tOk 3 35 0 kr kr ?_
  refine rU tOk 3 kr ?_
  obtain ⟨v9,ev9,H⟩ := bind_some H
  refine lO tOk 53 0 26 27 29 none ⟨(.slot 0),[],0,true,5,(((y2.set (y1.toNat) (⟨y3,v7.Mac,v7.Port,v7.Age,v7.Static⟩ : Fent)).set (y1.toNat) (⟨v8.Tag,(IntKind.wrap .i64 (y3 + 1)),v8.Port,v8.Age,v8.Static⟩ : Fent)).map Fent.row)⟩ y1 (y1.toNat) (Fent.row v9) _ kr kr kr kr rfl kr (idx_isE ev9) rfl rfl ?_
  refine lU tOk 1 kr ?_
  refine lW tOk (t := 3) (ty := 0) (ad := (.tmp 30)) (x := (.tmp 28)) (g := none) (tI 3) false [cI (IntKind.wrap .i64 ((IntKind.wrap .i64 (y3 + 1)) + 1))] 0 0 (y1.toNat) 5 2 5 ((y2.set (y1.toNat) (⟨y3,v7.Mac,v7.Port,v7.Age,v7.Static⟩ : Fent)).set (y1.toNat) (⟨v8.Tag,(IntKind.wrap .i64 (y3 + 1)),v8.Port,v8.Age,v8.Static⟩ : Fent)) Fent.row v9 (⟨v9.Tag,v9.Mac,(IntKind.wrap .i64 ((IntKind.wrap .i64 (y3 + 1)) + 1)),v9.Age,v9.Static⟩ : Fent) kr kr kr kr kr kr kr kr (idx_get ev9).2 kr kr kr kr ?_
  refine lD 35 0 kr ?_
  refine tG tOk 3 35 0 kr kr ?_
  refine rU tOk 3 kr ?_
  obtain ⟨v10,ev10,H⟩ := bind_some H
  refine lO tOk 53 0 33 34 36 none ⟨(.slot 0),[],0,true,5,((((y2.set (y1.toNat) (⟨y3,v7.Mac,v7.Port,v7.Age,v7.Static⟩ : Fent)).set (y1.toNat) (⟨v8.Tag,(IntKind.wrap .i64 (y3 + 1)),v8.Port,v8.Age,v8.Static⟩ : Fent)).set (y1.toNat) (⟨v9.Tag,v9.Mac,(IntKind.wrap .i64 ((IntKind.wrap .i64 (y3 + 1)) + 1)),v9.Age,v9.Static⟩ : Fent)).map Fent.row)⟩ y1 (y1.toNat) (Fent.row v10) _ kr kr kr kr rfl kr (idx_isE ev10) rfl rfl ?_
  refine lU tOk 1 kr ?_
  refine lW tOk (t := 3) (ty := 0) (ad := (.tmp 37)) (x := (.tmp 35)) (g := none) (tI 3) false [cI (IntKind.wrap .i64 ((IntKind.wrap .i64 ((IntKind.wrap .i64 (y3 + 1)) + 1)) + 1))] 0 0 (y1.toNat) 5 3 5 (((y2.set (y1.toNat) (⟨y3,v7.Mac,v7.Port,v7.Age,v7.Static⟩ : Fent)).set (y1.toNat) (⟨v8.Tag,(IntKind.wrap .i64 (y3 + 1)),v8.Port,v8.Age,v8.Static⟩ : Fent)).set (y1.toNat) (⟨v9.Tag,v9.Mac,(IntKind.wrap .i64 ((IntKind.wrap .i64 (y3 + 1)) + 1)),v9.Age,v9.Static⟩ : Fent)) Fent.row v10 (⟨v10.Tag,v10.Mac,v10.Port,(IntKind.wrap .i64 ((IntKind.wrap .i64 ((IntKind.wrap .i64 (y3 + 1)) + 1)) + 1)),v10.Static⟩ : Fent) kr kr kr kr kr kr kr kr (idx_get ev10).2 kr kr kr kr ?_
  refine lD 35 0 kr ?_
  refine tG tOk 3 35 0 kr kr ?_
  refine rU tOk 3 kr ?_
  obtain ⟨hg11,H⟩ := guard_some H
  refine LAt.binC tOk (op := .rem) (t := 3) (ty := 3) (ty' := 3) (x := (.tmp 42)) (y := (.const (.int .i64 3))) (d := 43) (g := none) (.int .i64 (IntKind.wrap .i64 ((IntKind.wrap .i64 ((IntKind.wrap .i64 ((IntKind.wrap .i64 (y3 + 1)) + 1)) + 1)) + 1))) (.int .i64 3) (.int .i64 (Int.tmod (IntKind.wrap .i64 ((IntKind.wrap .i64 ((IntKind.wrap .i64 ((IntKind.wrap .i64 (y3 + 1)) + 1)) + 1)) + 1)) 3)) _ kr kr kr kr kr (φ := (IntKind.i64 = IntKind.i64 ∧ (3 : Int) ≠ 0)) kr (⟨rfl,of_decide_eq_true hg11⟩) rfl ?_
  refine lU tOk 1 kr ?_
  obtain ⟨v12,ev12,H⟩ := bind_some H
  refine lO tOk 53 0 40 41 45 none ⟨(.slot 0),[],0,true,5,(((((y2.set (y1.toNat) (⟨y3,v7.Mac,v7.Port,v7.Age,v7.Static⟩ : Fent)).set (y1.toNat) (⟨v8.Tag,(IntKind.wrap .i64 (y3 + 1)),v8.Port,v8.Age,v8.Static⟩ : Fent)).set (y1.toNat) (⟨v9.Tag,v9.Mac,(IntKind.wrap .i64 ((IntKind.wrap .i64 (y3 + 1)) + 1)),v9.Age,v9.Static⟩ : Fent)).set (y1.toNat) (⟨v10.Tag,v10.Mac,v10.Port,(IntKind.wrap .i64 ((IntKind.wrap .i64 ((IntKind.wrap .i64 (y3 + 1)) + 1)) + 1)),v10.Static⟩ : Fent)).map Fent.row)⟩ y1 (y1.toNat) (Fent.row v12) _ kr kr kr kr rfl kr (idx_isE ev12) rfl rfl ?_
  refine lU tOk 1 kr ?_
  refine lW tOk (t := 4) (ty := 0) (ad := (.tmp 46)) (x := (.tmp 44)) (g := none) (tI 4) false [cB ((Int.tmod (IntKind.wrap .i64 ((IntKind.wrap .i64 ((IntKind.wrap .i64 ((IntKind.wrap .i64 (y3 + 1)) + 1)) + 1)) + 1)) 3) == 0)] 0 0 (y1.toNat) 5 4 5 ((((y2.set (y1.toNat) (⟨y3,v7.Mac,v7.Port,v7.Age,v7.Static⟩ : Fent)).set (y1.toNat) (⟨v8.Tag,(IntKind.wrap .i64 (y3 + 1)),v8.Port,v8.Age,v8.Static⟩ : Fent)).set (y1.toNat) (⟨v9.Tag,v9.Mac,(IntKind.wrap .i64 ((IntKind.wrap .i64 (y3 + 1)) + 1)),v9.Age,v9.Static⟩ : Fent)).set (y1.toNat) (⟨v10.Tag,v10.Mac,v10.Port,(IntKind.wrap .i64 ((IntKind.wrap .i64 ((IntKind.wrap .i64 (y3 + 1)) + 1)) + 1)),v10.Static⟩ : Fent)) Fent.row v12 (⟨v12.Tag,v12.Mac,v12.Port,v12.Age,((Int.tmod (IntKind.wrap .i64 ((IntKind.wrap .i64 ((IntKind.wrap .i64 ((IntKind.wrap .i64 (y3 + 1)) + 1)) + 1)) + 1)) 3) == 0)⟩ : Fent) kr kr kr kr kr kr kr kr (idx_get ev12).2 kr kr kr kr ?_
  refine lD 35 0 kr ?_
  refine tE tOk 3 35 0 kr kr ?_
  refine tE tOk 3 35 0 kr kr ?_
  exact jn (mo6,((IntKind.wrap .i64 (y1 + 1)),(((((y2.set (y1.toNat) (⟨y3,v7.Mac,v7.Port,v7.Age,v7.Static⟩ : Fent)).set (y1.toNat) (⟨v8.Tag,(IntKind.wrap .i64 (y3 + 1)),v8.Port,v8.Age,v8.Static⟩ : Fent)).set (y1.toNat) (⟨v9.Tag,v9.Mac,(IntKind.wrap .i64 ((IntKind.wrap .i64 (y3 + 1)) + 1)),v9.Age,v9.Static⟩ : Fent)).set (y1.toNat) (⟨v10.Tag,v10.Mac,v10.Port,(IntKind.wrap .i64 ((IntKind.wrap .i64 ((IntKind.wrap .i64 (y3 + 1)) + 1)) + 1)),v10.Static⟩ : Fent)).set (y1.toNat) (⟨v12.Tag,v12.Mac,v12.Port,v12.Age,((Int.tmod (IntKind.wrap .i64 ((IntKind.wrap .i64 ((IntKind.wrap .i64 ((IntKind.wrap .i64 (y3 + 1)) + 1)) + 1)) + 1)) 3) == 0)⟩ : Fent)),(IntKind.wrap .i64 ((IntKind.wrap .i64 ((IntKind.wrap .i64 ((IntKind.wrap .i64 ((IntKind.wrap .i64 (y3 + 1)) + 1)) + 1)) + 1)) + 1)))) H (sM mo6 [5,0,1] [] kr)
 rintro ⟨y4,y5⟩ H
 have H : (laws_markFentS_J1 n y4 y5) = some r := H
 unfold laws_markFentS_J1 at H
 refine tG tOk 2 17 0 kr kr ?_
 refine te ?_
 obtain rfl := si H
 exact Fin.ofY _ [(false,[cI y5])] [false] _ [[cL 5 y4 Fent.row]] _ [] kr rfl rfl rfl kr kr kr kr rfl rfl rfl
def laws_markVrowS_J1 (n : Nat) (y4 : (List Vrow)) (y5 : Int) : Option (Int × (List Vrow)) :=
  (some (y5,y4))
def laws_markVrowS_L2 (n : Nat) : Nat → Int → (List Vrow) → Int → Option (((List Vrow) × Int) ⊕ (Int × (List Vrow)))
  | 0,_,_,_ => none
  | mo6 + 1,y1,y2,y3 => (bif (decide (y1 < (y2.length : Int))) then ((idx y2 y1).bind fun v7 => ((idx (y2.set (y1.toNat) (⟨y3,v7.Members,v7.Bare⟩ : Vrow)) y1).bind fun v8 => ((idx ((y2.set (y1.toNat) (⟨y3,v7.Members,v7.Bare⟩ : Vrow)).set (y1.toNat) (⟨v8.Id,(IntKind.wrap .i64 (y3 + 1)),v8.Bare⟩ : Vrow)) y1).bind fun v9 => (laws_markVrowS_L2 n mo6 (IntKind.wrap .i64 (y1 + 1)) (((y2.set (y1.toNat) (⟨y3,v7.Members,v7.Bare⟩ : Vrow)).set (y1.toNat) (⟨v8.Id,(IntKind.wrap .i64 (y3 + 1)),v8.Bare⟩ : Vrow)).set (y1.toNat) (⟨v9.Id,v9.Members,(IntKind.wrap .i64 ((IntKind.wrap .i64 (y3 + 1)) + 1))⟩ : Vrow)) (IntKind.wrap .i64 ((IntKind.wrap .i64 ((IntKind.wrap .i64 (y3 + 1)) + 1)) + 1)))))) else (some (Sum.inl (y2,y3))))
def laws_markVrowSF (n : Nat) (x0 : (List Vrow)) (x1 : Int) : Option (Int × (List Vrow)) :=
  ((laws_markVrowS_L2 n n 0 x0 x1).bind fun o => match o with | .inl (y4,y5) => (laws_markVrowS_J1 n y4 y5) | .inr r => some r)
noncomputable abbrev G186 (k : Nat) := Rg Tryz.f186 k
theorem laws_markVrowS (n : Nat) (x0 : (List Vrow)) (x1 : Int) (r : Int × (List Vrow)) (H : laws_markVrowSF n x0 x1 = some r) : LCall Tryz.prog 186 [.io false [.sl true 3 (x0.map Vrow.row)],.val false [.lit (.int .i64 x1)]] [.val false [.lit (.int .i64 r.1)]] [(0,[.sl true 3 (r.2.map Vrow.row)])] := by
 refine LCall.of_body tOk Tryz.func186 rfl (c := (.seq (G186 0) (.seq (.seq (G186 1) (.block 0 (.loop (.seq (.seq (G186 2) (.cond (.tmp 9) .skip (.exit 0))) (.seq (.block 1 (.seq (G186 4) (.seq (G186 5) (.seq (G186 6) (.seq (G186 7) (.seq (G186 8) (G186 9))))))) (G186 3)))))) (.seq (G186 10) .ret)))) kr (Nat.le_of_ble_eq_true kr) 1 (rs := [.tmp 4]) rfl [0] (by decide) [(false,[.lit (.int .i64 r.1)])] [[.sl true 3 (r.2.map Vrow.row)]] [] fun cx => ?_
 show Tr _ _ _ ⟨34,1,[sC 0 (cL 3 x0 Vrow.row),sI 1 x1],[]⟩ _
 unfold laws_markVrowSF at H
 refine tG tOk 1 3 0 kr kr ?_
 refine tS ?_
 refine tG tOk 1 35 0 kr kr ?_
 obtain ⟨o6,eo6,Ho6⟩ := bind_some H
 clear H
 refine Tr.mid (ι := (List Vrow) × Int) (fun v => ⟨34,1,[sC 0 (cL 3 v.1 Vrow.row),sI 1 v.2],[]⟩) (fun v => laws_markVrowS_J1 n v.1 v.2 = some r) ?_ ?_
 ·refine tB ?_
  refine Tr.loop (ι := Nat × (Int × (List Vrow) × Int)) (fun v => ⟨34,1,[sI 5 v.2.1,sC 0 (cL 3 v.2.2.1 Vrow.row),sI 1 v.2.2.2],[]⟩) (fun v => laws_markVrowS_L2 n v.1 v.2.1 v.2.2.1 v.2.2.2 = some o6) (fun v => v.1) (n,(0,x0,x1)) eo6 (St.sub_of [5,0,1] [] kr) ?_
  rintro ⟨mo6,y1,y2,y3⟩ H
  have H : laws_markVrowS_L2 n mo6 y1 y2 y3 = some o6 := H
  obtain _ | mo6 := mo6
  ·cases (show (none : Option _) = some o6 from H)
  rw [laws_markVrowS_L2] at H
  refine tS ?_
  refine rU tOk 2 kr ?_
  refine lL tOk 54 3 190 7 8 none ⟨(.slot 0),[],0,true,3,(y2.map Vrow.row)⟩ (y2).length _ kr kr kr kr kr (map_len _ _) rfl ?_
  refine uD tOk 1 547 0 kr kr ?_
  obtain ⟨h1,H⟩ | ⟨h1,H⟩ := bC H
  ·refine tF h1 kr ?_
   refine Tr.exit ?_
   refine And.intro (fun _ => ?_) (fun h => absurd rfl h)
   obtain rfl := si H
   have H := Ho6
   dsimp only at H
   exact jn (y2,y3) H (sB_ [0,1] [] kr)
  refine tT h1 kr ?_
  refine tK ?_
  refine tS ?_
  refine tB ?_
  refine rU tOk 3 kr ?_
  obtain ⟨v7,ev7,H⟩ := bind_some H
  refine lO tOk 54 0 12 13 15 none ⟨(.slot 0),[],0,true,3,(y2.map Vrow.row)⟩ y1 (y1.toNat) (Vrow.row v7) _ kr kr kr kr rfl kr (idx_isE ev7) rfl rfl ?_
  refine lU tOk 1 kr ?_
  refine lW tOk (t := 3) (ty := 0) (ad := (.tmp 16)) (x := (.tmp 14)) (g := none) (tI 3) false [cI y3] 0 0 (y1.toNat) 3 0 3 y2 Vrow.row v7 (⟨y3,v7.Members,v7.Bare⟩ : Vrow) kr kr kr kr kr kr kr kr (idx_get ev7).2 kr kr kr kr ?_
  refine lD 35 0 kr ?_
  refine tG tOk 3 35 0 kr kr ?_
  refine rU tOk 3 kr ?_
  obtain ⟨v8,ev8,H⟩ := bind_some H
  refine lO tOk 54 0 19 20 22 none ⟨(.slot 0),[],0,true,3,((y2.set (y1.toNat) (⟨y3,v7.Members,v7.Bare⟩ : Vrow)).map Vrow.row)⟩ y1 (y1.toNat) (Vrow.row v8) _ kr kr kr kr rfl kr (idx_isE ev8) rfl rfl ?_
  refine lU tOk 1 kr ?_
  refine lW tOk (t := 3) (ty := 0) (ad := (.tmp 23)) (x := (.tmp 21)) (g := none) (tI 3) false [cI (IntKind.wrap .i64 (y3 + 1))] 0 0 (y1.toNat) 3 1 3 (y2.set (y1.toNat) (⟨y3,v7.Members,v7.Bare⟩ : Vrow)) Vrow.row v8 (⟨v8.Id,(IntKind.wrap .i64 (y3 + 1)),v8.Bare⟩ : Vrow) kr kr kr kr kr kr kr kr (idx_get ev8).2 kr kr kr kr ?_
  refine lD 35 0 kr ?_
  refine tG tOk 3 35 0 kr kr ?_
  refine rU tOk 3 kr ?_
  obtain ⟨v9,ev9,H⟩ := bind_some H
  refine lO tOk 54 0 26 27 29 none ⟨(.slot 0),[],0,true,3,(((y2.set (y1.toNat) (⟨y3,v7.Members,v7.Bare⟩ : Vrow)).set (y1.toNat) (⟨v8.Id,(IntKind.wrap .i64 (y3 + 1)),v8.Bare⟩ : Vrow)).map Vrow.row)⟩ y1 (y1.toNat) (Vrow.row v9) _ kr kr kr kr rfl kr (idx_isE ev9) rfl rfl ?_
  refine lU tOk 1 kr ?_
  refine lW tOk (t := 3) (ty := 0) (ad := (.tmp 30)) (x := (.tmp 28)) (g := none) (tI 3) false [cI (IntKind.wrap .i64 ((IntKind.wrap .i64 (y3 + 1)) + 1))] 0 0 (y1.toNat) 3 2 3 ((y2.set (y1.toNat) (⟨y3,v7.Members,v7.Bare⟩ : Vrow)).set (y1.toNat) (⟨v8.Id,(IntKind.wrap .i64 (y3 + 1)),v8.Bare⟩ : Vrow)) Vrow.row v9 (⟨v9.Id,v9.Members,(IntKind.wrap .i64 ((IntKind.wrap .i64 (y3 + 1)) + 1))⟩ : Vrow) kr kr kr kr kr kr kr kr (idx_get ev9).2 kr kr kr kr ?_
  refine lD 35 0 kr ?_
  refine tE tOk 3 35 0 kr kr ?_
  refine tE tOk 3 35 0 kr kr ?_
  exact jn (mo6,((IntKind.wrap .i64 (y1 + 1)),(((y2.set (y1.toNat) (⟨y3,v7.Members,v7.Bare⟩ : Vrow)).set (y1.toNat) (⟨v8.Id,(IntKind.wrap .i64 (y3 + 1)),v8.Bare⟩ : Vrow)).set (y1.toNat) (⟨v9.Id,v9.Members,(IntKind.wrap .i64 ((IntKind.wrap .i64 (y3 + 1)) + 1))⟩ : Vrow)),(IntKind.wrap .i64 ((IntKind.wrap .i64 ((IntKind.wrap .i64 (y3 + 1)) + 1)) + 1)))) H (sM mo6 [5,0,1] [] kr)
 rintro ⟨y4,y5⟩ H
 have H : (laws_markVrowS_J1 n y4 y5) = some r := H
 unfold laws_markVrowS_J1 at H
 refine tG tOk 2 17 0 kr kr ?_
 refine te ?_
 obtain rfl := si H
 exact Fin.ofY _ [(false,[cI y5])] [false] _ [[cL 3 y4 Vrow.row]] _ [] kr rfl rfl rfl kr kr kr kr rfl rfl rfl
def laws_markBridgeS_J1 (n : Nat) (y4 : (List Bridge)) (y5 : Int) : Option (Int × (List Bridge)) :=
  (some (y5,y4))
def laws_markBridgeS_L2 (n : Nat) : Nat → Int → (List Bridge) → Int → Option (((List Bridge) × Int) ⊕ (Int × (List Bridge)))
  | 0,_,_,_ => none
  | mo6 + 1,y1,y2,y3 => (bif (decide (y1 < (y2.length : Int))) then ((idx y2 y1).bind fun v7 => ((laws_markTextF n (IntKind.wrap .i64 (y3 + 1))).bind fun r8 => ((idx (y2.set (y1.toNat) (⟨y3,v7.Name,v7.Ports,v7.F,v7.V,v7.Ticks,v7.Parse,v7.Word,v7.Drops,v7.Vers⟩ : Bridge)) y1).bind fun v9 => ((idx ((y2.set (y1.toNat) (⟨y3,v7.Name,v7.Ports,v7.F,v7.V,v7.Ticks,v7.Parse,v7.Word,v7.Drops,v7.Vers⟩ : Bridge)).set (y1.toNat) (⟨v9.Id,r8,v9.Ports,v9.F,v9.V,v9.Ticks,v9.Parse,v9.Word,v9.Drops,v9.Vers⟩ : Bridge)) y1).bind fun v10 => ((laws_markPtSF n v10.Ports (IntKind.wrap .i64 ((IntKind.wrap .i64 (y3 + 1)) + 1))).bind fun r11 => ((idx (((y2.set (y1.toNat) (⟨y3,v7.Name,v7.Ports,v7.F,v7.V,v7.Ticks,v7.Parse,v7.Word,v7.Drops,v7.Vers⟩ : Bridge)).set (y1.toNat) (⟨v9.Id,r8,v9.Ports,v9.F,v9.V,v9.Ticks,v9.Parse,v9.Word,v9.Drops,v9.Vers⟩ : Bridge)).set (y1.toNat) (⟨v10.Id,v10.Name,r11.2,v10.F,v10.V,v10.Ticks,v10.Parse,v10.Word,v10.Drops,v10.Vers⟩ : Bridge)) y1).bind fun v12 => ((laws_markFentSF n v12.F r11.1).bind fun r13 => ((idx ((((y2.set (y1.toNat) (⟨y3,v7.Name,v7.Ports,v7.F,v7.V,v7.Ticks,v7.Parse,v7.Word,v7.Drops,v7.Vers⟩ : Bridge)).set (y1.toNat) (⟨v9.Id,r8,v9.Ports,v9.F,v9.V,v9.Ticks,v9.Parse,v9.Word,v9.Drops,v9.Vers⟩ : Bridge)).set (y1.toNat) (⟨v10.Id,v10.Name,r11.2,v10.F,v10.V,v10.Ticks,v10.Parse,v10.Word,v10.Drops,v10.Vers⟩ : Bridge)).set (y1.toNat) (⟨v12.Id,v12.Name,v12.Ports,r13.2,v12.V,v12.Ticks,v12.Parse,v12.Word,v12.Drops,v12.Vers⟩ : Bridge)) y1).bind fun v14 => ((laws_markVrowSF n v14.V.Rows r13.1).bind fun r15 => ((idx (((((y2.set (y1.toNat) (⟨y3,v7.Name,v7.Ports,v7.F,v7.V,v7.Ticks,v7.Parse,v7.Word,v7.Drops,v7.Vers⟩ : Bridge)).set (y1.toNat) (⟨v9.Id,r8,v9.Ports,v9.F,v9.V,v9.Ticks,v9.Parse,v9.Word,v9.Drops,v9.Vers⟩ : Bridge)).set (y1.toNat) (⟨v10.Id,v10.Name,r11.2,v10.F,v10.V,v10.Ticks,v10.Parse,v10.Word,v10.Drops,v10.Vers⟩ : Bridge)).set (y1.toNat) (⟨v12.Id,v12.Name,v12.Ports,r13.2,v12.V,v12.Ticks,v12.Parse,v12.Word,v12.Drops,v12.Vers⟩ : Bridge)).set (y1.toNat) (⟨v14.Id,v14.Name,v14.Ports,v14.F,(⟨r15.2,v14.V.Pvid⟩ : Vtab),v14.Ticks,v14.Parse,v14.Word,v14.Drops,v14.Vers⟩ : Bridge)) y1).bind fun v16 => ((laws_markIntSF n v16.V.Pvid r15.1).bind fun r17 => ((idx ((((((y2.set (y1.toNat) (⟨y3,v7.Name,v7.Ports,v7.F,v7.V,v7.Ticks,v7.Parse,v7.Word,v7.Drops,v7.Vers⟩ : Bridge)).set (y1.toNat) (⟨v9.Id,r8,v9.Ports,v9.F,v9.V,v9.Ticks,v9.Parse,v9.Word,v9.Drops,v9.Vers⟩ : Bridge)).set (y1.toNat) (⟨v10.Id,v10.Name,r11.2,v10.F,v10.V,v10.Ticks,v10.Parse,v10.Word,v10.Drops,v10.Vers⟩ : Bridge)).set (y1.toNat) (⟨v12.Id,v12.Name,v12.Ports,r13.2,v12.V,v12.Ticks,v12.Parse,v12.Word,v12.Drops,v12.Vers⟩ : Bridge)).set (y1.toNat) (⟨v14.Id,v14.Name,v14.Ports,v14.F,(⟨r15.2,v14.V.Pvid⟩ : Vtab),v14.Ticks,v14.Parse,v14.Word,v14.Drops,v14.Vers⟩ : Bridge)).set (y1.toNat) (⟨v16.Id,v16.Name,v16.Ports,v16.F,(⟨v16.V.Rows,r17.2⟩ : Vtab),v16.Ticks,v16.Parse,v16.Word,v16.Drops,v16.Vers⟩ : Bridge)) y1).bind fun v18 => ((idx (((((((y2.set (y1.toNat) (⟨y3,v7.Name,v7.Ports,v7.F,v7.V,v7.Ticks,v7.Parse,v7.Word,v7.Drops,v7.Vers⟩ : Bridge)).set (y1.toNat) (⟨v9.Id,r8,v9.Ports,v9.F,v9.V,v9.Ticks,v9.Parse,v9.Word,v9.Drops,v9.Vers⟩ : Bridge)).set (y1.toNat) (⟨v10.Id,v10.Name,r11.2,v10.F,v10.V,v10.Ticks,v10.Parse,v10.Word,v10.Drops,v10.Vers⟩ : Bridge)).set (y1.toNat) (⟨v12.Id,v12.Name,v12.Ports,r13.2,v12.V,v12.Ticks,v12.Parse,v12.Word,v12.Drops,v12.Vers⟩ : Bridge)).set (y1.toNat) (⟨v14.Id,v14.Name,v14.Ports,v14.F,(⟨r15.2,v14.V.Pvid⟩ : Vtab),v14.Ticks,v14.Parse,v14.Word,v14.Drops,v14.Vers⟩ : Bridge)).set (y1.toNat) (⟨v16.Id,v16.Name,v16.Ports,v16.F,(⟨v16.V.Rows,r17.2⟩ : Vtab),v16.Ticks,v16.Parse,v16.Word,v16.Drops,v16.Vers⟩ : Bridge)).set (y1.toNat) (⟨v18.Id,v18.Name,v18.Ports,v18.F,v18.V,r17.1,v18.Parse,v18.Word,v18.Drops,v18.Vers⟩ : Bridge)) y1).bind fun v19 => ((idx ((((((((y2.set (y1.toNat) (⟨y3,v7.Name,v7.Ports,v7.F,v7.V,v7.Ticks,v7.Parse,v7.Word,v7.Drops,v7.Vers⟩ : Bridge)).set (y1.toNat) (⟨v9.Id,r8,v9.Ports,v9.F,v9.V,v9.Ticks,v9.Parse,v9.Word,v9.Drops,v9.Vers⟩ : Bridge)).set (y1.toNat) (⟨v10.Id,v10.Name,r11.2,v10.F,v10.V,v10.Ticks,v10.Parse,v10.Word,v10.Drops,v10.Vers⟩ : Bridge)).set (y1.toNat) (⟨v12.Id,v12.Name,v12.Ports,r13.2,v12.V,v12.Ticks,v12.Parse,v12.Word,v12.Drops,v12.Vers⟩ : Bridge)).set (y1.toNat) (⟨v14.Id,v14.Name,v14.Ports,v14.F,(⟨r15.2,v14.V.Pvid⟩ : Vtab),v14.Ticks,v14.Parse,v14.Word,v14.Drops,v14.Vers⟩ : Bridge)).set (y1.toNat) (⟨v16.Id,v16.Name,v16.Ports,v16.F,(⟨v16.V.Rows,r17.2⟩ : Vtab),v16.Ticks,v16.Parse,v16.Word,v16.Drops,v16.Vers⟩ : Bridge)).set (y1.toNat) (⟨v18.Id,v18.Name,v18.Ports,v18.F,v18.V,r17.1,v18.Parse,v18.Word,v18.Drops,v18.Vers⟩ : Bridge)).set (y1.toNat) (⟨v19.Id,v19.Name,v19.Ports,v19.F,v19.V,v19.Ticks,(IntKind.wrap .i64 (r17.1 + 1)),v19.Word,v19.Drops,v19.Vers⟩ : Bridge)) y1).bind fun v20 => ((idx (((((((((y2.set (y1.toNat) (⟨y3,v7.Name,v7.Ports,v7.F,v7.V,v7.Ticks,v7.Parse,v7.Word,v7.Drops,v7.Vers⟩ : Bridge)).set (y1.toNat) (⟨v9.Id,r8,v9.Ports,v9.F,v9.V,v9.Ticks,v9.Parse,v9.Word,v9.Drops,v9.Vers⟩ : Bridge)).set (y1.toNat) (⟨v10.Id,v10.Name,r11.2,v10.F,v10.V,v10.Ticks,v10.Parse,v10.Word,v10.Drops,v10.Vers⟩ : Bridge)).set (y1.toNat) (⟨v12.Id,v12.Name,v12.Ports,r13.2,v12.V,v12.Ticks,v12.Parse,v12.Word,v12.Drops,v12.Vers⟩ : Bridge)).set (y1.toNat) (⟨v14.Id,v14.Name,v14.Ports,v14.F,(⟨r15.2,v14.V.Pvid⟩ : Vtab),v14.Ticks,v14.Parse,v14.Word,v14.Drops,v14.Vers⟩ : Bridge)).set (y1.toNat) (⟨v16.Id,v16.Name,v16.Ports,v16.F,(⟨v16.V.Rows,r17.2⟩ : Vtab),v16.Ticks,v16.Parse,v16.Word,v16.Drops,v16.Vers⟩ : Bridge)).set (y1.toNat) (⟨v18.Id,v18.Name,v18.Ports,v18.F,v18.V,r17.1,v18.Parse,v18.Word,v18.Drops,v18.Vers⟩ : Bridge)).set (y1.toNat) (⟨v19.Id,v19.Name,v19.Ports,v19.F,v19.V,v19.Ticks,(IntKind.wrap .i64 (r17.1 + 1)),v19.Word,v19.Drops,v19.Vers⟩ : Bridge)).set (y1.toNat) (⟨v20.Id,v20.Name,v20.Ports,v20.F,v20.V,v20.Ticks,v20.Parse,(IntKind.wrap .i64 ((IntKind.wrap .i64 (r17.1 + 1)) + 1)),v20.Drops,v20.Vers⟩ : Bridge)) y1).bind fun v21 => ((idx ((((((((((y2.set (y1.toNat) (⟨y3,v7.Name,v7.Ports,v7.F,v7.V,v7.Ticks,v7.Parse,v7.Word,v7.Drops,v7.Vers⟩ : Bridge)).set (y1.toNat) (⟨v9.Id,r8,v9.Ports,v9.F,v9.V,v9.Ticks,v9.Parse,v9.Word,v9.Drops,v9.Vers⟩ : Bridge)).set (y1.toNat) (⟨v10.Id,v10.Name,r11.2,v10.F,v10.V,v10.Ticks,v10.Parse,v10.Word,v10.Drops,v10.Vers⟩ : Bridge)).set (y1.toNat) (⟨v12.Id,v12.Name,v12.Ports,r13.2,v12.V,v12.Ticks,v12.Parse,v12.Word,v12.Drops,v12.Vers⟩ : Bridge)).set (y1.toNat) (⟨v14.Id,v14.Name,v14.Ports,v14.F,(⟨r15.2,v14.V.Pvid⟩ : Vtab),v14.Ticks,v14.Parse,v14.Word,v14.Drops,v14.Vers⟩ : Bridge)).set (y1.toNat) (⟨v16.Id,v16.Name,v16.Ports,v16.F,(⟨v16.V.Rows,r17.2⟩ : Vtab),v16.Ticks,v16.Parse,v16.Word,v16.Drops,v16.Vers⟩ : Bridge)).set (y1.toNat) (⟨v18.Id,v18.Name,v18.Ports,v18.F,v18.V,r17.1,v18.Parse,v18.Word,v18.Drops,v18.Vers⟩ : Bridge)).set (y1.toNat) (⟨v19.Id,v19.Name,v19.Ports,v19.F,v19.V,v19.Ticks,(IntKind.wrap .i64 (r17.1 + 1)),v19.Word,v19.Drops,v19.Vers⟩ : Bridge)).set (y1.toNat) (⟨v20.Id,v20.Name,v20.Ports,v20.F,v20.V,v20.Ticks,v20.Parse,(IntKind.wrap .i64 ((IntKind.wrap .i64 (r17.1 + 1)) + 1)),v20.Drops,v20.Vers⟩ : Bridge)).set (y1.toNat) (⟨v21.Id,v21.Name,v21.Ports,v21.F,v21.V,v21.Ticks,v21.Parse,v21.Word,(IntKind.wrap .i64 ((IntKind.wrap .i64 ((IntKind.wrap .i64 (r17.1 + 1)) + 1)) + 1)),v21.Vers⟩ : Bridge)) y1).bind fun v22 => (laws_markBridgeS_L2 n mo6 (IntKind.wrap .i64 (y1 + 1)) (((((((((((y2.set (y1.toNat) (⟨y3,v7.Name,v7.Ports,v7.F,v7.V,v7.Ticks,v7.Parse,v7.Word,v7.Drops,v7.Vers⟩ : Bridge)).set (y1.toNat) (⟨v9.Id,r8,v9.Ports,v9.F,v9.V,v9.Ticks,v9.Parse,v9.Word,v9.Drops,v9.Vers⟩ : Bridge)).set (y1.toNat) (⟨v10.Id,v10.Name,r11.2,v10.F,v10.V,v10.Ticks,v10.Parse,v10.Word,v10.Drops,v10.Vers⟩ : Bridge)).set (y1.toNat) (⟨v12.Id,v12.Name,v12.Ports,r13.2,v12.V,v12.Ticks,v12.Parse,v12.Word,v12.Drops,v12.Vers⟩ : Bridge)).set (y1.toNat) (⟨v14.Id,v14.Name,v14.Ports,v14.F,(⟨r15.2,v14.V.Pvid⟩ : Vtab),v14.Ticks,v14.Parse,v14.Word,v14.Drops,v14.Vers⟩ : Bridge)).set (y1.toNat) (⟨v16.Id,v16.Name,v16.Ports,v16.F,(⟨v16.V.Rows,r17.2⟩ : Vtab),v16.Ticks,v16.Parse,v16.Word,v16.Drops,v16.Vers⟩ : Bridge)).set (y1.toNat) (⟨v18.Id,v18.Name,v18.Ports,v18.F,v18.V,r17.1,v18.Parse,v18.Word,v18.Drops,v18.Vers⟩ : Bridge)).set (y1.toNat) (⟨v19.Id,v19.Name,v19.Ports,v19.F,v19.V,v19.Ticks,(IntKind.wrap .i64 (r17.1 + 1)),v19.Word,v19.Drops,v19.Vers⟩ : Bridge)).set (y1.toNat) (⟨v20.Id,v20.Name,v20.Ports,v20.F,v20.V,v20.Ticks,v20.Parse,(IntKind.wrap .i64 ((IntKind.wrap .i64 (r17.1 + 1)) + 1)),v20.Drops,v20.Vers⟩ : Bridge)).set (y1.toNat) (⟨v21.Id,v21.Name,v21.Ports,v21.F,v21.V,v21.Ticks,v21.Parse,v21.Word,(IntKind.wrap .i64 ((IntKind.wrap .i64 ((IntKind.wrap .i64 (r17.1 + 1)) + 1)) + 1)),v21.Vers⟩ : Bridge)).set (y1.toNat) (⟨v22.Id,v22.Name,v22.Ports,v22.F,v22.V,v22.Ticks,v22.Parse,v22.Word,v22.Drops,(IntKind.wrap .i64 ((IntKind.wrap .i64 ((IntKind.wrap .i64 ((IntKind.wrap .i64 (r17.1 + 1)) + 1)) + 1)) + 1))⟩ : Bridge)) (IntKind.wrap .i64 ((IntKind.wrap .i64 ((IntKind.wrap .i64 ((IntKind.wrap .i64 ((IntKind.wrap .i64 (r17.1 + 1)) + 1)) + 1)) + 1)) + 1))))))))))))))))))) else (some (Sum.inl (y2,y3))))
def laws_markBridgeSF (n : Nat) (x0 : (List Bridge)) (x1 : Int) : Option (Int × (List Bridge)) :=
  ((laws_markBridgeS_L2 n n 0 x0 x1).bind fun o => match o with | .inl (y4,y5) => (laws_markBridgeS_J1 n y4 y5) | .inr r => some r)
noncomputable abbrev G86 (k : Nat) := Rg Tryz.f86 k
theorem laws_markBridgeS (n : Nat) (x0 : (List Bridge)) (x1 : Int) (r : Int × (List Bridge)) (H : laws_markBridgeSF n x0 x1 = some r) : LCall Tryz.prog 86 [.io false [.sl true 11 (x0.map Bridge.row)],.val false [.lit (.int .i64 x1)]] [.val false [.lit (.int .i64 r.1)]] [(0,[.sl true 11 (r.2.map Bridge.row)])] := by
 refine LCall.of_body tOk Tryz.func86 rfl (c := (.seq (G86 0) (.seq (.seq (G86 1) (.block 0 (.loop (.seq (.seq (G86 2) (.cond (.tmp 9) .skip (.exit 0))) (.seq (.block 1 (.seq (G86 4) (.seq (G86 5) (.seq (G86 6) (.seq (G86 7) (.seq (G86 8) (.seq (G86 9) (.seq (G86 10) (.seq (G86 11) (.seq (G86 12) (.seq (G86 13) (.seq (G86 14) (.seq (G86 15) (.seq (G86 16) (.seq (G86 17) (.seq (G86 18) (.seq (G86 19) (.seq (G86 20) (G86 21))))))))))))))))))) (G86 3)))))) (.seq (G86 22) .ret)))) kr (Nat.le_of_ble_eq_true kr) 1 (rs := [.tmp 4]) rfl [0] (by decide) [(false,[.lit (.int .i64 r.1)])] [[.sl true 11 (r.2.map Bridge.row)]] [] fun cx => ?_
 show Tr _ _ _ ⟨93,1,[sC 0 (cL 11 x0 Bridge.row),sI 1 x1],[]⟩ _
 unfold laws_markBridgeSF at H
 refine tG tOk 1 3 0 kr kr ?_
 refine tS ?_
 refine tG tOk 1 35 0 kr kr ?_
 obtain ⟨o6,eo6,Ho6⟩ := bind_some H
 clear H
 refine Tr.mid (ι := (List Bridge) × Int) (fun v => ⟨93,1,[sC 0 (cL 11 v.1 Bridge.row),sI 1 v.2],[]⟩) (fun v => laws_markBridgeS_J1 n v.1 v.2 = some r) ?_ ?_
 ·refine tB ?_
  refine Tr.loop (ι := Nat × (Int × (List Bridge) × Int)) (fun v => ⟨93,1,[sI 5 v.2.1,sC 0 (cL 11 v.2.2.1 Bridge.row),sI 1 v.2.2.2],[]⟩) (fun v => laws_markBridgeS_L2 n v.1 v.2.1 v.2.2.1 v.2.2.2 = some o6) (fun v => v.1) (n,(0,x0,x1)) eo6 (St.sub_of [5,0,1] [] kr) ?_
  rintro ⟨mo6,y1,y2,y3⟩ H
  have H : laws_markBridgeS_L2 n mo6 y1 y2 y3 = some o6 := H
  obtain _ | mo6 := mo6
  ·cases (show (none : Option _) = some o6 from H)
  rw [laws_markBridgeS_L2] at H
  refine tS ?_
  refine rU tOk 2 kr ?_
  refine lL tOk 25 3 58 7 8 none ⟨(.slot 0),[],0,true,11,(y2.map Bridge.row)⟩ (y2).length _ kr kr kr kr kr (map_len _ _) rfl ?_
  refine uD tOk 1 547 0 kr kr ?_
  obtain ⟨h1,H⟩ | ⟨h1,H⟩ := bC H
  ·refine tF h1 kr ?_
   refine Tr.exit ?_
   refine And.intro (fun _ => ?_) (fun h => absurd rfl h)
   obtain rfl := si H
   have H := Ho6
   dsimp only at H
   exact jn (y2,y3) H (sB_ [0,1] [] kr)
  refine tT h1 kr ?_
  refine tK ?_
  refine tS ?_
  refine tB ?_
  refine rU tOk 3 kr ?_
  obtain ⟨v7,ev7,H⟩ := bind_some H
  refine lO tOk 25 0 12 13 15 none ⟨(.slot 0),[],0,true,11,(y2.map Bridge.row)⟩ y1 (y1.toNat) (Bridge.row v7) _ kr kr kr kr rfl kr (idx_isE ev7) rfl rfl ?_
  refine lU tOk 1 kr ?_
  refine lW tOk (t := 3) (ty := 0) (ad := (.tmp 16)) (x := (.tmp 14)) (g := none) (tI 3) false [cI y3] 0 0 (y1.toNat) 11 0 11 y2 Bridge.row v7 (⟨y3,v7.Name,v7.Ports,v7.F,v7.V,v7.Ticks,v7.Parse,v7.Word,v7.Drops,v7.Vers⟩ : Bridge) kr kr kr kr kr kr kr kr (idx_get ev7).2 kr kr kr kr ?_
  refine lD 35 0 kr ?_
  refine tG tOk 3 35 0 kr kr ?_
  refine rU tOk 3 kr ?_
  obtain ⟨r8,er8,H⟩ := bind_some H
  refine lV tOk [.rd] [] (laws_markText n (IntKind.wrap .i64 (y3 + 1)) r8 er8) kr kr kr kr (.inl rfl) ?_
  obtain ⟨v9,ev9,H⟩ := bind_some H
  refine lO tOk 25 0 19 20 23 none ⟨(.slot 0),[],0,true,11,((y2.set (y1.toNat) (⟨y3,v7.Name,v7.Ports,v7.F,v7.V,v7.Ticks,v7.Parse,v7.Word,v7.Drops,v7.Vers⟩ : Bridge)).map Bridge.row)⟩ y1 (y1.toNat) (Bridge.row v9) _ kr kr kr kr rfl kr (idx_isE ev9) rfl rfl ?_
  refine lU tOk 1 kr ?_
  refine lW tOk (t := 9) (ty := 0) (ad := (.tmp 24)) (x := (.tmp 22)) (g := none) (tI 9) false [cS r8] 0 0 (y1.toNat) 11 1 11 (y2.set (y1.toNat) (⟨y3,v7.Name,v7.Ports,v7.F,v7.V,v7.Ticks,v7.Parse,v7.Word,v7.Drops,v7.Vers⟩ : Bridge)) Bridge.row v9 (⟨v9.Id,r8,v9.Ports,v9.F,v9.V,v9.Ticks,v9.Parse,v9.Word,v9.Drops,v9.Vers⟩ : Bridge) kr kr kr kr kr kr kr kr (idx_get ev9).2 kr kr kr kr ?_
  refine lD 35 0 kr ?_
  refine tG tOk 3 35 0 kr kr ?_
  refine rU tOk 2 kr ?_
  obtain ⟨v10,ev10,H⟩ := bind_some H
  refine lO tOk 25 0 27 28 29 none ⟨(.slot 0),[],0,true,11,(((y2.set (y1.toNat) (⟨y3,v7.Name,v7.Ports,v7.F,v7.V,v7.Ticks,v7.Parse,v7.Word,v7.Drops,v7.Vers⟩ : Bridge)).set (y1.toNat) (⟨v9.Id,r8,v9.Ports,v9.F,v9.V,v9.Ticks,v9.Parse,v9.Word,v9.Drops,v9.Vers⟩ : Bridge)).map Bridge.row)⟩ y1 (y1.toNat) (Bridge.row v10) _ kr kr kr kr rfl kr (idx_isE ev10) rfl rfl ?_
  refine lU tOk 1 kr ?_
  refine LAt.loadE tOk (t := 52) (ty := 52) (x := (.tmp 30)) (d := 31) (g := none) (tI 52) (.slot 0) [(0,(y1.toNat))] 11 2 [cL 11 ((y2.set (y1.toNat) (⟨y3,v7.Name,v7.Ports,v7.F,v7.V,v7.Ticks,v7.Parse,v7.Word,v7.Drops,v7.Vers⟩ : Bridge)).set (y1.toNat) (⟨v9.Id,r8,v9.Ports,v9.F,v9.V,v9.Ticks,v9.Parse,v9.Word,v9.Drops,v9.Vers⟩ : Bridge)) Bridge.row] (Bridge.row v10) _ kr kr kr kr kr (getQ_elem rfl (idx_get ev10).2) rfl (by intro h; cases h) kr kr rfl ?_
  refine lU tOk 1 kr ?_
  obtain ⟨r11,er11,H⟩ := bind_some H
  refine LAt.callO tOk [.lend,.rd] (f := 122) (av := #[.tmp 31,.tmp 32]) (ats := #[52,3]) (d := (some 33)) (ty := 3) (g := none) [(31,Bridge.row v10)] (some [cL 11 (((y2.set (y1.toNat) (⟨y3,v7.Name,v7.Ports,v7.F,v7.V,v7.Ticks,v7.Parse,v7.Word,v7.Drops,v7.Vers⟩ : Bridge)).set (y1.toNat) (⟨v9.Id,r8,v9.Ports,v9.F,v9.V,v9.Ticks,v9.Parse,v9.Word,v9.Drops,v9.Vers⟩ : Bridge)).set (y1.toNat) (⟨v10.Id,v10.Name,r11.2,v10.F,v10.V,v10.Ticks,v10.Parse,v10.Word,v10.Drops,v10.Vers⟩ : Bridge)) Bridge.row]) kr kr kr [] (laws_markPtS n v10.Ports (IntKind.wrap .i64 ((IntKind.wrap .i64 (y3 + 1)) + 1)) r11 er11) (orc_cons (row := [cL 11 ((y2.set (y1.toNat) (⟨y3,v7.Name,v7.Ports,v7.F,v7.V,v7.Ticks,v7.Parse,v7.Word,v7.Drops,v7.Vers⟩ : Bridge)).set (y1.toNat) (⟨v9.Id,r8,v9.Ports,v9.F,v9.V,v9.Ticks,v9.Parse,v9.Word,v9.Drops,v9.Vers⟩ : Bridge)) Bridge.row]) (q := [(0,(y1.toNat))]) kr (getQ_elem rfl (idx_get ev10).2) orc_nil) kr (nr_some [cL 11 ((y2.set (y1.toNat) (⟨y3,v7.Name,v7.Ports,v7.F,v7.V,v7.Ticks,v7.Parse,v7.Word,v7.Drops,v7.Vers⟩ : Bridge)).set (y1.toNat) (⟨v9.Id,r8,v9.Ports,v9.F,v9.V,v9.Ticks,v9.Parse,v9.Word,v9.Drops,v9.Vers⟩ : Bridge)) Bridge.row] [(0,(y1.toNat))] false 2 [cL 8 r11.2 Pt.row] kr (modQ_elem (new := (⟨v10.Id,v10.Name,r11.2,v10.F,v10.V,v10.Ticks,v10.Parse,v10.Word,v10.Drops,v10.Vers⟩ : Bridge)) rfl (idx_get ev10).2 rfl)) (.inl rfl) ?_
  refine uD tOk 1 35 0 kr kr ?_
  refine rU tOk 2 kr ?_
  obtain ⟨v12,ev12,H⟩ := bind_some H
  refine lO tOk 25 0 34 35 36 none ⟨(.slot 0),[],0,true,11,((((y2.set (y1.toNat) (⟨y3,v7.Name,v7.Ports,v7.F,v7.V,v7.Ticks,v7.Parse,v7.Word,v7.Drops,v7.Vers⟩ : Bridge)).set (y1.toNat) (⟨v9.Id,r8,v9.Ports,v9.F,v9.V,v9.Ticks,v9.Parse,v9.Word,v9.Drops,v9.Vers⟩ : Bridge)).set (y1.toNat) (⟨v10.Id,v10.Name,r11.2,v10.F,v10.V,v10.Ticks,v10.Parse,v10.Word,v10.Drops,v10.Vers⟩ : Bridge)).map Bridge.row)⟩ y1 (y1.toNat) (Bridge.row v12) _ kr kr kr kr rfl kr (idx_isE ev12) rfl rfl ?_
  refine lU tOk 1 kr ?_
  refine LAt.loadE tOk (t := 53) (ty := 53) (x := (.tmp 37)) (d := 38) (g := none) (tI 53) (.slot 0) [(0,(y1.toNat))] 11 3 [cL 11 (((y2.set (y1.toNat) (⟨y3,v7.Name,v7.Ports,v7.F,v7.V,v7.Ticks,v7.Parse,v7.Word,v7.Drops,v7.Vers⟩ : Bridge)).set (y1.toNat) (⟨v9.Id,r8,v9.Ports,v9.F,v9.V,v9.Ticks,v9.Parse,v9.Word,v9.Drops,v9.Vers⟩ : Bridge)).set (y1.toNat) (⟨v10.Id,v10.Name,r11.2,v10.F,v10.V,v10.Ticks,v10.Parse,v10.Word,v10.Drops,v10.Vers⟩ : Bridge)) Bridge.row] (Bridge.row v12) _ kr kr kr kr kr (getQ_elem rfl (idx_get ev12).2) rfl (by intro h; cases h) kr kr rfl ?_
  refine lU tOk 1 kr ?_
  obtain ⟨r13,er13,H⟩ := bind_some H
  refine LAt.callO tOk [.lend,.rd] (f := 123) (av := #[.tmp 38,.tmp 39]) (ats := #[53,3]) (d := (some 40)) (ty := 3) (g := none) [(38,Bridge.row v12)] (some [cL 11 ((((y2.set (y1.toNat) (⟨y3,v7.Name,v7.Ports,v7.F,v7.V,v7.Ticks,v7.Parse,v7.Word,v7.Drops,v7.Vers⟩ : Bridge)).set (y1.toNat) (⟨v9.Id,r8,v9.Ports,v9.F,v9.V,v9.Ticks,v9.Parse,v9.Word,v9.Drops,v9.Vers⟩ : Bridge)).set (y1.toNat) (⟨v10.Id,v10.Name,r11.2,v10.F,v10.V,v10.Ticks,v10.Parse,v10.Word,v10.Drops,v10.Vers⟩ : Bridge)).set (y1.toNat) (⟨v12.Id,v12.Name,v12.Ports,r13.2,v12.V,v12.Ticks,v12.Parse,v12.Word,v12.Drops,v12.Vers⟩ : Bridge)) Bridge.row]) kr kr kr [] (laws_markFentS n v12.F r11.1 r13 er13) (orc_cons (row := [cL 11 (((y2.set (y1.toNat) (⟨y3,v7.Name,v7.Ports,v7.F,v7.V,v7.Ticks,v7.Parse,v7.Word,v7.Drops,v7.Vers⟩ : Bridge)).set (y1.toNat) (⟨v9.Id,r8,v9.Ports,v9.F,v9.V,v9.Ticks,v9.Parse,v9.Word,v9.Drops,v9.Vers⟩ : Bridge)).set (y1.toNat) (⟨v10.Id,v10.Name,r11.2,v10.F,v10.V,v10.Ticks,v10.Parse,v10.Word,v10.Drops,v10.Vers⟩ : Bridge)) Bridge.row]) (q := [(0,(y1.toNat))]) kr (getQ_elem rfl (idx_get ev12).2) orc_nil) kr (nr_some [cL 11 (((y2.set (y1.toNat) (⟨y3,v7.Name,v7.Ports,v7.F,v7.V,v7.Ticks,v7.Parse,v7.Word,v7.Drops,v7.Vers⟩ : Bridge)).set (y1.toNat) (⟨v9.Id,r8,v9.Ports,v9.F,v9.V,v9.Ticks,v9.Parse,v9.Word,v9.Drops,v9.Vers⟩ : Bridge)).set (y1.toNat) (⟨v10.Id,v10.Name,r11.2,v10.F,v10.V,v10.Ticks,v10.Parse,v10.Word,v10.Drops,v10.Vers⟩ : Bridge)) Bridge.row] [(0,(y1.toNat))] false 3 [cL 5 r13.2 Fent.row] kr (modQ_elem (new := (⟨v12.Id,v12.Name,v12.Ports,r13.2,v12.V,v12.Ticks,v12.Parse,v12.Word,v12.Drops,v12.Vers⟩ : Bridge)) rfl (idx_get ev12).2 rfl)) (.inl rfl) ?_
  refine uD tOk 1 35 0 kr kr ?_
  refine rU tOk 2 kr ?_
  obtain ⟨v14,ev14,H⟩ := bind_some H
  refine lO tOk 25 0 41 42 43 none ⟨(.slot 0),[],0,true,11,(((((y2.set (y1.toNat) (⟨y3,v7.Name,v7.Ports,v7.F,v7.V,v7.Ticks,v7.Parse,v7.Word,v7.Drops,v7.Vers⟩ : Bridge)).set (y1.toNat) (⟨v9.Id,r8,v9.Ports,v9.F,v9.V,v9.Ticks,v9.Parse,v9.Word,v9.Drops,v9.Vers⟩ : Bridge)).set (y1.toNat) (⟨v10.Id,v10.Name,r11.2,v10.F,v10.V,v10.Ticks,v10.Parse,v10.Word,v10.Drops,v10.Vers⟩ : Bridge)).set (y1.toNat) (⟨v12.Id,v12.Name,v12.Ports,r13.2,v12.V,v12.Ticks,v12.Parse,v12.Word,v12.Drops,v12.Vers⟩ : Bridge)).map Bridge.row)⟩ y1 (y1.toNat) (Bridge.row v14) _ kr kr kr kr rfl kr (idx_isE ev14) rfl rfl ?_
  refine lU tOk 2 kr ?_
  refine LAt.loadE tOk (t := 54) (ty := 54) (x := (.tmp 45)) (d := 46) (g := none) (tI 54) (.slot 0) [(0,(y1.toNat))] 11 4 [cL 11 ((((y2.set (y1.toNat) (⟨y3,v7.Name,v7.Ports,v7.F,v7.V,v7.Ticks,v7.Parse,v7.Word,v7.Drops,v7.Vers⟩ : Bridge)).set (y1.toNat) (⟨v9.Id,r8,v9.Ports,v9.F,v9.V,v9.Ticks,v9.Parse,v9.Word,v9.Drops,v9.Vers⟩ : Bridge)).set (y1.toNat) (⟨v10.Id,v10.Name,r11.2,v10.F,v10.V,v10.Ticks,v10.Parse,v10.Word,v10.Drops,v10.Vers⟩ : Bridge)).set (y1.toNat) (⟨v12.Id,v12.Name,v12.Ports,r13.2,v12.V,v12.Ticks,v12.Parse,v12.Word,v12.Drops,v12.Vers⟩ : Bridge)) Bridge.row] (Bridge.row v14) _ kr kr kr kr kr (getQ_elem rfl (idx_get ev14).2) rfl (by intro h; cases h) kr kr rfl ?_
  refine lU tOk 1 kr ?_
  obtain ⟨r15,er15,H⟩ := bind_some H
  refine LAt.callO tOk [.lend,.rd] (f := 186) (av := #[.tmp 46,.tmp 47]) (ats := #[54,3]) (d := (some 48)) (ty := 3) (g := none) [(46,Bridge.row v14)] (some [cL 11 (((((y2.set (y1.toNat) (⟨y3,v7.Name,v7.Ports,v7.F,v7.V,v7.Ticks,v7.Parse,v7.Word,v7.Drops,v7.Vers⟩ : Bridge)).set (y1.toNat) (⟨v9.Id,r8,v9.Ports,v9.F,v9.V,v9.Ticks,v9.Parse,v9.Word,v9.Drops,v9.Vers⟩ : Bridge)).set (y1.toNat) (⟨v10.Id,v10.Name,r11.2,v10.F,v10.V,v10.Ticks,v10.Parse,v10.Word,v10.Drops,v10.Vers⟩ : Bridge)).set (y1.toNat) (⟨v12.Id,v12.Name,v12.Ports,r13.2,v12.V,v12.Ticks,v12.Parse,v12.Word,v12.Drops,v12.Vers⟩ : Bridge)).set (y1.toNat) (⟨v14.Id,v14.Name,v14.Ports,v14.F,(⟨r15.2,v14.V.Pvid⟩ : Vtab),v14.Ticks,v14.Parse,v14.Word,v14.Drops,v14.Vers⟩ : Bridge)) Bridge.row]) kr kr kr [] (laws_markVrowS n v14.V.Rows r13.1 r15 er15) (orc_cons (row := [cL 11 ((((y2.set (y1.toNat) (⟨y3,v7.Name,v7.Ports,v7.F,v7.V,v7.Ticks,v7.Parse,v7.Word,v7.Drops,v7.Vers⟩ : Bridge)).set (y1.toNat) (⟨v9.Id,r8,v9.Ports,v9.F,v9.V,v9.Ticks,v9.Parse,v9.Word,v9.Drops,v9.Vers⟩ : Bridge)).set (y1.toNat) (⟨v10.Id,v10.Name,r11.2,v10.F,v10.V,v10.Ticks,v10.Parse,v10.Word,v10.Drops,v10.Vers⟩ : Bridge)).set (y1.toNat) (⟨v12.Id,v12.Name,v12.Ports,r13.2,v12.V,v12.Ticks,v12.Parse,v12.Word,v12.Drops,v12.Vers⟩ : Bridge)) Bridge.row]) (q := [(0,(y1.toNat))]) kr (getQ_elem rfl (idx_get ev14).2) orc_nil) kr (nr_some [cL 11 ((((y2.set (y1.toNat) (⟨y3,v7.Name,v7.Ports,v7.F,v7.V,v7.Ticks,v7.Parse,v7.Word,v7.Drops,v7.Vers⟩ : Bridge)).set (y1.toNat) (⟨v9.Id,r8,v9.Ports,v9.F,v9.V,v9.Ticks,v9.Parse,v9.Word,v9.Drops,v9.Vers⟩ : Bridge)).set (y1.toNat) (⟨v10.Id,v10.Name,r11.2,v10.F,v10.V,v10.Ticks,v10.Parse,v10.Word,v10.Drops,v10.Vers⟩ : Bridge)).set (y1.toNat) (⟨v12.Id,v12.Name,v12.Ports,r13.2,v12.V,v12.Ticks,v12.Parse,v12.Word,v12.Drops,v12.Vers⟩ : Bridge)) Bridge.row] [(0,(y1.toNat))] false 4 [cL 3 r15.2 Vrow.row] kr (modQ_elem (new := (⟨v14.Id,v14.Name,v14.Ports,v14.F,(⟨r15.2,v14.V.Pvid⟩ : Vtab),v14.Ticks,v14.Parse,v14.Word,v14.Drops,v14.Vers⟩ : Bridge)) rfl (idx_get ev14).2 rfl)) (.inl rfl) ?_
  refine uD tOk 1 35 0 kr kr ?_
  refine rU tOk 2 kr ?_
  obtain ⟨v16,ev16,H⟩ := bind_some H
  refine lO tOk 25 0 49 50 51 none ⟨(.slot 0),[],0,true,11,((((((y2.set (y1.toNat) (⟨y3,v7.Name,v7.Ports,v7.F,v7.V,v7.Ticks,v7.Parse,v7.Word,v7.Drops,v7.Vers⟩ : Bridge)).set (y1.toNat) (⟨v9.Id,r8,v9.Ports,v9.F,v9.V,v9.Ticks,v9.Parse,v9.Word,v9.Drops,v9.Vers⟩ : Bridge)).set (y1.toNat) (⟨v10.Id,v10.Name,r11.2,v10.F,v10.V,v10.Ticks,v10.Parse,v10.Word,v10.Drops,v10.Vers⟩ : Bridge)).set (y1.toNat) (⟨v12.Id,v12.Name,v12.Ports,r13.2,v12.V,v12.Ticks,v12.Parse,v12.Word,v12.Drops,v12.Vers⟩ : Bridge)).set (y1.toNat) (⟨v14.Id,v14.Name,v14.Ports,v14.F,(⟨r15.2,v14.V.Pvid⟩ : Vtab),v14.Ticks,v14.Parse,v14.Word,v14.Drops,v14.Vers⟩ : Bridge)).map Bridge.row)⟩ y1 (y1.toNat) (Bridge.row v16) _ kr kr kr kr rfl kr (idx_isE ev16) rfl rfl ?_
  refine lU tOk 2 kr ?_
  refine LAt.loadE tOk (t := 22) (ty := 22) (x := (.tmp 53)) (d := 54) (g := none) (tI 22) (.slot 0) [(0,(y1.toNat))] 11 5 [cL 11 (((((y2.set (y1.toNat) (⟨y3,v7.Name,v7.Ports,v7.F,v7.V,v7.Ticks,v7.Parse,v7.Word,v7.Drops,v7.Vers⟩ : Bridge)).set (y1.toNat) (⟨v9.Id,r8,v9.Ports,v9.F,v9.V,v9.Ticks,v9.Parse,v9.Word,v9.Drops,v9.Vers⟩ : Bridge)).set (y1.toNat) (⟨v10.Id,v10.Name,r11.2,v10.F,v10.V,v10.Ticks,v10.Parse,v10.Word,v10.Drops,v10.Vers⟩ : Bridge)).set (y1.toNat) (⟨v12.Id,v12.Name,v12.Ports,r13.2,v12.V,v12.Ticks,v12.Parse,v12.Word,v12.Drops,v12.Vers⟩ : Bridge)).set (y1.toNat) (⟨v14.Id,v14.Name,v14.Ports,v14.F,(⟨r15.2,v14.V.Pvid⟩ : Vtab),v14.Ticks,v14.Parse,v14.Word,v14.Drops,v14.Vers⟩ : Bridge)) Bridge.row] (Bridge.row v16) _ kr kr kr kr kr (getQ_elem rfl (idx_get ev16).2) rfl (by intro h; cases h) kr kr rfl ?_
  refine lU tOk 1 kr ?_
  obtain ⟨r17,er17,H⟩ := bind_some H
  refine LAt.callO tOk [.lend,.rd] (f := 20) (av := #[.tmp 54,.tmp 55]) (ats := #[22,3]) (d := (some 56)) (ty := 3) (g := none) [(54,Bridge.row v16)] (some [cL 11 ((((((y2.set (y1.toNat) (⟨y3,v7.Name,v7.Ports,v7.F,v7.V,v7.Ticks,v7.Parse,v7.Word,v7.Drops,v7.Vers⟩ : Bridge)).set (y1.toNat) (⟨v9.Id,r8,v9.Ports,v9.F,v9.V,v9.Ticks,v9.Parse,v9.Word,v9.Drops,v9.Vers⟩ : Bridge)).set (y1.toNat) (⟨v10.Id,v10.Name,r11.2,v10.F,v10.V,v10.Ticks,v10.Parse,v10.Word,v10.Drops,v10.Vers⟩ : Bridge)).set (y1.toNat) (⟨v12.Id,v12.Name,v12.Ports,r13.2,v12.V,v12.Ticks,v12.Parse,v12.Word,v12.Drops,v12.Vers⟩ : Bridge)).set (y1.toNat) (⟨v14.Id,v14.Name,v14.Ports,v14.F,(⟨r15.2,v14.V.Pvid⟩ : Vtab),v14.Ticks,v14.Parse,v14.Word,v14.Drops,v14.Vers⟩ : Bridge)).set (y1.toNat) (⟨v16.Id,v16.Name,v16.Ports,v16.F,(⟨v16.V.Rows,r17.2⟩ : Vtab),v16.Ticks,v16.Parse,v16.Word,v16.Drops,v16.Vers⟩ : Bridge)) Bridge.row]) kr kr kr [] (laws_markIntS n v16.V.Pvid r15.1 r17 er17) (orc_cons (row := [cL 11 (((((y2.set (y1.toNat) (⟨y3,v7.Name,v7.Ports,v7.F,v7.V,v7.Ticks,v7.Parse,v7.Word,v7.Drops,v7.Vers⟩ : Bridge)).set (y1.toNat) (⟨v9.Id,r8,v9.Ports,v9.F,v9.V,v9.Ticks,v9.Parse,v9.Word,v9.Drops,v9.Vers⟩ : Bridge)).set (y1.toNat) (⟨v10.Id,v10.Name,r11.2,v10.F,v10.V,v10.Ticks,v10.Parse,v10.Word,v10.Drops,v10.Vers⟩ : Bridge)).set (y1.toNat) (⟨v12.Id,v12.Name,v12.Ports,r13.2,v12.V,v12.Ticks,v12.Parse,v12.Word,v12.Drops,v12.Vers⟩ : Bridge)).set (y1.toNat) (⟨v14.Id,v14.Name,v14.Ports,v14.F,(⟨r15.2,v14.V.Pvid⟩ : Vtab),v14.Ticks,v14.Parse,v14.Word,v14.Drops,v14.Vers⟩ : Bridge)) Bridge.row]) (q := [(0,(y1.toNat))]) kr (getQ_elem rfl (idx_get ev16).2) orc_nil) kr (nr_some [cL 11 (((((y2.set (y1.toNat) (⟨y3,v7.Name,v7.Ports,v7.F,v7.V,v7.Ticks,v7.Parse,v7.Word,v7.Drops,v7.Vers⟩ : Bridge)).set (y1.toNat) (⟨v9.Id,r8,v9.Ports,v9.F,v9.V,v9.Ticks,v9.Parse,v9.Word,v9.Drops,v9.Vers⟩ : Bridge)).set (y1.toNat) (⟨v10.Id,v10.Name,r11.2,v10.F,v10.V,v10.Ticks,v10.Parse,v10.Word,v10.Drops,v10.Vers⟩ : Bridge)).set (y1.toNat) (⟨v12.Id,v12.Name,v12.Ports,r13.2,v12.V,v12.Ticks,v12.Parse,v12.Word,v12.Drops,v12.Vers⟩ : Bridge)).set (y1.toNat) (⟨v14.Id,v14.Name,v14.Ports,v14.F,(⟨r15.2,v14.V.Pvid⟩ : Vtab),v14.Ticks,v14.Parse,v14.Word,v14.Drops,v14.Vers⟩ : Bridge)) Bridge.row] [(0,(y1.toNat))] false 5 [cL 1 r17.2 intRow] kr (modQ_elem (new := (⟨v16.Id,v16.Name,v16.Ports,v16.F,(⟨v16.V.Rows,r17.2⟩ : Vtab),v16.Ticks,v16.Parse,v16.Word,v16.Drops,v16.Vers⟩ : Bridge)) rfl (idx_get ev16).2 rfl)) (.inl rfl) ?_
  refine uD tOk 1 35 0 kr kr ?_
  refine rU tOk 3 kr ?_
  obtain ⟨v18,ev18,H⟩ := bind_some H
  refine lO tOk 25 0 57 58 60 none ⟨(.slot 0),[],0,true,11,(((((((y2.set (y1.toNat) (⟨y3,v7.Name,v7.Ports,v7.F,v7.V,v7.Ticks,v7.Parse,v7.Word,v7.Drops,v7.Vers⟩ : Bridge)).set (y1.toNat) (⟨v9.Id,r8,v9.Ports,v9.F,v9.V,v9.Ticks,v9.Parse,v9.Word,v9.Drops,v9.Vers⟩ : Bridge)).set (y1.toNat) (⟨v10.Id,v10.Name,r11.2,v10.F,v10.V,v10.Ticks,v10.Parse,v10.Word,v10.Drops,v10.Vers⟩ : Bridge)).set (y1.toNat) (⟨v12.Id,v12.Name,v12.Ports,r13.2,v12.V,v12.Ticks,v12.Parse,v12.Word,v12.Drops,v12.Vers⟩ : Bridge)).set (y1.toNat) (⟨v14.Id,v14.Name,v14.Ports,v14.F,(⟨r15.2,v14.V.Pvid⟩ : Vtab),v14.Ticks,v14.Parse,v14.Word,v14.Drops,v14.Vers⟩ : Bridge)).set (y1.toNat) (⟨v16.Id,v16.Name,v16.Ports,v16.F,(⟨v16.V.Rows,r17.2⟩ : Vtab),v16.Ticks,v16.Parse,v16.Word,v16.Drops,v16.Vers⟩ : Bridge)).map Bridge.row)⟩ y1 (y1.toNat) (Bridge.row v18) _ kr kr kr kr rfl kr (idx_isE ev18) rfl rfl ?_
  refine lU tOk 1 kr ?_
  refine lW tOk (t := 3) (ty := 0) (ad := (.tmp 61)) (x := (.tmp 59)) (g := none) (tI 3) false [cI r17.1] 0 0 (y1.toNat) 11 6 11 ((((((y2.set (y1.toNat) (⟨y3,v7.Name,v7.Ports,v7.F,v7.V,v7.Ticks,v7.Parse,v7.Word,v7.Drops,v7.Vers⟩ : Bridge)).set (y1.toNat) (⟨v9.Id,r8,v9.Ports,v9.F,v9.V,v9.Ticks,v9.Parse,v9.Word,v9.Drops,v9.Vers⟩ : Bridge)).set (y1.toNat) (⟨v10.Id,v10.Name,r11.2,v10.F,v10.V,v10.Ticks,v10.Parse,v10.Word,v10.Drops,v10.Vers⟩ : Bridge)).set (y1.toNat) (⟨v12.Id,v12.Name,v12.Ports,r13.2,v12.V,v12.Ticks,v12.Parse,v12.Word,v12.Drops,v12.Vers⟩ : Bridge)).set (y1.toNat) (⟨v14.Id,v14.Name,v14.Ports,v14.F,(⟨r15.2,v14.V.Pvid⟩ : Vtab),v14.Ticks,v14.Parse,v14.Word,v14.Drops,v14.Vers⟩ : Bridge)).set (y1.toNat) (⟨v16.Id,v16.Name,v16.Ports,v16.F,(⟨v16.V.Rows,r17.2⟩ : Vtab),v16.Ticks,v16.Parse,v16.Word,v16.Drops,v16.Vers⟩ : Bridge)) Bridge.row v18 (⟨v18.Id,v18.Name,v18.Ports,v18.F,v18.V,r17.1,v18.Parse,v18.Word,v18.Drops,v18.Vers⟩ : Bridge) kr kr kr kr kr kr kr kr (idx_get ev18).2 kr kr kr kr ?_
  refine lD 35 0 kr ?_
  refine tG tOk 3 35 0 kr kr ?_
  refine rU tOk 3 kr ?_
  obtain ⟨v19,ev19,H⟩ := bind_some H
  refine lO tOk 25 0 64 65 67 none ⟨(.slot 0),[],0,true,11,((((((((y2.set (y1.toNat) (⟨y3,v7.Name,v7.Ports,v7.F,v7.V,v7.Ticks,v7.Parse,v7.Word,v7.Drops,v7.Vers⟩ : Bridge)).set (y1.toNat) (⟨v9.Id,r8,v9.Ports,v9.F,v9.V,v9.Ticks,v9.Parse,v9.Word,v9.Drops,v9.Vers⟩ : Bridge)).set (y1.toNat) (⟨v10.Id,v10.Name,r11.2,v10.F,v10.V,v10.Ticks,v10.Parse,v10.Word,v10.Drops,v10.Vers⟩ : Bridge)).set (y1.toNat) (⟨v12.Id,v12.Name,v12.Ports,r13.2,v12.V,v12.Ticks,v12.Parse,v12.Word,v12.Drops,v12.Vers⟩ : Bridge)).set (y1.toNat) (⟨v14.Id,v14.Name,v14.Ports,v14.F,(⟨r15.2,v14.V.Pvid⟩ : Vtab),v14.Ticks,v14.Parse,v14.Word,v14.Drops,v14.Vers⟩ : Bridge)).set (y1.toNat) (⟨v16.Id,v16.Name,v16.Ports,v16.F,(⟨v16.V.Rows,r17.2⟩ : Vtab),v16.Ticks,v16.Parse,v16.Word,v16.Drops,v16.Vers⟩ : Bridge)).set (y1.toNat) (⟨v18.Id,v18.Name,v18.Ports,v18.F,v18.V,r17.1,v18.Parse,v18.Word,v18.Drops,v18.Vers⟩ : Bridge)).map Bridge.row)⟩ y1 (y1.toNat) (Bridge.row v19) _ kr kr kr kr rfl kr (idx_isE ev19) rfl rfl ?_
  refine lU tOk 1 kr ?_
  refine lW tOk (t := 3) (ty := 0) (ad := (.tmp 68)) (x := (.tmp 66)) (g := none) (tI 3) false [cI (IntKind.wrap .i64 (r17.1 + 1))] 0 0 (y1.toNat) 11 7 11 (((((((y2.set (y1.toNat) (⟨y3,v7.Name,v7.Ports,v7.F,v7.V,v7.Ticks,v7.Parse,v7.Word,v7.Drops,v7.Vers⟩ : Bridge)).set (y1.toNat) (⟨v9.Id,r8,v9.Ports,v9.F,v9.V,v9.Ticks,v9.Parse,v9.Word,v9.Drops,v9.Vers⟩ : Bridge)).set (y1.toNat) (⟨v10.Id,v10.Name,r11.2,v10.F,v10.V,v10.Ticks,v10.Parse,v10.Word,v10.Drops,v10.Vers⟩ : Bridge)).set (y1.toNat) (⟨v12.Id,v12.Name,v12.Ports,r13.2,v12.V,v12.Ticks,v12.Parse,v12.Word,v12.Drops,v12.Vers⟩ : Bridge)).set (y1.toNat) (⟨v14.Id,v14.Name,v14.Ports,v14.F,(⟨r15.2,v14.V.Pvid⟩ : Vtab),v14.Ticks,v14.Parse,v14.Word,v14.Drops,v14.Vers⟩ : Bridge)).set (y1.toNat) (⟨v16.Id,v16.Name,v16.Ports,v16.F,(⟨v16.V.Rows,r17.2⟩ : Vtab),v16.Ticks,v16.Parse,v16.Word,v16.Drops,v16.Vers⟩ : Bridge)).set (y1.toNat) (⟨v18.Id,v18.Name,v18.Ports,v18.F,v18.V,r17.1,v18.Parse,v18.Word,v18.Drops,v18.Vers⟩ : Bridge)) Bridge.row v19 (⟨v19.Id,v19.Name,v19.Ports,v19.F,v19.V,v19.Ticks,(IntKind.wrap .i64 (r17.1 + 1)),v19.Word,v19.Drops,v19.Vers⟩ : Bridge) kr kr kr kr kr kr kr kr (idx_get ev19).2 kr kr kr kr ?_
  refine lD 35 0 kr ?_
  refine tG tOk 3 35 0 kr kr ?_
  refine rU tOk 3 kr ?_
  obtain ⟨v20,ev20,H⟩ := bind_some H
  refine lO tOk 25 0 71 72 74 none ⟨(.slot 0),[],0,true,11,(((((((((y2.set (y1.toNat) (⟨y3,v7.Name,v7.Ports,v7.F,v7.V,v7.Ticks,v7.Parse,v7.Word,v7.Drops,v7.Vers⟩ : Bridge)).set (y1.toNat) (⟨v9.Id,r8,v9.Ports,v9.F,v9.V,v9.Ticks,v9.Parse,v9.Word,v9.Drops,v9.Vers⟩ : Bridge)).set (y1.toNat) (⟨v10.Id,v10.Name,r11.2,v10.F,v10.V,v10.Ticks,v10.Parse,v10.Word,v10.Drops,v10.Vers⟩ : Bridge)).set (y1.toNat) (⟨v12.Id,v12.Name,v12.Ports,r13.2,v12.V,v12.Ticks,v12.Parse,v12.Word,v12.Drops,v12.Vers⟩ : Bridge)).set (y1.toNat) (⟨v14.Id,v14.Name,v14.Ports,v14.F,(⟨r15.2,v14.V.Pvid⟩ : Vtab),v14.Ticks,v14.Parse,v14.Word,v14.Drops,v14.Vers⟩ : Bridge)).set (y1.toNat) (⟨v16.Id,v16.Name,v16.Ports,v16.F,(⟨v16.V.Rows,r17.2⟩ : Vtab),v16.Ticks,v16.Parse,v16.Word,v16.Drops,v16.Vers⟩ : Bridge)).set (y1.toNat) (⟨v18.Id,v18.Name,v18.Ports,v18.F,v18.V,r17.1,v18.Parse,v18.Word,v18.Drops,v18.Vers⟩ : Bridge)).set (y1.toNat) (⟨v19.Id,v19.Name,v19.Ports,v19.F,v19.V,v19.Ticks,(IntKind.wrap .i64 (r17.1 + 1)),v19.Word,v19.Drops,v19.Vers⟩ : Bridge)).map Bridge.row)⟩ y1 (y1.toNat) (Bridge.row v20) _ kr kr kr kr rfl kr (idx_isE ev20) rfl rfl ?_
  refine lU tOk 1 kr ?_
  refine lW tOk (t := 3) (ty := 0) (ad := (.tmp 75)) (x := (.tmp 73)) (g := none) (tI 3) false [cI (IntKind.wrap .i64 ((IntKind.wrap .i64 (r17.1 + 1)) + 1))] 0 0 (y1.toNat) 11 8 11 ((((((((y2.set (y1.toNat) (⟨y3,v7.Name,v7.Ports,v7.F,v7.V,v7.Ticks,v7.Parse,v7.Word,v7.Drops,v7.Vers⟩ : Bridge)).set (y1.toNat) (⟨v9.Id,r8,v9.Ports,v9.F,v9.V,v9.Ticks,v9.Parse,v9.Word,v9.Drops,v9.Vers⟩ : Bridge)).set (y1.toNat) (⟨v10.Id,v10.Name,r11.2,v10.F,v10.V,v10.Ticks,v10.Parse,v10.Word,v10.Drops,v10.Vers⟩ : Bridge)).set (y1.toNat) (⟨v12.Id,v12.Name,v12.Ports,r13.2,v12.V,v12.Ticks,v12.Parse,v12.Word,v12.Drops,v12.Vers⟩ : Bridge)).set (y1.toNat) (⟨v14.Id,v14.Name,v14.Ports,v14.F,(⟨r15.2,v14.V.Pvid⟩ : Vtab),v14.Ticks,v14.Parse,v14.Word,v14.Drops,v14.Vers⟩ : Bridge)).set (y1.toNat) (⟨v16.Id,v16.Name,v16.Ports,v16.F,(⟨v16.V.Rows,r17.2⟩ : Vtab),v16.Ticks,v16.Parse,v16.Word,v16.Drops,v16.Vers⟩ : Bridge)).set (y1.toNat) (⟨v18.Id,v18.Name,v18.Ports,v18.F,v18.V,r17.1,v18.Parse,v18.Word,v18.Drops,v18.Vers⟩ : Bridge)).set (y1.toNat) (⟨v19.Id,v19.Name,v19.Ports,v19.F,v19.V,v19.Ticks,(IntKind.wrap .i64 (r17.1 + 1)),v19.Word,v19.Drops,v19.Vers⟩ : Bridge)) Bridge.row v20 (⟨v20.Id,v20.Name,v20.Ports,v20.F,v20.V,v20.Ticks,v20.Parse,(IntKind.wrap .i64 ((IntKind.wrap .i64 (r17.1 + 1)) + 1)),v20.Drops,v20.Vers⟩ : Bridge) kr kr kr kr kr kr kr kr (idx_get ev20).2 kr kr kr kr ?_
  refine lD 35 0 kr ?_
  refine tG tOk 3 35 0 kr kr ?_
  refine rU tOk 3 kr ?_
  obtain ⟨v21,ev21,H⟩ := bind_some H
  refine lO tOk 25 0 78 79 81 none ⟨(.slot 0),[],0,true,11,((((((((((y2.set (y1.toNat) (⟨y3,v7.Name,v7.Ports,v7.F,v7.V,v7.Ticks,v7.Parse,v7.Word,v7.Drops,v7.Vers⟩ : Bridge)).set (y1.toNat) (⟨v9.Id,r8,v9.Ports,v9.F,v9.V,v9.Ticks,v9.Parse,v9.Word,v9.Drops,v9.Vers⟩ : Bridge)).set (y1.toNat) (⟨v10.Id,v10.Name,r11.2,v10.F,v10.V,v10.Ticks,v10.Parse,v10.Word,v10.Drops,v10.Vers⟩ : Bridge)).set (y1.toNat) (⟨v12.Id,v12.Name,v12.Ports,r13.2,v12.V,v12.Ticks,v12.Parse,v12.Word,v12.Drops,v12.Vers⟩ : Bridge)).set (y1.toNat) (⟨v14.Id,v14.Name,v14.Ports,v14.F,(⟨r15.2,v14.V.Pvid⟩ : Vtab),v14.Ticks,v14.Parse,v14.Word,v14.Drops,v14.Vers⟩ : Bridge)).set (y1.toNat) (⟨v16.Id,v16.Name,v16.Ports,v16.F,(⟨v16.V.Rows,r17.2⟩ : Vtab),v16.Ticks,v16.Parse,v16.Word,v16.Drops,v16.Vers⟩ : Bridge)).set (y1.toNat) (⟨v18.Id,v18.Name,v18.Ports,v18.F,v18.V,r17.1,v18.Parse,v18.Word,v18.Drops,v18.Vers⟩ : Bridge)).set (y1.toNat) (⟨v19.Id,v19.Name,v19.Ports,v19.F,v19.V,v19.Ticks,(IntKind.wrap .i64 (r17.1 + 1)),v19.Word,v19.Drops,v19.Vers⟩ : Bridge)).set (y1.toNat) (⟨v20.Id,v20.Name,v20.Ports,v20.F,v20.V,v20.Ticks,v20.Parse,(IntKind.wrap .i64 ((IntKind.wrap .i64 (r17.1 + 1)) + 1)),v20.Drops,v20.Vers⟩ : Bridge)).map Bridge.row)⟩ y1 (y1.toNat) (Bridge.row v21) _ kr kr kr kr rfl kr (idx_isE ev21) rfl rfl ?_
  refine lU tOk 1 kr ?_
  refine lW tOk (t := 3) (ty := 0) (ad := (.tmp 82)) (x := (.tmp 80)) (g := none) (tI 3) false [cI (IntKind.wrap .i64 ((IntKind.wrap .i64 ((IntKind.wrap .i64 (r17.1 + 1)) + 1)) + 1))] 0 0 (y1.toNat) 11 9 11 (((((((((y2.set (y1.toNat) (⟨y3,v7.Name,v7.Ports,v7.F,v7.V,v7.Ticks,v7.Parse,v7.Word,v7.Drops,v7.Vers⟩ : Bridge)).set (y1.toNat) (⟨v9.Id,r8,v9.Ports,v9.F,v9.V,v9.Ticks,v9.Parse,v9.Word,v9.Drops,v9.Vers⟩ : Bridge)).set (y1.toNat) (⟨v10.Id,v10.Name,r11.2,v10.F,v10.V,v10.Ticks,v10.Parse,v10.Word,v10.Drops,v10.Vers⟩ : Bridge)).set (y1.toNat) (⟨v12.Id,v12.Name,v12.Ports,r13.2,v12.V,v12.Ticks,v12.Parse,v12.Word,v12.Drops,v12.Vers⟩ : Bridge)).set (y1.toNat) (⟨v14.Id,v14.Name,v14.Ports,v14.F,(⟨r15.2,v14.V.Pvid⟩ : Vtab),v14.Ticks,v14.Parse,v14.Word,v14.Drops,v14.Vers⟩ : Bridge)).set (y1.toNat) (⟨v16.Id,v16.Name,v16.Ports,v16.F,(⟨v16.V.Rows,r17.2⟩ : Vtab),v16.Ticks,v16.Parse,v16.Word,v16.Drops,v16.Vers⟩ : Bridge)).set (y1.toNat) (⟨v18.Id,v18.Name,v18.Ports,v18.F,v18.V,r17.1,v18.Parse,v18.Word,v18.Drops,v18.Vers⟩ : Bridge)).set (y1.toNat) (⟨v19.Id,v19.Name,v19.Ports,v19.F,v19.V,v19.Ticks,(IntKind.wrap .i64 (r17.1 + 1)),v19.Word,v19.Drops,v19.Vers⟩ : Bridge)).set (y1.toNat) (⟨v20.Id,v20.Name,v20.Ports,v20.F,v20.V,v20.Ticks,v20.Parse,(IntKind.wrap .i64 ((IntKind.wrap .i64 (r17.1 + 1)) + 1)),v20.Drops,v20.Vers⟩ : Bridge)) Bridge.row v21 (⟨v21.Id,v21.Name,v21.Ports,v21.F,v21.V,v21.Ticks,v21.Parse,v21.Word,(IntKind.wrap .i64 ((IntKind.wrap .i64 ((IntKind.wrap .i64 (r17.1 + 1)) + 1)) + 1)),v21.Vers⟩ : Bridge) kr kr kr kr kr kr kr kr (idx_get ev21).2 kr kr kr kr ?_
  refine lD 35 0 kr ?_
  refine tG tOk 3 35 0 kr kr ?_
  refine rU tOk 3 kr ?_
  obtain ⟨v22,ev22,H⟩ := bind_some H
  refine lO tOk 25 0 85 86 88 none ⟨(.slot 0),[],0,true,11,(((((((((((y2.set (y1.toNat) (⟨y3,v7.Name,v7.Ports,v7.F,v7.V,v7.Ticks,v7.Parse,v7.Word,v7.Drops,v7.Vers⟩ : Bridge)).set (y1.toNat) (⟨v9.Id,r8,v9.Ports,v9.F,v9.V,v9.Ticks,v9.Parse,v9.Word,v9.Drops,v9.Vers⟩ : Bridge)).set (y1.toNat) (⟨v10.Id,v10.Name,r11.2,v10.F,v10.V,v10.Ticks,v10.Parse,v10.Word,v10.Drops,v10.Vers⟩ : Bridge)).set (y1.toNat) (⟨v12.Id,v12.Name,v12.Ports,r13.2,v12.V,v12.Ticks,v12.Parse,v12.Word,v12.Drops,v12.Vers⟩ : Bridge)).set (y1.toNat) (⟨v14.Id,v14.Name,v14.Ports,v14.F,(⟨r15.2,v14.V.Pvid⟩ : Vtab),v14.Ticks,v14.Parse,v14.Word,v14.Drops,v14.Vers⟩ : Bridge)).set (y1.toNat) (⟨v16.Id,v16.Name,v16.Ports,v16.F,(⟨v16.V.Rows,r17.2⟩ : Vtab),v16.Ticks,v16.Parse,v16.Word,v16.Drops,v16.Vers⟩ : Bridge)).set (y1.toNat) (⟨v18.Id,v18.Name,v18.Ports,v18.F,v18.V,r17.1,v18.Parse,v18.Word,v18.Drops,v18.Vers⟩ : Bridge)).set (y1.toNat) (⟨v19.Id,v19.Name,v19.Ports,v19.F,v19.V,v19.Ticks,(IntKind.wrap .i64 (r17.1 + 1)),v19.Word,v19.Drops,v19.Vers⟩ : Bridge)).set (y1.toNat) (⟨v20.Id,v20.Name,v20.Ports,v20.F,v20.V,v20.Ticks,v20.Parse,(IntKind.wrap .i64 ((IntKind.wrap .i64 (r17.1 + 1)) + 1)),v20.Drops,v20.Vers⟩ : Bridge)).set (y1.toNat) (⟨v21.Id,v21.Name,v21.Ports,v21.F,v21.V,v21.Ticks,v21.Parse,v21.Word,(IntKind.wrap .i64 ((IntKind.wrap .i64 ((IntKind.wrap .i64 (r17.1 + 1)) + 1)) + 1)),v21.Vers⟩ : Bridge)).map Bridge.row)⟩ y1 (y1.toNat) (Bridge.row v22) _ kr kr kr kr rfl kr (idx_isE ev22) rfl rfl ?_
  refine lU tOk 1 kr ?_
  refine lW tOk (t := 3) (ty := 0) (ad := (.tmp 89)) (x := (.tmp 87)) (g := none) (tI 3) false [cI (IntKind.wrap .i64 ((IntKind.wrap .i64 ((IntKind.wrap .i64 ((IntKind.wrap .i64 (r17.1 + 1)) + 1)) + 1)) + 1))] 0 0 (y1.toNat) 11 10 11 ((((((((((y2.set (y1.toNat) (⟨y3,v7.Name,v7.Ports,v7.F,v7.V,v7.Ticks,v7.Parse,v7.Word,v7.Drops,v7.Vers⟩ : Bridge)).set (y1.toNat) (⟨v9.Id,r8,v9.Ports,v9.F,v9.V,v9.Ticks,v9.Parse,v9.Word,v9.Drops,v9.Vers⟩ : Bridge)).set (y1.toNat) (⟨v10.Id,v10.Name,r11.2,v10.F,v10.V,v10.Ticks,v10.Parse,v10.Word,v10.Drops,v10.Vers⟩ : Bridge)).set (y1.toNat) (⟨v12.Id,v12.Name,v12.Ports,r13.2,v12.V,v12.Ticks,v12.Parse,v12.Word,v12.Drops,v12.Vers⟩ : Bridge)).set (y1.toNat) (⟨v14.Id,v14.Name,v14.Ports,v14.F,(⟨r15.2,v14.V.Pvid⟩ : Vtab),v14.Ticks,v14.Parse,v14.Word,v14.Drops,v14.Vers⟩ : Bridge)).set (y1.toNat) (⟨v16.Id,v16.Name,v16.Ports,v16.F,(⟨v16.V.Rows,r17.2⟩ : Vtab),v16.Ticks,v16.Parse,v16.Word,v16.Drops,v16.Vers⟩ : Bridge)).set (y1.toNat) (⟨v18.Id,v18.Name,v18.Ports,v18.F,v18.V,r17.1,v18.Parse,v18.Word,v18.Drops,v18.Vers⟩ : Bridge)).set (y1.toNat) (⟨v19.Id,v19.Name,v19.Ports,v19.F,v19.V,v19.Ticks,(IntKind.wrap .i64 (r17.1 + 1)),v19.Word,v19.Drops,v19.Vers⟩ : Bridge)).set (y1.toNat) (⟨v20.Id,v20.Name,v20.Ports,v20.F,v20.V,v20.Ticks,v20.Parse,(IntKind.wrap .i64 ((IntKind.wrap .i64 (r17.1 + 1)) + 1)),v20.Drops,v20.Vers⟩ : Bridge)).set (y1.toNat) (⟨v21.Id,v21.Name,v21.Ports,v21.F,v21.V,v21.Ticks,v21.Parse,v21.Word,(IntKind.wrap .i64 ((IntKind.wrap .i64 ((IntKind.wrap .i64 (r17.1 + 1)) + 1)) + 1)),v21.Vers⟩ : Bridge)) Bridge.row v22 (⟨v22.Id,v22.Name,v22.Ports,v22.F,v22.V,v22.Ticks,v22.Parse,v22.Word,v22.Drops,(IntKind.wrap .i64 ((IntKind.wrap .i64 ((IntKind.wrap .i64 ((IntKind.wrap .i64 (r17.1 + 1)) + 1)) + 1)) + 1))⟩ : Bridge) kr kr kr kr kr kr kr kr (idx_get ev22).2 kr kr kr kr ?_
  refine lD 35 0 kr ?_
  refine tE tOk 3 35 0 kr kr ?_
  refine tE tOk 3 35 0 kr kr ?_
  exact jn (mo6,((IntKind.wrap .i64 (y1 + 1)),(((((((((((y2.set (y1.toNat) (⟨y3,v7.Name,v7.Ports,v7.F,v7.V,v7.Ticks,v7.Parse,v7.Word,v7.Drops,v7.Vers⟩ : Bridge)).set (y1.toNat) (⟨v9.Id,r8,v9.Ports,v9.F,v9.V,v9.Ticks,v9.Parse,v9.Word,v9.Drops,v9.Vers⟩ : Bridge)).set (y1.toNat) (⟨v10.Id,v10.Name,r11.2,v10.F,v10.V,v10.Ticks,v10.Parse,v10.Word,v10.Drops,v10.Vers⟩ : Bridge)).set (y1.toNat) (⟨v12.Id,v12.Name,v12.Ports,r13.2,v12.V,v12.Ticks,v12.Parse,v12.Word,v12.Drops,v12.Vers⟩ : Bridge)).set (y1.toNat) (⟨v14.Id,v14.Name,v14.Ports,v14.F,(⟨r15.2,v14.V.Pvid⟩ : Vtab),v14.Ticks,v14.Parse,v14.Word,v14.Drops,v14.Vers⟩ : Bridge)).set (y1.toNat) (⟨v16.Id,v16.Name,v16.Ports,v16.F,(⟨v16.V.Rows,r17.2⟩ : Vtab),v16.Ticks,v16.Parse,v16.Word,v16.Drops,v16.Vers⟩ : Bridge)).set (y1.toNat) (⟨v18.Id,v18.Name,v18.Ports,v18.F,v18.V,r17.1,v18.Parse,v18.Word,v18.Drops,v18.Vers⟩ : Bridge)).set (y1.toNat) (⟨v19.Id,v19.Name,v19.Ports,v19.F,v19.V,v19.Ticks,(IntKind.wrap .i64 (r17.1 + 1)),v19.Word,v19.Drops,v19.Vers⟩ : Bridge)).set (y1.toNat) (⟨v20.Id,v20.Name,v20.Ports,v20.F,v20.V,v20.Ticks,v20.Parse,(IntKind.wrap .i64 ((IntKind.wrap .i64 (r17.1 + 1)) + 1)),v20.Drops,v20.Vers⟩ : Bridge)).set (y1.toNat) (⟨v21.Id,v21.Name,v21.Ports,v21.F,v21.V,v21.Ticks,v21.Parse,v21.Word,(IntKind.wrap .i64 ((IntKind.wrap .i64 ((IntKind.wrap .i64 (r17.1 + 1)) + 1)) + 1)),v21.Vers⟩ : Bridge)).set (y1.toNat) (⟨v22.Id,v22.Name,v22.Ports,v22.F,v22.V,v22.Ticks,v22.Parse,v22.Word,v22.Drops,(IntKind.wrap .i64 ((IntKind.wrap .i64 ((IntKind.wrap .i64 ((IntKind.wrap .i64 (r17.1 + 1)) + 1)) + 1)) + 1))⟩ : Bridge)),(IntKind.wrap .i64 ((IntKind.wrap .i64 ((IntKind.wrap .i64 ((IntKind.wrap .i64 ((IntKind.wrap .i64 (r17.1 + 1)) + 1)) + 1)) + 1)) + 1)))) H (sM mo6 [5,0,1] [] kr)
 rintro ⟨y4,y5⟩ H
 have H : (laws_markBridgeS_J1 n y4 y5) = some r := H
 unfold laws_markBridgeS_J1 at H
 refine tG tOk 2 17 0 kr kr ?_
 refine te ?_
 obtain rfl := si H
 exact Fin.ofY _ [(false,[cI y5])] [false] _ [[cL 11 y4 Bridge.row]] _ [] kr rfl rfl rfl kr kr kr kr rfl rfl rfl
def laws_markSayS_J1 (n : Nat) (y4 : (List Say)) (y5 : Int) : Option (Int × (List Say)) :=
  (some (y5,y4))
def laws_markSayS_L2 (n : Nat) : Nat → Int → (List Say) → Int → Option (((List Say) × Int) ⊕ (Int × (List Say)))
  | 0,_,_,_ => none
  | mo6 + 1,y1,y2,y3 => (bif (decide (y1 < (y2.length : Int))) then ((idx y2 y1).bind fun v7 => (bif (decide ((3 : Int) ≠ 0)) then ((idx (y2.set (y1.toNat) (⟨y3,v7.Back,v7.V⟩ : Say)) y1).bind fun v9 => ((idx ((y2.set (y1.toNat) (⟨y3,v7.Back,v7.V⟩ : Say)).set (y1.toNat) (⟨v9.Link,((Int.tmod (IntKind.wrap .i64 (y3 + 1)) 3) == 0),v9.V⟩ : Say)) y1).bind fun v10 => ((idx (((y2.set (y1.toNat) (⟨y3,v7.Back,v7.V⟩ : Say)).set (y1.toNat) (⟨v9.Link,((Int.tmod (IntKind.wrap .i64 (y3 + 1)) 3) == 0),v9.V⟩ : Say)).set (y1.toNat) (⟨v10.Link,v10.Back,(⟨(IntKind.wrap .i64 ((IntKind.wrap .i64 (y3 + 1)) + 1)),v10.V.Cost,v10.V.Hops,v10.V.Bridge,v10.V.Port⟩ : Vec)⟩ : Say)) y1).bind fun v11 => ((idx ((((y2.set (y1.toNat) (⟨y3,v7.Back,v7.V⟩ : Say)).set (y1.toNat) (⟨v9.Link,((Int.tmod (IntKind.wrap .i64 (y3 + 1)) 3) == 0),v9.V⟩ : Say)).set (y1.toNat) (⟨v10.Link,v10.Back,(⟨(IntKind.wrap .i64 ((IntKind.wrap .i64 (y3 + 1)) + 1)),v10.V.Cost,v10.V.Hops,v10.V.Bridge,v10.V.Port⟩ : Vec)⟩ : Say)).set (y1.toNat) (⟨v11.Link,v11.Back,(⟨v11.V.Root,(IntKind.wrap .i64 ((IntKind.wrap .i64 ((IntKind.wrap .i64 (y3 + 1)) + 1)) + 1)),v11.V.Hops,v11.V.Bridge,v11.V.Port⟩ : Vec)⟩ : Say)) y1).bind fun v12 => ((idx (((((y2.set (y1.toNat) (⟨y3,v7.Back,v7.V⟩ : Say)).set (y1.toNat) (⟨v9.Link,((Int.tmod (IntKind.wrap .i64 (y3 + 1)) 3) == 0),v9.V⟩ : Say)).set (y1.toNat) (⟨v10.Link,v10.Back,(⟨(IntKind.wrap .i64 ((IntKind.wrap .i64 (y3 + 1)) + 1)),v10.V.Cost,v10.V.Hops,v10.V.Bridge,v10.V.Port⟩ : Vec)⟩ : Say)).set (y1.toNat) (⟨v11.Link,v11.Back,(⟨v11.V.Root,(IntKind.wrap .i64 ((IntKind.wrap .i64 ((IntKind.wrap .i64 (y3 + 1)) + 1)) + 1)),v11.V.Hops,v11.V.Bridge,v11.V.Port⟩ : Vec)⟩ : Say)).set (y1.toNat) (⟨v12.Link,v12.Back,(⟨v12.V.Root,v12.V.Cost,(IntKind.wrap .i64 ((IntKind.wrap .i64 ((IntKind.wrap .i64 ((IntKind.wrap .i64 (y3 + 1)) + 1)) + 1)) + 1)),v12.V.Bridge,v12.V.Port⟩ : Vec)⟩ : Say)) y1).bind fun v13 => ((idx ((((((y2.set (y1.toNat) (⟨y3,v7.Back,v7.V⟩ : Say)).set (y1.toNat) (⟨v9.Link,((Int.tmod (IntKind.wrap .i64 (y3 + 1)) 3) == 0),v9.V⟩ : Say)).set (y1.toNat) (⟨v10.Link,v10.Back,(⟨(IntKind.wrap .i64 ((IntKind.wrap .i64 (y3 + 1)) + 1)),v10.V.Cost,v10.V.Hops,v10.V.Bridge,v10.V.Port⟩ : Vec)⟩ : Say)).set (y1.toNat) (⟨v11.Link,v11.Back,(⟨v11.V.Root,(IntKind.wrap .i64 ((IntKind.wrap .i64 ((IntKind.wrap .i64 (y3 + 1)) + 1)) + 1)),v11.V.Hops,v11.V.Bridge,v11.V.Port⟩ : Vec)⟩ : Say)).set (y1.toNat) (⟨v12.Link,v12.Back,(⟨v12.V.Root,v12.V.Cost,(IntKind.wrap .i64 ((IntKind.wrap .i64 ((IntKind.wrap .i64 ((IntKind.wrap .i64 (y3 + 1)) + 1)) + 1)) + 1)),v12.V.Bridge,v12.V.Port⟩ : Vec)⟩ : Say)).set (y1.toNat) (⟨v13.Link,v13.Back,(⟨v13.V.Root,v13.V.Cost,v13.V.Hops,(IntKind.wrap .i64 ((IntKind.wrap .i64 ((IntKind.wrap .i64 ((IntKind.wrap .i64 ((IntKind.wrap .i64 (y3 + 1)) + 1)) + 1)) + 1)) + 1)),v13.V.Port⟩ : Vec)⟩ : Say)) y1).bind fun v14 => (laws_markSayS_L2 n mo6 (IntKind.wrap .i64 (y1 + 1)) (((((((y2.set (y1.toNat) (⟨y3,v7.Back,v7.V⟩ : Say)).set (y1.toNat) (⟨v9.Link,((Int.tmod (IntKind.wrap .i64 (y3 + 1)) 3) == 0),v9.V⟩ : Say)).set (y1.toNat) (⟨v10.Link,v10.Back,(⟨(IntKind.wrap .i64 ((IntKind.wrap .i64 (y3 + 1)) + 1)),v10.V.Cost,v10.V.Hops,v10.V.Bridge,v10.V.Port⟩ : Vec)⟩ : Say)).set (y1.toNat) (⟨v11.Link,v11.Back,(⟨v11.V.Root,(IntKind.wrap .i64 ((IntKind.wrap .i64 ((IntKind.wrap .i64 (y3 + 1)) + 1)) + 1)),v11.V.Hops,v11.V.Bridge,v11.V.Port⟩ : Vec)⟩ : Say)).set (y1.toNat) (⟨v12.Link,v12.Back,(⟨v12.V.Root,v12.V.Cost,(IntKind.wrap .i64 ((IntKind.wrap .i64 ((IntKind.wrap .i64 ((IntKind.wrap .i64 (y3 + 1)) + 1)) + 1)) + 1)),v12.V.Bridge,v12.V.Port⟩ : Vec)⟩ : Say)).set (y1.toNat) (⟨v13.Link,v13.Back,(⟨v13.V.Root,v13.V.Cost,v13.V.Hops,(IntKind.wrap .i64 ((IntKind.wrap .i64 ((IntKind.wrap .i64 ((IntKind.wrap .i64 ((IntKind.wrap .i64 (y3 + 1)) + 1)) + 1)) + 1)) + 1)),v13.V.Port⟩ : Vec)⟩ : Say)).set (y1.toNat) (⟨v14.Link,v14.Back,(⟨v14.V.Root,v14.V.Cost,v14.V.Hops,v14.V.Bridge,(IntKind.wrap .i64 ((IntKind.wrap .i64 ((IntKind.wrap .i64 ((IntKind.wrap .i64 ((IntKind.wrap .i64 ((IntKind.wrap .i64 (y3 + 1)) + 1)) + 1)) + 1)) + 1)) + 1))⟩ : Vec)⟩ : Say)) (IntKind.wrap .i64 ((IntKind.wrap .i64 ((IntKind.wrap .i64 ((IntKind.wrap .i64 ((IntKind.wrap .i64 ((IntKind.wrap .i64 ((IntKind.wrap .i64 (y3 + 1)) + 1)) + 1)) + 1)) + 1)) + 1)) + 1))))))))) else none)) else (some (Sum.inl (y2,y3))))
def laws_markSaySF (n : Nat) (x0 : (List Say)) (x1 : Int) : Option (Int × (List Say)) :=
  ((laws_markSayS_L2 n n 0 x0 x1).bind fun o => match o with | .inl (y4,y5) => (laws_markSayS_J1 n y4 y5) | .inr r => some r)
noncomputable abbrev G87 (k : Nat) := Rg Tryz.f87 k
theorem laws_markSayS (n : Nat) (x0 : (List Say)) (x1 : Int) (r : Int × (List Say)) (H : laws_markSaySF n x0 x1 = some r) : LCall Tryz.prog 87 [.io false [.sl true 7 (x0.map Say.row)],.val false [.lit (.int .i64 x1)]] [.val false [.lit (.int .i64 r.1)]] [(0,[.sl true 7 (r.2.map Say.row)])] := by
 refine LCall.of_body tOk Tryz.func87 rfl (c := (.seq (G87 0) (.seq (.seq (G87 1) (.block 0 (.loop (.seq (.seq (G87 2) (.cond (.tmp 9) .skip (.exit 0))) (.seq (.block 1 (.seq (G87 4) (.seq (G87 5) (.seq (G87 6) (.seq (G87 7) (.seq (G87 8) (.seq (G87 9) (.seq (G87 10) (.seq (G87 11) (.seq (G87 12) (.seq (G87 13) (.seq (G87 14) (.seq (G87 15) (.seq (G87 16) (G87 17))))))))))))))) (G87 3)))))) (.seq (G87 18) .ret)))) kr (Nat.le_of_ble_eq_true kr) 1 (rs := [.tmp 4]) rfl [0] (by decide) [(false,[.lit (.int .i64 r.1)])] [[.sl true 7 (r.2.map Say.row)]] [] fun cx => ?_
 show Tr _ _ _ ⟨69,1,[sC 0 (cL 7 x0 Say.row),sI 1 x1],[]⟩ _
 unfold laws_markSaySF at H
 refine tG tOk 1 3 0 kr kr ?_
 refine tS ?_
 refine tG tOk 1 35 0 kr kr ?_
 obtain ⟨o6,eo6,Ho6⟩ := bind_some H
 clear H
 refine Tr.mid (ι := (List Say) × Int) (fun v => ⟨69,1,[sC 0 (cL 7 v.1 Say.row),sI 1 v.2],[]⟩) (fun v => laws_markSayS_J1 n v.1 v.2 = some r) ?_ ?_
 ·refine tB ?_
  refine Tr.loop (ι := Nat × (Int × (List Say) × Int)) (fun v => ⟨69,1,[sI 5 v.2.1,sC 0 (cL 7 v.2.2.1 Say.row),sI 1 v.2.2.2],[]⟩) (fun v => laws_markSayS_L2 n v.1 v.2.1 v.2.2.1 v.2.2.2 = some o6) (fun v => v.1) (n,(0,x0,x1)) eo6 (St.sub_of [5,0,1] [] kr) ?_
  rintro ⟨mo6,y1,y2,y3⟩ H
  have H : laws_markSayS_L2 n mo6 y1 y2 y3 = some o6 := H
  obtain _ | mo6 := mo6
  ·cases (show (none : Option _) = some o6 from H)
  rw [laws_markSayS_L2] at H
  refine tS ?_
  refine rU tOk 2 kr ?_
  refine lL tOk 27 3 195 7 8 none ⟨(.slot 0),[],0,true,7,(y2.map Say.row)⟩ (y2).length _ kr kr kr kr kr (map_len _ _) rfl ?_
  refine uD tOk 1 547 0 kr kr ?_
  obtain ⟨h1,H⟩ | ⟨h1,H⟩ := bC H
  ·refine tF h1 kr ?_
   refine Tr.exit ?_
   refine And.intro (fun _ => ?_) (fun h => absurd rfl h)
   obtain rfl := si H
   have H := Ho6
   dsimp only at H
   exact jn (y2,y3) H (sB_ [0,1] [] kr)
  refine tT h1 kr ?_
  refine tK ?_
  refine tS ?_
  refine tB ?_
  refine rU tOk 3 kr ?_
  obtain ⟨v7,ev7,H⟩ := bind_some H
  refine lO tOk 27 0 12 13 15 none ⟨(.slot 0),[],0,true,7,(y2.map Say.row)⟩ y1 (y1.toNat) (Say.row v7) _ kr kr kr kr rfl kr (idx_isE ev7) rfl rfl ?_
  refine lU tOk 1 kr ?_
  refine lW tOk (t := 3) (ty := 0) (ad := (.tmp 16)) (x := (.tmp 14)) (g := none) (tI 3) false [cI y3] 0 0 (y1.toNat) 7 0 7 y2 Say.row v7 (⟨y3,v7.Back,v7.V⟩ : Say) kr kr kr kr kr kr kr kr (idx_get ev7).2 kr kr kr kr ?_
  refine lD 35 0 kr ?_
  refine tG tOk 3 35 0 kr kr ?_
  refine rU tOk 3 kr ?_
  obtain ⟨hg8,H⟩ := guard_some H
  refine LAt.binC tOk (op := .rem) (t := 3) (ty := 3) (ty' := 3) (x := (.tmp 21)) (y := (.const (.int .i64 3))) (d := 22) (g := none) (.int .i64 (IntKind.wrap .i64 (y3 + 1))) (.int .i64 3) (.int .i64 (Int.tmod (IntKind.wrap .i64 (y3 + 1)) 3)) _ kr kr kr kr kr (φ := (IntKind.i64 = IntKind.i64 ∧ (3 : Int) ≠ 0)) kr (⟨rfl,of_decide_eq_true hg8⟩) rfl ?_
  refine lU tOk 1 kr ?_
  obtain ⟨v9,ev9,H⟩ := bind_some H
  refine lO tOk 27 0 19 20 24 none ⟨(.slot 0),[],0,true,7,((y2.set (y1.toNat) (⟨y3,v7.Back,v7.V⟩ : Say)).map Say.row)⟩ y1 (y1.toNat) (Say.row v9) _ kr kr kr kr rfl kr (idx_isE ev9) rfl rfl ?_
  refine lU tOk 1 kr ?_
  refine lW tOk (t := 4) (ty := 0) (ad := (.tmp 25)) (x := (.tmp 23)) (g := none) (tI 4) false [cB ((Int.tmod (IntKind.wrap .i64 (y3 + 1)) 3) == 0)] 0 0 (y1.toNat) 7 1 7 (y2.set (y1.toNat) (⟨y3,v7.Back,v7.V⟩ : Say)) Say.row v9 (⟨v9.Link,((Int.tmod (IntKind.wrap .i64 (y3 + 1)) 3) == 0),v9.V⟩ : Say) kr kr kr kr kr kr kr kr (idx_get ev9).2 kr kr kr kr ?_
  refine lD 35 0 kr ?_
  refine tG tOk 3 35 0 kr kr ?_
  refine rU tOk 3 kr ?_
  obtain ⟨v10,ev10,H⟩ := bind_some H
  refine lO tOk 27 0 28 29 31 none ⟨(.slot 0),[],0,true,7,(((y2.set (y1.toNat) (⟨y3,v7.Back,v7.V⟩ : Say)).set (y1.toNat) (⟨v9.Link,((Int.tmod (IntKind.wrap .i64 (y3 + 1)) 3) == 0),v9.V⟩ : Say)).map Say.row)⟩ y1 (y1.toNat) (Say.row v10) _ kr kr kr kr rfl kr (idx_isE ev10) rfl rfl ?_
  refine lU tOk 2 kr ?_
  refine lW tOk (t := 3) (ty := 0) (ad := (.tmp 33)) (x := (.tmp 30)) (g := none) (tI 3) false [cI (IntKind.wrap .i64 ((IntKind.wrap .i64 (y3 + 1)) + 1))] 0 0 (y1.toNat) 7 2 7 ((y2.set (y1.toNat) (⟨y3,v7.Back,v7.V⟩ : Say)).set (y1.toNat) (⟨v9.Link,((Int.tmod (IntKind.wrap .i64 (y3 + 1)) 3) == 0),v9.V⟩ : Say)) Say.row v10 (⟨v10.Link,v10.Back,(⟨(IntKind.wrap .i64 ((IntKind.wrap .i64 (y3 + 1)) + 1)),v10.V.Cost,v10.V.Hops,v10.V.Bridge,v10.V.Port⟩ : Vec)⟩ : Say) kr kr kr kr kr kr kr kr (idx_get ev10).2 kr kr kr kr ?_
  refine lD 35 0 kr ?_
  refine tG tOk 3 35 0 kr kr ?_
  refine rU tOk 3 kr ?_
  obtain ⟨v11,ev11,H⟩ := bind_some H
  refine lO tOk 27 0 36 37 39 none ⟨(.slot 0),[],0,true,7,((((y2.set (y1.toNat) (⟨y3,v7.Back,v7.V⟩ : Say)).set (y1.toNat) (⟨v9.Link,((Int.tmod (IntKind.wrap .i64 (y3 + 1)) 3) == 0),v9.V⟩ : Say)).set (y1.toNat) (⟨v10.Link,v10.Back,(⟨(IntKind.wrap .i64 ((IntKind.wrap .i64 (y3 + 1)) + 1)),v10.V.Cost,v10.V.Hops,v10.V.Bridge,v10.V.Port⟩ : Vec)⟩ : Say)).map Say.row)⟩ y1 (y1.toNat) (Say.row v11) _ kr kr kr kr rfl kr (idx_isE ev11) rfl rfl ?_
  refine lU tOk 2 kr ?_
  refine lW tOk (t := 3) (ty := 0) (ad := (.tmp 41)) (x := (.tmp 38)) (g := none) (tI 3) false [cI (IntKind.wrap .i64 ((IntKind.wrap .i64 ((IntKind.wrap .i64 (y3 + 1)) + 1)) + 1))] 0 0 (y1.toNat) 7 3 7 (((y2.set (y1.toNat) (⟨y3,v7.Back,v7.V⟩ : Say)).set (y1.toNat) (⟨v9.Link,((Int.tmod (IntKind.wrap .i64 (y3 + 1)) 3) == 0),v9.V⟩ : Say)).set (y1.toNat) (⟨v10.Link,v10.Back,(⟨(IntKind.wrap .i64 ((IntKind.wrap .i64 (y3 + 1)) + 1)),v10.V.Cost,v10.V.Hops,v10.V.Bridge,v10.V.Port⟩ : Vec)⟩ : Say)) Say.row v11 (⟨v11.Link,v11.Back,(⟨v11.V.Root,(IntKind.wrap .i64 ((IntKind.wrap .i64 ((IntKind.wrap .i64 (y3 + 1)) + 1)) + 1)),v11.V.Hops,v11.V.Bridge,v11.V.Port⟩ : Vec)⟩ : Say) kr kr kr kr kr kr kr kr (idx_get ev11).2 kr kr kr kr ?_
  refine lD 35 0 kr ?_
  refine tG tOk 3 35 0 kr kr ?_
  refine rU tOk 3 kr ?_
  obtain ⟨v12,ev12,H⟩ := bind_some H
  refine lO tOk 27 0 44 45 47 none ⟨(.slot 0),[],0,true,7,(((((y2.set (y1.toNat) (⟨y3,v7.Back,v7.V⟩ : Say)).set (y1.toNat) (⟨v9.Link,((Int.tmod (IntKind.wrap .i64 (y3 + 1)) 3) == 0),v9.V⟩ : Say)).set (y1.toNat) (⟨v10.Link,v10.Back,(⟨(IntKind.wrap .i64 ((IntKind.wrap .i64 (y3 + 1)) + 1)),v10.V.Cost,v10.V.Hops,v10.V.Bridge,v10.V.Port⟩ : Vec)⟩ : Say)).set (y1.toNat) (⟨v11.Link,v11.Back,(⟨v11.V.Root,(IntKind.wrap .i64 ((IntKind.wrap .i64 ((IntKind.wrap .i64 (y3 + 1)) + 1)) + 1)),v11.V.Hops,v11.V.Bridge,v11.V.Port⟩ : Vec)⟩ : Say)).map Say.row)⟩ y1 (y1.toNat) (Say.row v12) _ kr kr kr kr rfl kr (idx_isE ev12) rfl rfl ?_
  refine lU tOk 2 kr ?_
  refine lW tOk (t := 3) (ty := 0) (ad := (.tmp 49)) (x := (.tmp 46)) (g := none) (tI 3) false [cI (IntKind.wrap .i64 ((IntKind.wrap .i64 ((IntKind.wrap .i64 ((IntKind.wrap .i64 (y3 + 1)) + 1)) + 1)) + 1))] 0 0 (y1.toNat) 7 4 7 ((((y2.set (y1.toNat) (⟨y3,v7.Back,v7.V⟩ : Say)).set (y1.toNat) (⟨v9.Link,((Int.tmod (IntKind.wrap .i64 (y3 + 1)) 3) == 0),v9.V⟩ : Say)).set (y1.toNat) (⟨v10.Link,v10.Back,(⟨(IntKind.wrap .i64 ((IntKind.wrap .i64 (y3 + 1)) + 1)),v10.V.Cost,v10.V.Hops,v10.V.Bridge,v10.V.Port⟩ : Vec)⟩ : Say)).set (y1.toNat) (⟨v11.Link,v11.Back,(⟨v11.V.Root,(IntKind.wrap .i64 ((IntKind.wrap .i64 ((IntKind.wrap .i64 (y3 + 1)) + 1)) + 1)),v11.V.Hops,v11.V.Bridge,v11.V.Port⟩ : Vec)⟩ : Say)) Say.row v12 (⟨v12.Link,v12.Back,(⟨v12.V.Root,v12.V.Cost,(IntKind.wrap .i64 ((IntKind.wrap .i64 ((IntKind.wrap .i64 ((IntKind.wrap .i64 (y3 + 1)) + 1)) + 1)) + 1)),v12.V.Bridge,v12.V.Port⟩ : Vec)⟩ : Say) kr kr kr kr kr kr kr kr (idx_get ev12).2 kr kr kr kr ?_
  refine lD 35 0 kr ?_
  refine tG tOk 3 35 0 kr kr ?_
  refine rU tOk 3 kr ?_
  obtain ⟨v13,ev13,H⟩ := bind_some H
  refine lO tOk 27 0 52 53 55 none ⟨(.slot 0),[],0,true,7,((((((y2.set (y1.toNat) (⟨y3,v7.Back,v7.V⟩ : Say)).set (y1.toNat) (⟨v9.Link,((Int.tmod (IntKind.wrap .i64 (y3 + 1)) 3) == 0),v9.V⟩ : Say)).set (y1.toNat) (⟨v10.Link,v10.Back,(⟨(IntKind.wrap .i64 ((IntKind.wrap .i64 (y3 + 1)) + 1)),v10.V.Cost,v10.V.Hops,v10.V.Bridge,v10.V.Port⟩ : Vec)⟩ : Say)).set (y1.toNat) (⟨v11.Link,v11.Back,(⟨v11.V.Root,(IntKind.wrap .i64 ((IntKind.wrap .i64 ((IntKind.wrap .i64 (y3 + 1)) + 1)) + 1)),v11.V.Hops,v11.V.Bridge,v11.V.Port⟩ : Vec)⟩ : Say)).set (y1.toNat) (⟨v12.Link,v12.Back,(⟨v12.V.Root,v12.V.Cost,(IntKind.wrap .i64 ((IntKind.wrap .i64 ((IntKind.wrap .i64 ((IntKind.wrap .i64 (y3 + 1)) + 1)) + 1)) + 1)),v12.V.Bridge,v12.V.Port⟩ : Vec)⟩ : Say)).map Say.row)⟩ y1 (y1.toNat) (Say.row v13) _ kr kr kr kr rfl kr (idx_isE ev13) rfl rfl ?_
  refine lU tOk 2 kr ?_
  refine lW tOk (t := 3) (ty := 0) (ad := (.tmp 57)) (x := (.tmp 54)) (g := none) (tI 3) false [cI (IntKind.wrap .i64 ((IntKind.wrap .i64 ((IntKind.wrap .i64 ((IntKind.wrap .i64 ((IntKind.wrap .i64 (y3 + 1)) + 1)) + 1)) + 1)) + 1))] 0 0 (y1.toNat) 7 5 7 (((((y2.set (y1.toNat) (⟨y3,v7.Back,v7.V⟩ : Say)).set (y1.toNat) (⟨v9.Link,((Int.tmod (IntKind.wrap .i64 (y3 + 1)) 3) == 0),v9.V⟩ : Say)).set (y1.toNat) (⟨v10.Link,v10.Back,(⟨(IntKind.wrap .i64 ((IntKind.wrap .i64 (y3 + 1)) + 1)),v10.V.Cost,v10.V.Hops,v10.V.Bridge,v10.V.Port⟩ : Vec)⟩ : Say)).set (y1.toNat) (⟨v11.Link,v11.Back,(⟨v11.V.Root,(IntKind.wrap .i64 ((IntKind.wrap .i64 ((IntKind.wrap .i64 (y3 + 1)) + 1)) + 1)),v11.V.Hops,v11.V.Bridge,v11.V.Port⟩ : Vec)⟩ : Say)).set (y1.toNat) (⟨v12.Link,v12.Back,(⟨v12.V.Root,v12.V.Cost,(IntKind.wrap .i64 ((IntKind.wrap .i64 ((IntKind.wrap .i64 ((IntKind.wrap .i64 (y3 + 1)) + 1)) + 1)) + 1)),v12.V.Bridge,v12.V.Port⟩ : Vec)⟩ : Say)) Say.row v13 (⟨v13.Link,v13.Back,(⟨v13.V.Root,v13.V.Cost,v13.V.Hops,(IntKind.wrap .i64 ((IntKind.wrap .i64 ((IntKind.wrap .i64 ((IntKind.wrap .i64 ((IntKind.wrap .i64 (y3 + 1)) + 1)) + 1)) + 1)) + 1)),v13.V.Port⟩ : Vec)⟩ : Say) kr kr kr kr kr kr kr kr (idx_get ev13).2 kr kr kr kr ?_
  refine lD 35 0 kr ?_
  refine tG tOk 3 35 0 kr kr ?_
  refine rU tOk 3 kr ?_
  obtain ⟨v14,ev14,H⟩ := bind_some H
  refine lO tOk 27 0 60 61 63 none ⟨(.slot 0),[],0,true,7,(((((((y2.set (y1.toNat) (⟨y3,v7.Back,v7.V⟩ : Say)).set (y1.toNat) (⟨v9.Link,((Int.tmod (IntKind.wrap .i64 (y3 + 1)) 3) == 0),v9.V⟩ : Say)).set (y1.toNat) (⟨v10.Link,v10.Back,(⟨(IntKind.wrap .i64 ((IntKind.wrap .i64 (y3 + 1)) + 1)),v10.V.Cost,v10.V.Hops,v10.V.Bridge,v10.V.Port⟩ : Vec)⟩ : Say)).set (y1.toNat) (⟨v11.Link,v11.Back,(⟨v11.V.Root,(IntKind.wrap .i64 ((IntKind.wrap .i64 ((IntKind.wrap .i64 (y3 + 1)) + 1)) + 1)),v11.V.Hops,v11.V.Bridge,v11.V.Port⟩ : Vec)⟩ : Say)).set (y1.toNat) (⟨v12.Link,v12.Back,(⟨v12.V.Root,v12.V.Cost,(IntKind.wrap .i64 ((IntKind.wrap .i64 ((IntKind.wrap .i64 ((IntKind.wrap .i64 (y3 + 1)) + 1)) + 1)) + 1)),v12.V.Bridge,v12.V.Port⟩ : Vec)⟩ : Say)).set (y1.toNat) (⟨v13.Link,v13.Back,(⟨v13.V.Root,v13.V.Cost,v13.V.Hops,(IntKind.wrap .i64 ((IntKind.wrap .i64 ((IntKind.wrap .i64 ((IntKind.wrap .i64 ((IntKind.wrap .i64 (y3 + 1)) + 1)) + 1)) + 1)) + 1)),v13.V.Port⟩ : Vec)⟩ : Say)).map Say.row)⟩ y1 (y1.toNat) (Say.row v14) _ kr kr kr kr rfl kr (idx_isE ev14) rfl rfl ?_
  refine lU tOk 2 kr ?_
  refine lW tOk (t := 3) (ty := 0) (ad := (.tmp 65)) (x := (.tmp 62)) (g := none) (tI 3) false [cI (IntKind.wrap .i64 ((IntKind.wrap .i64 ((IntKind.wrap .i64 ((IntKind.wrap .i64 ((IntKind.wrap .i64 ((IntKind.wrap .i64 (y3 + 1)) + 1)) + 1)) + 1)) + 1)) + 1))] 0 0 (y1.toNat) 7 6 7 ((((((y2.set (y1.toNat) (⟨y3,v7.Back,v7.V⟩ : Say)).set (y1.toNat) (⟨v9.Link,((Int.tmod (IntKind.wrap .i64 (y3 + 1)) 3) == 0),v9.V⟩ : Say)).set (y1.toNat) (⟨v10.Link,v10.Back,(⟨(IntKind.wrap .i64 ((IntKind.wrap .i64 (y3 + 1)) + 1)),v10.V.Cost,v10.V.Hops,v10.V.Bridge,v10.V.Port⟩ : Vec)⟩ : Say)).set (y1.toNat) (⟨v11.Link,v11.Back,(⟨v11.V.Root,(IntKind.wrap .i64 ((IntKind.wrap .i64 ((IntKind.wrap .i64 (y3 + 1)) + 1)) + 1)),v11.V.Hops,v11.V.Bridge,v11.V.Port⟩ : Vec)⟩ : Say)).set (y1.toNat) (⟨v12.Link,v12.Back,(⟨v12.V.Root,v12.V.Cost,(IntKind.wrap .i64 ((IntKind.wrap .i64 ((IntKind.wrap .i64 ((IntKind.wrap .i64 (y3 + 1)) + 1)) + 1)) + 1)),v12.V.Bridge,v12.V.Port⟩ : Vec)⟩ : Say)).set (y1.toNat) (⟨v13.Link,v13.Back,(⟨v13.V.Root,v13.V.Cost,v13.V.Hops,(IntKind.wrap .i64 ((IntKind.wrap .i64 ((IntKind.wrap .i64 ((IntKind.wrap .i64 ((IntKind.wrap .i64 (y3 + 1)) + 1)) + 1)) + 1)) + 1)),v13.V.Port⟩ : Vec)⟩ : Say)) Say.row v14 (⟨v14.Link,v14.Back,(⟨v14.V.Root,v14.V.Cost,v14.V.Hops,v14.V.Bridge,(IntKind.wrap .i64 ((IntKind.wrap .i64 ((IntKind.wrap .i64 ((IntKind.wrap .i64 ((IntKind.wrap .i64 ((IntKind.wrap .i64 (y3 + 1)) + 1)) + 1)) + 1)) + 1)) + 1))⟩ : Vec)⟩ : Say) kr kr kr kr kr kr kr kr (idx_get ev14).2 kr kr kr kr ?_
  refine lD 35 0 kr ?_
  refine tE tOk 3 35 0 kr kr ?_
  refine tE tOk 3 35 0 kr kr ?_
  exact jn (mo6,((IntKind.wrap .i64 (y1 + 1)),(((((((y2.set (y1.toNat) (⟨y3,v7.Back,v7.V⟩ : Say)).set (y1.toNat) (⟨v9.Link,((Int.tmod (IntKind.wrap .i64 (y3 + 1)) 3) == 0),v9.V⟩ : Say)).set (y1.toNat) (⟨v10.Link,v10.Back,(⟨(IntKind.wrap .i64 ((IntKind.wrap .i64 (y3 + 1)) + 1)),v10.V.Cost,v10.V.Hops,v10.V.Bridge,v10.V.Port⟩ : Vec)⟩ : Say)).set (y1.toNat) (⟨v11.Link,v11.Back,(⟨v11.V.Root,(IntKind.wrap .i64 ((IntKind.wrap .i64 ((IntKind.wrap .i64 (y3 + 1)) + 1)) + 1)),v11.V.Hops,v11.V.Bridge,v11.V.Port⟩ : Vec)⟩ : Say)).set (y1.toNat) (⟨v12.Link,v12.Back,(⟨v12.V.Root,v12.V.Cost,(IntKind.wrap .i64 ((IntKind.wrap .i64 ((IntKind.wrap .i64 ((IntKind.wrap .i64 (y3 + 1)) + 1)) + 1)) + 1)),v12.V.Bridge,v12.V.Port⟩ : Vec)⟩ : Say)).set (y1.toNat) (⟨v13.Link,v13.Back,(⟨v13.V.Root,v13.V.Cost,v13.V.Hops,(IntKind.wrap .i64 ((IntKind.wrap .i64 ((IntKind.wrap .i64 ((IntKind.wrap .i64 ((IntKind.wrap .i64 (y3 + 1)) + 1)) + 1)) + 1)) + 1)),v13.V.Port⟩ : Vec)⟩ : Say)).set (y1.toNat) (⟨v14.Link,v14.Back,(⟨v14.V.Root,v14.V.Cost,v14.V.Hops,v14.V.Bridge,(IntKind.wrap .i64 ((IntKind.wrap .i64 ((IntKind.wrap .i64 ((IntKind.wrap .i64 ((IntKind.wrap .i64 ((IntKind.wrap .i64 (y3 + 1)) + 1)) + 1)) + 1)) + 1)) + 1))⟩ : Vec)⟩ : Say)),(IntKind.wrap .i64 ((IntKind.wrap .i64 ((IntKind.wrap .i64 ((IntKind.wrap .i64 ((IntKind.wrap .i64 ((IntKind.wrap .i64 ((IntKind.wrap .i64 (y3 + 1)) + 1)) + 1)) + 1)) + 1)) + 1)) + 1)))) H (sM mo6 [5,0,1] [] kr)
 rintro ⟨y4,y5⟩ H
 have H : (laws_markSayS_J1 n y4 y5) = some r := H
 unfold laws_markSayS_J1 at H
 refine tG tOk 2 17 0 kr kr ?_
 refine te ?_
 obtain rfl := si H
 exact Fin.ofY _ [(false,[cI y5])] [false] _ [[cL 7 y4 Say.row]] _ [] kr rfl rfl rfl kr kr kr kr rfl rfl rfl
def laws_markNetF (n : Nat) (x0 : Net) (x1 : Int) : Option (Int × Net) :=
  ((laws_markBridgeSF n x0.Bridges x1).bind fun r1 => ((laws_markLinkSF n x0.Links r1.1).bind fun r2 => ((laws_markSaySF n x0.Said r2.1).bind fun r3 => (some (r3.1,(⟨r1.2,r2.2,r3.2⟩ : Net))))))
noncomputable abbrev G22 (k : Nat) := Rg Tryz.f22 k
theorem laws_markNet (n : Nat) (x0 : Net) (x1 : Int) (r : Int × Net) (H : laws_markNetF n x0 x1 = some r) : LCall Tryz.prog 22 [.io true (Net.row x0),.val false [.lit (.int .i64 x1)]] [.val false [.lit (.int .i64 r.1)]] [(0,(Net.row r.2))] := by
 refine LCall.of_body tOk Tryz.func22 rfl (c := (.seq (G22 0) (.seq (G22 1) (.seq (G22 2) (.seq (G22 3) (.seq (G22 4) .ret)))))) kr (Nat.le_of_ble_eq_true kr) 1 (rs := [.tmp 4]) rfl [0] (by decide) [(false,[.lit (.int .i64 r.1)])] [(Net.row r.2)] [] fun cx => ?_
 show Tr _ _ _ ⟨18,1,[sV 0 (Net.row x0),sI 1 x1],[]⟩ _
 unfold laws_markNetF at H
 refine tR ?_
 refine LAt.boxK (T := lk tab) (t := 29) (ty := 0) (x := 0) (d := 2) (g := none) true (Net.row x0) kr kr kr kr kr kr ?_
 refine uD tOk 1 7 4 kr kr ?_
 refine rU tOk 3 kr ?_
 obtain ⟨r1,er1,H⟩ := bind_some H
 refine LAt.callL tOk [.lend,.rd] (f := 86) (av := #[.tmp 6,.tmp 7]) (ats := #[25,3]) (d := (some 8)) (ty := 3) (g := none) kr kr kr [] (laws_markBridgeS n x0.Bridges x1 r1 er1) kr (.inl rfl) ?_
 refine uD tOk 1 7 4 kr kr ?_
 refine rU tOk 3 kr ?_
 obtain ⟨r2,er2,H⟩ := bind_some H
 refine LAt.callL tOk [.lend,.rd] (f := 21) (av := #[.tmp 10,.tmp 11]) (ats := #[26,3]) (d := (some 12)) (ty := 3) (g := none) kr kr kr [] (laws_markLinkS n x0.Links r1.1 r2 er2) kr (.inl rfl) ?_
 refine uD tOk 1 7 4 kr kr ?_
 refine rU tOk 3 kr ?_
 obtain ⟨r3,er3,H⟩ := bind_some H
 refine LAt.callL tOk [.lend,.rd] (f := 87) (av := #[.tmp 14,.tmp 15]) (ats := #[27,3]) (d := (some 16)) (ty := 3) (g := none) kr kr kr [] (laws_markSayS n x0.Said r2.1 r3 er3) kr (.inl rfl) ?_
 refine uD tOk 1 3 4 kr kr ?_
 refine tG tOk 2 17 4 kr kr ?_
 refine te ?_
 obtain rfl := si H
 exact Fin.ofY _ [(false,[cI r3.1])] [true] _ [[cL 11 r1.2 Bridge.row,cL 4 r2.2 Link.row,cL 7 r3.2 Say.row]] _ [] kr rfl rfl rfl kr kr kr kr rfl rfl rfl
def laws_heldPtS_J1 (n : Nat) (y3 : Int) : Option (Int) :=
  (some y3)
def laws_heldPtS_L2 (n : Nat) : Nat → (List Pt) → Int → Int → Option ((Int) ⊕ (Int))
  | 0,_,_,_ => none
  | mo4 + 1,x0,y1,y2 => (bif (decide (y1 < (x0.length : Int))) then ((idx x0 y1).bind fun v5 => (bif (decide ((3 : Int) ≠ 0)) then (bif (!(v5.Up == ((Int.tmod y2 3) == 0))) then (some (Sum.inr (-1))) else ((idx x0 y1).bind fun v7 => (bif (v7.Cost != (IntKind.wrap .i64 (y2 + 1))) then (some (Sum.inr (-1))) else ((idx x0 y1).bind fun v8 => (bif (decide ((3 : Int) ≠ 0)) then (bif (!(v8.Has == ((Int.tmod (IntKind.wrap .i64 ((IntKind.wrap .i64 (y2 + 1)) + 1)) 3) == 0))) then (some (Sum.inr (-1))) else ((idx x0 y1).bind fun v10 => (bif (v10.Heard.Root != (IntKind.wrap .i64 ((IntKind.wrap .i64 ((IntKind.wrap .i64 (y2 + 1)) + 1)) + 1))) then (some (Sum.inr (-1))) else ((idx x0 y1).bind fun v11 => (bif (v11.Heard.Cost != (IntKind.wrap .i64 ((IntKind.wrap .i64 ((IntKind.wrap .i64 ((IntKind.wrap .i64 (y2 + 1)) + 1)) + 1)) + 1))) then (some (Sum.inr (-1))) else ((idx x0 y1).bind fun v12 => (bif (v12.Heard.Hops != (IntKind.wrap .i64 ((IntKind.wrap .i64 ((IntKind.wrap .i64 ((IntKind.wrap .i64 ((IntKind.wrap .i64 (y2 + 1)) + 1)) + 1)) + 1)) + 1))) then (some (Sum.inr (-1))) else ((idx x0 y1).bind fun v13 => (bif (v13.Heard.Bridge != (IntKind.wrap .i64 ((IntKind.wrap .i64 ((IntKind.wrap .i64 ((IntKind.wrap .i64 ((IntKind.wrap .i64 ((IntKind.wrap .i64 (y2 + 1)) + 1)) + 1)) + 1)) + 1)) + 1))) then (some (Sum.inr (-1))) else ((idx x0 y1).bind fun v14 => (bif (v14.Heard.Port != (IntKind.wrap .i64 ((IntKind.wrap .i64 ((IntKind.wrap .i64 ((IntKind.wrap .i64 ((IntKind.wrap .i64 ((IntKind.wrap .i64 ((IntKind.wrap .i64 (y2 + 1)) + 1)) + 1)) + 1)) + 1)) + 1)) + 1))) then (some (Sum.inr (-1))) else (laws_heldPtS_L2 n mo4 x0 (IntKind.wrap .i64 (y1 + 1)) (IntKind.wrap .i64 ((IntKind.wrap .i64 ((IntKind.wrap .i64 ((IntKind.wrap .i64 ((IntKind.wrap .i64 ((IntKind.wrap .i64 ((IntKind.wrap .i64 ((IntKind.wrap .i64 (y2 + 1)) + 1)) + 1)) + 1)) + 1)) + 1)) + 1)) + 1)))))))))))))) else none))))) else none)) else (some (Sum.inl y2)))
def laws_heldPtSF (n : Nat) (x0 : (List Pt)) (x1 : Int) : Option (Int) :=
  ((laws_heldPtS_L2 n n x0 0 x1).bind fun o => match o with | .inl y3 => (laws_heldPtS_J1 n y3) | .inr r => some r)
noncomputable abbrev G126 (k : Nat) := Rg Tryz.f126 k
theorem laws_heldPtS (n : Nat) (x0 : (List Pt)) (x1 : Int) (r : Int) (H : laws_heldPtSF n x0 x1 = some r) : LCall Tryz.prog 126 [.val false [.sl false 8 (CV.frzEs (x0.map Pt.row))],.val false [.lit (.int .i64 x1)]] [.val false [.lit (.int .i64 r)]] [] := by
 refine LCall.of_body tOk Tryz.func126 rfl (c := (.seq (G126 0) (.seq (.seq (G126 1) (.block 0 (.loop (.seq (.seq (G126 2) (.cond (.tmp 9) .skip (.exit 0))) (.seq (.block 1 (.seq (.seq (G126 4) (.cond (.tmp 20) (.seq (G126 5) .ret) .skip)) (.seq (G126 6) (.seq (.seq (G126 7) (.cond (.tmp 29) (.seq (G126 8) .ret) .skip)) (.seq (G126 9) (.seq (.seq (G126 10) (.cond (.tmp 40) (.seq (G126 11) .ret) .skip)) (.seq (G126 12) (.seq (.seq (G126 13) (.cond (.tmp 50) (.seq (G126 14) .ret) .skip)) (.seq (G126 15) (.seq (.seq (G126 16) (.cond (.tmp 60) (.seq (G126 17) .ret) .skip)) (.seq (G126 18) (.seq (.seq (G126 19) (.cond (.tmp 70) (.seq (G126 20) .ret) .skip)) (.seq (G126 21) (.seq (.seq (G126 22) (.cond (.tmp 80) (.seq (G126 23) .ret) .skip)) (.seq (G126 24) (.seq (.seq (G126 25) (.cond (.tmp 90) (.seq (G126 26) .ret) .skip)) (G126 27))))))))))))))))) (G126 3)))))) (.seq (G126 28) .ret)))) kr (Nat.le_of_ble_eq_true kr) 0 (rs := [.tmp 4]) rfl [] .nil [(false,[.lit (.int .i64 r)])] [] [] fun cx => ?_
 show Tr _ _ _ ⟨94,0,[sC 0 (cF 8 x0 Pt.row),sI 1 x1],[]⟩ _
 unfold laws_heldPtSF at H
 refine tG tOk 1 3 0 kr kr ?_
 refine tS ?_
 refine tG tOk 1 35 0 kr kr ?_
 obtain ⟨o4,eo4,Ho4⟩ := bind_some H
 clear H
 refine Tr.mid (ι := Int) (fun v => ⟨94,0,[sI 1 v],[]⟩) (fun v => laws_heldPtS_J1 n v = some r) ?_ ?_
 ·refine tB ?_
  refine Tr.loop (ι := Nat × (Int × Int)) (fun v => ⟨94,0,[sI 5 v.2.1,sC 0 (cF 8 x0 Pt.row),sI 1 v.2.2],[]⟩) (fun v => laws_heldPtS_L2 n v.1 x0 v.2.1 v.2.2 = some o4) (fun v => v.1) (n,(0,x1)) eo4 (St.sub_of [5,0,1] [] kr) ?_
  rintro ⟨mo4,y1,y2⟩ H
  have H : laws_heldPtS_L2 n mo4 x0 y1 y2 = some o4 := H
  obtain _ | mo4 := mo4
  ·cases (show (none : Option _) = some o4 from H)
  rw [laws_heldPtS_L2] at H
  refine tS ?_
  refine rU tOk 2 kr ?_
  refine lL tOk 52 3 182 7 8 none ⟨(.slot 7),[],0,false,8,(CV.frzEs (x0.map Pt.row))⟩ (x0).length _ kr kr kr kr kr (frz_len _ _) rfl ?_
  refine uD tOk 1 547 0 kr kr ?_
  obtain ⟨h1,H⟩ | ⟨h1,H⟩ := bC H
  ·refine tF h1 kr ?_
   refine Tr.exit ?_
   refine And.intro (fun _ => ?_) (fun h => absurd rfl h)
   obtain rfl := si H
   have H := Ho4
   dsimp only at H
   exact jn y2 H (sB_ [1] [] kr)
  refine tT h1 kr ?_
  refine tK ?_
  refine tS ?_
  refine tB ?_
  refine tS ?_
  refine rU tOk 2 kr ?_
  obtain ⟨v5,ev5,H⟩ := bind_some H
  refine lI tOk 52 0 12 13 14 none ⟨(.slot 12),[],0,false,8,(CV.frzEs (x0.map Pt.row))⟩ y1 (Pt.row v5) _ kr kr kr kr rfl (idx_isF ev5) rfl ?_
  refine lU tOk 3 kr ?_
  obtain ⟨hg6,H⟩ := guard_some H
  refine LAt.binC tOk (op := .rem) (t := 3) (ty := 3) (ty' := 3) (x := (.tmp 17)) (y := (.const (.int .i64 3))) (d := 18) (g := none) (.int .i64 y2) (.int .i64 3) (.int .i64 (Int.tmod y2 3)) _ kr kr kr kr kr (φ := (IntKind.i64 = IntKind.i64 ∧ (3 : Int) ≠ 0)) kr (⟨rfl,of_decide_eq_true hg6⟩) rfl ?_
  refine uD tOk 2 1048611 0 kr kr ?_
  obtain ⟨h2,H⟩ | ⟨h2,H⟩ := bC H
  ·refine tF h2 kr ?_
   refine tK ?_
   refine tG tOk 3 35 0 kr kr ?_
   refine tS ?_
   refine rU tOk 2 kr ?_
   obtain ⟨v7,ev7,H⟩ := bind_some H
   refine lI tOk 52 0 23 24 25 none ⟨(.slot 23),[],0,false,8,(CV.frzEs (x0.map Pt.row))⟩ y1 (Pt.row v7) _ kr kr kr kr rfl (idx_isF ev7) rfl ?_
   refine uD tOk 4 536870947 0 kr kr ?_
   obtain ⟨h3,H⟩ | ⟨h3,H⟩ := bC H
   ·refine tF h3 kr ?_
    refine tK ?_
    refine tG tOk 3 35 0 kr kr ?_
    refine tS ?_
    refine rU tOk 2 kr ?_
    obtain ⟨v8,ev8,H⟩ := bind_some H
    refine lI tOk 52 0 32 33 34 none ⟨(.slot 32),[],0,false,8,(CV.frzEs (x0.map Pt.row))⟩ y1 (Pt.row v8) _ kr kr kr kr rfl (idx_isF ev8) rfl ?_
    refine lU tOk 3 kr ?_
    obtain ⟨hg9,H⟩ := guard_some H
    refine LAt.binC tOk (op := .rem) (t := 3) (ty := 3) (ty' := 3) (x := (.tmp 37)) (y := (.const (.int .i64 3))) (d := 38) (g := none) (.int .i64 (IntKind.wrap .i64 ((IntKind.wrap .i64 (y2 + 1)) + 1))) (.int .i64 3) (.int .i64 (Int.tmod (IntKind.wrap .i64 ((IntKind.wrap .i64 (y2 + 1)) + 1)) 3)) _ kr kr kr kr kr (φ := (IntKind.i64 = IntKind.i64 ∧ (3 : Int) ≠ 0)) kr (⟨rfl,of_decide_eq_true hg9⟩) rfl ?_
    refine uD tOk 2 1099511627811 0 kr kr ?_
    refine tO ⟨94,0,[sB 40 (!(v8.Has == ((Int.tmod (IntKind.wrap .i64 ((IntKind.wrap .i64 (y2 + 1)) + 1)) 3) == 0))),sI 1 (IntKind.wrap .i64 ((IntKind.wrap .i64 (y2 + 1)) + 1)),sI 5 y1,sC 0 (cF 8 x0 Pt.row)],[]⟩ kr ?_
    cases h4 : (!(v8.Has == ((Int.tmod (IntKind.wrap .i64 ((IntKind.wrap .i64 (y2 + 1)) + 1)) 3) == 0)))
    ·have H := bifF h4 H
     refine tf kr ?_
     refine tK ?_
     refine tG tOk 3 35 0 kr kr ?_
     refine tS ?_
     refine rU tOk 2 kr ?_
     obtain ⟨v10,ev10,H⟩ := bind_some H
     refine lI tOk 52 0 43 44 45 none ⟨(.slot 43),[],0,false,8,(CV.frzEs (x0.map Pt.row))⟩ y1 (Pt.row v10) _ kr kr kr kr rfl (idx_isF ev10) rfl ?_
     refine uD tOk 5 0x4000000000023 0 kr kr ?_
     obtain ⟨h5,H⟩ | ⟨h5,H⟩ := bC H
     ·refine tF h5 kr ?_
      refine tK ?_
      refine tG tOk 3 35 0 kr kr ?_
      refine tS ?_
      refine rU tOk 2 kr ?_
      obtain ⟨v11,ev11,H⟩ := bind_some H
      refine lI tOk 52 0 53 54 55 none ⟨(.slot 53),[],0,false,8,(CV.frzEs (x0.map Pt.row))⟩ y1 (Pt.row v11) _ kr kr kr kr rfl (idx_isF ev11) rfl ?_
      refine uD tOk 5 0x1000000000000023 0 kr kr ?_
      obtain ⟨h6,H⟩ | ⟨h6,H⟩ := bC H
      ·refine tF h6 kr ?_
       refine tK ?_
       refine tG tOk 3 35 0 kr kr ?_
       refine tS ?_
       refine rU tOk 2 kr ?_
       obtain ⟨v12,ev12,H⟩ := bind_some H
       refine lI tOk 52 0 63 64 65 none ⟨(.slot 63),[],0,false,8,(CV.frzEs (x0.map Pt.row))⟩ y1 (Pt.row v12) _ kr kr kr kr rfl (idx_isF ev12) rfl ?_
       refine uD tOk 5 0x400000000000000023 0 kr kr ?_
       obtain ⟨h7,H⟩ | ⟨h7,H⟩ := bC H
       ·refine tF h7 kr ?_
        refine tK ?_
        refine tG tOk 3 35 0 kr kr ?_
        refine tS ?_
        refine rU tOk 2 kr ?_
        obtain ⟨v13,ev13,H⟩ := bind_some H
        refine lI tOk 52 0 73 74 75 none ⟨(.slot 73),[],0,false,8,(CV.frzEs (x0.map Pt.row))⟩ y1 (Pt.row v13) _ kr kr kr kr rfl (idx_isF ev13) rfl ?_
        refine uD tOk 5 0x100000000000000000023 0 kr kr ?_
        refine tO ⟨94,0,[sB 80 (v13.Heard.Bridge != (IntKind.wrap .i64 ((IntKind.wrap .i64 ((IntKind.wrap .i64 ((IntKind.wrap .i64 ((IntKind.wrap .i64 ((IntKind.wrap .i64 (y2 + 1)) + 1)) + 1)) + 1)) + 1)) + 1))),sI 1 (IntKind.wrap .i64 ((IntKind.wrap .i64 ((IntKind.wrap .i64 ((IntKind.wrap .i64 ((IntKind.wrap .i64 ((IntKind.wrap .i64 (y2 + 1)) + 1)) + 1)) + 1)) + 1)) + 1)),sI 5 y1,sC 0 (cF 8 x0 Pt.row)],[]⟩ kr ?_
        cases h8 : (v13.Heard.Bridge != (IntKind.wrap .i64 ((IntKind.wrap .i64 ((IntKind.wrap .i64 ((IntKind.wrap .i64 ((IntKind.wrap .i64 ((IntKind.wrap .i64 (y2 + 1)) + 1)) + 1)) + 1)) + 1)) + 1)))
        ·have H := bifF h8 H
         refine tf kr ?_
         refine tK ?_
         refine tG tOk 3 35 0 kr kr ?_
         refine tS ?_
         refine rU tOk 2 kr ?_
         obtain ⟨v14,ev14,H⟩ := bind_some H
         refine lI tOk 52 0 83 84 85 none ⟨(.slot 83),[],0,false,8,(CV.frzEs (x0.map Pt.row))⟩ y1 (Pt.row v14) _ kr kr kr kr rfl (idx_isF ev14) rfl ?_
         refine uD tOk 5 0x40000000000000000000023 0 kr kr ?_
         obtain ⟨h9,H⟩ | ⟨h9,H⟩ := bC H
         ·refine tF h9 kr ?_
          refine tK ?_
          refine tE tOk 3 35 0 kr kr ?_
          refine tE tOk 3 35 0 kr kr ?_
          exact jn (mo4,((IntKind.wrap .i64 (y1 + 1)),(IntKind.wrap .i64 ((IntKind.wrap .i64 ((IntKind.wrap .i64 ((IntKind.wrap .i64 ((IntKind.wrap .i64 ((IntKind.wrap .i64 ((IntKind.wrap .i64 ((IntKind.wrap .i64 (y2 + 1)) + 1)) + 1)) + 1)) + 1)) + 1)) + 1)) + 1)))) H (sM mo4 [5,0,1] [] kr)
         refine tT h9 kr ?_
         refine tG tOk 1 16 0 kr kr ?_
         refine te ?_
         obtain rfl := si H
         have H := Ho4
         dsimp only at H
         obtain rfl := si H
         exact fO [(false,[cI (-1)])] kr rfl rfl
        have H := bifT h8 H
        refine tt kr ?_
        refine tG tOk 1 16 0 kr kr ?_
        refine te ?_
        obtain rfl := si H
        have H := Ho4
        dsimp only at H
        obtain rfl := si H
        exact fO [(false,[cI (-1)])] kr rfl rfl
       refine tT h7 kr ?_
       refine tG tOk 1 16 0 kr kr ?_
       refine te ?_
       obtain rfl := si H
       have H := Ho4
       dsimp only at H
       obtain rfl := si H
       exact fO [(false,[cI (-1)])] kr rfl rfl
      refine tT h6 kr ?_
      refine tG tOk 1 16 0 kr kr ?_
      refine te ?_
      obtain rfl := si H
      have H := Ho4
      dsimp only at H
      obtain rfl := si H
      exact fO [(false,[cI (-1)])] kr rfl rfl
     refine tT h5 kr ?_
     refine tG tOk 1 16 0 kr kr ?_
     refine te ?_
     obtain rfl := si H
     have H := Ho4
     dsimp only at H
     obtain rfl := si H
     exact fO [(false,[cI (-1)])] kr rfl rfl
    have H := bifT h4 H
    refine tt kr ?_
    refine tG tOk 1 16 0 kr kr ?_
    refine te ?_
    obtain rfl := si H
    have H := Ho4
    dsimp only at H
    obtain rfl := si H
    exact fO [(false,[cI (-1)])] kr rfl rfl
   refine tT h3 kr ?_
   refine tG tOk 1 16 0 kr kr ?_
   refine te ?_
   obtain rfl := si H
   have H := Ho4
   dsimp only at H
   obtain rfl := si H
   exact fO [(false,[cI (-1)])] kr rfl rfl
  refine tT h2 kr ?_
  refine tG tOk 1 16 0 kr kr ?_
  refine te ?_
  obtain rfl := si H
  have H := Ho4
  dsimp only at H
  obtain rfl := si H
  exact fO [(false,[cI (-1)])] kr rfl rfl
 rintro y3 H
 have H : (laws_heldPtS_J1 n y3) = some r := H
 unfold laws_heldPtS_J1 at H
 refine tG tOk 2 16 0 kr kr ?_
 exact te (by obtain rfl := si H; exact fO [(false,[cI y3])] kr rfl rfl)
def laws_heldFentS_J1 (n : Nat) (y3 : Int) : Option (Int) :=
  (some y3)
def laws_heldFentS_L2 (n : Nat) : Nat → (List Fent) → Int → Int → Option ((Int) ⊕ (Int))
  | 0,_,_,_ => none
  | mo4 + 1,x0,y1,y2 => (bif (decide (y1 < (x0.length : Int))) then ((idx x0 y1).bind fun v5 => (bif (v5.Tag != y2) then (some (Sum.inr (-1))) else ((idx x0 y1).bind fun v6 => (bif (v6.Mac != (IntKind.wrap .i64 (y2 + 1))) then (some (Sum.inr (-1))) else ((idx x0 y1).bind fun v7 => (bif (v7.Port != (IntKind.wrap .i64 ((IntKind.wrap .i64 (y2 + 1)) + 1))) then (some (Sum.inr (-1))) else ((idx x0 y1).bind fun v8 => (bif (v8.Age != (IntKind.wrap .i64 ((IntKind.wrap .i64 ((IntKind.wrap .i64 (y2 + 1)) + 1)) + 1))) then (some (Sum.inr (-1))) else ((idx x0 y1).bind fun v9 => (bif (decide ((3 : Int) ≠ 0)) then (bif (!(v9.Static == ((Int.tmod (IntKind.wrap .i64 ((IntKind.wrap .i64 ((IntKind.wrap .i64 ((IntKind.wrap .i64 (y2 + 1)) + 1)) + 1)) + 1)) 3) == 0))) then (some (Sum.inr (-1))) else (laws_heldFentS_L2 n mo4 x0 (IntKind.wrap .i64 (y1 + 1)) (IntKind.wrap .i64 ((IntKind.wrap .i64 ((IntKind.wrap .i64 ((IntKind.wrap .i64 ((IntKind.wrap .i64 (y2 + 1)) + 1)) + 1)) + 1)) + 1)))) else none)))))))))) else (some (Sum.inl y2)))
def laws_heldFentSF (n : Nat) (x0 : (List Fent)) (x1 : Int) : Option (Int) :=
  ((laws_heldFentS_L2 n n x0 0 x1).bind fun o => match o with | .inl y3 => (laws_heldFentS_J1 n y3) | .inr r => some r)
noncomputable abbrev G127 (k : Nat) := Rg Tryz.f127 k
theorem laws_heldFentS (n : Nat) (x0 : (List Fent)) (x1 : Int) (r : Int) (H : laws_heldFentSF n x0 x1 = some r) : LCall Tryz.prog 127 [.val false [.sl false 5 (CV.frzEs (x0.map Fent.row))],.val false [.lit (.int .i64 x1)]] [.val false [.lit (.int .i64 r)]] [] := by
 refine LCall.of_body tOk Tryz.func127 rfl (c := (.seq (G127 0) (.seq (.seq (G127 1) (.block 0 (.loop (.seq (.seq (G127 2) (.cond (.tmp 9) .skip (.exit 0))) (.seq (.block 1 (.seq (.seq (G127 4) (.cond (.tmp 18) (.seq (G127 5) .ret) .skip)) (.seq (G127 6) (.seq (.seq (G127 7) (.cond (.tmp 27) (.seq (G127 8) .ret) .skip)) (.seq (G127 9) (.seq (.seq (G127 10) (.cond (.tmp 36) (.seq (G127 11) .ret) .skip)) (.seq (G127 12) (.seq (.seq (G127 13) (.cond (.tmp 45) (.seq (G127 14) .ret) .skip)) (.seq (G127 15) (.seq (.seq (G127 16) (.cond (.tmp 56) (.seq (G127 17) .ret) .skip)) (G127 18))))))))))) (G127 3)))))) (.seq (G127 19) .ret)))) kr (Nat.le_of_ble_eq_true kr) 0 (rs := [.tmp 4]) rfl [] .nil [(false,[.lit (.int .i64 r)])] [] [] fun cx => ?_
 show Tr _ _ _ ⟨60,0,[sC 0 (cF 5 x0 Fent.row),sI 1 x1],[]⟩ _
 unfold laws_heldFentSF at H
 refine tG tOk 1 3 0 kr kr ?_
 refine tS ?_
 refine tG tOk 1 35 0 kr kr ?_
 obtain ⟨o4,eo4,Ho4⟩ := bind_some H
 clear H
 refine Tr.mid (ι := Int) (fun v => ⟨60,0,[sI 1 v],[]⟩) (fun v => laws_heldFentS_J1 n v = some r) ?_ ?_
 ·refine tB ?_
  refine Tr.loop (ι := Nat × (Int × Int)) (fun v => ⟨60,0,[sI 5 v.2.1,sC 0 (cF 5 x0 Fent.row),sI 1 v.2.2],[]⟩) (fun v => laws_heldFentS_L2 n v.1 x0 v.2.1 v.2.2 = some o4) (fun v => v.1) (n,(0,x1)) eo4 (St.sub_of [5,0,1] [] kr) ?_
  rintro ⟨mo4,y1,y2⟩ H
  have H : laws_heldFentS_L2 n mo4 x0 y1 y2 = some o4 := H
  obtain _ | mo4 := mo4
  ·cases (show (none : Option _) = some o4 from H)
  rw [laws_heldFentS_L2] at H
  refine tS ?_
  refine rU tOk 2 kr ?_
  refine lL tOk 53 3 184 7 8 none ⟨(.slot 7),[],0,false,5,(CV.frzEs (x0.map Fent.row))⟩ (x0).length _ kr kr kr kr kr (frz_len _ _) rfl ?_
  refine uD tOk 1 547 0 kr kr ?_
  obtain ⟨h1,H⟩ | ⟨h1,H⟩ := bC H
  ·refine tF h1 kr ?_
   refine Tr.exit ?_
   refine And.intro (fun _ => ?_) (fun h => absurd rfl h)
   obtain rfl := si H
   have H := Ho4
   dsimp only at H
   exact jn y2 H (sB_ [1] [] kr)
  refine tT h1 kr ?_
  refine tK ?_
  refine tS ?_
  refine tB ?_
  refine tS ?_
  refine rU tOk 2 kr ?_
  obtain ⟨v5,ev5,H⟩ := bind_some H
  refine lI tOk 53 0 12 13 14 none ⟨(.slot 12),[],0,false,5,(CV.frzEs (x0.map Fent.row))⟩ y1 (Fent.row v5) _ kr kr kr kr rfl (idx_isF ev5) rfl ?_
  refine uD tOk 4 262179 0 kr kr ?_
  obtain ⟨h2,H⟩ | ⟨h2,H⟩ := bC H
  ·refine tF h2 kr ?_
   refine tK ?_
   refine tG tOk 3 35 0 kr kr ?_
   refine tS ?_
   refine rU tOk 2 kr ?_
   obtain ⟨v6,ev6,H⟩ := bind_some H
   refine lI tOk 53 0 21 22 23 none ⟨(.slot 21),[],0,false,5,(CV.frzEs (x0.map Fent.row))⟩ y1 (Fent.row v6) _ kr kr kr kr rfl (idx_isF ev6) rfl ?_
   refine uD tOk 4 134217763 0 kr kr ?_
   obtain ⟨h3,H⟩ | ⟨h3,H⟩ := bC H
   ·refine tF h3 kr ?_
    refine tK ?_
    refine tG tOk 3 35 0 kr kr ?_
    refine tS ?_
    refine rU tOk 2 kr ?_
    obtain ⟨v7,ev7,H⟩ := bind_some H
    refine lI tOk 53 0 30 31 32 none ⟨(.slot 30),[],0,false,5,(CV.frzEs (x0.map Fent.row))⟩ y1 (Fent.row v7) _ kr kr kr kr rfl (idx_isF ev7) rfl ?_
    refine uD tOk 4 68719476771 0 kr kr ?_
    obtain ⟨h4,H⟩ | ⟨h4,H⟩ := bC H
    ·refine tF h4 kr ?_
     refine tK ?_
     refine tG tOk 3 35 0 kr kr ?_
     refine tS ?_
     refine rU tOk 2 kr ?_
     obtain ⟨v8,ev8,H⟩ := bind_some H
     refine lI tOk 53 0 39 40 41 none ⟨(.slot 39),[],0,false,5,(CV.frzEs (x0.map Fent.row))⟩ y1 (Fent.row v8) _ kr kr kr kr rfl (idx_isF ev8) rfl ?_
     refine uD tOk 4 35184372088867 0 kr kr ?_
     refine tO ⟨60,0,[sB 45 (v8.Age != (IntKind.wrap .i64 ((IntKind.wrap .i64 ((IntKind.wrap .i64 (y2 + 1)) + 1)) + 1))),sI 1 (IntKind.wrap .i64 ((IntKind.wrap .i64 ((IntKind.wrap .i64 (y2 + 1)) + 1)) + 1)),sI 5 y1,sC 0 (cF 5 x0 Fent.row)],[]⟩ kr ?_
     cases h5 : (v8.Age != (IntKind.wrap .i64 ((IntKind.wrap .i64 ((IntKind.wrap .i64 (y2 + 1)) + 1)) + 1)))
     ·have H := bifF h5 H
      refine tf kr ?_
      refine tK ?_
      refine tG tOk 3 35 0 kr kr ?_
      refine tS ?_
      refine rU tOk 2 kr ?_
      obtain ⟨v9,ev9,H⟩ := bind_some H
      refine lI tOk 53 0 48 49 50 none ⟨(.slot 48),[],0,false,5,(CV.frzEs (x0.map Fent.row))⟩ y1 (Fent.row v9) _ kr kr kr kr rfl (idx_isF ev9) rfl ?_
      refine lU tOk 3 kr ?_
      obtain ⟨hg10,H⟩ := guard_some H
      refine LAt.binC tOk (op := .rem) (t := 3) (ty := 3) (ty' := 3) (x := (.tmp 53)) (y := (.const (.int .i64 3))) (d := 54) (g := none) (.int .i64 (IntKind.wrap .i64 ((IntKind.wrap .i64 ((IntKind.wrap .i64 ((IntKind.wrap .i64 (y2 + 1)) + 1)) + 1)) + 1))) (.int .i64 3) (.int .i64 (Int.tmod (IntKind.wrap .i64 ((IntKind.wrap .i64 ((IntKind.wrap .i64 ((IntKind.wrap .i64 (y2 + 1)) + 1)) + 1)) + 1)) 3)) _ kr kr kr kr kr (φ := (IntKind.i64 = IntKind.i64 ∧ (3 : Int) ≠ 0)) kr (⟨rfl,of_decide_eq_true hg10⟩) rfl ?_
      refine uD tOk 2 72057594037927971 0 kr kr ?_
      obtain ⟨h6,H⟩ | ⟨h6,H⟩ := bC H
      ·refine tF h6 kr ?_
       refine tK ?_
       refine tE tOk 3 35 0 kr kr ?_
       refine tE tOk 3 35 0 kr kr ?_
       exact jn (mo4,((IntKind.wrap .i64 (y1 + 1)),(IntKind.wrap .i64 ((IntKind.wrap .i64 ((IntKind.wrap .i64 ((IntKind.wrap .i64 ((IntKind.wrap .i64 (y2 + 1)) + 1)) + 1)) + 1)) + 1)))) H (sM mo4 [5,0,1] [] kr)
      refine tT h6 kr ?_
      refine tG tOk 1 16 0 kr kr ?_
      refine te ?_
      obtain rfl := si H
      have H := Ho4
      dsimp only at H
      obtain rfl := si H
      exact fO [(false,[cI (-1)])] kr rfl rfl
     have H := bifT h5 H
     refine tt kr ?_
     refine tG tOk 1 16 0 kr kr ?_
     refine te ?_
     obtain rfl := si H
     have H := Ho4
     dsimp only at H
     obtain rfl := si H
     exact fO [(false,[cI (-1)])] kr rfl rfl
    refine tT h4 kr ?_
    refine tG tOk 1 16 0 kr kr ?_
    refine te ?_
    obtain rfl := si H
    have H := Ho4
    dsimp only at H
    obtain rfl := si H
    exact fO [(false,[cI (-1)])] kr rfl rfl
   refine tT h3 kr ?_
   refine tG tOk 1 16 0 kr kr ?_
   refine te ?_
   obtain rfl := si H
   have H := Ho4
   dsimp only at H
   obtain rfl := si H
   exact fO [(false,[cI (-1)])] kr rfl rfl
  refine tT h2 kr ?_
  refine tG tOk 1 16 0 kr kr ?_
  refine te ?_
  obtain rfl := si H
  have H := Ho4
  dsimp only at H
  obtain rfl := si H
  exact fO [(false,[cI (-1)])] kr rfl rfl
 rintro y3 H
 have H : (laws_heldFentS_J1 n y3) = some r := H
 unfold laws_heldFentS_J1 at H
 refine tG tOk 2 16 0 kr kr ?_
 exact te (by obtain rfl := si H; exact fO [(false,[cI y3])] kr rfl rfl)
def laws_heldVrowS_J1 (n : Nat) (y3 : Int) : Option (Int) :=
  (some y3)
def laws_heldVrowS_L2 (n : Nat) : Nat → (List Vrow) → Int → Int → Option ((Int) ⊕ (Int))
  | 0,_,_,_ => none
  | mo4 + 1,x0,y1,y2 => (bif (decide (y1 < (x0.length : Int))) then ((idx x0 y1).bind fun v5 => (bif (v5.Id != y2) then (some (Sum.inr (-1))) else ((idx x0 y1).bind fun v6 => (bif (v6.Members != (IntKind.wrap .i64 (y2 + 1))) then (some (Sum.inr (-1))) else ((idx x0 y1).bind fun v7 => (bif (v7.Bare != (IntKind.wrap .i64 ((IntKind.wrap .i64 (y2 + 1)) + 1))) then (some (Sum.inr (-1))) else (laws_heldVrowS_L2 n mo4 x0 (IntKind.wrap .i64 (y1 + 1)) (IntKind.wrap .i64 ((IntKind.wrap .i64 ((IntKind.wrap .i64 (y2 + 1)) + 1)) + 1))))))))) else (some (Sum.inl y2)))
def laws_heldVrowSF (n : Nat) (x0 : (List Vrow)) (x1 : Int) : Option (Int) :=
  ((laws_heldVrowS_L2 n n x0 0 x1).bind fun o => match o with | .inl y3 => (laws_heldVrowS_J1 n y3) | .inr r => some r)
noncomputable abbrev G187 (k : Nat) := Rg Tryz.f187 k
theorem laws_heldVrowS (n : Nat) (x0 : (List Vrow)) (x1 : Int) (r : Int) (H : laws_heldVrowSF n x0 x1 = some r) : LCall Tryz.prog 187 [.val false [.sl false 3 (CV.frzEs (x0.map Vrow.row))],.val false [.lit (.int .i64 x1)]] [.val false [.lit (.int .i64 r)]] [] := by
 refine LCall.of_body tOk Tryz.func187 rfl (c := (.seq (G187 0) (.seq (.seq (G187 1) (.block 0 (.loop (.seq (.seq (G187 2) (.cond (.tmp 9) .skip (.exit 0))) (.seq (.block 1 (.seq (.seq (G187 4) (.cond (.tmp 18) (.seq (G187 5) .ret) .skip)) (.seq (G187 6) (.seq (.seq (G187 7) (.cond (.tmp 27) (.seq (G187 8) .ret) .skip)) (.seq (G187 9) (.seq (.seq (G187 10) (.cond (.tmp 36) (.seq (G187 11) .ret) .skip)) (G187 12))))))) (G187 3)))))) (.seq (G187 13) .ret)))) kr (Nat.le_of_ble_eq_true kr) 0 (rs := [.tmp 4]) rfl [] .nil [(false,[.lit (.int .i64 r)])] [] [] fun cx => ?_
 show Tr _ _ _ ⟨40,0,[sC 0 (cF 3 x0 Vrow.row),sI 1 x1],[]⟩ _
 unfold laws_heldVrowSF at H
 refine tG tOk 1 3 0 kr kr ?_
 refine tS ?_
 refine tG tOk 1 35 0 kr kr ?_
 obtain ⟨o4,eo4,Ho4⟩ := bind_some H
 clear H
 refine Tr.mid (ι := Int) (fun v => ⟨40,0,[sI 1 v],[]⟩) (fun v => laws_heldVrowS_J1 n v = some r) ?_ ?_
 ·refine tB ?_
  refine Tr.loop (ι := Nat × (Int × Int)) (fun v => ⟨40,0,[sI 5 v.2.1,sC 0 (cF 3 x0 Vrow.row),sI 1 v.2.2],[]⟩) (fun v => laws_heldVrowS_L2 n v.1 x0 v.2.1 v.2.2 = some o4) (fun v => v.1) (n,(0,x1)) eo4 (St.sub_of [5,0,1] [] kr) ?_
  rintro ⟨mo4,y1,y2⟩ H
  have H : laws_heldVrowS_L2 n mo4 x0 y1 y2 = some o4 := H
  obtain _ | mo4 := mo4
  ·cases (show (none : Option _) = some o4 from H)
  rw [laws_heldVrowS_L2] at H
  refine tS ?_
  refine rU tOk 2 kr ?_
  refine lL tOk 54 3 190 7 8 none ⟨(.slot 7),[],0,false,3,(CV.frzEs (x0.map Vrow.row))⟩ (x0).length _ kr kr kr kr kr (frz_len _ _) rfl ?_
  refine uD tOk 1 547 0 kr kr ?_
  obtain ⟨h1,H⟩ | ⟨h1,H⟩ := bC H
  ·refine tF h1 kr ?_
   refine Tr.exit ?_
   refine And.intro (fun _ => ?_) (fun h => absurd rfl h)
   obtain rfl := si H
   have H := Ho4
   dsimp only at H
   exact jn y2 H (sB_ [1] [] kr)
  refine tT h1 kr ?_
  refine tK ?_
  refine tS ?_
  refine tB ?_
  refine tS ?_
  refine rU tOk 2 kr ?_
  obtain ⟨v5,ev5,H⟩ := bind_some H
  refine lI tOk 54 0 12 13 14 none ⟨(.slot 12),[],0,false,3,(CV.frzEs (x0.map Vrow.row))⟩ y1 (Vrow.row v5) _ kr kr kr kr rfl (idx_isF ev5) rfl ?_
  refine uD tOk 4 262179 0 kr kr ?_
  obtain ⟨h2,H⟩ | ⟨h2,H⟩ := bC H
  ·refine tF h2 kr ?_
   refine tK ?_
   refine tG tOk 3 35 0 kr kr ?_
   refine tS ?_
   refine rU tOk 2 kr ?_
   obtain ⟨v6,ev6,H⟩ := bind_some H
   refine lI tOk 54 0 21 22 23 none ⟨(.slot 21),[],0,false,3,(CV.frzEs (x0.map Vrow.row))⟩ y1 (Vrow.row v6) _ kr kr kr kr rfl (idx_isF ev6) rfl ?_
   refine uD tOk 4 134217763 0 kr kr ?_
   obtain ⟨h3,H⟩ | ⟨h3,H⟩ := bC H
   ·refine tF h3 kr ?_
    refine tK ?_
    refine tG tOk 3 35 0 kr kr ?_
    refine tS ?_
    refine rU tOk 2 kr ?_
    obtain ⟨v7,ev7,H⟩ := bind_some H
    refine lI tOk 54 0 30 31 32 none ⟨(.slot 30),[],0,false,3,(CV.frzEs (x0.map Vrow.row))⟩ y1 (Vrow.row v7) _ kr kr kr kr rfl (idx_isF ev7) rfl ?_
    refine uD tOk 4 68719476771 0 kr kr ?_
    obtain ⟨h4,H⟩ | ⟨h4,H⟩ := bC H
    ·refine tF h4 kr ?_
     refine tK ?_
     refine tE tOk 3 35 0 kr kr ?_
     refine tE tOk 3 35 0 kr kr ?_
     exact jn (mo4,((IntKind.wrap .i64 (y1 + 1)),(IntKind.wrap .i64 ((IntKind.wrap .i64 ((IntKind.wrap .i64 (y2 + 1)) + 1)) + 1)))) H (sM mo4 [5,0,1] [] kr)
    refine tT h4 kr ?_
    refine tG tOk 1 16 0 kr kr ?_
    refine te ?_
    obtain rfl := si H
    have H := Ho4
    dsimp only at H
    obtain rfl := si H
    exact fO [(false,[cI (-1)])] kr rfl rfl
   refine tT h3 kr ?_
   refine tG tOk 1 16 0 kr kr ?_
   refine te ?_
   obtain rfl := si H
   have H := Ho4
   dsimp only at H
   obtain rfl := si H
   exact fO [(false,[cI (-1)])] kr rfl rfl
  refine tT h2 kr ?_
  refine tG tOk 1 16 0 kr kr ?_
  refine te ?_
  obtain rfl := si H
  have H := Ho4
  dsimp only at H
  obtain rfl := si H
  exact fO [(false,[cI (-1)])] kr rfl rfl
 rintro y3 H
 have H : (laws_heldVrowS_J1 n y3) = some r := H
 unfold laws_heldVrowS_J1 at H
 refine tG tOk 2 16 0 kr kr ?_
 exact te (by obtain rfl := si H; exact fO [(false,[cI y3])] kr rfl rfl)
end Go.Proofs.YtibocmoaaahjfaaGreat.Tw
