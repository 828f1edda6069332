import Derived.Test.YtcegokjpmppdbaaGreatProg
import Derived.Test.YtcegokjpmppdbaaGreatTlRule
import Derived.Test.YtcegokjpmppdbaaGreatTlU9
import Derived.Test.YtcegokjpmppdbaaGreatTwFW1
import Derived.WalkKit
set_option linter.unusedVariables false
set_option linter.unusedSimpArgs false
set_option maxRecDepth 100000
set_option maxHeartbeats 1000000
namespace Go.Proofs.YtcegokjpmppdbaaGreat.Tw
open Go Go.TL Go.Proofs
def impl_Forward_J2 (n : Nat) (r1 : Bridge) (r7 : (List Fent)) (r8 : Int) (y12 : (List Out)) : Option (Bridge × (List Out)) :=
  (some ((⟨r1.Id,r1.Name,r1.Ports,r7,r1.V,r1.Ticks,r1.Parse,r1.Word,r1.Drops,r8⟩ : Bridge),y12))
def impl_Forward_J4 (n : Nat) (k : (Int × (List Out) → Option (((List Out)) ⊕ (Bridge × (List Out))))) (r5 : Int × Bool) (x0 : Bridge) (x2 : Frame) (y10 : Int) (y11 : (List Out)) (y14 : Bool) : Option (((List Out)) ⊕ (Bridge × (List Out))) :=
  (bif y14 then ((impl_ShownTagF n x0.V r5.1 y10).bind fun r15 => ((impl_TaggedF n x2 r15).bind fun r16 => (bif (decide (y11.length + [(⟨y10,r16⟩ : Out)].length ≤ 268435456)) then (k ((IntKind.wrap .i64 (y10 + 1)),(y11 ++ [(⟨y10,r16⟩ : Out)]))) else none))) else (k ((IntKind.wrap .i64 (y10 + 1)),y11)))
def impl_Forward_L3 (n : Nat) : Nat → Int → Int × Bool → Bridge → Int → Frame → Int → Int → (List Out) → Option (((List Out)) ⊕ (Bridge × (List Out)))
  | 0,_,_,_,_,_,_,_,_ => none
  | mo13 + 1,r4,r5,x0,x1,x2,y9,y10,y11 => (bif (decide (y10 < (x0.Ports.length : Int))) then (bif (y10 != x1) then ((impl_EgressOfF n x0.V r5.1).bind fun r18 => ((impl_hasPortF n (IntKind.wrap .i64 (BitVec.ofInt (IntKind.bits .i64) r4 &&& BitVec.ofInt (IntKind.bits .i64) r18).toNat) y10).bind fun r19 => (bif r19 then (bif (decide (y9 < 0)) then (impl_Forward_J4 n (fun v => impl_Forward_L3 n mo13 r4 r5 x0 x1 x2 y9 v.1 v.2) r5 x0 x2 y10 y11 true) else (impl_Forward_J4 n (fun v => impl_Forward_L3 n mo13 r4 r5 x0 x1 x2 y9 v.1 v.2) r5 x0 x2 y10 y11 (y9 == y10))) else (impl_Forward_J4 n (fun v => impl_Forward_L3 n mo13 r4 r5 x0 x1 x2 y9 v.1 v.2) r5 x0 x2 y10 y11 false)))) else (impl_Forward_J4 n (fun v => impl_Forward_L3 n mo13 r4 r5 x0 x1 x2 y9 v.1 v.2) r5 x0 x2 y10 y11 false)) else (some (Sum.inl y11)))
def impl_Forward_J1 (n : Nat) (r1 : Bridge) (r4 : Int) (r5 : Int × Bool) (r7 : (List Fent)) (r8 : Int) (x0 : Bridge) (x1 : Int) (x2 : Frame) (y9 : Int) : Option (Bridge × (List Out)) :=
  ((impl_Forward_L3 n n r4 r5 x0 x1 x2 y9 0 ([] : List Out)).bind fun o => match o with | .inl y12 => (impl_Forward_J2 n r1 r7 r8 y12) | .inr r => some r)
def impl_ForwardF (n : Nat) (x0 : Bridge) (x1 : Int) (x2 : Frame) : Option (Bridge × (List Out)) :=
  ((impl_copyBridgeF n x0).bind fun r1 => ((impl_isPortF n x0 x1).bind fun r2 => (bif (!r2) then (some (r1,([] : List Out))) else ((impl_FrameOkF n x2).bind fun r3 => (bif (!r3) then (some (r1,([] : List Out))) else ((impl_SendsF n x0.Id x0.Ports).bind fun r4 => ((impl_ClassOfF n x0.V x1 x2.Tag).bind fun r5 => ((impl_hasPortF n r4 x1).bind fun r6 => (bif (!r6) then ((impl_moreF n x0.Drops).bind fun r22 => (some ((⟨r1.Id,r1.Name,r1.Ports,r1.F,r1.V,r1.Ticks,r1.Parse,r1.Word,r22,r1.Vers⟩ : Bridge),([] : List Out)))) else (bif (!r5.2) then ((impl_moreF n x0.Drops).bind fun r21 => (some ((⟨r1.Id,r1.Name,r1.Ports,r1.F,r1.V,r1.Ticks,r1.Parse,r1.Word,r21,r1.Vers⟩ : Bridge),([] : List Out)))) else ((impl_LearnF n x0.F r5.1 x2.Src x1).bind fun r7 => ((impl_moreF n x0.Vers).bind fun r8 => (bif (x2.Dst != 0) then ((impl_LookUpF n r7 r5.1 x2.Dst).bind fun r20 => (impl_Forward_J1 n r1 r4 r5 r7 r8 x0 x1 x2 r20)) else (impl_Forward_J1 n r1 r4 r5 r7 r8 x0 x1 x2 (-1)))))))))))))))
noncomputable abbrev G14 (k : Nat) := Rg Tryz.f14 k
noncomputable abbrev D14 (k : Nat) := Rd Tryz.f14 k
theorem impl_Forward (n : Nat) (x0 : Bridge) (x1 : Int) (x2 : Frame) (r : Bridge × (List Out)) (H : impl_ForwardF n x0 x1 x2 = some r) : LCall Tryz.prog 14 [.val true (CV.frzRow (Bridge.row x0)),.val false [.lit (.int .i64 x1)],.val true (CV.frzRow (Frame.row x2))] [.val true (Bridge.row r.1),.val false [.sl true 5 (r.2.map Out.row)]] [] := by
 refine LCall.of_body tOk Tryz.func14 rfl (c := (.seq (G14 0) (.seq (G14 1) (.seq (.seq (G14 2) (.cond (.tmp 25) (.seq (G14 3) .ret) .skip)) (.seq (G14 4) (.seq (G14 5) (.seq (.seq (G14 6) (.cond (.tmp 48) (.seq (G14 7) (.seq (G14 8) .ret)) .skip)) (.seq (G14 9) (.seq (G14 10) (.seq (G14 11) (.seq (.seq (G14 12) (.cond (.tmp 68) (G14 13) .skip)) (.seq (G14 14) (.seq (.seq (G14 15) (.block 0 (.loop (.seq (G14 16) (.seq (.cond (.tmp 79) .skip (.exit 0)) (.seq (.block 1 (.seq (G14 17) (.seq (G14 18) (.cond (.tmp 102) (D14 19) .skip)))) (G14 20))))))) (.seq (G14 21) .ret)))))))))))))) kr (Nat.le_of_ble_eq_true kr) 0 (rs := [.cell 6 41,.tmp 7]) rfl [] .nil [(true,(Bridge.row r.1)),(false,[.sl true 5 (r.2.map Out.row)])] [] [] fun cx => ?_
 show Tr _ _ _ ⟨118,0,[sV 0 (CV.frzRow (Bridge.row x0)),sI 1 x1,sV 2 (CV.frzRow (Frame.row x2))],[]⟩ _
 unfold impl_ForwardF at H
 refine tG tOk 4 106 104 kr kr ?_
 refine rU tOk 1 kr ?_
 obtain ⟨r1,er1,H⟩ := bind_some H
 refine lV tOk [.rd] [] (impl_copyBridge n x0 r1 er1) kr kr kr kr (.inl rfl) ?_
 refine uD tOk 2 362 360 kr kr ?_
 refine tS ?_
 refine rU tOk 2 kr ?_
 obtain ⟨r2,er2,H⟩ := bind_some H
 refine lV tOk [.rd,.rd] [] (impl_isPort n x0 x1 r2 er2) kr kr kr kr (.inl rfl) ?_
 refine lU tOk 2 kr ?_
 refine lT ⟨118,0,[sB 21 (!r2),sB 20 (!r2),sB 19 r2,sI 18 x1,sV 17 (CV.frzRow (Bridge.row x0)),sA 8 8 11 0,sA 6 6 11 0,sA 5 5 4 0,sA 3 3 11 0,sI 1 x1],[(8,(Bridge.row r1)),(6,[cI 0,cS (⟨#[]⟩ : ByteArray),cL 8 ([] : List Pt) Pt.row,cL 5 ([] : List Fent) Fent.row,cL 3 ([] : List Vrow) Vrow.row,cL 1 ([] : List Int) intRow,cI 0,cI 0,cI 0,cI 0,cI 0]),(5,(CV.frzRow (Frame.row x2))),(3,(CV.frzRow (Bridge.row x0)))]⟩ kr ?_
 cases h1 : (!r2)
 ·have H := bifF h1 H
  refine lU tOk 1 kr ?_
  obtain ⟨r3,er3,H⟩ := bind_some H
  refine lV tOk [.rd] [] (impl_FrameOk n x2 r3 er3) kr kr kr kr (.inl rfl) ?_
  refine uD tOk 2 33554794 360 kr kr ?_
  obtain ⟨h2,H⟩ | ⟨h2,H⟩ := bC H
  ·refine tF h2 kr ?_
   refine tK ?_
   refine rU tOk 4 kr ?_
   obtain ⟨r4,er4,H⟩ := bind_some H
   refine lV tOk [.rd,.rd] [] (impl_Sends n x0.Id x0.Ports r4 er4) kr kr kr kr (.inl rfl) ?_
   refine uD tOk 1 874 360 kr kr ?_
   refine rU tOk 5 kr ?_
   obtain ⟨r5,er5,H⟩ := bind_some H
   refine lV tOk [.rd,.rd,.rd] [] (impl_ClassOf n x0.V x1 x2.Tag r5 er5) kr kr kr kr (.inl rfl) ?_
   refine LAt.movT tOk (ty := 88) (t := 38) (d := 32) (g := none) [(false,[cI r5.1]),(false,[cB r5.2])] _ kr (.inl rfl) kr kr kr kr rfl ?_
   refine uD tOk 4 3946 360 kr kr ?_
   refine tS ?_
   refine tS ?_
   refine Tr.at ?_
   refine lU tOk 2 kr ?_
   obtain ⟨r6,er6,H⟩ := bind_some H
   refine lV tOk [.rd,.rd] [] (impl_hasPort n r4 x1 r6 er6) kr kr kr kr (.inl rfl) ?_
   refine lU tOk 2 kr ?_
   refine lT ⟨118,0,[sB 45 (!r6),sB 44 (!r6),sB 43 r6,sI 42 x1,sI 41 r4,sB 11 r5.2,sI 10 r5.1,sI 9 r4,sA 8 8 11 0,sA 6 6 11 0,sA 5 5 4 0,sA 3 3 11 0,sI 1 x1],[(8,(Bridge.row r1)),(6,[cI 0,cS (⟨#[]⟩ : ByteArray),cL 8 ([] : List Pt) Pt.row,cL 5 ([] : List Fent) Fent.row,cL 3 ([] : List Vrow) Vrow.row,cL 1 ([] : List Int) intRow,cI 0,cI 0,cI 0,cI 0,cI 0]),(5,(CV.frzRow (Frame.row x2))),(3,(CV.frzRow (Bridge.row x0)))]⟩ kr ?_
   cases h3 : (!r6)
   ·have H := bifF h3 H
    refine uD tOk 3 281474976712554 360 kr kr ?_
    obtain ⟨h4,H⟩ | ⟨h4,H⟩ := bC H
    ·refine tF h4 kr ?_
     refine tK ?_
     refine rU tOk 6 kr ?_
     obtain ⟨r7,er7,H⟩ := bind_some H
     refine lV tOk [.rd,.rd,.rd,.rd] [] (impl_Learn n x0.F r5.1 x2.Src x1 r7 er7) kr kr kr kr (.inl rfl) ?_
     refine uD tOk 2 1898 360 kr kr ?_
     refine rU tOk 2 kr ?_
     obtain ⟨r8,er8,H⟩ := bind_some H
     refine lV tOk [.rd] [] (impl_more n x0.Vers r8 er8) kr kr kr kr (.inl rfl) ?_
     refine uD tOk 2 1898 360 kr kr ?_
     refine tG tOk 1 5994 360 kr kr ?_
     refine tS ?_
     refine Tr.mid (ι := Int) (fun v => ⟨118,0,[sI 12 v,sI 10 r5.1,sI 9 r4,sA 8 8 11 0,sA 6 6 11 0,sA 5 5 4 0,sA 3 3 11 0,sI 1 x1],[(8,[cI r1.Id,cS r1.Name,cL 8 r1.Ports Pt.row,cL 5 r7 Fent.row,cL 3 r1.V.Rows Vrow.row,cL 1 r1.V.Pvid intRow,cI r1.Ticks,cI r1.Parse,cI r1.Word,cI r1.Drops,cI r8]),(6,[cI 0,cS (⟨#[]⟩ : ByteArray),cL 8 ([] : List Pt) Pt.row,cL 5 ([] : List Fent) Fent.row,cL 3 ([] : List Vrow) Vrow.row,cL 1 ([] : List Int) intRow,cI 0,cI 0,cI 0,cI 0,cI 0]),(5,(CV.frzRow (Frame.row x2))),(3,(CV.frzRow (Bridge.row x0)))]⟩) (fun v => impl_Forward_J1 n r1 r4 r5 r7 r8 x0 x1 x2 v = some r) ?_ ?_
     ·refine tG tOk 3 0x10000000000000176a 360 kr kr ?_
      obtain ⟨h10,H⟩ | ⟨h10,H⟩ := bC H
      ·refine tF h10 kr ?_
       refine tK ?_
       exact jn (-1) H (sB_ [12,10,9,8,6,5,3,1] [8,6,5,3] kr)
      refine tT h10 kr ?_
      refine Tr.at ?_
      refine lU tOk 5 kr ?_
      obtain ⟨r20,er20,H⟩ := bind_some H
      refine lV tOk [.rd,.rd,.rd] [.box 8] (impl_LookUp n r7 r5.1 x2.Dst r20 er20) kr kr kr kr (.inr (rets_cons (mine_cons mine_lit mine_nil) rets_nil)) ?_
      refine uD tOk 1 5994 360 kr kr ?_
      exact jn r20 H (sB_ [12,10,9,8,6,5,3,1] [8,6,5,3] kr)
     rintro y9 H
     have H : (impl_Forward_J1 n r1 r4 r5 r7 r8 x0 x1 x2 y9) = some r := H
     unfold impl_Forward_J1 at H
     refine tG tOk 1 14186 360 kr kr ?_
     refine tS ?_
     refine rU tOk 2 kr ?_
     refine lL tOk 35 3 167 76 77 none ⟨(.slot 76),[],0,false,8,(CV.frzEs (x0.Ports.map Pt.row))⟩ (x0.Ports).length _ kr kr kr kr kr (frz_len _ _) rfl ?_
     refine uD tOk 1 0x6000000000000000376a 360 kr kr ?_
     obtain ⟨o13,eo13,Ho13⟩ := bind_some H
     clear H
     refine Tr.mid (ι := (List Out)) (fun v => ⟨118,0,[sC 13 (cL 5 v Out.row),sA 8 8 11 0,sA 6 6 11 0],[(8,[cI r1.Id,cS r1.Name,cL 8 r1.Ports Pt.row,cL 5 r7 Fent.row,cL 3 r1.V.Rows Vrow.row,cL 1 r1.V.Pvid intRow,cI r1.Ticks,cI r1.Parse,cI r1.Word,cI r1.Drops,cI r8]),(6,[cI 0,cS (⟨#[]⟩ : ByteArray),cL 8 ([] : List Pt) Pt.row,cL 5 ([] : List Fent) Fent.row,cL 3 ([] : List Vrow) Vrow.row,cL 1 ([] : List Int) intRow,cI 0,cI 0,cI 0,cI 0,cI 0])]⟩) (fun v => impl_Forward_J2 n r1 r7 r8 v = some r) ?_ ?_
     ·refine tB ?_
      refine Tr.loop (ι := Nat × (Int × (List Out))) (fun v => ⟨118,0,[sI 78 v.2.1,sI 77 (x0.Ports.length : Int),sC 13 (cL 5 v.2.2 Out.row),sI 12 y9,sI 10 r5.1,sI 9 r4,sA 8 8 11 0,sA 6 6 11 0,sA 5 5 4 0,sA 3 3 11 0,sI 1 x1],[(8,[cI r1.Id,cS r1.Name,cL 8 r1.Ports Pt.row,cL 5 r7 Fent.row,cL 3 r1.V.Rows Vrow.row,cL 1 r1.V.Pvid intRow,cI r1.Ticks,cI r1.Parse,cI r1.Word,cI r1.Drops,cI r8]),(6,[cI 0,cS (⟨#[]⟩ : ByteArray),cL 8 ([] : List Pt) Pt.row,cL 5 ([] : List Fent) Fent.row,cL 3 ([] : List Vrow) Vrow.row,cL 1 ([] : List Int) intRow,cI 0,cI 0,cI 0,cI 0,cI 0]),(5,(CV.frzRow (Frame.row x2))),(3,(CV.frzRow (Bridge.row x0)))]⟩) (fun v => impl_Forward_L3 n v.1 r4 r5 x0 x1 x2 y9 v.2.1 v.2.2 = some o13) (fun v => v.1) (n,(0,([] : List Out))) eo13 (St.sub_of [78,77,13,12,10,9,8,6,5,3,1] [8,6,5,3] kr) ?_
      rintro ⟨mo13,y10,y11⟩ H
      have H : impl_Forward_L3 n mo13 r4 r5 x0 x1 x2 y9 y10 y11 = some o13 := H
      obtain _ | mo13 := mo13
      ·cases (show (none : Option _) = some o13 from H)
      rw [impl_Forward_L3] at H
      refine tG tOk 1 0xe000000000000000376a 360 kr kr ?_
      refine tS ?_
      obtain ⟨h5,H⟩ | ⟨h5,H⟩ := bC H
      ·refine tF h5 kr ?_
       refine Tr.exit ?_
       refine And.intro (fun _ => ?_) (fun h => absurd rfl h)
       obtain rfl := si H
       have H := Ho13
       dsimp only at H
       exact jn y11 H (sB_ [13,8,6] [8,6] kr)
      refine tT h5 kr ?_
      refine tK ?_
      refine tS ?_
      refine tB ?_
      refine tG tOk 2 0x6000000000000000776a 360 kr kr ?_
      refine tS ?_
      refine Tr.mid (ι := Bool) (fun v => ⟨118,0,[sB 102 v,sI 14 y10,sI 78 y10,sI 77 (x0.Ports.length : Int),sC 13 (cL 5 y11 Out.row),sI 12 y9,sI 10 r5.1,sI 9 r4,sA 8 8 11 0,sA 6 6 11 0,sA 5 5 4 0,sA 3 3 11 0,sI 1 x1],[(8,[cI r1.Id,cS r1.Name,cL 8 r1.Ports Pt.row,cL 5 r7 Fent.row,cL 3 r1.V.Rows Vrow.row,cL 1 r1.V.Pvid intRow,cI r1.Ticks,cI r1.Parse,cI r1.Word,cI r1.Drops,cI r8]),(6,[cI 0,cS (⟨#[]⟩ : ByteArray),cL 8 ([] : List Pt) Pt.row,cL 5 ([] : List Fent) Fent.row,cL 3 ([] : List Vrow) Vrow.row,cL 1 ([] : List Int) intRow,cI 0,cI 0,cI 0,cI 0,cI 0]),(5,(CV.frzRow (Frame.row x2))),(3,(CV.frzRow (Bridge.row x0)))]⟩) (fun v => impl_Forward_J4 n (fun v => impl_Forward_L3 n mo13 r4 r5 x0 x1 x2 y9 v.1 v.2) r5 x0 x2 y10 y11 v = some o13) ?_ ?_
      ·refine Tr.at ?_
       refine lU tOk 4 kr ?_
       refine lT ⟨118,0,[sB 84 (y10 != x1),sB 83 (y10 != x1),sI 82 x1,sI 81 y10,sI 14 y10,sI 78 y10,sI 77 (x0.Ports.length : Int),sC 13 (cL 5 y11 Out.row),sI 12 y9,sI 10 r5.1,sI 9 r4,sA 8 8 11 0,sA 6 6 11 0,sA 5 5 4 0,sA 3 3 11 0,sI 1 x1],[(8,[cI r1.Id,cS r1.Name,cL 8 r1.Ports Pt.row,cL 5 r7 Fent.row,cL 3 r1.V.Rows Vrow.row,cL 1 r1.V.Pvid intRow,cI r1.Ticks,cI r1.Parse,cI r1.Word,cI r1.Drops,cI r8]),(6,[cI 0,cS (⟨#[]⟩ : ByteArray),cL 8 ([] : List Pt) Pt.row,cL 5 ([] : List Fent) Fent.row,cL 3 ([] : List Vrow) Vrow.row,cL 1 ([] : List Int) intRow,cI 0,cI 0,cI 0,cI 0,cI 0]),(5,(CV.frzRow (Frame.row x2))),(3,(CV.frzRow (Bridge.row x0)))]⟩ kr ?_
       cases h7 : (y10 != x1)
       ·have H := bifF h7 H
        refine uD tOk 18 0x4000006000000000000000776a 360 kr kr ?_
        exact jn false H (sB_ [102,14,78,77,13,12,10,9,8,6,5,3,1] [8,6,5,3] kr)
       have H := bifT h7 H
       refine lU tOk 4 kr ?_
       obtain ⟨r18,er18,H⟩ := bind_some H
       refine lV tOk [.rd,.rd] [] (impl_EgressOf n x0.V r5.1 r18 er18) kr kr kr kr (.inl rfl) ?_
       refine lU tOk 2 kr ?_
       obtain ⟨r19,er19,H⟩ := bind_some H
       refine lV tOk [.rd,.rd] [] (impl_hasPort n (IntKind.wrap .i64 (BitVec.ofInt (IntKind.bits .i64) r4 &&& BitVec.ofInt (IntKind.bits .i64) r18).toNat) y10 r19 er19) kr kr kr kr (.inl rfl) ?_
       refine lU tOk 2 kr ?_
       refine lT ⟨118,0,[sB 94 r19,sB 93 r19,sB 92 r19,sI 91 y10,sI 90 (IntKind.wrap .i64 (BitVec.ofInt (IntKind.bits .i64) r4 &&& BitVec.ofInt (IntKind.bits .i64) r18).toNat),sI 89 r18,sI 88 r5.1,sV 87 (((CV.frzRow (Bridge.row x0)).drop 4).take 2),sA 86 3 11 4,sI 85 r4,sB 84 true,sB 83 true,sI 82 x1,sI 81 y10,sI 14 y10,sI 78 y10,sI 77 (x0.Ports.length : Int),sC 13 (cL 5 y11 Out.row),sI 12 y9,sI 10 r5.1,sI 9 r4,sA 8 8 11 0,sA 6 6 11 0,sA 5 5 4 0,sA 3 3 11 0,sI 1 x1],[(8,[cI r1.Id,cS r1.Name,cL 8 r1.Ports Pt.row,cL 5 r7 Fent.row,cL 3 r1.V.Rows Vrow.row,cL 1 r1.V.Pvid intRow,cI r1.Ticks,cI r1.Parse,cI r1.Word,cI r1.Drops,cI r8]),(6,[cI 0,cS (⟨#[]⟩ : ByteArray),cL 8 ([] : List Pt) Pt.row,cL 5 ([] : List Fent) Fent.row,cL 3 ([] : List Vrow) Vrow.row,cL 1 ([] : List Int) intRow,cI 0,cI 0,cI 0,cI 0,cI 0]),(5,(CV.frzRow (Frame.row x2))),(3,(CV.frzRow (Bridge.row x0)))]⟩ kr ?_
       cases h8 : r19
       ·have H := bifF h8 H
        refine uD tOk 8 0x4000006000000000000000776a 360 kr kr ?_
        exact jn false H (sB_ [102,14,78,77,13,12,10,9,8,6,5,3,1] [8,6,5,3] kr)
       have H := bifT h8 H
       refine lU tOk 3 kr ?_
       refine lT ⟨118,0,[sB 97 (decide (y9 < 0)),sB 96 (decide (y9 < 0)),sI 95 y9,sB 94 true,sB 93 true,sB 92 true,sI 91 y10,sI 90 (IntKind.wrap .i64 (BitVec.ofInt (IntKind.bits .i64) r4 &&& BitVec.ofInt (IntKind.bits .i64) r18).toNat),sI 89 r18,sI 88 r5.1,sV 87 (((CV.frzRow (Bridge.row x0)).drop 4).take 2),sA 86 3 11 4,sI 85 r4,sB 84 true,sB 83 true,sI 82 x1,sI 81 y10,sI 14 y10,sI 78 y10,sI 77 (x0.Ports.length : Int),sC 13 (cL 5 y11 Out.row),sI 12 y9,sI 10 r5.1,sI 9 r4,sA 8 8 11 0,sA 6 6 11 0,sA 5 5 4 0,sA 3 3 11 0,sI 1 x1],[(8,[cI r1.Id,cS r1.Name,cL 8 r1.Ports Pt.row,cL 5 r7 Fent.row,cL 3 r1.V.Rows Vrow.row,cL 1 r1.V.Pvid intRow,cI r1.Ticks,cI r1.Parse,cI r1.Word,cI r1.Drops,cI r8]),(6,[cI 0,cS (⟨#[]⟩ : ByteArray),cL 8 ([] : List Pt) Pt.row,cL 5 ([] : List Fent) Fent.row,cL 3 ([] : List Vrow) Vrow.row,cL 1 ([] : List Int) intRow,cI 0,cI 0,cI 0,cI 0,cI 0]),(5,(CV.frzRow (Frame.row x2))),(3,(CV.frzRow (Bridge.row x0)))]⟩ kr ?_
       cases h9 : (decide (y9 < 0))
       ·have H := bifF h9 H
        refine uD tOk 5 0x4000006000000000000000776a 360 kr kr ?_
        exact jn (y9 == y10) H (sB_ [102,14,78,77,13,12,10,9,8,6,5,3,1] [8,6,5,3] kr)
       have H := bifT h9 H
       refine uD tOk 5 0x4000006000000000000000776a 360 kr kr ?_
       exact jn true H (sB_ [102,14,78,77,13,12,10,9,8,6,5,3,1] [8,6,5,3] kr)
      rintro y14 H
      have H : (impl_Forward_J4 n (fun v => impl_Forward_L3 n mo13 r4 r5 x0 x1 x2 y9 v.1 v.2) r5 x0 x2 y10 y11 y14) = some o13 := H
      unfold impl_Forward_J4 at H
      cases h6 : y14
      ·have H := bifF h6 H
       refine tf kr ?_
       refine tK ?_
       refine tE tOk 2 0x6000000000000000376a 360 kr kr ?_
       exact jn (mo13,((IntKind.wrap .i64 (y10 + 1)),y11)) H (sM mo13 [78,77,13,12,10,9,8,6,5,3,1] [8,6,5,3] kr)
      have H := bifT h6 H
      refine tt kr ?_
      obtain ⟨r15,er15,H⟩ := bind_some H
      obtain ⟨r16,er16,H⟩ := bind_some H
      obtain ⟨hg17,H⟩ := guard_some H
      refine Tr.draw mixed 13 kr ⟨118,0,[sC 13 (cL 5 (y11 ++ [(⟨y10,r16⟩ : Out)]) Out.row),sI 78 y10,sI 77 (x0.Ports.length : Int),sI 12 y9,sI 10 r5.1,sI 9 r4,sA 8 8 11 0,sA 6 6 11 0,sA 5 5 4 0,sA 3 3 11 0,sI 1 x1],[(8,[cI r1.Id,cS r1.Name,cL 8 r1.Ports Pt.row,cL 5 r7 Fent.row,cL 3 r1.V.Rows Vrow.row,cL 1 r1.V.Pvid intRow,cI r1.Ticks,cI r1.Parse,cI r1.Word,cI r1.Drops,cI r8]),(6,[cI 0,cS (⟨#[]⟩ : ByteArray),cL 8 ([] : List Pt) Pt.row,cL 5 ([] : List Fent) Fent.row,cL 3 ([] : List Vrow) Vrow.row,cL 1 ([] : List Int) intRow,cI 0,cI 0,cI 0,cI 0,cI 0]),(5,(CV.frzRow (Frame.row x2))),(3,(CV.frzRow (Bridge.row x0)))]⟩ (fun cx => ?_) ?_
      ·refine aU tOk [(0,[]),(1,[]),(2,[8,9,10,11]),(3,[]),(4,[7,8,9,10,11]),(5,[]),(6,[])] 6 [⟨[7,8,9,10,11],39,106,107⟩,⟨[8,9,10,11],46,5,105⟩] [6,5,4,3,2,1,0] rfl kr (fun cx => ?_)
       refine AT.big1 tOk 7 kr kr ?_
       refine lV tOk [.rd,.rd,.rd] [] (impl_ShownTag n x0.V r5.1 y10 r15 er15) kr kr kr kr (.inl rfl) ?_
       refine lF kr kr kr ?_
       refine AT.big1 tOk 8 kr kr ?_
       refine lV tOk [.rd,.rd] [] (impl_Tagged n x2 r15 r16 er16) kr kr kr kr (.inl rfl) ?_
       refine lF kr kr kr ?_
       refine AT.big1 tOk 9 kr kr ?_
       refine lU tOk 1 kr ?_
       refine lF kr kr kr ?_
       refine AT.big1 tOk 10 kr kr ?_
       refine lU tOk 1 kr ?_
       refine lF kr kr kr ?_
       refine AT.big1 tOk 11 kr kr ?_
       refine LAt.appMU tOk (t := 42) (ty := 42) (e := 94) (x := (.tmp 103)) (y := (.tmp 113)) (d := 114) (g := none) (tI 94) Out.row y11 [(⟨y10,r16⟩ : Out)] kr kr kr kr kr kr kr kr kr kr hg17 ?_
       refine lF kr kr kr ?_
       refine AT.big1 tOk 12 kr kr ?_
       refine LAt.moveU (T := lk tab) (ty := 42) (x := (.tmp 114)) (d := 13) (g := none) false [cL 5 (y11 ++ [(⟨y10,r16⟩ : Out)]) Out.row] kr kr kr kr kr ?_
       refine lF kr kr kr ?_
       exact AT.done [13,78,77,12,10,9,8,6,5,3,1] [8,6,5,3] _ kr kr rfl
      refine tE tOk 2 0x6000000000000000376a 360 kr kr ?_
      exact jn (mo13,((IntKind.wrap .i64 (y10 + 1)),(y11 ++ [(⟨y10,r16⟩ : Out)]))) H (sM mo13 [78,77,13,12,10,9,8,6,5,3,1] [8,6,5,3] kr)
     rintro y12 H
     have H : (impl_Forward_J2 n r1 r7 r8 y12) = some r := H
     unfold impl_Forward_J2 at H
     refine tG tOk 4 8384 64 kr kr ?_
     exact te (by obtain rfl := si H; exact fO [(true,[cI r1.Id,cS r1.Name,cL 8 r1.Ports Pt.row,cL 5 r7 Fent.row,cL 3 r1.V.Rows Vrow.row,cL 1 r1.V.Pvid intRow,cI r1.Ticks,cI r1.Parse,cI r1.Word,cI r1.Drops,cI r8]),(false,[cL 5 y12 Out.row])] kr rfl rfl)
    refine tT h4 kr ?_
    refine rU tOk 2 kr ?_
    obtain ⟨r21,er21,H⟩ := bind_some H
    refine lV tOk [.rd] [] (impl_more n x0.Drops r21 er21) kr kr kr kr (.inl rfl) ?_
    refine uD tOk 2 320 320 kr kr ?_
    refine tG tOk 3 192 64 kr kr ?_
    exact te (by obtain rfl := si H; exact fO [(true,[cI r1.Id,cS r1.Name,cL 8 r1.Ports Pt.row,cL 5 r1.F Fent.row,cL 3 r1.V.Rows Vrow.row,cL 1 r1.V.Pvid intRow,cI r1.Ticks,cI r1.Parse,cI r1.Word,cI r21,cI r1.Vers]),(false,[cL 5 ([] : List Out) Out.row])] kr rfl rfl)
   have H := bifT h3 H
   refine uD tOk 3 281474976712554 360 kr kr ?_
   refine tt kr ?_
   refine rU tOk 2 kr ?_
   obtain ⟨r22,er22,H⟩ := bind_some H
   refine lV tOk [.rd] [] (impl_more n x0.Drops r22 er22) kr kr kr kr (.inl rfl) ?_
   refine uD tOk 2 320 320 kr kr ?_
   refine tG tOk 3 192 64 kr kr ?_
   exact te (by obtain rfl := si H; exact fO [(true,[cI r1.Id,cS r1.Name,cL 8 r1.Ports Pt.row,cL 5 r1.F Fent.row,cL 3 r1.V.Rows Vrow.row,cL 1 r1.V.Pvid intRow,cI r1.Ticks,cI r1.Parse,cI r1.Word,cI r22,cI r1.Vers]),(false,[cL 5 ([] : List Out) Out.row])] kr rfl rfl)
  refine tT h2 kr ?_
  refine tG tOk 3 192 64 kr kr ?_
  exact te (by obtain rfl := si H; exact fO [(true,(Bridge.row r1)),(false,[cL 5 ([] : List Out) Out.row])] kr rfl rfl)
 have H := bifT h1 H
 refine uD tOk 4 33554794 360 kr kr ?_
 refine tt kr ?_
 refine tG tOk 3 192 64 kr kr ?_
 exact te (by obtain rfl := si H; exact fO [(true,(Bridge.row r1)),(false,[cL 5 ([] : List Out) Out.row])] kr rfl rfl)
def laws_eqVecF (n : Nat) (x0 : Vec) (x1 : Vec) : Option (Bool) :=
  (bif (x0.Root != x1.Root) then (some false) else (bif (x0.Cost != x1.Cost) then (some false) else (bif (x0.Hops != x1.Hops) then (some false) else (bif (x0.Bridge != x1.Bridge) then (some false) else (bif (x0.Port != x1.Port) then (some false) else (some true))))))
noncomputable abbrev G237 (k : Nat) := Rg Tryz.f237 k
theorem laws_eqVec (n : Nat) (x0 : Vec) (x1 : Vec) (r : Bool) (H : laws_eqVecF n x0 x1 = some r) : LCall Tryz.prog 237 [.val true (CV.frzRow (Vec.row x0)),.val true (CV.frzRow (Vec.row x1))] [.val false [.lit (.bool r)]] [] := by
 refine LCall.of_body tOk Tryz.func237 rfl (c := (.seq (G237 0) (.seq (.seq (G237 1) (.cond (.tmp 9) (.seq (G237 2) .ret) .skip)) (.seq (.seq (G237 3) (.cond (.tmp 14) (.seq (G237 4) .ret) .skip)) (.seq (.seq (G237 5) (.cond (.tmp 19) (.seq (G237 6) .ret) .skip)) (.seq (.seq (G237 7) (.cond (.tmp 24) (.seq (G237 8) .ret) .skip)) (.seq (.seq (G237 9) (.cond (.tmp 29) (.seq (G237 10) .ret) .skip)) (.seq (G237 11) .ret)))))))) kr (Nat.le_of_ble_eq_true kr) 0 (rs := [.tmp 4]) rfl [] .nil [(false,[.lit (.bool r)])] [] [] fun cx => ?_
 show Tr _ _ _ ⟨30,0,[sV 0 (Vec.row x0),sV 1 (Vec.row x1)],[]⟩ _
 unfold laws_eqVecF at H
 refine tG tOk 3 12 12 kr kr ?_
 refine tS ?_
 refine tG tOk 5 524 12 kr kr ?_
 obtain ⟨h1,H⟩ | ⟨h1,H⟩ := bC H
 ·refine tF h1 kr ?_
  refine tK ?_
  refine tS ?_
  refine tG tOk 5 16396 12 kr kr ?_
  obtain ⟨h2,H⟩ | ⟨h2,H⟩ := bC H
  ·refine tF h2 kr ?_
   refine tK ?_
   refine tS ?_
   refine tG tOk 5 524300 12 kr kr ?_
   obtain ⟨h3,H⟩ | ⟨h3,H⟩ := bC H
   ·refine tF h3 kr ?_
    refine tK ?_
    refine tS ?_
    refine tG tOk 5 16777228 12 kr kr ?_
    obtain ⟨h4,H⟩ | ⟨h4,H⟩ := bC H
    ·refine tF h4 kr ?_
     refine tK ?_
     refine tS ?_
     refine tG tOk 5 536870912 0 kr kr ?_
     obtain ⟨h5,H⟩ | ⟨h5,H⟩ := bC H
     ·refine tF h5 kr ?_
      refine tK ?_
      refine tG tOk 1 16 0 kr kr ?_
      exact te (by obtain rfl := si H; exact fO [(false,[cB true])] kr rfl rfl)
     refine tT h5 kr ?_
     refine tG tOk 1 16 0 kr kr ?_
     exact te (by obtain rfl := si H; exact fO [(false,[cB false])] kr rfl rfl)
    refine tT h4 kr ?_
    refine tG tOk 1 16 0 kr kr ?_
    exact te (by obtain rfl := si H; exact fO [(false,[cB false])] kr rfl rfl)
   refine tT h3 kr ?_
   refine tG tOk 1 16 0 kr kr ?_
   exact te (by obtain rfl := si H; exact fO [(false,[cB false])] kr rfl rfl)
  refine tT h2 kr ?_
  refine tG tOk 1 16 0 kr kr ?_
  exact te (by obtain rfl := si H; exact fO [(false,[cB false])] kr rfl rfl)
 refine tT h1 kr ?_
 refine tG tOk 1 16 0 kr kr ?_
 exact te (by obtain rfl := si H; exact fO [(false,[cB false])] kr rfl rfl)
def laws_eqPtF (n : Nat) (x0 : Pt) (x1 : Pt) : Option (Bool) :=
  (bif (!(x0.Up == x1.Up)) then (some false) else (bif (x0.Cost != x1.Cost) then (some false) else (bif (!(x0.Has == x1.Has)) then (some false) else ((laws_eqVecF n x0.Heard x1.Heard).bind fun r1 => (bif (!r1) then (some false) else (some true))))))
noncomputable abbrev G186 (k : Nat) := Rg Tryz.f186 k
theorem laws_eqPt (n : Nat) (x0 : Pt) (x1 : Pt) (r : Bool) (H : laws_eqPtF n x0 x1 = some r) : LCall Tryz.prog 186 [.val true (CV.frzRow (Pt.row x0)),.val true (CV.frzRow (Pt.row x1))] [.val false [.lit (.bool r)]] [] := by
 refine LCall.of_body tOk Tryz.func186 rfl (c := (.seq (G186 0) (.seq (.seq (G186 1) (.cond (.tmp 9) (.seq (G186 2) .ret) .skip)) (.seq (.seq (G186 3) (.cond (.tmp 14) (.seq (G186 4) .ret) .skip)) (.seq (.seq (G186 5) (.cond (.tmp 19) (.seq (G186 6) .ret) .skip)) (.seq (.seq (G186 7) (.cond (.tmp 25) (.seq (G186 8) .ret) .skip)) (.seq (G186 9) .ret))))))) kr (Nat.le_of_ble_eq_true kr) 0 (rs := [.tmp 4]) rfl [] .nil [(false,[.lit (.bool r)])] [] [] fun cx => ?_
 show Tr _ _ _ ⟨26,0,[sV 0 (Pt.row x0),sV 1 (Pt.row x1)],[]⟩ _
 unfold laws_eqPtF at H
 refine tG tOk 3 12 12 kr kr ?_
 refine tS ?_
 refine tG tOk 5 524 12 kr kr ?_
 obtain ⟨h1,H⟩ | ⟨h1,H⟩ := bC H
 ·refine tF h1 kr ?_
  refine tK ?_
  refine tS ?_
  refine tG tOk 5 16396 12 kr kr ?_
  obtain ⟨h2,H⟩ | ⟨h2,H⟩ := bC H
  ·refine tF h2 kr ?_
   refine tK ?_
   refine tS ?_
   refine tG tOk 5 524300 12 kr kr ?_
   obtain ⟨h3,H⟩ | ⟨h3,H⟩ := bC H
   ·refine tF h3 kr ?_
    refine tK ?_
    refine tS ?_
    refine rU tOk 4 kr ?_
    obtain ⟨r1,er1,H⟩ := bind_some H
    refine lV tOk [.rd,.rd] [] (laws_eqVec n x0.Heard x1.Heard r1 er1) kr kr kr kr (.inl rfl) ?_
    refine uD tOk 1 33554432 0 kr kr ?_
    obtain ⟨h4,H⟩ | ⟨h4,H⟩ := bC H
    ·refine tF h4 kr ?_
     refine tK ?_
     refine tG tOk 1 16 0 kr kr ?_
     exact te (by obtain rfl := si H; exact fO [(false,[cB true])] kr rfl rfl)
    refine tT h4 kr ?_
    refine tG tOk 1 16 0 kr kr ?_
    exact te (by obtain rfl := si H; exact fO [(false,[cB false])] kr rfl rfl)
   refine tT h3 kr ?_
   refine tG tOk 1 16 0 kr kr ?_
   exact te (by obtain rfl := si H; exact fO [(false,[cB false])] kr rfl rfl)
  refine tT h2 kr ?_
  refine tG tOk 1 16 0 kr kr ?_
  exact te (by obtain rfl := si H; exact fO [(false,[cB false])] kr rfl rfl)
 refine tT h1 kr ?_
 refine tG tOk 1 16 0 kr kr ?_
 exact te (by obtain rfl := si H; exact fO [(false,[cB false])] kr rfl rfl)
def laws_eqPtS_J1 (n : Nat) : Option (Bool) :=
  (some true)
def laws_eqPtS_L2 (n : Nat) : Nat → (List Pt) → (List Pt) → Int → Option ((Unit) ⊕ (Bool))
  | 0,_,_,_ => none
  | mo2 + 1,x0,x1,y1 => (bif (decide (y1 < (x0.length : Int))) then ((idx x0 y1).bind fun v3 => ((idx x1 y1).bind fun v4 => ((laws_eqPtF n v3 v4).bind fun r5 => (bif (!r5) then (some (Sum.inr false)) else (laws_eqPtS_L2 n mo2 x0 x1 (IntKind.wrap .i64 (y1 + 1))))))) else (some (Sum.inl ())))
def laws_eqPtSF (n : Nat) (x0 : (List Pt)) (x1 : (List Pt)) : Option (Bool) :=
  (bif ((x0.length : Int) != (x1.length : Int)) then (some false) else ((laws_eqPtS_L2 n n x0 x1 0).bind fun o => match o with | .inl _ => (laws_eqPtS_J1 n) | .inr r => some r))
noncomputable abbrev G90 (k : Nat) := Rg Tryz.f90 k
noncomputable abbrev D90 (k : Nat) := Rd Tryz.f90 k
theorem laws_eqPtS (n : Nat) (x0 : (List Pt)) (x1 : (List Pt)) (r : Bool) (H : laws_eqPtSF n x0 x1 = some r) : LCall Tryz.prog 90 [.val false [.sl false 8 (CV.frzEs (x0.map Pt.row))],.val false [.sl false 8 (CV.frzEs (x1.map Pt.row))]] [.val false [.lit (.bool r)]] [] := by
 refine LCall.of_body tOk Tryz.func90 rfl (c := (.seq (G90 0) (.seq (.seq (G90 1) (.cond (.tmp 10) (.seq (G90 2) .ret) .skip)) (.seq (.seq (G90 3) (.block 0 (.loop (.seq (.seq (G90 4) (.cond (.tmp 14) .skip (.exit 0))) (.seq (.block 1 (.seq (D90 6) (.cond (.tmp 26) (.seq (G90 7) .ret) .skip))) (G90 5)))))) (.seq (G90 8) .ret))))) kr (Nat.le_of_ble_eq_true kr) 0 (rs := [.tmp 4]) rfl [] .nil [(false,[.lit (.bool r)])] [] [] fun cx => ?_
 show Tr _ _ _ ⟨27,0,[sC 0 (cF 8 x0 Pt.row),sC 1 (cF 8 x1 Pt.row)],[]⟩ _
 unfold laws_eqPtSF at H
 refine tG tOk 1 3 0 kr kr ?_
 refine tS ?_
 refine rU tOk 1 kr ?_
 refine lL tOk 35 3 167 6 7 none ⟨(.slot 6),[],0,false,8,(CV.frzEs (x0.map Pt.row))⟩ (x0).length _ kr kr kr kr kr (frz_len _ _) rfl ?_
 refine lU tOk 1 kr ?_
 refine lL tOk 35 3 167 8 9 none ⟨(.slot 8),[],0,false,8,(CV.frzEs (x1.map Pt.row))⟩ (x1).length _ kr kr kr kr kr (frz_len _ _) rfl ?_
 refine uD tOk 1 1027 0 kr kr ?_
 obtain ⟨h1,H⟩ | ⟨h1,H⟩ := bC H
 ·refine tF h1 kr ?_
  refine tK ?_
  refine tS ?_
  refine tG tOk 1 35 0 kr kr ?_
  obtain ⟨o2,eo2,Ho2⟩ := bind_some H
  clear H
  refine Tr.mid (ι := Unit) (fun v => ⟨27,0,[],[]⟩) (fun v => laws_eqPtS_J1 n = some r) ?_ ?_
  ·refine tB ?_
   refine Tr.loop (ι := Nat × (Int)) (fun v => ⟨27,0,[sI 5 v.2,sC 0 (cF 8 x0 Pt.row),sC 1 (cF 8 x1 Pt.row)],[]⟩) (fun v => laws_eqPtS_L2 n v.1 x0 x1 v.2 = some o2) (fun v => v.1) (n,0) eo2 (St.sub_of [5,0,1] [] kr) ?_
   rintro ⟨mo2,y1⟩ H
   have H : laws_eqPtS_L2 n mo2 x0 x1 y1 = some o2 := H
   obtain _ | mo2 := mo2
   ·cases (show (none : Option _) = some o2 from H)
   rw [laws_eqPtS_L2] at H
   refine tS ?_
   refine rU tOk 2 kr ?_
   refine lL tOk 35 3 167 12 13 none ⟨(.slot 12),[],0,false,8,(CV.frzEs (x0.map Pt.row))⟩ (x0).length _ kr kr kr kr kr (frz_len _ _) rfl ?_
   refine uD tOk 1 16419 0 kr kr ?_
   obtain ⟨h2,H⟩ | ⟨h2,H⟩ := bC H
   ·refine tF h2 kr ?_
    refine Tr.exit ?_
    refine And.intro (fun _ => ?_) (fun h => absurd rfl h)
    obtain rfl := si H
    have H := Ho2
    dsimp only at H
    exact jn () H (sB_ [] [] kr)
   refine tT h2 kr ?_
   refine tK ?_
   refine tS ?_
   refine tB ?_
   obtain ⟨v3,ev3,H⟩ := bind_some H
   obtain ⟨v4,ev4,H⟩ := bind_some H
   obtain ⟨r5,er5,H⟩ := bind_some H
   refine Tr.draws mixed 10 kr ⟨27,0,[sB 26 (!r5),sI 5 y1,sC 0 (cF 8 x0 Pt.row),sC 1 (cF 8 x1 Pt.row)],[]⟩ (fun cx => ?_) ?_
   ·refine aU tOk [(0,[]),(1,[])] 8 [] [1,0] rfl kr (fun cx => ?_)
    refine aI tOk 2 35 0 17 18 19 none ⟨(.slot 17),[],0,false,8,(CV.frzEs (x0.map Pt.row))⟩ y1 (Pt.row v3) _ kr kr kr kr kr kr rfl (idx_isF ev3) rfl (fun cx => ?_)
    refine aU tOk [(3,[]),(4,[]),(5,[])] 4 [] [5,4,3,2,1,0] rfl kr (fun cx => ?_)
    refine aI tOk 6 35 0 21 22 23 none ⟨(.slot 21),[],0,false,8,(CV.frzEs (x1.map Pt.row))⟩ y1 (Pt.row v4) _ kr kr kr kr kr kr rfl (idx_isF ev4) rfl (fun cx => ?_)
    refine aU tOk [(7,[])] 2 [] [7,6,5,4,3,2,1,0] rfl kr (fun cx => ?_)
    refine AT.big1 tOk 8 kr kr ?_
    refine lV tOk [.rd,.rd] [] (laws_eqPt n v3 v4 r5 er5) kr kr kr kr (.inl rfl) ?_
    refine lF kr kr kr ?_
    refine aU tOk [(9,[])] 0 [] [9,8,7,6,5,4,3,2,1,0] rfl kr (fun cx => ?_)
    exact AT.done [26,5,0,1] [] _ kr kr rfl
   refine tO ⟨27,0,[sB 26 (!r5),sI 5 y1,sC 0 (cF 8 x0 Pt.row),sC 1 (cF 8 x1 Pt.row)],[]⟩ kr ?_
   cases h3 : (!r5)
   ·have H := bifF h3 H
    refine tf kr ?_
    refine tK ?_
    refine tE tOk 3 35 0 kr kr ?_
    exact jn (mo2,(IntKind.wrap .i64 (y1 + 1))) H (sM mo2 [5,0,1] [] kr)
   have H := bifT h3 H
   refine tt kr ?_
   refine tG tOk 1 16 0 kr kr ?_
   refine te ?_
   obtain rfl := si H
   have H := Ho2
   dsimp only at H
   obtain rfl := si H
   exact fO [(false,[cB false])] kr rfl rfl
  rintro _ H
  have H : (laws_eqPtS_J1 n) = some r := H
  unfold laws_eqPtS_J1 at H
  refine tG tOk 1 16 0 kr kr ?_
  exact te (by obtain rfl := si H; exact fO [(false,[cB true])] kr rfl rfl)
 refine tT h1 kr ?_
 refine tG tOk 1 16 0 kr kr ?_
 exact te (by obtain rfl := si H; exact fO [(false,[cB false])] kr rfl rfl)
def laws_eqFentF (n : Nat) (x0 : Fent) (x1 : Fent) : Option (Bool) :=
  (bif (x0.Tag != x1.Tag) then (some false) else (bif (x0.Mac != x1.Mac) then (some false) else (bif (x0.Port != x1.Port) then (some false) else (bif (x0.Age != x1.Age) then (some false) else (bif (!(x0.Static == x1.Static)) then (some false) else (some true))))))
noncomputable abbrev G187 (k : Nat) := Rg Tryz.f187 k
theorem laws_eqFent (n : Nat) (x0 : Fent) (x1 : Fent) (r : Bool) (H : laws_eqFentF n x0 x1 = some r) : LCall Tryz.prog 187 [.val true (CV.frzRow (Fent.row x0)),.val true (CV.frzRow (Fent.row x1))] [.val false [.lit (.bool r)]] [] := by
 refine LCall.of_body tOk Tryz.func187 rfl (c := (.seq (G187 0) (.seq (.seq (G187 1) (.cond (.tmp 9) (.seq (G187 2) .ret) .skip)) (.seq (.seq (G187 3) (.cond (.tmp 14) (.seq (G187 4) .ret) .skip)) (.seq (.seq (G187 5) (.cond (.tmp 19) (.seq (G187 6) .ret) .skip)) (.seq (.seq (G187 7) (.cond (.tmp 24) (.seq (G187 8) .ret) .skip)) (.seq (.seq (G187 9) (.cond (.tmp 29) (.seq (G187 10) .ret) .skip)) (.seq (G187 11) .ret)))))))) kr (Nat.le_of_ble_eq_true kr) 0 (rs := [.tmp 4]) rfl [] .nil [(false,[.lit (.bool r)])] [] [] fun cx => ?_
 show Tr _ _ _ ⟨30,0,[sV 0 (Fent.row x0),sV 1 (Fent.row x1)],[]⟩ _
 unfold laws_eqFentF at H
 refine tG tOk 3 12 12 kr kr ?_
 refine tS ?_
 refine tG tOk 5 524 12 kr kr ?_
 obtain ⟨h1,H⟩ | ⟨h1,H⟩ := bC H
 ·refine tF h1 kr ?_
  refine tK ?_
  refine tS ?_
  refine tG tOk 5 16396 12 kr kr ?_
  obtain ⟨h2,H⟩ | ⟨h2,H⟩ := bC H
  ·refine tF h2 kr ?_
   refine tK ?_
   refine tS ?_
   refine tG tOk 5 524300 12 kr kr ?_
   obtain ⟨h3,H⟩ | ⟨h3,H⟩ := bC H
   ·refine tF h3 kr ?_
    refine tK ?_
    refine tS ?_
    refine tG tOk 5 16777228 12 kr kr ?_
    obtain ⟨h4,H⟩ | ⟨h4,H⟩ := bC H
    ·refine tF h4 kr ?_
     refine tK ?_
     refine tS ?_
     refine tG tOk 5 536870912 0 kr kr ?_
     obtain ⟨h5,H⟩ | ⟨h5,H⟩ := bC H
     ·refine tF h5 kr ?_
      refine tK ?_
      refine tG tOk 1 16 0 kr kr ?_
      exact te (by obtain rfl := si H; exact fO [(false,[cB true])] kr rfl rfl)
     refine tT h5 kr ?_
     refine tG tOk 1 16 0 kr kr ?_
     exact te (by obtain rfl := si H; exact fO [(false,[cB false])] kr rfl rfl)
    refine tT h4 kr ?_
    refine tG tOk 1 16 0 kr kr ?_
    exact te (by obtain rfl := si H; exact fO [(false,[cB false])] kr rfl rfl)
   refine tT h3 kr ?_
   refine tG tOk 1 16 0 kr kr ?_
   exact te (by obtain rfl := si H; exact fO [(false,[cB false])] kr rfl rfl)
  refine tT h2 kr ?_
  refine tG tOk 1 16 0 kr kr ?_
  exact te (by obtain rfl := si H; exact fO [(false,[cB false])] kr rfl rfl)
 refine tT h1 kr ?_
 refine tG tOk 1 16 0 kr kr ?_
 exact te (by obtain rfl := si H; exact fO [(false,[cB false])] kr rfl rfl)
def laws_eqFentS_J1 (n : Nat) : Option (Bool) :=
  (some true)
def laws_eqFentS_L2 (n : Nat) : Nat → (List Fent) → (List Fent) → Int → Option ((Unit) ⊕ (Bool))
  | 0,_,_,_ => none
  | mo2 + 1,x0,x1,y1 => (bif (decide (y1 < (x0.length : Int))) then ((idx x0 y1).bind fun v3 => ((idx x1 y1).bind fun v4 => ((laws_eqFentF n v3 v4).bind fun r5 => (bif (!r5) then (some (Sum.inr false)) else (laws_eqFentS_L2 n mo2 x0 x1 (IntKind.wrap .i64 (y1 + 1))))))) else (some (Sum.inl ())))
def laws_eqFentSF (n : Nat) (x0 : (List Fent)) (x1 : (List Fent)) : Option (Bool) :=
  (bif ((x0.length : Int) != (x1.length : Int)) then (some false) else ((laws_eqFentS_L2 n n x0 x1 0).bind fun o => match o with | .inl _ => (laws_eqFentS_J1 n) | .inr r => some r))
noncomputable abbrev G91 (k : Nat) := Rg Tryz.f91 k
noncomputable abbrev D91 (k : Nat) := Rd Tryz.f91 k
theorem laws_eqFentS (n : Nat) (x0 : (List Fent)) (x1 : (List Fent)) (r : Bool) (H : laws_eqFentSF n x0 x1 = some r) : LCall Tryz.prog 91 [.val false [.sl false 5 (CV.frzEs (x0.map Fent.row))],.val false [.sl false 5 (CV.frzEs (x1.map Fent.row))]] [.val false [.lit (.bool r)]] [] := by
 refine LCall.of_body tOk Tryz.func91 rfl (c := (.seq (G91 0) (.seq (.seq (G91 1) (.cond (.tmp 10) (.seq (G91 2) .ret) .skip)) (.seq (.seq (G91 3) (.block 0 (.loop (.seq (.seq (G91 4) (.cond (.tmp 14) .skip (.exit 0))) (.seq (.block 1 (.seq (D91 6) (.cond (.tmp 26) (.seq (G91 7) .ret) .skip))) (G91 5)))))) (.seq (G91 8) .ret))))) kr (Nat.le_of_ble_eq_true kr) 0 (rs := [.tmp 4]) rfl [] .nil [(false,[.lit (.bool r)])] [] [] fun cx => ?_
 show Tr _ _ _ ⟨27,0,[sC 0 (cF 5 x0 Fent.row),sC 1 (cF 5 x1 Fent.row)],[]⟩ _
 unfold laws_eqFentSF at H
 refine tG tOk 1 3 0 kr kr ?_
 refine tS ?_
 refine rU tOk 1 kr ?_
 refine lL tOk 36 3 169 6 7 none ⟨(.slot 6),[],0,false,5,(CV.frzEs (x0.map Fent.row))⟩ (x0).length _ kr kr kr kr kr (frz_len _ _) rfl ?_
 refine lU tOk 1 kr ?_
 refine lL tOk 36 3 169 8 9 none ⟨(.slot 8),[],0,false,5,(CV.frzEs (x1.map Fent.row))⟩ (x1).length _ kr kr kr kr kr (frz_len _ _) rfl ?_
 refine uD tOk 1 1027 0 kr kr ?_
 obtain ⟨h1,H⟩ | ⟨h1,H⟩ := bC H
 ·refine tF h1 kr ?_
  refine tK ?_
  refine tS ?_
  refine tG tOk 1 35 0 kr kr ?_
  obtain ⟨o2,eo2,Ho2⟩ := bind_some H
  clear H
  refine Tr.mid (ι := Unit) (fun v => ⟨27,0,[],[]⟩) (fun v => laws_eqFentS_J1 n = some r) ?_ ?_
  ·refine tB ?_
   refine Tr.loop (ι := Nat × (Int)) (fun v => ⟨27,0,[sI 5 v.2,sC 0 (cF 5 x0 Fent.row),sC 1 (cF 5 x1 Fent.row)],[]⟩) (fun v => laws_eqFentS_L2 n v.1 x0 x1 v.2 = some o2) (fun v => v.1) (n,0) eo2 (St.sub_of [5,0,1] [] kr) ?_
   rintro ⟨mo2,y1⟩ H
   have H : laws_eqFentS_L2 n mo2 x0 x1 y1 = some o2 := H
   obtain _ | mo2 := mo2
   ·cases (show (none : Option _) = some o2 from H)
   rw [laws_eqFentS_L2] at H
   refine tS ?_
   refine rU tOk 2 kr ?_
   refine lL tOk 36 3 169 12 13 none ⟨(.slot 12),[],0,false,5,(CV.frzEs (x0.map Fent.row))⟩ (x0).length _ kr kr kr kr kr (frz_len _ _) rfl ?_
   refine uD tOk 1 16419 0 kr kr ?_
   obtain ⟨h2,H⟩ | ⟨h2,H⟩ := bC H
   ·refine tF h2 kr ?_
    refine Tr.exit ?_
    refine And.intro (fun _ => ?_) (fun h => absurd rfl h)
    obtain rfl := si H
    have H := Ho2
    dsimp only at H
    exact jn () H (sB_ [] [] kr)
   refine tT h2 kr ?_
   refine tK ?_
   refine tS ?_
   refine tB ?_
   obtain ⟨v3,ev3,H⟩ := bind_some H
   obtain ⟨v4,ev4,H⟩ := bind_some H
   obtain ⟨r5,er5,H⟩ := bind_some H
   refine Tr.draws mixed 10 kr ⟨27,0,[sB 26 (!r5),sI 5 y1,sC 0 (cF 5 x0 Fent.row),sC 1 (cF 5 x1 Fent.row)],[]⟩ (fun cx => ?_) ?_
   ·refine aU tOk [(0,[]),(1,[])] 8 [] [1,0] rfl kr (fun cx => ?_)
    refine aI tOk 2 36 0 17 18 19 none ⟨(.slot 17),[],0,false,5,(CV.frzEs (x0.map Fent.row))⟩ y1 (Fent.row v3) _ kr kr kr kr kr kr rfl (idx_isF ev3) rfl (fun cx => ?_)
    refine aU tOk [(3,[]),(4,[]),(5,[])] 4 [] [5,4,3,2,1,0] rfl kr (fun cx => ?_)
    refine aI tOk 6 36 0 21 22 23 none ⟨(.slot 21),[],0,false,5,(CV.frzEs (x1.map Fent.row))⟩ y1 (Fent.row v4) _ kr kr kr kr kr kr rfl (idx_isF ev4) rfl (fun cx => ?_)
    refine aU tOk [(7,[])] 2 [] [7,6,5,4,3,2,1,0] rfl kr (fun cx => ?_)
    refine AT.big1 tOk 8 kr kr ?_
    refine lV tOk [.rd,.rd] [] (laws_eqFent n v3 v4 r5 er5) kr kr kr kr (.inl rfl) ?_
    refine lF kr kr kr ?_
    refine aU tOk [(9,[])] 0 [] [9,8,7,6,5,4,3,2,1,0] rfl kr (fun cx => ?_)
    exact AT.done [26,5,0,1] [] _ kr kr rfl
   refine tO ⟨27,0,[sB 26 (!r5),sI 5 y1,sC 0 (cF 5 x0 Fent.row),sC 1 (cF 5 x1 Fent.row)],[]⟩ kr ?_
   cases h3 : (!r5)
   ·have H := bifF h3 H
    refine tf kr ?_
    refine tK ?_
    refine tE tOk 3 35 0 kr kr ?_
    exact jn (mo2,(IntKind.wrap .i64 (y1 + 1))) H (sM mo2 [5,0,1] [] kr)
   have H := bifT h3 H
   refine tt kr ?_
   refine tG tOk 1 16 0 kr kr ?_
   refine te ?_
   obtain rfl := si H
   have H := Ho2
   dsimp only at H
   obtain rfl := si H
   exact fO [(false,[cB false])] kr rfl rfl
  rintro _ H
  have H : (laws_eqFentS_J1 n) = some r := H
  unfold laws_eqFentS_J1 at H
  refine tG tOk 1 16 0 kr kr ?_
  exact te (by obtain rfl := si H; exact fO [(false,[cB true])] kr rfl rfl)
 refine tT h1 kr ?_
 refine tG tOk 1 16 0 kr kr ?_
 exact te (by obtain rfl := si H; exact fO [(false,[cB false])] kr rfl rfl)
def laws_eqVrowF (n : Nat) (x0 : Vrow) (x1 : Vrow) : Option (Bool) :=
  (bif (x0.Id != x1.Id) then (some false) else (bif (x0.Members != x1.Members) then (some false) else (bif (x0.Bare != x1.Bare) then (some false) else (some true))))
noncomputable abbrev G238 (k : Nat) := Rg Tryz.f238 k
theorem laws_eqVrow (n : Nat) (x0 : Vrow) (x1 : Vrow) (r : Bool) (H : laws_eqVrowF n x0 x1 = some r) : LCall Tryz.prog 238 [.val true (CV.frzRow (Vrow.row x0)),.val true (CV.frzRow (Vrow.row x1))] [.val false [.lit (.bool r)]] [] := by
 refine LCall.of_body tOk Tryz.func238 rfl (c := (.seq (G238 0) (.seq (.seq (G238 1) (.cond (.tmp 9) (.seq (G238 2) .ret) .skip)) (.seq (.seq (G238 3) (.cond (.tmp 14) (.seq (G238 4) .ret) .skip)) (.seq (.seq (G238 5) (.cond (.tmp 19) (.seq (G238 6) .ret) .skip)) (.seq (G238 7) .ret)))))) kr (Nat.le_of_ble_eq_true kr) 0 (rs := [.tmp 4]) rfl [] .nil [(false,[.lit (.bool r)])] [] [] fun cx => ?_
 show Tr _ _ _ ⟨20,0,[sV 0 (Vrow.row x0),sV 1 (Vrow.row x1)],[]⟩ _
 unfold laws_eqVrowF at H
 refine tG tOk 3 12 12 kr kr ?_
 refine tS ?_
 refine tG tOk 5 524 12 kr kr ?_
 obtain ⟨h1,H⟩ | ⟨h1,H⟩ := bC H
 ·refine tF h1 kr ?_
  refine tK ?_
  refine tS ?_
  refine tG tOk 5 16396 12 kr kr ?_
  obtain ⟨h2,H⟩ | ⟨h2,H⟩ := bC H
  ·refine tF h2 kr ?_
   refine tK ?_
   refine tS ?_
   refine tG tOk 5 524288 0 kr kr ?_
   obtain ⟨h3,H⟩ | ⟨h3,H⟩ := bC H
   ·refine tF h3 kr ?_
    refine tK ?_
    refine tG tOk 1 16 0 kr kr ?_
    exact te (by obtain rfl := si H; exact fO [(false,[cB true])] kr rfl rfl)
   refine tT h3 kr ?_
   refine tG tOk 1 16 0 kr kr ?_
   exact te (by obtain rfl := si H; exact fO [(false,[cB false])] kr rfl rfl)
  refine tT h2 kr ?_
  refine tG tOk 1 16 0 kr kr ?_
  exact te (by obtain rfl := si H; exact fO [(false,[cB false])] kr rfl rfl)
 refine tT h1 kr ?_
 refine tG tOk 1 16 0 kr kr ?_
 exact te (by obtain rfl := si H; exact fO [(false,[cB false])] kr rfl rfl)
def laws_eqVrowS_J1 (n : Nat) : Option (Bool) :=
  (some true)
def laws_eqVrowS_L2 (n : Nat) : Nat → (List Vrow) → (List Vrow) → Int → Option ((Unit) ⊕ (Bool))
  | 0,_,_,_ => none
  | mo2 + 1,x0,x1,y1 => (bif (decide (y1 < (x0.length : Int))) then ((idx x0 y1).bind fun v3 => ((idx x1 y1).bind fun v4 => ((laws_eqVrowF n v3 v4).bind fun r5 => (bif (!r5) then (some (Sum.inr false)) else (laws_eqVrowS_L2 n mo2 x0 x1 (IntKind.wrap .i64 (y1 + 1))))))) else (some (Sum.inl ())))
def laws_eqVrowSF (n : Nat) (x0 : (List Vrow)) (x1 : (List Vrow)) : Option (Bool) :=
  (bif ((x0.length : Int) != (x1.length : Int)) then (some false) else ((laws_eqVrowS_L2 n n x0 x1 0).bind fun o => match o with | .inl _ => (laws_eqVrowS_J1 n) | .inr r => some r))
noncomputable abbrev G188 (k : Nat) := Rg Tryz.f188 k
noncomputable abbrev D188 (k : Nat) := Rd Tryz.f188 k
theorem laws_eqVrowS (n : Nat) (x0 : (List Vrow)) (x1 : (List Vrow)) (r : Bool) (H : laws_eqVrowSF n x0 x1 = some r) : LCall Tryz.prog 188 [.val false [.sl false 3 (CV.frzEs (x0.map Vrow.row))],.val false [.sl false 3 (CV.frzEs (x1.map Vrow.row))]] [.val false [.lit (.bool r)]] [] := by
 refine LCall.of_body tOk Tryz.func188 rfl (c := (.seq (G188 0) (.seq (.seq (G188 1) (.cond (.tmp 10) (.seq (G188 2) .ret) .skip)) (.seq (.seq (G188 3) (.block 0 (.loop (.seq (.seq (G188 4) (.cond (.tmp 14) .skip (.exit 0))) (.seq (.block 1 (.seq (D188 6) (.cond (.tmp 26) (.seq (G188 7) .ret) .skip))) (G188 5)))))) (.seq (G188 8) .ret))))) kr (Nat.le_of_ble_eq_true kr) 0 (rs := [.tmp 4]) rfl [] .nil [(false,[.lit (.bool r)])] [] [] fun cx => ?_
 show Tr _ _ _ ⟨27,0,[sC 0 (cF 3 x0 Vrow.row),sC 1 (cF 3 x1 Vrow.row)],[]⟩ _
 unfold laws_eqVrowSF at H
 refine tG tOk 1 3 0 kr kr ?_
 refine tS ?_
 refine rU tOk 1 kr ?_
 refine lL tOk 37 3 175 6 7 none ⟨(.slot 6),[],0,false,3,(CV.frzEs (x0.map Vrow.row))⟩ (x0).length _ kr kr kr kr kr (frz_len _ _) rfl ?_
 refine lU tOk 1 kr ?_
 refine lL tOk 37 3 175 8 9 none ⟨(.slot 8),[],0,false,3,(CV.frzEs (x1.map Vrow.row))⟩ (x1).length _ kr kr kr kr kr (frz_len _ _) rfl ?_
 refine uD tOk 1 1027 0 kr kr ?_
 obtain ⟨h1,H⟩ | ⟨h1,H⟩ := bC H
 ·refine tF h1 kr ?_
  refine tK ?_
  refine tS ?_
  refine tG tOk 1 35 0 kr kr ?_
  obtain ⟨o2,eo2,Ho2⟩ := bind_some H
  clear H
  refine Tr.mid (ι := Unit) (fun v => ⟨27,0,[],[]⟩) (fun v => laws_eqVrowS_J1 n = some r) ?_ ?_
  ·refine tB ?_
   refine Tr.loop (ι := Nat × (Int)) (fun v => ⟨27,0,[sI 5 v.2,sC 0 (cF 3 x0 Vrow.row),sC 1 (cF 3 x1 Vrow.row)],[]⟩) (fun v => laws_eqVrowS_L2 n v.1 x0 x1 v.2 = some o2) (fun v => v.1) (n,0) eo2 (St.sub_of [5,0,1] [] kr) ?_
   rintro ⟨mo2,y1⟩ H
   have H : laws_eqVrowS_L2 n mo2 x0 x1 y1 = some o2 := H
   obtain _ | mo2 := mo2
   ·cases (show (none : Option _) = some o2 from H)
   rw [laws_eqVrowS_L2] at H
   refine tS ?_
   refine rU tOk 2 kr ?_
   refine lL tOk 37 3 175 12 13 none ⟨(.slot 12),[],0,false,3,(CV.frzEs (x0.map Vrow.row))⟩ (x0).length _ kr kr kr kr kr (frz_len _ _) rfl ?_
   refine uD tOk 1 16419 0 kr kr ?_
   obtain ⟨h2,H⟩ | ⟨h2,H⟩ := bC H
   ·refine tF h2 kr ?_
    refine Tr.exit ?_
    refine And.intro (fun _ => ?_) (fun h => absurd rfl h)
    obtain rfl := si H
    have H := Ho2
    dsimp only at H
    exact jn () H (sB_ [] [] kr)
   refine tT h2 kr ?_
   refine tK ?_
   refine tS ?_
   refine tB ?_
   obtain ⟨v3,ev3,H⟩ := bind_some H
   obtain ⟨v4,ev4,H⟩ := bind_some H
   obtain ⟨r5,er5,H⟩ := bind_some H
   refine Tr.draws mixed 10 kr ⟨27,0,[sB 26 (!r5),sI 5 y1,sC 0 (cF 3 x0 Vrow.row),sC 1 (cF 3 x1 Vrow.row)],[]⟩ (fun cx => ?_) ?_
   ·refine aU tOk [(0,[]),(1,[])] 8 [] [1,0] rfl kr (fun cx => ?_)
    refine aI tOk 2 37 0 17 18 19 none ⟨(.slot 17),[],0,false,3,(CV.frzEs (x0.map Vrow.row))⟩ y1 (Vrow.row v3) _ kr kr kr kr kr kr rfl (idx_isF ev3) rfl (fun cx => ?_)
    refine aU tOk [(3,[]),(4,[]),(5,[])] 4 [] [5,4,3,2,1,0] rfl kr (fun cx => ?_)
    refine aI tOk 6 37 0 21 22 23 none ⟨(.slot 21),[],0,false,3,(CV.frzEs (x1.map Vrow.row))⟩ y1 (Vrow.row v4) _ kr kr kr kr kr kr rfl (idx_isF ev4) rfl (fun cx => ?_)
    refine aU tOk [(7,[])] 2 [] [7,6,5,4,3,2,1,0] rfl kr (fun cx => ?_)
    refine AT.big1 tOk 8 kr kr ?_
    refine lV tOk [.rd,.rd] [] (laws_eqVrow n v3 v4 r5 er5) kr kr kr kr (.inl rfl) ?_
    refine lF kr kr kr ?_
    refine aU tOk [(9,[])] 0 [] [9,8,7,6,5,4,3,2,1,0] rfl kr (fun cx => ?_)
    exact AT.done [26,5,0,1] [] _ kr kr rfl
   refine tO ⟨27,0,[sB 26 (!r5),sI 5 y1,sC 0 (cF 3 x0 Vrow.row),sC 1 (cF 3 x1 Vrow.row)],[]⟩ kr ?_
   cases h3 : (!r5)
   ·have H := bifF h3 H
    refine tf kr ?_
    refine tK ?_
    refine tE tOk 3 35 0 kr kr ?_
    exact jn (mo2,(IntKind.wrap .i64 (y1 + 1))) H (sM mo2 [5,0,1] [] kr)
   have H := bifT h3 H
   refine tt kr ?_
   refine tG tOk 1 16 0 kr kr ?_
   refine te ?_
   obtain rfl := si H
   have H := Ho2
   dsimp only at H
   obtain rfl := si H
   exact fO [(false,[cB false])] kr rfl rfl
  rintro _ H
  have H : (laws_eqVrowS_J1 n) = some r := H
  unfold laws_eqVrowS_J1 at H
  refine tG tOk 1 16 0 kr kr ?_
  exact te (by obtain rfl := si H; exact fO [(false,[cB true])] kr rfl rfl)
 refine tT h1 kr ?_
 refine tG tOk 1 16 0 kr kr ?_
 exact te (by obtain rfl := si H; exact fO [(false,[cB false])] kr rfl rfl)
def laws_eqIntS_J1 (n : Nat) : Option (Bool) :=
  (some true)
def laws_eqIntS_L2 (n : Nat) : Nat → (List Int) → (List Int) → Int → Option ((Unit) ⊕ (Bool))
  | 0,_,_,_ => none
  | mo2 + 1,x0,x1,y1 => (bif (decide (y1 < (x0.length : Int))) then ((idx x0 y1).bind fun v3 => ((idx x1 y1).bind fun v4 => (bif (v3 != v4) then (some (Sum.inr false)) else (laws_eqIntS_L2 n mo2 x0 x1 (IntKind.wrap .i64 (y1 + 1)))))) else (some (Sum.inl ())))
def laws_eqIntSF (n : Nat) (x0 : (List Int)) (x1 : (List Int)) : Option (Bool) :=
  (bif ((x0.length : Int) != (x1.length : Int)) then (some false) else ((laws_eqIntS_L2 n n x0 x1 0).bind fun o => match o with | .inl _ => (laws_eqIntS_J1 n) | .inr r => some r))
noncomputable abbrev G189 (k : Nat) := Rg Tryz.f189 k
noncomputable abbrev D189 (k : Nat) := Rd Tryz.f189 k
theorem laws_eqIntS (n : Nat) (x0 : (List Int)) (x1 : (List Int)) (r : Bool) (H : laws_eqIntSF n x0 x1 = some r) : LCall Tryz.prog 189 [.val false [.sl false 1 (CV.frzEs (x0.map intRow))],.val false [.sl false 1 (CV.frzEs (x1.map intRow))]] [.val false [.lit (.bool r)]] [] := by
 refine LCall.of_body tOk Tryz.func189 rfl (c := (.seq (G189 0) (.seq (.seq (G189 1) (.cond (.tmp 10) (.seq (G189 2) .ret) .skip)) (.seq (.seq (G189 3) (.block 0 (.loop (.seq (.seq (G189 4) (.cond (.tmp 14) .skip (.exit 0))) (.seq (.block 1 (.seq (D189 6) (.cond (.tmp 25) (.seq (G189 7) .ret) .skip))) (G189 5)))))) (.seq (G189 8) .ret))))) kr (Nat.le_of_ble_eq_true kr) 0 (rs := [.tmp 4]) rfl [] .nil [(false,[.lit (.bool r)])] [] [] fun cx => ?_
 show Tr _ _ _ ⟨26,0,[sC 0 (cF 1 x0 intRow),sC 1 (cF 1 x1 intRow)],[]⟩ _
 unfold laws_eqIntSF at H
 refine tG tOk 1 3 0 kr kr ?_
 refine tS ?_
 refine rU tOk 1 kr ?_
 refine lL tOk 25 3 3 6 7 none ⟨(.slot 6),[],0,false,1,(CV.frzEs (x0.map intRow))⟩ (x0).length _ kr kr kr kr kr (frz_len _ _) rfl ?_
 refine lU tOk 1 kr ?_
 refine lL tOk 25 3 3 8 9 none ⟨(.slot 8),[],0,false,1,(CV.frzEs (x1.map intRow))⟩ (x1).length _ kr kr kr kr kr (frz_len _ _) rfl ?_
 refine uD tOk 1 1027 0 kr kr ?_
 obtain ⟨h1,H⟩ | ⟨h1,H⟩ := bC H
 ·refine tF h1 kr ?_
  refine tK ?_
  refine tS ?_
  refine tG tOk 1 35 0 kr kr ?_
  obtain ⟨o2,eo2,Ho2⟩ := bind_some H
  clear H
  refine Tr.mid (ι := Unit) (fun v => ⟨26,0,[],[]⟩) (fun v => laws_eqIntS_J1 n = some r) ?_ ?_
  ·refine tB ?_
   refine Tr.loop (ι := Nat × (Int)) (fun v => ⟨26,0,[sI 5 v.2,sC 0 (cF 1 x0 intRow),sC 1 (cF 1 x1 intRow)],[]⟩) (fun v => laws_eqIntS_L2 n v.1 x0 x1 v.2 = some o2) (fun v => v.1) (n,0) eo2 (St.sub_of [5,0,1] [] kr) ?_
   rintro ⟨mo2,y1⟩ H
   have H : laws_eqIntS_L2 n mo2 x0 x1 y1 = some o2 := H
   obtain _ | mo2 := mo2
   ·cases (show (none : Option _) = some o2 from H)
   rw [laws_eqIntS_L2] at H
   refine tS ?_
   refine rU tOk 2 kr ?_
   refine lL tOk 25 3 3 12 13 none ⟨(.slot 12),[],0,false,1,(CV.frzEs (x0.map intRow))⟩ (x0).length _ kr kr kr kr kr (frz_len _ _) rfl ?_
   refine uD tOk 1 16419 0 kr kr ?_
   obtain ⟨h2,H⟩ | ⟨h2,H⟩ := bC H
   ·refine tF h2 kr ?_
    refine Tr.exit ?_
    refine And.intro (fun _ => ?_) (fun h => absurd rfl h)
    obtain rfl := si H
    have H := Ho2
    dsimp only at H
    exact jn () H (sB_ [] [] kr)
   refine tT h2 kr ?_
   refine tK ?_
   refine tS ?_
   refine tB ?_
   obtain ⟨v3,ev3,H⟩ := bind_some H
   obtain ⟨v4,ev4,H⟩ := bind_some H
   refine Tr.draws mixed 9 kr ⟨26,0,[sB 25 (v3 != v4),sI 5 y1,sC 0 (cF 1 x0 intRow),sC 1 (cF 1 x1 intRow)],[]⟩ (fun cx => ?_) ?_
   ·refine aU tOk [(0,[]),(1,[])] 7 [] [1,0] rfl kr (fun cx => ?_)
    refine aI tOk 2 25 0 17 18 19 none ⟨(.slot 17),[],0,false,1,(CV.frzEs (x0.map intRow))⟩ y1 [cI v3] _ kr kr kr kr kr kr rfl (idx_isF ev3) rfl (fun cx => ?_)
    refine aU tOk [(3,[]),(4,[]),(5,[])] 3 [] [5,4,3,2,1,0] rfl kr (fun cx => ?_)
    refine aI tOk 6 25 0 21 22 23 none ⟨(.slot 21),[],0,false,1,(CV.frzEs (x1.map intRow))⟩ y1 [cI v4] _ kr kr kr kr kr kr rfl (idx_isF ev4) rfl (fun cx => ?_)
    refine aU tOk [(7,[]),(8,[])] 0 [] [8,7,6,5,4,3,2,1,0] rfl kr (fun cx => ?_)
    exact AT.done [25,5,0,1] [] _ kr kr rfl
   refine tO ⟨26,0,[sB 25 (v3 != v4),sI 5 y1,sC 0 (cF 1 x0 intRow),sC 1 (cF 1 x1 intRow)],[]⟩ kr ?_
   cases h3 : (v3 != v4)
   ·have H := bifF h3 H
    refine tf kr ?_
    refine tK ?_
    refine tE tOk 3 35 0 kr kr ?_
    exact jn (mo2,(IntKind.wrap .i64 (y1 + 1))) H (sM mo2 [5,0,1] [] kr)
   have H := bifT h3 H
   refine tt kr ?_
   refine tG tOk 1 16 0 kr kr ?_
   refine te ?_
   obtain rfl := si H
   have H := Ho2
   dsimp only at H
   obtain rfl := si H
   exact fO [(false,[cB false])] kr rfl rfl
  rintro _ H
  have H : (laws_eqIntS_J1 n) = some r := H
  unfold laws_eqIntS_J1 at H
  refine tG tOk 1 16 0 kr kr ?_
  exact te (by obtain rfl := si H; exact fO [(false,[cB true])] kr rfl rfl)
 refine tT h1 kr ?_
 refine tG tOk 1 16 0 kr kr ?_
 exact te (by obtain rfl := si H; exact fO [(false,[cB false])] kr rfl rfl)
def laws_eqVtabF (n : Nat) (x0 : Vtab) (x1 : Vtab) : Option (Bool) :=
  ((laws_eqVrowSF n x0.Rows x1.Rows).bind fun r1 => (bif (!r1) then (some false) else ((laws_eqIntSF n x0.Pvid x1.Pvid).bind fun r2 => (bif (!r2) then (some false) else (some true)))))
noncomputable abbrev G92 (k : Nat) := Rg Tryz.f92 k
theorem laws_eqVtab (n : Nat) (x0 : Vtab) (x1 : Vtab) (r : Bool) (H : laws_eqVtabF n x0 x1 = some r) : LCall Tryz.prog 92 [.val true (CV.frzRow (Vtab.row x0)),.val true (CV.frzRow (Vtab.row x1))] [.val false [.lit (.bool r)]] [] := by
 refine LCall.of_body tOk Tryz.func92 rfl (c := (.seq (G92 0) (.seq (.seq (G92 1) (.cond (.tmp 10) (.seq (G92 2) .ret) .skip)) (.seq (.seq (G92 3) (.cond (.tmp 16) (.seq (G92 4) .ret) .skip)) (.seq (G92 5) .ret))))) kr (Nat.le_of_ble_eq_true kr) 0 (rs := [.tmp 4]) rfl [] .nil [(false,[.lit (.bool r)])] [] [] fun cx => ?_
 show Tr _ _ _ ⟨17,0,[sV 0 (CV.frzRow (Vtab.row x0)),sV 1 (CV.frzRow (Vtab.row x1))],[]⟩ _
 unfold laws_eqVtabF at H
 refine tG tOk 3 12 12 kr kr ?_
 refine tS ?_
 refine rU tOk 4 kr ?_
 obtain ⟨r1,er1,H⟩ := bind_some H
 refine lV tOk [.rd,.rd] [] (laws_eqVrowS n x0.Rows x1.Rows r1 er1) kr kr kr kr (.inl rfl) ?_
 refine uD tOk 1 1036 12 kr kr ?_
 obtain ⟨h1,H⟩ | ⟨h1,H⟩ := bC H
 ·refine tF h1 kr ?_
  refine tK ?_
  refine tS ?_
  refine rU tOk 4 kr ?_
  obtain ⟨r2,er2,H⟩ := bind_some H
  refine lV tOk [.rd,.rd] [] (laws_eqIntS n x0.Pvid x1.Pvid r2 er2) kr kr kr kr (.inl rfl) ?_
  refine uD tOk 1 65536 0 kr kr ?_
  obtain ⟨h2,H⟩ | ⟨h2,H⟩ := bC H
  ·refine tF h2 kr ?_
   refine tK ?_
   refine tG tOk 1 16 0 kr kr ?_
   exact te (by obtain rfl := si H; exact fO [(false,[cB true])] kr rfl rfl)
  refine tT h2 kr ?_
  refine tG tOk 1 16 0 kr kr ?_
  exact te (by obtain rfl := si H; exact fO [(false,[cB false])] kr rfl rfl)
 refine tT h1 kr ?_
 refine tG tOk 1 16 0 kr kr ?_
 exact te (by obtain rfl := si H; exact fO [(false,[cB false])] kr rfl rfl)
def laws_eqBridgeF (n : Nat) (x0 : Bridge) (x1 : Bridge) : Option (Bool) :=
  (bif (x0.Id != x1.Id) then (some false) else (bif (!(x0.Name.toList == x1.Name.toList)) then (some false) else ((laws_eqPtSF n x0.Ports x1.Ports).bind fun r1 => (bif (!r1) then (some false) else ((laws_eqFentSF n x0.F x1.F).bind fun r2 => (bif (!r2) then (some false) else ((laws_eqVtabF n x0.V x1.V).bind fun r3 => (bif (!r3) then (some false) else (bif (x0.Ticks != x1.Ticks) then (some false) else (bif (x0.Parse != x1.Parse) then (some false) else (bif (x0.Word != x1.Word) then (some false) else (bif (x0.Drops != x1.Drops) then (some false) else (bif (x0.Vers != x1.Vers) then (some false) else (some true))))))))))))))
noncomputable abbrev G15 (k : Nat) := Rg Tryz.f15 k
theorem laws_eqBridge (n : Nat) (x0 : Bridge) (x1 : Bridge) (r : Bool) (H : laws_eqBridgeF n x0 x1 = some r) : LCall Tryz.prog 15 [.val true (CV.frzRow (Bridge.row x0)),.val true (CV.frzRow (Bridge.row x1))] [.val false [.lit (.bool r)]] [] := by
 refine LCall.of_body tOk Tryz.func15 rfl (c := (.seq (G15 0) (.seq (.seq (G15 1) (.cond (.tmp 9) (.seq (G15 2) .ret) .skip)) (.seq (.seq (G15 3) (.cond (.tmp 14) (.seq (G15 4) .ret) .skip)) (.seq (.seq (G15 5) (.cond (.tmp 20) (.seq (G15 6) .ret) .skip)) (.seq (.seq (G15 7) (.cond (.tmp 26) (.seq (G15 8) .ret) .skip)) (.seq (.seq (G15 9) (.cond (.tmp 32) (.seq (G15 10) .ret) .skip)) (.seq (.seq (G15 11) (.cond (.tmp 37) (.seq (G15 12) .ret) .skip)) (.seq (.seq (G15 13) (.cond (.tmp 42) (.seq (G15 14) .ret) .skip)) (.seq (.seq (G15 15) (.cond (.tmp 47) (.seq (G15 16) .ret) .skip)) (.seq (.seq (G15 17) (.cond (.tmp 52) (.seq (G15 18) .ret) .skip)) (.seq (.seq (G15 19) (.cond (.tmp 57) (.seq (G15 20) .ret) .skip)) (.seq (G15 21) .ret))))))))))))) kr (Nat.le_of_ble_eq_true kr) 0 (rs := [.tmp 4]) rfl [] .nil [(false,[.lit (.bool r)])] [] [] fun cx => ?_
 show Tr _ _ _ ⟨58,0,[sV 0 (CV.frzRow (Bridge.row x0)),sV 1 (CV.frzRow (Bridge.row x1))],[]⟩ _
 unfold laws_eqBridgeF at H
 refine tG tOk 3 12 12 kr kr ?_
 refine tS ?_
 refine tG tOk 5 524 12 kr kr ?_
 obtain ⟨h1,H⟩ | ⟨h1,H⟩ := bC H
 ·refine tF h1 kr ?_
  refine tK ?_
  refine tS ?_
  refine tG tOk 5 16396 12 kr kr ?_
  obtain ⟨h2,H⟩ | ⟨h2,H⟩ := bC H
  ·refine tF h2 kr ?_
   refine tK ?_
   refine tS ?_
   refine rU tOk 4 kr ?_
   obtain ⟨r1,er1,H⟩ := bind_some H
   refine lV tOk [.rd,.rd] [] (laws_eqPtS n x0.Ports x1.Ports r1 er1) kr kr kr kr (.inl rfl) ?_
   refine uD tOk 1 1048588 12 kr kr ?_
   obtain ⟨h3,H⟩ | ⟨h3,H⟩ := bC H
   ·refine tF h3 kr ?_
    refine tK ?_
    refine tS ?_
    refine rU tOk 4 kr ?_
    obtain ⟨r2,er2,H⟩ := bind_some H
    refine lV tOk [.rd,.rd] [] (laws_eqFentS n x0.F x1.F r2 er2) kr kr kr kr (.inl rfl) ?_
    refine uD tOk 1 67108876 12 kr kr ?_
    obtain ⟨h4,H⟩ | ⟨h4,H⟩ := bC H
    ·refine tF h4 kr ?_
     refine tK ?_
     refine tS ?_
     refine rU tOk 4 kr ?_
     obtain ⟨r3,er3,H⟩ := bind_some H
     refine lV tOk [.rd,.rd] [] (laws_eqVtab n x0.V x1.V r3 er3) kr kr kr kr (.inl rfl) ?_
     refine uD tOk 1 4294967308 12 kr kr ?_
     obtain ⟨h5,H⟩ | ⟨h5,H⟩ := bC H
     ·refine tF h5 kr ?_
      refine tK ?_
      refine tS ?_
      refine tG tOk 5 137438953484 12 kr kr ?_
      refine tO ⟨58,0,[sB 37 (x0.Ticks != x1.Ticks),sA 3 3 11 0,sA 2 2 11 0],[(3,(CV.frzRow (Bridge.row x1))),(2,(CV.frzRow (Bridge.row x0)))]⟩ kr ?_
      cases h6 : (x0.Ticks != x1.Ticks)
      ·have H := bifF h6 H
       refine tf kr ?_
       refine tK ?_
       refine tS ?_
       refine tG tOk 5 4398046511116 12 kr kr ?_
       obtain ⟨h7,H⟩ | ⟨h7,H⟩ := bC H
       ·refine tF h7 kr ?_
        refine tK ?_
        refine tS ?_
        refine tG tOk 5 0x80000000000c 12 kr kr ?_
        obtain ⟨h8,H⟩ | ⟨h8,H⟩ := bC H
        ·refine tF h8 kr ?_
         refine tK ?_
         refine tS ?_
         refine tG tOk 5 4503599627370508 12 kr kr ?_
         obtain ⟨h9,H⟩ | ⟨h9,H⟩ := bC H
         ·refine tF h9 kr ?_
          refine tK ?_
          refine tS ?_
          refine tG tOk 5 0x200000000000000 0 kr kr ?_
          obtain ⟨h10,H⟩ | ⟨h10,H⟩ := bC H
          ·refine tF h10 kr ?_
           refine tK ?_
           refine tG tOk 1 16 0 kr kr ?_
           exact te (by obtain rfl := si H; exact fO [(false,[cB true])] kr rfl rfl)
          refine tT h10 kr ?_
          refine tG tOk 1 16 0 kr kr ?_
          exact te (by obtain rfl := si H; exact fO [(false,[cB false])] kr rfl rfl)
         refine tT h9 kr ?_
         refine tG tOk 1 16 0 kr kr ?_
         exact te (by obtain rfl := si H; exact fO [(false,[cB false])] kr rfl rfl)
        refine tT h8 kr ?_
        refine tG tOk 1 16 0 kr kr ?_
        exact te (by obtain rfl := si H; exact fO [(false,[cB false])] kr rfl rfl)
       refine tT h7 kr ?_
       refine tG tOk 1 16 0 kr kr ?_
       exact te (by obtain rfl := si H; exact fO [(false,[cB false])] kr rfl rfl)
      have H := bifT h6 H
      refine tt kr ?_
      refine tG tOk 1 16 0 kr kr ?_
      exact te (by obtain rfl := si H; exact fO [(false,[cB false])] kr rfl rfl)
     refine tT h5 kr ?_
     refine tG tOk 1 16 0 kr kr ?_
     exact te (by obtain rfl := si H; exact fO [(false,[cB false])] kr rfl rfl)
    refine tT h4 kr ?_
    refine tG tOk 1 16 0 kr kr ?_
    exact te (by obtain rfl := si H; exact fO [(false,[cB false])] kr rfl rfl)
   refine tT h3 kr ?_
   refine tG tOk 1 16 0 kr kr ?_
   exact te (by obtain rfl := si H; exact fO [(false,[cB false])] kr rfl rfl)
  refine tT h2 kr ?_
  refine tG tOk 1 16 0 kr kr ?_
  exact te (by obtain rfl := si H; exact fO [(false,[cB false])] kr rfl rfl)
 refine tT h1 kr ?_
 refine tG tOk 1 16 0 kr kr ?_
 exact te (by obtain rfl := si H; exact fO [(false,[cB false])] kr rfl rfl)
def laws_eqByteS_J1 (n : Nat) : Option (Bool) :=
  (some true)
def laws_eqByteS_L2 (n : Nat) : Nat → (List Int) → (List Int) → Int → Option ((Unit) ⊕ (Bool))
  | 0,_,_,_ => none
  | mo2 + 1,x0,x1,y1 => (bif (decide (y1 < (x0.length : Int))) then ((idx x0 y1).bind fun v3 => ((idx x1 y1).bind fun v4 => (bif (v3 != v4) then (some (Sum.inr false)) else (laws_eqByteS_L2 n mo2 x0 x1 (IntKind.wrap .i64 (y1 + 1)))))) else (some (Sum.inl ())))
def laws_eqByteSF (n : Nat) (x0 : (List Int)) (x1 : (List Int)) : Option (Bool) :=
  (bif ((x0.length : Int) != (x1.length : Int)) then (some false) else ((laws_eqByteS_L2 n n x0 x1 0).bind fun o => match o with | .inl _ => (laws_eqByteS_J1 n) | .inr r => some r))
noncomputable abbrev G94 (k : Nat) := Rg Tryz.f94 k
noncomputable abbrev D94 (k : Nat) := Rd Tryz.f94 k
theorem laws_eqByteS (n : Nat) (x0 : (List Int)) (x1 : (List Int)) (r : Bool) (H : laws_eqByteSF n x0 x1 = some r) : LCall Tryz.prog 94 [.val false [.sl false 1 (CV.frzEs (x0.map byteRow))],.val false [.sl false 1 (CV.frzEs (x1.map byteRow))]] [.val false [.lit (.bool r)]] [] := by
 refine LCall.of_body tOk Tryz.func94 rfl (c := (.seq (G94 0) (.seq (.seq (G94 1) (.cond (.tmp 10) (.seq (G94 2) .ret) .skip)) (.seq (.seq (G94 3) (.block 0 (.loop (.seq (.seq (G94 4) (.cond (.tmp 14) .skip (.exit 0))) (.seq (.block 1 (.seq (D94 6) (.cond (.tmp 25) (.seq (G94 7) .ret) .skip))) (G94 5)))))) (.seq (G94 8) .ret))))) kr (Nat.le_of_ble_eq_true kr) 0 (rs := [.tmp 4]) rfl [] .nil [(false,[.lit (.bool r)])] [] [] fun cx => ?_
 show Tr _ _ _ ⟨26,0,[sC 0 (cF 1 x0 byteRow),sC 1 (cF 1 x1 byteRow)],[]⟩ _
 unfold laws_eqByteSF at H
 refine tG tOk 1 3 0 kr kr ?_
 refine tS ?_
 refine rU tOk 1 kr ?_
 refine lL tOk 30 3 5 6 7 none ⟨(.slot 6),[],0,false,1,(CV.frzEs (x0.map byteRow))⟩ (x0).length _ kr kr kr kr kr (frz_len _ _) rfl ?_
 refine lU tOk 1 kr ?_
 refine lL tOk 30 3 5 8 9 none ⟨(.slot 8),[],0,false,1,(CV.frzEs (x1.map byteRow))⟩ (x1).length _ kr kr kr kr kr (frz_len _ _) rfl ?_
 refine uD tOk 1 1027 0 kr kr ?_
 obtain ⟨h1,H⟩ | ⟨h1,H⟩ := bC H
 ·refine tF h1 kr ?_
  refine tK ?_
  refine tS ?_
  refine tG tOk 1 35 0 kr kr ?_
  obtain ⟨o2,eo2,Ho2⟩ := bind_some H
  clear H
  refine Tr.mid (ι := Unit) (fun v => ⟨26,0,[],[]⟩) (fun v => laws_eqByteS_J1 n = some r) ?_ ?_
  ·refine tB ?_
   refine Tr.loop (ι := Nat × (Int)) (fun v => ⟨26,0,[sI 5 v.2,sC 0 (cF 1 x0 byteRow),sC 1 (cF 1 x1 byteRow)],[]⟩) (fun v => laws_eqByteS_L2 n v.1 x0 x1 v.2 = some o2) (fun v => v.1) (n,0) eo2 (St.sub_of [5,0,1] [] kr) ?_
   rintro ⟨mo2,y1⟩ H
   have H : laws_eqByteS_L2 n mo2 x0 x1 y1 = some o2 := H
   obtain _ | mo2 := mo2
   ·cases (show (none : Option _) = some o2 from H)
   rw [laws_eqByteS_L2] at H
   refine tS ?_
   refine rU tOk 2 kr ?_
   refine lL tOk 30 3 5 12 13 none ⟨(.slot 12),[],0,false,1,(CV.frzEs (x0.map byteRow))⟩ (x0).length _ kr kr kr kr kr (frz_len _ _) rfl ?_
   refine uD tOk 1 16419 0 kr kr ?_
   obtain ⟨h2,H⟩ | ⟨h2,H⟩ := bC H
   ·refine tF h2 kr ?_
    refine Tr.exit ?_
    refine And.intro (fun _ => ?_) (fun h => absurd rfl h)
    obtain rfl := si H
    have H := Ho2
    dsimp only at H
    exact jn () H (sB_ [] [] kr)
   refine tT h2 kr ?_
   refine tK ?_
   refine tS ?_
   refine tB ?_
   obtain ⟨v3,ev3,H⟩ := bind_some H
   obtain ⟨v4,ev4,H⟩ := bind_some H
   refine Tr.draws mixed 9 kr ⟨26,0,[sB 25 (v3 != v4),sI 5 y1,sC 0 (cF 1 x0 byteRow),sC 1 (cF 1 x1 byteRow)],[]⟩ (fun cx => ?_) ?_
   ·refine aU tOk [(0,[]),(1,[])] 7 [] [1,0] rfl kr (fun cx => ?_)
    refine aI tOk 2 30 0 17 18 19 none ⟨(.slot 17),[],0,false,1,(CV.frzEs (x0.map byteRow))⟩ y1 [.lit (.int .u8 v3)] _ kr kr kr kr kr kr rfl (idx_isF ev3) rfl (fun cx => ?_)
    refine aU tOk [(3,[]),(4,[]),(5,[])] 3 [] [5,4,3,2,1,0] rfl kr (fun cx => ?_)
    refine aI tOk 6 30 0 21 22 23 none ⟨(.slot 21),[],0,false,1,(CV.frzEs (x1.map byteRow))⟩ y1 [.lit (.int .u8 v4)] _ kr kr kr kr kr kr rfl (idx_isF ev4) rfl (fun cx => ?_)
    refine aU tOk [(7,[]),(8,[])] 0 [] [8,7,6,5,4,3,2,1,0] rfl kr (fun cx => ?_)
    exact AT.done [25,5,0,1] [] _ kr kr rfl
   refine tO ⟨26,0,[sB 25 (v3 != v4),sI 5 y1,sC 0 (cF 1 x0 byteRow),sC 1 (cF 1 x1 byteRow)],[]⟩ kr ?_
   cases h3 : (v3 != v4)
   ·have H := bifF h3 H
    refine tf kr ?_
    refine tK ?_
    refine tE tOk 3 35 0 kr kr ?_
    exact jn (mo2,(IntKind.wrap .i64 (y1 + 1))) H (sM mo2 [5,0,1] [] kr)
   have H := bifT h3 H
   refine tt kr ?_
   refine tG tOk 1 16 0 kr kr ?_
   refine te ?_
   obtain rfl := si H
   have H := Ho2
   dsimp only at H
   obtain rfl := si H
   exact fO [(false,[cB false])] kr rfl rfl
  rintro _ H
  have H : (laws_eqByteS_J1 n) = some r := H
  unfold laws_eqByteS_J1 at H
  refine tG tOk 1 16 0 kr kr ?_
  exact te (by obtain rfl := si H; exact fO [(false,[cB true])] kr rfl rfl)
 refine tT h1 kr ?_
 refine tG tOk 1 16 0 kr kr ?_
 exact te (by obtain rfl := si H; exact fO [(false,[cB false])] kr rfl rfl)
def laws_eqFrameF (n : Nat) (x0 : Frame) (x1 : Frame) : Option (Bool) :=
  (bif (x0.Dst != x1.Dst) then (some false) else (bif (x0.Src != x1.Src) then (some false) else (bif (x0.Tag != x1.Tag) then (some false) else ((laws_eqByteSF n x0.Data x1.Data).bind fun r1 => (bif (!r1) then (some false) else (some true))))))
noncomputable abbrev G17 (k : Nat) := Rg Tryz.f17 k
theorem laws_eqFrame (n : Nat) (x0 : Frame) (x1 : Frame) (r : Bool) (H : laws_eqFrameF n x0 x1 = some r) : LCall Tryz.prog 17 [.val true (CV.frzRow (Frame.row x0)),.val true (CV.frzRow (Frame.row x1))] [.val false [.lit (.bool r)]] [] := by
 refine LCall.of_body tOk Tryz.func17 rfl (c := (.seq (G17 0) (.seq (.seq (G17 1) (.cond (.tmp 9) (.seq (G17 2) .ret) .skip)) (.seq (.seq (G17 3) (.cond (.tmp 14) (.seq (G17 4) .ret) .skip)) (.seq (.seq (G17 5) (.cond (.tmp 19) (.seq (G17 6) .ret) .skip)) (.seq (.seq (G17 7) (.cond (.tmp 25) (.seq (G17 8) .ret) .skip)) (.seq (G17 9) .ret))))))) kr (Nat.le_of_ble_eq_true kr) 0 (rs := [.tmp 4]) rfl [] .nil [(false,[.lit (.bool r)])] [] [] fun cx => ?_
 show Tr _ _ _ ⟨26,0,[sV 0 (CV.frzRow (Frame.row x0)),sV 1 (CV.frzRow (Frame.row x1))],[]⟩ _
 unfold laws_eqFrameF at H
 refine tG tOk 3 12 12 kr kr ?_
 refine tS ?_
 refine tG tOk 5 524 12 kr kr ?_
 obtain ⟨h1,H⟩ | ⟨h1,H⟩ := bC H
 ·refine tF h1 kr ?_
  refine tK ?_
  refine tS ?_
  refine tG tOk 5 16396 12 kr kr ?_
  obtain ⟨h2,H⟩ | ⟨h2,H⟩ := bC H
  ·refine tF h2 kr ?_
   refine tK ?_
   refine tS ?_
   refine tG tOk 5 524300 12 kr kr ?_
   obtain ⟨h3,H⟩ | ⟨h3,H⟩ := bC H
   ·refine tF h3 kr ?_
    refine tK ?_
    refine tS ?_
    refine rU tOk 4 kr ?_
    obtain ⟨r1,er1,H⟩ := bind_some H
    refine lV tOk [.rd,.rd] [] (laws_eqByteS n x0.Data x1.Data r1 er1) kr kr kr kr (.inl rfl) ?_
    refine uD tOk 1 33554432 0 kr kr ?_
    obtain ⟨h4,H⟩ | ⟨h4,H⟩ := bC H
    ·refine tF h4 kr ?_
     refine tK ?_
     refine tG tOk 1 16 0 kr kr ?_
     exact te (by obtain rfl := si H; exact fO [(false,[cB true])] kr rfl rfl)
    refine tT h4 kr ?_
    refine tG tOk 1 16 0 kr kr ?_
    exact te (by obtain rfl := si H; exact fO [(false,[cB false])] kr rfl rfl)
   refine tT h3 kr ?_
   refine tG tOk 1 16 0 kr kr ?_
   exact te (by obtain rfl := si H; exact fO [(false,[cB false])] kr rfl rfl)
  refine tT h2 kr ?_
  refine tG tOk 1 16 0 kr kr ?_
  exact te (by obtain rfl := si H; exact fO [(false,[cB false])] kr rfl rfl)
 refine tT h1 kr ?_
 refine tG tOk 1 16 0 kr kr ?_
 exact te (by obtain rfl := si H; exact fO [(false,[cB false])] kr rfl rfl)
def laws_eqOutF (n : Nat) (x0 : Out) (x1 : Out) : Option (Bool) :=
  (bif (x0.Port != x1.Port) then (some false) else ((laws_eqFrameF n x0.F x1.F).bind fun r1 => (bif (!r1) then (some false) else (some true))))
noncomputable abbrev G93 (k : Nat) := Rg Tryz.f93 k
theorem laws_eqOut (n : Nat) (x0 : Out) (x1 : Out) (r : Bool) (H : laws_eqOutF n x0 x1 = some r) : LCall Tryz.prog 93 [.val true (CV.frzRow (Out.row x0)),.val true (CV.frzRow (Out.row x1))] [.val false [.lit (.bool r)]] [] := by
 refine LCall.of_body tOk Tryz.func93 rfl (c := (.seq (G93 0) (.seq (.seq (G93 1) (.cond (.tmp 9) (.seq (G93 2) .ret) .skip)) (.seq (.seq (G93 3) (.cond (.tmp 15) (.seq (G93 4) .ret) .skip)) (.seq (G93 5) .ret))))) kr (Nat.le_of_ble_eq_true kr) 0 (rs := [.tmp 4]) rfl [] .nil [(false,[.lit (.bool r)])] [] [] fun cx => ?_
 show Tr _ _ _ ⟨16,0,[sV 0 (CV.frzRow (Out.row x0)),sV 1 (CV.frzRow (Out.row x1))],[]⟩ _
 unfold laws_eqOutF at H
 refine tG tOk 3 12 12 kr kr ?_
 refine tS ?_
 refine tG tOk 5 524 12 kr kr ?_
 obtain ⟨h1,H⟩ | ⟨h1,H⟩ := bC H
 ·refine tF h1 kr ?_
  refine tK ?_
  refine tS ?_
  refine rU tOk 4 kr ?_
  obtain ⟨r1,er1,H⟩ := bind_some H
  refine lV tOk [.rd,.rd] [] (laws_eqFrame n x0.F x1.F r1 er1) kr kr kr kr (.inl rfl) ?_
  refine uD tOk 1 32768 0 kr kr ?_
  obtain ⟨h2,H⟩ | ⟨h2,H⟩ := bC H
  ·refine tF h2 kr ?_
   refine tK ?_
   refine tG tOk 1 16 0 kr kr ?_
   exact te (by obtain rfl := si H; exact fO [(false,[cB true])] kr rfl rfl)
  refine tT h2 kr ?_
  refine tG tOk 1 16 0 kr kr ?_
  exact te (by obtain rfl := si H; exact fO [(false,[cB false])] kr rfl rfl)
 refine tT h1 kr ?_
 refine tG tOk 1 16 0 kr kr ?_
 exact te (by obtain rfl := si H; exact fO [(false,[cB false])] kr rfl rfl)
def laws_eqOutS_J1 (n : Nat) : Option (Bool) :=
  (some true)
def laws_eqOutS_L2 (n : Nat) : Nat → (List Out) → (List Out) → Int → Option ((Unit) ⊕ (Bool))
  | 0,_,_,_ => none
  | mo2 + 1,x0,x1,y1 => (bif (decide (y1 < (x0.length : Int))) then ((idx x0 y1).bind fun v3 => ((idx x1 y1).bind fun v4 => ((laws_eqOutF n v3 v4).bind fun r5 => (bif (!r5) then (some (Sum.inr false)) else (laws_eqOutS_L2 n mo2 x0 x1 (IntKind.wrap .i64 (y1 + 1))))))) else (some (Sum.inl ())))
def laws_eqOutSF (n : Nat) (x0 : (List Out)) (x1 : (List Out)) : Option (Bool) :=
  (bif ((x0.length : Int) != (x1.length : Int)) then (some false) else ((laws_eqOutS_L2 n n x0 x1 0).bind fun o => match o with | .inl _ => (laws_eqOutS_J1 n) | .inr r => some r))
noncomputable abbrev G16 (k : Nat) := Rg Tryz.f16 k
noncomputable abbrev D16 (k : Nat) := Rd Tryz.f16 k
theorem laws_eqOutS (n : Nat) (x0 : (List Out)) (x1 : (List Out)) (r : Bool) (H : laws_eqOutSF n x0 x1 = some r) : LCall Tryz.prog 16 [.val false [.sl false 5 (CV.frzEs (x0.map Out.row))],.val false [.sl false 5 (CV.frzEs (x1.map Out.row))]] [.val false [.lit (.bool r)]] [] := by
 refine LCall.of_body tOk Tryz.func16 rfl (c := (.seq (G16 0) (.seq (.seq (G16 1) (.cond (.tmp 10) (.seq (G16 2) .ret) .skip)) (.seq (.seq (G16 3) (.block 0 (.loop (.seq (.seq (G16 4) (.cond (.tmp 14) .skip (.exit 0))) (.seq (.block 1 (.seq (D16 6) (.cond (.tmp 26) (.seq (G16 7) .ret) .skip))) (G16 5)))))) (.seq (G16 8) .ret))))) kr (Nat.le_of_ble_eq_true kr) 0 (rs := [.tmp 4]) rfl [] .nil [(false,[.lit (.bool r)])] [] [] fun cx => ?_
 show Tr _ _ _ ⟨27,0,[sC 0 (cF 5 x0 Out.row),sC 1 (cF 5 x1 Out.row)],[]⟩ _
 unfold laws_eqOutSF at H
 refine tG tOk 1 3 0 kr kr ?_
 refine tS ?_
 refine rU tOk 1 kr ?_
 refine lL tOk 42 3 94 6 7 none ⟨(.slot 6),[],0,false,5,(CV.frzEs (x0.map Out.row))⟩ (x0).length _ kr kr kr kr kr (frz_len _ _) rfl ?_
 refine lU tOk 1 kr ?_
 refine lL tOk 42 3 94 8 9 none ⟨(.slot 8),[],0,false,5,(CV.frzEs (x1.map Out.row))⟩ (x1).length _ kr kr kr kr kr (frz_len _ _) rfl ?_
 refine uD tOk 1 1027 0 kr kr ?_
 obtain ⟨h1,H⟩ | ⟨h1,H⟩ := bC H
 ·refine tF h1 kr ?_
  refine tK ?_
  refine tS ?_
  refine tG tOk 1 35 0 kr kr ?_
  obtain ⟨o2,eo2,Ho2⟩ := bind_some H
  clear H
  refine Tr.mid (ι := Unit) (fun v => ⟨27,0,[],[]⟩) (fun v => laws_eqOutS_J1 n = some r) ?_ ?_
  ·refine tB ?_
   refine Tr.loop (ι := Nat × (Int)) (fun v => ⟨27,0,[sI 5 v.2,sC 0 (cF 5 x0 Out.row),sC 1 (cF 5 x1 Out.row)],[]⟩) (fun v => laws_eqOutS_L2 n v.1 x0 x1 v.2 = some o2) (fun v => v.1) (n,0) eo2 (St.sub_of [5,0,1] [] kr) ?_
   rintro ⟨mo2,y1⟩ H
   have H : laws_eqOutS_L2 n mo2 x0 x1 y1 = some o2 := H
   obtain _ | mo2 := mo2
   ·cases (show (none : Option _) = some o2 from H)
   rw [laws_eqOutS_L2] at H
   refine tS ?_
   refine rU tOk 2 kr ?_
   refine lL tOk 42 3 94 12 13 none ⟨(.slot 12),[],0,false,5,(CV.frzEs (x0.map Out.row))⟩ (x0).length _ kr kr kr kr kr (frz_len _ _) rfl ?_
   refine uD tOk 1 16419 0 kr kr ?_
   obtain ⟨h2,H⟩ | ⟨h2,H⟩ := bC H
   ·refine tF h2 kr ?_
    refine Tr.exit ?_
    refine And.intro (fun _ => ?_) (fun h => absurd rfl h)
    obtain rfl := si H
    have H := Ho2
    dsimp only at H
    exact jn () H (sB_ [] [] kr)
   refine tT h2 kr ?_
   refine tK ?_
   refine tS ?_
   refine tB ?_
   obtain ⟨v3,ev3,H⟩ := bind_some H
   obtain ⟨v4,ev4,H⟩ := bind_some H
   obtain ⟨r5,er5,H⟩ := bind_some H
   refine Tr.draws mixed 10 kr ⟨27,0,[sB 26 (!r5),sI 5 y1,sC 0 (cF 5 x0 Out.row),sC 1 (cF 5 x1 Out.row)],[]⟩ (fun cx => ?_) ?_
   ·refine aU tOk [(0,[]),(1,[])] 8 [] [1,0] rfl kr (fun cx => ?_)
    refine aI tOk 2 42 0 17 18 19 none ⟨(.slot 17),[],0,false,5,(CV.frzEs (x0.map Out.row))⟩ y1 (CV.frzRow (Out.row v3)) _ kr kr kr kr kr kr rfl (idx_isF ev3) rfl (fun cx => ?_)
    refine aU tOk [(3,[]),(4,[]),(5,[])] 4 [] [5,4,3,2,1,0] rfl kr (fun cx => ?_)
    refine aI tOk 6 42 0 21 22 23 none ⟨(.slot 21),[],0,false,5,(CV.frzEs (x1.map Out.row))⟩ y1 (CV.frzRow (Out.row v4)) _ kr kr kr kr kr kr rfl (idx_isF ev4) rfl (fun cx => ?_)
    refine aU tOk [(7,[])] 2 [] [7,6,5,4,3,2,1,0] rfl kr (fun cx => ?_)
    refine AT.big1 tOk 8 kr kr ?_
    refine lV tOk [.rd,.rd] [] (laws_eqOut n v3 v4 r5 er5) kr kr kr kr (.inl rfl) ?_
    refine lF kr kr kr ?_
    refine aU tOk [(9,[])] 0 [] [9,8,7,6,5,4,3,2,1,0] rfl kr (fun cx => ?_)
    exact AT.done [26,5,0,1] [] _ kr kr rfl
   refine tO ⟨27,0,[sB 26 (!r5),sI 5 y1,sC 0 (cF 5 x0 Out.row),sC 1 (cF 5 x1 Out.row)],[]⟩ kr ?_
   cases h3 : (!r5)
   ·have H := bifF h3 H
    refine tf kr ?_
    refine tK ?_
    refine tE tOk 3 35 0 kr kr ?_
    exact jn (mo2,(IntKind.wrap .i64 (y1 + 1))) H (sM mo2 [5,0,1] [] kr)
   have H := bifT h3 H
   refine tt kr ?_
   refine tG tOk 1 16 0 kr kr ?_
   refine te ?_
   obtain rfl := si H
   have H := Ho2
   dsimp only at H
   obtain rfl := si H
   exact fO [(false,[cB false])] kr rfl rfl
  rintro _ H
  have H : (laws_eqOutS_J1 n) = some r := H
  unfold laws_eqOutS_J1 at H
  refine tG tOk 1 16 0 kr kr ?_
  exact te (by obtain rfl := si H; exact fO [(false,[cB true])] kr rfl rfl)
 refine tT h1 kr ?_
 refine tG tOk 1 16 0 kr kr ?_
 exact te (by obtain rfl := si H; exact fO [(false,[cB false])] kr rfl rfl)
def laws_markPtS_J1 (n : Nat) (y4 : (List Pt)) (y5 : Int) : Option (Int × (List Pt)) :=
  (some (y5,y4))
def laws_markPtS_L2 (n : Nat) : Nat → Int → (List Pt) → Int → Option (((List Pt) × Int) ⊕ (Int × (List Pt)))
  | 0,_,_,_ => none
  | mo6 + 1,y1,y2,y3 => (bif (decide (y1 < (y2.length : Int))) then (bif (decide ((3 : Int) ≠ 0)) then ((idx y2 y1).bind fun v8 => ((idx (y2.set (y1.toNat) (⟨((Int.tmod y3 3) == 0),v8.Cost,v8.Has,v8.Heard⟩ : Pt)) y1).bind fun v9 => (bif (decide ((3 : Int) ≠ 0)) then ((idx ((y2.set (y1.toNat) (⟨((Int.tmod y3 3) == 0),v8.Cost,v8.Has,v8.Heard⟩ : Pt)).set (y1.toNat) (⟨v9.Up,(IntKind.wrap .i64 (y3 + 1)),v9.Has,v9.Heard⟩ : Pt)) y1).bind fun v11 => ((idx (((y2.set (y1.toNat) (⟨((Int.tmod y3 3) == 0),v8.Cost,v8.Has,v8.Heard⟩ : Pt)).set (y1.toNat) (⟨v9.Up,(IntKind.wrap .i64 (y3 + 1)),v9.Has,v9.Heard⟩ : Pt)).set (y1.toNat) (⟨v11.Up,v11.Cost,((Int.tmod (IntKind.wrap .i64 ((IntKind.wrap .i64 (y3 + 1)) + 1)) 3) == 0),v11.Heard⟩ : Pt)) y1).bind fun v12 => ((idx ((((y2.set (y1.toNat) (⟨((Int.tmod y3 3) == 0),v8.Cost,v8.Has,v8.Heard⟩ : Pt)).set (y1.toNat) (⟨v9.Up,(IntKind.wrap .i64 (y3 + 1)),v9.Has,v9.Heard⟩ : Pt)).set (y1.toNat) (⟨v11.Up,v11.Cost,((Int.tmod (IntKind.wrap .i64 ((IntKind.wrap .i64 (y3 + 1)) + 1)) 3) == 0),v11.Heard⟩ : Pt)).set (y1.toNat) (⟨v12.Up,v12.Cost,v12.Has,(⟨(IntKind.wrap .i64 ((IntKind.wrap .i64 ((IntKind.wrap .i64 (y3 + 1)) + 1)) + 1)),v12.Heard.Cost,v12.Heard.Hops,v12.Heard.Bridge,v12.Heard.Port⟩ : Vec)⟩ : Pt)) y1).bind fun v13 => ((idx (((((y2.set (y1.toNat) (⟨((Int.tmod y3 3) == 0),v8.Cost,v8.Has,v8.Heard⟩ : Pt)).set (y1.toNat) (⟨v9.Up,(IntKind.wrap .i64 (y3 + 1)),v9.Has,v9.Heard⟩ : Pt)).set (y1.toNat) (⟨v11.Up,v11.Cost,((Int.tmod (IntKind.wrap .i64 ((IntKind.wrap .i64 (y3 + 1)) + 1)) 3) == 0),v11.Heard⟩ : Pt)).set (y1.toNat) (⟨v12.Up,v12.Cost,v12.Has,(⟨(IntKind.wrap .i64 ((IntKind.wrap .i64 ((IntKind.wrap .i64 (y3 + 1)) + 1)) + 1)),v12.Heard.Cost,v12.Heard.Hops,v12.Heard.Bridge,v12.Heard.Port⟩ : Vec)⟩ : Pt)).set (y1.toNat) (⟨v13.Up,v13.Cost,v13.Has,(⟨v13.Heard.Root,(IntKind.wrap .i64 ((IntKind.wrap .i64 ((IntKind.wrap .i64 ((IntKind.wrap .i64 (y3 + 1)) + 1)) + 1)) + 1)),v13.Heard.Hops,v13.Heard.Bridge,v13.Heard.Port⟩ : Vec)⟩ : Pt)) y1).bind fun v14 => ((idx ((((((y2.set (y1.toNat) (⟨((Int.tmod y3 3) == 0),v8.Cost,v8.Has,v8.Heard⟩ : Pt)).set (y1.toNat) (⟨v9.Up,(IntKind.wrap .i64 (y3 + 1)),v9.Has,v9.Heard⟩ : Pt)).set (y1.toNat) (⟨v11.Up,v11.Cost,((Int.tmod (IntKind.wrap .i64 ((IntKind.wrap .i64 (y3 + 1)) + 1)) 3) == 0),v11.Heard⟩ : Pt)).set (y1.toNat) (⟨v12.Up,v12.Cost,v12.Has,(⟨(IntKind.wrap .i64 ((IntKind.wrap .i64 ((IntKind.wrap .i64 (y3 + 1)) + 1)) + 1)),v12.Heard.Cost,v12.Heard.Hops,v12.Heard.Bridge,v12.Heard.Port⟩ : Vec)⟩ : Pt)).set (y1.toNat) (⟨v13.Up,v13.Cost,v13.Has,(⟨v13.Heard.Root,(IntKind.wrap .i64 ((IntKind.wrap .i64 ((IntKind.wrap .i64 ((IntKind.wrap .i64 (y3 + 1)) + 1)) + 1)) + 1)),v13.Heard.Hops,v13.Heard.Bridge,v13.Heard.Port⟩ : Vec)⟩ : Pt)).set (y1.toNat) (⟨v14.Up,v14.Cost,v14.Has,(⟨v14.Heard.Root,v14.Heard.Cost,(IntKind.wrap .i64 ((IntKind.wrap .i64 ((IntKind.wrap .i64 ((IntKind.wrap .i64 ((IntKind.wrap .i64 (y3 + 1)) + 1)) + 1)) + 1)) + 1)),v14.Heard.Bridge,v14.Heard.Port⟩ : Vec)⟩ : Pt)) y1).bind fun v15 => ((idx (((((((y2.set (y1.toNat) (⟨((Int.tmod y3 3) == 0),v8.Cost,v8.Has,v8.Heard⟩ : Pt)).set (y1.toNat) (⟨v9.Up,(IntKind.wrap .i64 (y3 + 1)),v9.Has,v9.Heard⟩ : Pt)).set (y1.toNat) (⟨v11.Up,v11.Cost,((Int.tmod (IntKind.wrap .i64 ((IntKind.wrap .i64 (y3 + 1)) + 1)) 3) == 0),v11.Heard⟩ : Pt)).set (y1.toNat) (⟨v12.Up,v12.Cost,v12.Has,(⟨(IntKind.wrap .i64 ((IntKind.wrap .i64 ((IntKind.wrap .i64 (y3 + 1)) + 1)) + 1)),v12.Heard.Cost,v12.Heard.Hops,v12.Heard.Bridge,v12.Heard.Port⟩ : Vec)⟩ : Pt)).set (y1.toNat) (⟨v13.Up,v13.Cost,v13.Has,(⟨v13.Heard.Root,(IntKind.wrap .i64 ((IntKind.wrap .i64 ((IntKind.wrap .i64 ((IntKind.wrap .i64 (y3 + 1)) + 1)) + 1)) + 1)),v13.Heard.Hops,v13.Heard.Bridge,v13.Heard.Port⟩ : Vec)⟩ : Pt)).set (y1.toNat) (⟨v14.Up,v14.Cost,v14.Has,(⟨v14.Heard.Root,v14.Heard.Cost,(IntKind.wrap .i64 ((IntKind.wrap .i64 ((IntKind.wrap .i64 ((IntKind.wrap .i64 ((IntKind.wrap .i64 (y3 + 1)) + 1)) + 1)) + 1)) + 1)),v14.Heard.Bridge,v14.Heard.Port⟩ : Vec)⟩ : Pt)).set (y1.toNat) (⟨v15.Up,v15.Cost,v15.Has,(⟨v15.Heard.Root,v15.Heard.Cost,v15.Heard.Hops,(IntKind.wrap .i64 ((IntKind.wrap .i64 ((IntKind.wrap .i64 ((IntKind.wrap .i64 ((IntKind.wrap .i64 ((IntKind.wrap .i64 (y3 + 1)) + 1)) + 1)) + 1)) + 1)) + 1)),v15.Heard.Port⟩ : Vec)⟩ : Pt)) y1).bind fun v16 => (laws_markPtS_L2 n mo6 (IntKind.wrap .i64 (y1 + 1)) ((((((((y2.set (y1.toNat) (⟨((Int.tmod y3 3) == 0),v8.Cost,v8.Has,v8.Heard⟩ : Pt)).set (y1.toNat) (⟨v9.Up,(IntKind.wrap .i64 (y3 + 1)),v9.Has,v9.Heard⟩ : Pt)).set (y1.toNat) (⟨v11.Up,v11.Cost,((Int.tmod (IntKind.wrap .i64 ((IntKind.wrap .i64 (y3 + 1)) + 1)) 3) == 0),v11.Heard⟩ : Pt)).set (y1.toNat) (⟨v12.Up,v12.Cost,v12.Has,(⟨(IntKind.wrap .i64 ((IntKind.wrap .i64 ((IntKind.wrap .i64 (y3 + 1)) + 1)) + 1)),v12.Heard.Cost,v12.Heard.Hops,v12.Heard.Bridge,v12.Heard.Port⟩ : Vec)⟩ : Pt)).set (y1.toNat) (⟨v13.Up,v13.Cost,v13.Has,(⟨v13.Heard.Root,(IntKind.wrap .i64 ((IntKind.wrap .i64 ((IntKind.wrap .i64 ((IntKind.wrap .i64 (y3 + 1)) + 1)) + 1)) + 1)),v13.Heard.Hops,v13.Heard.Bridge,v13.Heard.Port⟩ : Vec)⟩ : Pt)).set (y1.toNat) (⟨v14.Up,v14.Cost,v14.Has,(⟨v14.Heard.Root,v14.Heard.Cost,(IntKind.wrap .i64 ((IntKind.wrap .i64 ((IntKind.wrap .i64 ((IntKind.wrap .i64 ((IntKind.wrap .i64 (y3 + 1)) + 1)) + 1)) + 1)) + 1)),v14.Heard.Bridge,v14.Heard.Port⟩ : Vec)⟩ : Pt)).set (y1.toNat) (⟨v15.Up,v15.Cost,v15.Has,(⟨v15.Heard.Root,v15.Heard.Cost,v15.Heard.Hops,(IntKind.wrap .i64 ((IntKind.wrap .i64 ((IntKind.wrap .i64 ((IntKind.wrap .i64 ((IntKind.wrap .i64 ((IntKind.wrap .i64 (y3 + 1)) + 1)) + 1)) + 1)) + 1)) + 1)),v15.Heard.Port⟩ : Vec)⟩ : Pt)).set (y1.toNat) (⟨v16.Up,v16.Cost,v16.Has,(⟨v16.Heard.Root,v16.Heard.Cost,v16.Heard.Hops,v16.Heard.Bridge,(IntKind.wrap .i64 ((IntKind.wrap .i64 ((IntKind.wrap .i64 ((IntKind.wrap .i64 ((IntKind.wrap .i64 ((IntKind.wrap .i64 ((IntKind.wrap .i64 (y3 + 1)) + 1)) + 1)) + 1)) + 1)) + 1)) + 1))⟩ : Vec)⟩ : Pt)) (IntKind.wrap .i64 ((IntKind.wrap .i64 ((IntKind.wrap .i64 ((IntKind.wrap .i64 ((IntKind.wrap .i64 ((IntKind.wrap .i64 ((IntKind.wrap .i64 ((IntKind.wrap .i64 (y3 + 1)) + 1)) + 1)) + 1)) + 1)) + 1)) + 1)) + 1))))))))) else none))) else none) else (some (Sum.inl (y2,y3))))
def laws_markPtSF (n : Nat) (x0 : (List Pt)) (x1 : Int) : Option (Int × (List Pt)) :=
  ((laws_markPtS_L2 n n 0 x0 x1).bind fun o => match o with | .inl (y4,y5) => (laws_markPtS_J1 n y4 y5) | .inr r => some r)
noncomputable abbrev G95 (k : Nat) := Rg Tryz.f95 k
theorem laws_markPtS (n : Nat) (x0 : (List Pt)) (x1 : Int) (r : Int × (List Pt)) (H : laws_markPtSF n x0 x1 = some r) : LCall Tryz.prog 95 [.io false [.sl true 8 (x0.map Pt.row)],.val false [.lit (.int .i64 x1)]] [.val false [.lit (.int .i64 r.1)]] [(0,[.sl true 8 (r.2.map Pt.row)])] := by
 refine LCall.of_body tOk Tryz.func95 rfl (c := (.seq (G95 0) (.seq (.seq (G95 1) (.block 0 (.loop (.seq (.seq (G95 2) (.cond (.tmp 9) .skip (.exit 0))) (.seq (.block 1 (.seq (G95 4) (.seq (G95 5) (.seq (G95 6) (.seq (G95 7) (.seq (G95 8) (.seq (G95 9) (.seq (G95 10) (.seq (G95 11) (.seq (G95 12) (.seq (G95 13) (.seq (G95 14) (.seq (G95 15) (.seq (G95 16) (.seq (G95 17) (.seq (G95 18) (G95 19))))))))))))))))) (G95 3)))))) (.seq (G95 20) .ret)))) kr (Nat.le_of_ble_eq_true kr) 1 (rs := [.tmp 4]) rfl [0] (by decide) [(false,[.lit (.int .i64 r.1)])] [[.sl true 8 (r.2.map Pt.row)]] [] fun cx => ?_
 show Tr _ _ _ ⟨78,1,[sC 0 (cL 8 x0 Pt.row),sI 1 x1],[]⟩ _
 unfold laws_markPtSF at H
 refine tG tOk 1 3 0 kr kr ?_
 refine tS ?_
 refine tG tOk 1 35 0 kr kr ?_
 obtain ⟨o6,eo6,Ho6⟩ := bind_some H
 clear H
 refine Tr.mid (ι := (List Pt) × Int) (fun v => ⟨78,1,[sC 0 (cL 8 v.1 Pt.row),sI 1 v.2],[]⟩) (fun v => laws_markPtS_J1 n v.1 v.2 = some r) ?_ ?_
 ·refine tB ?_
  refine Tr.loop (ι := Nat × (Int × (List Pt) × Int)) (fun v => ⟨78,1,[sI 5 v.2.1,sC 0 (cL 8 v.2.2.1 Pt.row),sI 1 v.2.2.2],[]⟩) (fun v => laws_markPtS_L2 n v.1 v.2.1 v.2.2.1 v.2.2.2 = some o6) (fun v => v.1) (n,(0,x0,x1)) eo6 (St.sub_of [5,0,1] [] kr) ?_
  rintro ⟨mo6,y1,y2,y3⟩ H
  have H : laws_markPtS_L2 n mo6 y1 y2 y3 = some o6 := H
  obtain _ | mo6 := mo6
  ·cases (show (none : Option _) = some o6 from H)
  rw [laws_markPtS_L2] at H
  refine tS ?_
  refine rU tOk 2 kr ?_
  refine lL tOk 35 3 167 7 8 none ⟨(.slot 0),[],0,true,8,(y2.map Pt.row)⟩ (y2).length _ kr kr kr kr kr (map_len _ _) rfl ?_
  refine uD tOk 1 547 0 kr kr ?_
  obtain ⟨h1,H⟩ | ⟨h1,H⟩ := bC H
  ·refine tF h1 kr ?_
   refine Tr.exit ?_
   refine And.intro (fun _ => ?_) (fun h => absurd rfl h)
   obtain rfl := si H
   have H := Ho6
   dsimp only at H
   exact jn (y2,y3) H (sB_ [0,1] [] kr)
  refine tT h1 kr ?_
  refine tK ?_
  refine tS ?_
  refine tB ?_
  refine rU tOk 3 kr ?_
  obtain ⟨hg7,H⟩ := guard_some H
  refine LAt.binC tOk (op := .rem) (t := 3) (ty := 3) (ty' := 3) (x := (.tmp 14)) (y := (.const (.int .i64 3))) (d := 15) (g := none) (.int .i64 y3) (.int .i64 3) (.int .i64 (Int.tmod y3 3)) _ kr kr kr kr kr (φ := (IntKind.i64 = IntKind.i64 ∧ (3 : Int) ≠ 0)) kr (⟨rfl,of_decide_eq_true hg7⟩) rfl ?_
  refine lU tOk 1 kr ?_
  obtain ⟨v8,ev8,H⟩ := bind_some H
  refine lO tOk 35 0 12 13 17 none ⟨(.slot 0),[],0,true,8,(y2.map Pt.row)⟩ y1 (y1.toNat) (Pt.row v8) _ kr kr kr kr rfl kr (idx_isE ev8) rfl rfl ?_
  refine lU tOk 1 kr ?_
  refine lW tOk (t := 4) (ty := 0) (ad := (.tmp 18)) (x := (.tmp 16)) (g := none) (tI 4) false [cB ((Int.tmod y3 3) == 0)] 0 0 (y1.toNat) 8 0 8 y2 Pt.row v8 (⟨((Int.tmod y3 3) == 0),v8.Cost,v8.Has,v8.Heard⟩ : Pt) kr kr kr kr kr kr kr kr (idx_get ev8).2 kr kr kr kr ?_
  refine lD 35 0 kr ?_
  refine tG tOk 3 35 0 kr kr ?_
  refine rU tOk 3 kr ?_
  obtain ⟨v9,ev9,H⟩ := bind_some H
  refine lO tOk 35 0 21 22 24 none ⟨(.slot 0),[],0,true,8,((y2.set (y1.toNat) (⟨((Int.tmod y3 3) == 0),v8.Cost,v8.Has,v8.Heard⟩ : Pt)).map Pt.row)⟩ y1 (y1.toNat) (Pt.row v9) _ kr kr kr kr rfl kr (idx_isE ev9) rfl rfl ?_
  refine lU tOk 1 kr ?_
  refine lW tOk (t := 3) (ty := 0) (ad := (.tmp 25)) (x := (.tmp 23)) (g := none) (tI 3) false [cI (IntKind.wrap .i64 (y3 + 1))] 0 0 (y1.toNat) 8 1 8 (y2.set (y1.toNat) (⟨((Int.tmod y3 3) == 0),v8.Cost,v8.Has,v8.Heard⟩ : Pt)) Pt.row v9 (⟨v9.Up,(IntKind.wrap .i64 (y3 + 1)),v9.Has,v9.Heard⟩ : Pt) kr kr kr kr kr kr kr kr (idx_get ev9).2 kr kr kr kr ?_
  refine lD 35 0 kr ?_
  refine tG tOk 3 35 0 kr kr ?_
  refine rU tOk 3 kr ?_
  obtain ⟨hg10,H⟩ := guard_some H
  refine LAt.binC tOk (op := .rem) (t := 3) (ty := 3) (ty' := 3) (x := (.tmp 30)) (y := (.const (.int .i64 3))) (d := 31) (g := none) (.int .i64 (IntKind.wrap .i64 ((IntKind.wrap .i64 (y3 + 1)) + 1))) (.int .i64 3) (.int .i64 (Int.tmod (IntKind.wrap .i64 ((IntKind.wrap .i64 (y3 + 1)) + 1)) 3)) _ kr kr kr kr kr (φ := (IntKind.i64 = IntKind.i64 ∧ (3 : Int) ≠ 0)) kr (⟨rfl,of_decide_eq_true hg10⟩) rfl ?_
  refine lU tOk 1 kr ?_
  obtain ⟨v11,ev11,H⟩ := bind_some H
  refine lO tOk 35 0 28 29 33 none ⟨(.slot 0),[],0,true,8,(((y2.set (y1.toNat) (⟨((Int.tmod y3 3) == 0),v8.Cost,v8.Has,v8.Heard⟩ : Pt)).set (y1.toNat) (⟨v9.Up,(IntKind.wrap .i64 (y3 + 1)),v9.Has,v9.Heard⟩ : Pt)).map Pt.row)⟩ y1 (y1.toNat) (Pt.row v11) _ kr kr kr kr rfl kr (idx_isE ev11) rfl rfl ?_
  refine lU tOk 1 kr ?_
  refine lW tOk (t := 4) (ty := 0) (ad := (.tmp 34)) (x := (.tmp 32)) (g := none) (tI 4) false [cB ((Int.tmod (IntKind.wrap .i64 ((IntKind.wrap .i64 (y3 + 1)) + 1)) 3) == 0)] 0 0 (y1.toNat) 8 2 8 ((y2.set (y1.toNat) (⟨((Int.tmod y3 3) == 0),v8.Cost,v8.Has,v8.Heard⟩ : Pt)).set (y1.toNat) (⟨v9.Up,(IntKind.wrap .i64 (y3 + 1)),v9.Has,v9.Heard⟩ : Pt)) Pt.row v11 (⟨v11.Up,v11.Cost,((Int.tmod (IntKind.wrap .i64 ((IntKind.wrap .i64 (y3 + 1)) + 1)) 3) == 0),v11.Heard⟩ : Pt) kr kr kr kr kr kr kr kr (idx_get ev11).2 kr kr kr kr ?_
  refine lD 35 0 kr ?_
  refine tG tOk 3 35 0 kr kr ?_
  refine rU tOk 3 kr ?_
  obtain ⟨v12,ev12,H⟩ := bind_some H
  refine lO tOk 35 0 37 38 40 none ⟨(.slot 0),[],0,true,8,((((y2.set (y1.toNat) (⟨((Int.tmod y3 3) == 0),v8.Cost,v8.Has,v8.Heard⟩ : Pt)).set (y1.toNat) (⟨v9.Up,(IntKind.wrap .i64 (y3 + 1)),v9.Has,v9.Heard⟩ : Pt)).set (y1.toNat) (⟨v11.Up,v11.Cost,((Int.tmod (IntKind.wrap .i64 ((IntKind.wrap .i64 (y3 + 1)) + 1)) 3) == 0),v11.Heard⟩ : Pt)).map Pt.row)⟩ y1 (y1.toNat) (Pt.row v12) _ kr kr kr kr rfl kr (idx_isE ev12) rfl rfl ?_
  refine lU tOk 2 kr ?_
  refine lW tOk (t := 3) (ty := 0) (ad := (.tmp 42)) (x := (.tmp 39)) (g := none) (tI 3) false [cI (IntKind.wrap .i64 ((IntKind.wrap .i64 ((IntKind.wrap .i64 (y3 + 1)) + 1)) + 1))] 0 0 (y1.toNat) 8 3 8 (((y2.set (y1.toNat) (⟨((Int.tmod y3 3) == 0),v8.Cost,v8.Has,v8.Heard⟩ : Pt)).set (y1.toNat) (⟨v9.Up,(IntKind.wrap .i64 (y3 + 1)),v9.Has,v9.Heard⟩ : Pt)).set (y1.toNat) (⟨v11.Up,v11.Cost,((Int.tmod (IntKind.wrap .i64 ((IntKind.wrap .i64 (y3 + 1)) + 1)) 3) == 0),v11.Heard⟩ : Pt)) Pt.row v12 (⟨v12.Up,v12.Cost,v12.Has,(⟨(IntKind.wrap .i64 ((IntKind.wrap .i64 ((IntKind.wrap .i64 (y3 + 1)) + 1)) + 1)),v12.Heard.Cost,v12.Heard.Hops,v12.Heard.Bridge,v12.Heard.Port⟩ : Vec)⟩ : Pt) kr kr kr kr kr kr kr kr (idx_get ev12).2 kr kr kr kr ?_
  refine lD 35 0 kr ?_
  refine tG tOk 3 35 0 kr kr ?_
  refine rU tOk 3 kr ?_
  obtain ⟨v13,ev13,H⟩ := bind_some H
  refine lO tOk 35 0 45 46 48 none ⟨(.slot 0),[],0,true,8,(((((y2.set (y1.toNat) (⟨((Int.tmod y3 3) == 0),v8.Cost,v8.Has,v8.Heard⟩ : Pt)).set (y1.toNat) (⟨v9.Up,(IntKind.wrap .i64 (y3 + 1)),v9.Has,v9.Heard⟩ : Pt)).set (y1.toNat) (⟨v11.Up,v11.Cost,((Int.tmod (IntKind.wrap .i64 ((IntKind.wrap .i64 (y3 + 1)) + 1)) 3) == 0),v11.Heard⟩ : Pt)).set (y1.toNat) (⟨v12.Up,v12.Cost,v12.Has,(⟨(IntKind.wrap .i64 ((IntKind.wrap .i64 ((IntKind.wrap .i64 (y3 + 1)) + 1)) + 1)),v12.Heard.Cost,v12.Heard.Hops,v12.Heard.Bridge,v12.Heard.Port⟩ : Vec)⟩ : Pt)).map Pt.row)⟩ y1 (y1.toNat) (Pt.row v13) _ kr kr kr kr rfl kr (idx_isE ev13) rfl rfl ?_
  refine lU tOk 2 kr ?_
  refine lW tOk (t := 3) (ty := 0) (ad := (.tmp 50)) (x := (.tmp 47)) (g := none) (tI 3) false [cI (IntKind.wrap .i64 ((IntKind.wrap .i64 ((IntKind.wrap .i64 ((IntKind.wrap .i64 (y3 + 1)) + 1)) + 1)) + 1))] 0 0 (y1.toNat) 8 4 8 ((((y2.set (y1.toNat) (⟨((Int.tmod y3 3) == 0),v8.Cost,v8.Has,v8.Heard⟩ : Pt)).set (y1.toNat) (⟨v9.Up,(IntKind.wrap .i64 (y3 + 1)),v9.Has,v9.Heard⟩ : Pt)).set (y1.toNat) (⟨v11.Up,v11.Cost,((Int.tmod (IntKind.wrap .i64 ((IntKind.wrap .i64 (y3 + 1)) + 1)) 3) == 0),v11.Heard⟩ : Pt)).set (y1.toNat) (⟨v12.Up,v12.Cost,v12.Has,(⟨(IntKind.wrap .i64 ((IntKind.wrap .i64 ((IntKind.wrap .i64 (y3 + 1)) + 1)) + 1)),v12.Heard.Cost,v12.Heard.Hops,v12.Heard.Bridge,v12.Heard.Port⟩ : Vec)⟩ : Pt)) Pt.row v13 (⟨v13.Up,v13.Cost,v13.Has,(⟨v13.Heard.Root,(IntKind.wrap .i64 ((IntKind.wrap .i64 ((IntKind.wrap .i64 ((IntKind.wrap .i64 (y3 + 1)) + 1)) + 1)) + 1)),v13.Heard.Hops,v13.Heard.Bridge,v13.Heard.Port⟩ : Vec)⟩ : Pt) kr kr kr kr kr kr kr kr (idx_get ev13).2 kr kr kr kr ?_
  refine lD 35 0 kr ?_
  refine tG tOk 3 35 0 kr kr ?_
  refine rU tOk 3 kr ?_
  obtain ⟨v14,ev14,H⟩ := bind_some H
  refine lO tOk 35 0 53 54 56 none ⟨(.slot 0),[],0,true,8,((((((y2.set (y1.toNat) (⟨((Int.tmod y3 3) == 0),v8.Cost,v8.Has,v8.Heard⟩ : Pt)).set (y1.toNat) (⟨v9.Up,(IntKind.wrap .i64 (y3 + 1)),v9.Has,v9.Heard⟩ : Pt)).set (y1.toNat) (⟨v11.Up,v11.Cost,((Int.tmod (IntKind.wrap .i64 ((IntKind.wrap .i64 (y3 + 1)) + 1)) 3) == 0),v11.Heard⟩ : Pt)).set (y1.toNat) (⟨v12.Up,v12.Cost,v12.Has,(⟨(IntKind.wrap .i64 ((IntKind.wrap .i64 ((IntKind.wrap .i64 (y3 + 1)) + 1)) + 1)),v12.Heard.Cost,v12.Heard.Hops,v12.Heard.Bridge,v12.Heard.Port⟩ : Vec)⟩ : Pt)).set (y1.toNat) (⟨v13.Up,v13.Cost,v13.Has,(⟨v13.Heard.Root,(IntKind.wrap .i64 ((IntKind.wrap .i64 ((IntKind.wrap .i64 ((IntKind.wrap .i64 (y3 + 1)) + 1)) + 1)) + 1)),v13.Heard.Hops,v13.Heard.Bridge,v13.Heard.Port⟩ : Vec)⟩ : Pt)).map Pt.row)⟩ y1 (y1.toNat) (Pt.row v14) _ kr kr kr kr rfl kr (idx_isE ev14) rfl rfl ?_
  refine lU tOk 2 kr ?_
  refine lW tOk (t := 3) (ty := 0) (ad := (.tmp 58)) (x := (.tmp 55)) (g := none) (tI 3) false [cI (IntKind.wrap .i64 ((IntKind.wrap .i64 ((IntKind.wrap .i64 ((IntKind.wrap .i64 ((IntKind.wrap .i64 (y3 + 1)) + 1)) + 1)) + 1)) + 1))] 0 0 (y1.toNat) 8 5 8 (((((y2.set (y1.toNat) (⟨((Int.tmod y3 3) == 0),v8.Cost,v8.Has,v8.Heard⟩ : Pt)).set (y1.toNat) (⟨v9.Up,(IntKind.wrap .i64 (y3 + 1)),v9.Has,v9.Heard⟩ : Pt)).set (y1.toNat) (⟨v11.Up,v11.Cost,((Int.tmod (IntKind.wrap .i64 ((IntKind.wrap .i64 (y3 + 1)) + 1)) 3) == 0),v11.Heard⟩ : Pt)).set (y1.toNat) (⟨v12.Up,v12.Cost,v12.Has,(⟨(IntKind.wrap .i64 ((IntKind.wrap .i64 ((IntKind.wrap .i64 (y3 + 1)) + 1)) + 1)),v12.Heard.Cost,v12.Heard.Hops,v12.Heard.Bridge,v12.Heard.Port⟩ : Vec)⟩ : Pt)).set (y1.toNat) (⟨v13.Up,v13.Cost,v13.Has,(⟨v13.Heard.Root,(IntKind.wrap .i64 ((IntKind.wrap .i64 ((IntKind.wrap .i64 ((IntKind.wrap .i64 (y3 + 1)) + 1)) + 1)) + 1)),v13.Heard.Hops,v13.Heard.Bridge,v13.Heard.Port⟩ : Vec)⟩ : Pt)) Pt.row v14 (⟨v14.Up,v14.Cost,v14.Has,(⟨v14.Heard.Root,v14.Heard.Cost,(IntKind.wrap .i64 ((IntKind.wrap .i64 ((IntKind.wrap .i64 ((IntKind.wrap .i64 ((IntKind.wrap .i64 (y3 + 1)) + 1)) + 1)) + 1)) + 1)),v14.Heard.Bridge,v14.Heard.Port⟩ : Vec)⟩ : Pt) kr kr kr kr kr kr kr kr (idx_get ev14).2 kr kr kr kr ?_
  refine lD 35 0 kr ?_
  refine tG tOk 3 35 0 kr kr ?_
  refine rU tOk 3 kr ?_
  obtain ⟨v15,ev15,H⟩ := bind_some H
  refine lO tOk 35 0 61 62 64 none ⟨(.slot 0),[],0,true,8,(((((((y2.set (y1.toNat) (⟨((Int.tmod y3 3) == 0),v8.Cost,v8.Has,v8.Heard⟩ : Pt)).set (y1.toNat) (⟨v9.Up,(IntKind.wrap .i64 (y3 + 1)),v9.Has,v9.Heard⟩ : Pt)).set (y1.toNat) (⟨v11.Up,v11.Cost,((Int.tmod (IntKind.wrap .i64 ((IntKind.wrap .i64 (y3 + 1)) + 1)) 3) == 0),v11.Heard⟩ : Pt)).set (y1.toNat) (⟨v12.Up,v12.Cost,v12.Has,(⟨(IntKind.wrap .i64 ((IntKind.wrap .i64 ((IntKind.wrap .i64 (y3 + 1)) + 1)) + 1)),v12.Heard.Cost,v12.Heard.Hops,v12.Heard.Bridge,v12.Heard.Port⟩ : Vec)⟩ : Pt)).set (y1.toNat) (⟨v13.Up,v13.Cost,v13.Has,(⟨v13.Heard.Root,(IntKind.wrap .i64 ((IntKind.wrap .i64 ((IntKind.wrap .i64 ((IntKind.wrap .i64 (y3 + 1)) + 1)) + 1)) + 1)),v13.Heard.Hops,v13.Heard.Bridge,v13.Heard.Port⟩ : Vec)⟩ : Pt)).set (y1.toNat) (⟨v14.Up,v14.Cost,v14.Has,(⟨v14.Heard.Root,v14.Heard.Cost,(IntKind.wrap .i64 ((IntKind.wrap .i64 ((IntKind.wrap .i64 ((IntKind.wrap .i64 ((IntKind.wrap .i64 (y3 + 1)) + 1)) + 1)) + 1)) + 1)),v14.Heard.Bridge,v14.Heard.Port⟩ : Vec)⟩ : Pt)).map Pt.row)⟩ y1 (y1.toNat) (Pt.row v15) _ kr kr kr kr rfl kr (idx_isE ev15) rfl rfl ?_
  refine lU tOk 2 kr ?_
  refine lW tOk (t := 3) (ty := 0) (ad := (.tmp 66)) (x := (.tmp 63)) (g := none) (tI 3) false [cI (IntKind.wrap .i64 ((IntKind.wrap .i64 ((IntKind.wrap .i64 ((IntKind.wrap .i64 ((IntKind.wrap .i64 ((IntKind.wrap .i64 (y3 + 1)) + 1)) + 1)) + 1)) + 1)) + 1))] 0 0 (y1.toNat) 8 6 8 ((((((y2.set (y1.toNat) (⟨((Int.tmod y3 3) == 0),v8.Cost,v8.Has,v8.Heard⟩ : Pt)).set (y1.toNat) (⟨v9.Up,(IntKind.wrap .i64 (y3 + 1)),v9.Has,v9.Heard⟩ : Pt)).set (y1.toNat) (⟨v11.Up,v11.Cost,((Int.tmod (IntKind.wrap .i64 ((IntKind.wrap .i64 (y3 + 1)) + 1)) 3) == 0),v11.Heard⟩ : Pt)).set (y1.toNat) (⟨v12.Up,v12.Cost,v12.Has,(⟨(IntKind.wrap .i64 ((IntKind.wrap .i64 ((IntKind.wrap .i64 (y3 + 1)) + 1)) + 1)),v12.Heard.Cost,v12.Heard.Hops,v12.Heard.Bridge,v12.Heard.Port⟩ : Vec)⟩ : Pt)).set (y1.toNat) (⟨v13.Up,v13.Cost,v13.Has,(⟨v13.Heard.Root,(IntKind.wrap .i64 ((IntKind.wrap .i64 ((IntKind.wrap .i64 ((IntKind.wrap .i64 (y3 + 1)) + 1)) + 1)) + 1)),v13.Heard.Hops,v13.Heard.Bridge,v13.Heard.Port⟩ : Vec)⟩ : Pt)).set (y1.toNat) (⟨v14.Up,v14.Cost,v14.Has,(⟨v14.Heard.Root,v14.Heard.Cost,(IntKind.wrap .i64 ((IntKind.wrap .i64 ((IntKind.wrap .i64 ((IntKind.wrap .i64 ((IntKind.wrap .i64 (y3 + 1)) + 1)) + 1)) + 1)) + 1)),v14.Heard.Bridge,v14.Heard.Port⟩ : Vec)⟩ : Pt)) Pt.row v15 (⟨v15.Up,v15.Cost,v15.Has,(⟨v15.Heard.Root,v15.Heard.Cost,v15.Heard.Hops,(IntKind.wrap .i64 ((IntKind.wrap .i64 ((IntKind.wrap .i64 ((IntKind.wrap .i64 ((IntKind.wrap .i64 ((IntKind.wrap .i64 (y3 + 1)) + 1)) + 1)) + 1)) + 1)) + 1)),v15.Heard.Port⟩ : Vec)⟩ : Pt) kr kr kr kr kr kr kr kr (idx_get ev15).2 kr kr kr kr ?_
  refine lD 35 0 kr ?_
  refine tG tOk 3 35 0 kr kr ?_
  refine rU tOk 3 kr ?_
  obtain ⟨v16,ev16,H⟩ := bind_some H
  refine lO tOk 35 0 69 70 72 none ⟨(.slot 0),[],0,true,8,((((((((y2.set (y1.toNat) (⟨((Int.tmod y3 3) == 0),v8.Cost,v8.Has,v8.Heard⟩ : Pt)).set (y1.toNat) (⟨v9.Up,(IntKind.wrap .i64 (y3 + 1)),v9.Has,v9.Heard⟩ : Pt)).set (y1.toNat) (⟨v11.Up,v11.Cost,((Int.tmod (IntKind.wrap .i64 ((IntKind.wrap .i64 (y3 + 1)) + 1)) 3) == 0),v11.Heard⟩ : Pt)).set (y1.toNat) (⟨v12.Up,v12.Cost,v12.Has,(⟨(IntKind.wrap .i64 ((IntKind.wrap .i64 ((IntKind.wrap .i64 (y3 + 1)) + 1)) + 1)),v12.Heard.Cost,v12.Heard.Hops,v12.Heard.Bridge,v12.Heard.Port⟩ : Vec)⟩ : Pt)).set (y1.toNat) (⟨v13.Up,v13.Cost,v13.Has,(⟨v13.Heard.Root,(IntKind.wrap .i64 ((IntKind.wrap .i64 ((IntKind.wrap .i64 ((IntKind.wrap .i64 (y3 + 1)) + 1)) + 1)) + 1)),v13.Heard.Hops,v13.Heard.Bridge,v13.Heard.Port⟩ : Vec)⟩ : Pt)).set (y1.toNat) (⟨v14.Up,v14.Cost,v14.Has,(⟨v14.Heard.Root,v14.Heard.Cost,(IntKind.wrap .i64 ((IntKind.wrap .i64 ((IntKind.wrap .i64 ((IntKind.wrap .i64 ((IntKind.wrap .i64 (y3 + 1)) + 1)) + 1)) + 1)) + 1)),v14.Heard.Bridge,v14.Heard.Port⟩ : Vec)⟩ : Pt)).set (y1.toNat) (⟨v15.Up,v15.Cost,v15.Has,(⟨v15.Heard.Root,v15.Heard.Cost,v15.Heard.Hops,(IntKind.wrap .i64 ((IntKind.wrap .i64 ((IntKind.wrap .i64 ((IntKind.wrap .i64 ((IntKind.wrap .i64 ((IntKind.wrap .i64 (y3 + 1)) + 1)) + 1)) + 1)) + 1)) + 1)),v15.Heard.Port⟩ : Vec)⟩ : Pt)).map Pt.row)⟩ y1 (y1.toNat) (Pt.row v16) _ kr kr kr kr rfl kr (idx_isE ev16) rfl rfl ?_
  refine lU tOk 2 kr ?_
  refine lW tOk (t := 3) (ty := 0) (ad := (.tmp 74)) (x := (.tmp 71)) (g := none) (tI 3) false [cI (IntKind.wrap .i64 ((IntKind.wrap .i64 ((IntKind.wrap .i64 ((IntKind.wrap .i64 ((IntKind.wrap .i64 ((IntKind.wrap .i64 ((IntKind.wrap .i64 (y3 + 1)) + 1)) + 1)) + 1)) + 1)) + 1)) + 1))] 0 0 (y1.toNat) 8 7 8 (((((((y2.set (y1.toNat) (⟨((Int.tmod y3 3) == 0),v8.Cost,v8.Has,v8.Heard⟩ : Pt)).set (y1.toNat) (⟨v9.Up,(IntKind.wrap .i64 (y3 + 1)),v9.Has,v9.Heard⟩ : Pt)).set (y1.toNat) (⟨v11.Up,v11.Cost,((Int.tmod (IntKind.wrap .i64 ((IntKind.wrap .i64 (y3 + 1)) + 1)) 3) == 0),v11.Heard⟩ : Pt)).set (y1.toNat) (⟨v12.Up,v12.Cost,v12.Has,(⟨(IntKind.wrap .i64 ((IntKind.wrap .i64 ((IntKind.wrap .i64 (y3 + 1)) + 1)) + 1)),v12.Heard.Cost,v12.Heard.Hops,v12.Heard.Bridge,v12.Heard.Port⟩ : Vec)⟩ : Pt)).set (y1.toNat) (⟨v13.Up,v13.Cost,v13.Has,(⟨v13.Heard.Root,(IntKind.wrap .i64 ((IntKind.wrap .i64 ((IntKind.wrap .i64 ((IntKind.wrap .i64 (y3 + 1)) + 1)) + 1)) + 1)),v13.Heard.Hops,v13.Heard.Bridge,v13.Heard.Port⟩ : Vec)⟩ : Pt)).set (y1.toNat) (⟨v14.Up,v14.Cost,v14.Has,(⟨v14.Heard.Root,v14.Heard.Cost,(IntKind.wrap .i64 ((IntKind.wrap .i64 ((IntKind.wrap .i64 ((IntKind.wrap .i64 ((IntKind.wrap .i64 (y3 + 1)) + 1)) + 1)) + 1)) + 1)),v14.Heard.Bridge,v14.Heard.Port⟩ : Vec)⟩ : Pt)).set (y1.toNat) (⟨v15.Up,v15.Cost,v15.Has,(⟨v15.Heard.Root,v15.Heard.Cost,v15.Heard.Hops,(IntKind.wrap .i64 ((IntKind.wrap .i64 ((IntKind.wrap .i64 ((IntKind.wrap .i64 ((IntKind.wrap .i64 ((IntKind.wrap .i64 (y3 + 1)) + 1)) + 1)) + 1)) + 1)) + 1)),v15.Heard.Port⟩ : Vec)⟩ : Pt)) Pt.row v16 (⟨v16.Up,v16.Cost,v16.Has,(⟨v16.Heard.Root,v16.Heard.Cost,v16.Heard.Hops,v16.Heard.Bridge,(IntKind.wrap .i64 ((IntKind.wrap .i64 ((IntKind.wrap .i64 ((IntKind.wrap .i64 ((IntKind.wrap .i64 ((IntKind.wrap .i64 ((IntKind.wrap .i64 (y3 + 1)) + 1)) + 1)) + 1)) + 1)) + 1)) + 1))⟩ : Vec)⟩ : Pt) kr kr kr kr kr kr kr kr (idx_get ev16).2 kr kr kr kr ?_
  refine lD 35 0 kr ?_
  refine tE tOk 3 35 0 kr kr ?_
  refine tE tOk 3 35 0 kr kr ?_
  exact jn (mo6,((IntKind.wrap .i64 (y1 + 1)),((((((((y2.set (y1.toNat) (⟨((Int.tmod y3 3) == 0),v8.Cost,v8.Has,v8.Heard⟩ : Pt)).set (y1.toNat) (⟨v9.Up,(IntKind.wrap .i64 (y3 + 1)),v9.Has,v9.Heard⟩ : Pt)).set (y1.toNat) (⟨v11.Up,v11.Cost,((Int.tmod (IntKind.wrap .i64 ((IntKind.wrap .i64 (y3 + 1)) + 1)) 3) == 0),v11.Heard⟩ : Pt)).set (y1.toNat) (⟨v12.Up,v12.Cost,v12.Has,(⟨(IntKind.wrap .i64 ((IntKind.wrap .i64 ((IntKind.wrap .i64 (y3 + 1)) + 1)) + 1)),v12.Heard.Cost,v12.Heard.Hops,v12.Heard.Bridge,v12.Heard.Port⟩ : Vec)⟩ : Pt)).set (y1.toNat) (⟨v13.Up,v13.Cost,v13.Has,(⟨v13.Heard.Root,(IntKind.wrap .i64 ((IntKind.wrap .i64 ((IntKind.wrap .i64 ((IntKind.wrap .i64 (y3 + 1)) + 1)) + 1)) + 1)),v13.Heard.Hops,v13.Heard.Bridge,v13.Heard.Port⟩ : Vec)⟩ : Pt)).set (y1.toNat) (⟨v14.Up,v14.Cost,v14.Has,(⟨v14.Heard.Root,v14.Heard.Cost,(IntKind.wrap .i64 ((IntKind.wrap .i64 ((IntKind.wrap .i64 ((IntKind.wrap .i64 ((IntKind.wrap .i64 (y3 + 1)) + 1)) + 1)) + 1)) + 1)),v14.Heard.Bridge,v14.Heard.Port⟩ : Vec)⟩ : Pt)).set (y1.toNat) (⟨v15.Up,v15.Cost,v15.Has,(⟨v15.Heard.Root,v15.Heard.Cost,v15.Heard.Hops,(IntKind.wrap .i64 ((IntKind.wrap .i64 ((IntKind.wrap .i64 ((IntKind.wrap .i64 ((IntKind.wrap .i64 ((IntKind.wrap .i64 (y3 + 1)) + 1)) + 1)) + 1)) + 1)) + 1)),v15.Heard.Port⟩ : Vec)⟩ : Pt)).set (y1.toNat) (⟨v16.Up,v16.Cost,v16.Has,(⟨v16.Heard.Root,v16.Heard.Cost,v16.Heard.Hops,v16.Heard.Bridge,(IntKind.wrap .i64 ((IntKind.wrap .i64 ((IntKind.wrap .i64 ((IntKind.wrap .i64 ((IntKind.wrap .i64 ((IntKind.wrap .i64 ((IntKind.wrap .i64 (y3 + 1)) + 1)) + 1)) + 1)) + 1)) + 1)) + 1))⟩ : Vec)⟩ : Pt)),(IntKind.wrap .i64 ((IntKind.wrap .i64 ((IntKind.wrap .i64 ((IntKind.wrap .i64 ((IntKind.wrap .i64 ((IntKind.wrap .i64 ((IntKind.wrap .i64 ((IntKind.wrap .i64 (y3 + 1)) + 1)) + 1)) + 1)) + 1)) + 1)) + 1)) + 1)))) H (sM mo6 [5,0,1] [] kr)
 rintro ⟨y4,y5⟩ H
 have H : (laws_markPtS_J1 n y4 y5) = some r := H
 unfold laws_markPtS_J1 at H
 refine tG tOk 2 17 0 kr kr ?_
 refine te ?_
 obtain rfl := si H
 exact Fin.ofY _ [(false,[cI y5])] [false] _ [[cL 8 y4 Pt.row]] _ [] kr rfl rfl rfl kr kr kr kr rfl rfl rfl
def laws_markFentS_J1 (n : Nat) (y4 : (List Fent)) (y5 : Int) : Option (Int × (List Fent)) :=
  (some (y5,y4))
def laws_markFentS_L2 (n : Nat) : Nat → Int → (List Fent) → Int → Option (((List Fent) × Int) ⊕ (Int × (List Fent)))
  | 0,_,_,_ => none
  | mo6 + 1,y1,y2,y3 => (bif (decide (y1 < (y2.length : Int))) then ((idx y2 y1).bind fun v7 => ((idx (y2.set (y1.toNat) (⟨y3,v7.Mac,v7.Port,v7.Age,v7.Static⟩ : Fent)) y1).bind fun v8 => ((idx ((y2.set (y1.toNat) (⟨y3,v7.Mac,v7.Port,v7.Age,v7.Static⟩ : Fent)).set (y1.toNat) (⟨v8.Tag,(IntKind.wrap .i64 (y3 + 1)),v8.Port,v8.Age,v8.Static⟩ : Fent)) y1).bind fun v9 => ((idx (((y2.set (y1.toNat) (⟨y3,v7.Mac,v7.Port,v7.Age,v7.Static⟩ : Fent)).set (y1.toNat) (⟨v8.Tag,(IntKind.wrap .i64 (y3 + 1)),v8.Port,v8.Age,v8.Static⟩ : Fent)).set (y1.toNat) (⟨v9.Tag,v9.Mac,(IntKind.wrap .i64 ((IntKind.wrap .i64 (y3 + 1)) + 1)),v9.Age,v9.Static⟩ : Fent)) y1).bind fun v10 => (bif (decide ((3 : Int) ≠ 0)) then ((idx ((((y2.set (y1.toNat) (⟨y3,v7.Mac,v7.Port,v7.Age,v7.Static⟩ : Fent)).set (y1.toNat) (⟨v8.Tag,(IntKind.wrap .i64 (y3 + 1)),v8.Port,v8.Age,v8.Static⟩ : Fent)).set (y1.toNat) (⟨v9.Tag,v9.Mac,(IntKind.wrap .i64 ((IntKind.wrap .i64 (y3 + 1)) + 1)),v9.Age,v9.Static⟩ : Fent)).set (y1.toNat) (⟨v10.Tag,v10.Mac,v10.Port,(IntKind.wrap .i64 ((IntKind.wrap .i64 ((IntKind.wrap .i64 (y3 + 1)) + 1)) + 1)),v10.Static⟩ : Fent)) y1).bind fun v12 => (laws_markFentS_L2 n mo6 (IntKind.wrap .i64 (y1 + 1)) (((((y2.set (y1.toNat) (⟨y3,v7.Mac,v7.Port,v7.Age,v7.Static⟩ : Fent)).set (y1.toNat) (⟨v8.Tag,(IntKind.wrap .i64 (y3 + 1)),v8.Port,v8.Age,v8.Static⟩ : Fent)).set (y1.toNat) (⟨v9.Tag,v9.Mac,(IntKind.wrap .i64 ((IntKind.wrap .i64 (y3 + 1)) + 1)),v9.Age,v9.Static⟩ : Fent)).set (y1.toNat) (⟨v10.Tag,v10.Mac,v10.Port,(IntKind.wrap .i64 ((IntKind.wrap .i64 ((IntKind.wrap .i64 (y3 + 1)) + 1)) + 1)),v10.Static⟩ : Fent)).set (y1.toNat) (⟨v12.Tag,v12.Mac,v12.Port,v12.Age,((Int.tmod (IntKind.wrap .i64 ((IntKind.wrap .i64 ((IntKind.wrap .i64 ((IntKind.wrap .i64 (y3 + 1)) + 1)) + 1)) + 1)) 3) == 0)⟩ : Fent)) (IntKind.wrap .i64 ((IntKind.wrap .i64 ((IntKind.wrap .i64 ((IntKind.wrap .i64 ((IntKind.wrap .i64 (y3 + 1)) + 1)) + 1)) + 1)) + 1)))) else none))))) else (some (Sum.inl (y2,y3))))
def laws_markFentSF (n : Nat) (x0 : (List Fent)) (x1 : Int) : Option (Int × (List Fent)) :=
  ((laws_markFentS_L2 n n 0 x0 x1).bind fun o => match o with | .inl (y4,y5) => (laws_markFentS_J1 n y4 y5) | .inr r => some r)
noncomputable abbrev G96 (k : Nat) := Rg Tryz.f96 k
theorem laws_markFentS (n : Nat) (x0 : (List Fent)) (x1 : Int) (r : Int × (List Fent)) (H : laws_markFentSF n x0 x1 = some r) : LCall Tryz.prog 96 [.io false [.sl true 5 (x0.map Fent.row)],.val false [.lit (.int .i64 x1)]] [.val false [.lit (.int .i64 r.1)]] [(0,[.sl true 5 (r.2.map Fent.row)])] := by
 refine LCall.of_body tOk Tryz.func96 rfl (c := (.seq (G96 0) (.seq (.seq (G96 1) (.block 0 (.loop (.seq (.seq (G96 2) (.cond (.tmp 9) .skip (.exit 0))) (.seq (.block 1 (.seq (G96 4) (.seq (G96 5) (.seq (G96 6) (.seq (G96 7) (.seq (G96 8) (.seq (G96 9) (.seq (G96 10) (.seq (G96 11) (.seq (G96 12) (G96 13))))))))))) (G96 3)))))) (.seq (G96 14) .ret)))) kr (Nat.le_of_ble_eq_true kr) 1 (rs := [.tmp 4]) rfl [0] (by decide) [(false,[.lit (.int .i64 r.1)])] [[.sl true 5 (r.2.map Fent.row)]] [] fun cx => ?_
 show Tr _ _ _ ⟨50,1,[sC 0 (cL 5 x0 Fent.row),sI 1 x1],[]⟩ _
 unfold laws_markFentSF at H
 refine tG tOk 1 3 0 kr kr ?_
 refine tS ?_
 refine tG tOk 1 35 0 kr kr ?_
 obtain ⟨o6,eo6,Ho6⟩ := bind_some H
 clear H
 refine Tr.mid (ι := (List Fent) × Int) (fun v => ⟨50,1,[sC 0 (cL 5 v.1 Fent.row),sI 1 v.2],[]⟩) (fun v => laws_markFentS_J1 n v.1 v.2 = some r) ?_ ?_
 ·refine tB ?_
  refine Tr.loop (ι := Nat × (Int × (List Fent) × Int)) (fun v => ⟨50,1,[sI 5 v.2.1,sC 0 (cL 5 v.2.2.1 Fent.row),sI 1 v.2.2.2],[]⟩) (fun v => laws_markFentS_L2 n v.1 v.2.1 v.2.2.1 v.2.2.2 = some o6) (fun v => v.1) (n,(0,x0,x1)) eo6 (St.sub_of [5,0,1] [] kr) ?_
  rintro ⟨mo6,y1,y2,y3⟩ H
  have H : laws_markFentS_L2 n mo6 y1 y2 y3 = some o6 := H
  obtain _ | mo6 := mo6
  ·cases (show (none : Option _) = some o6 from H)
  rw [laws_markFentS_L2] at H
  refine tS ?_
  refine rU tOk 2 kr ?_
  refine lL tOk 36 3 169 7 8 none ⟨(.slot 0),[],0,true,5,(y2.map Fent.row)⟩ (y2).length _ kr kr kr kr kr (map_len _ _) rfl ?_
  refine uD tOk 1 547 0 kr kr ?_
  obtain ⟨h1,H⟩ | ⟨h1,H⟩ := bC H
  ·refine tF h1 kr ?_
   refine Tr.exit ?_
   refine And.intro (fun _ => ?_) (fun h => absurd rfl h)
   obtain rfl := si H
   have H := Ho6
   dsimp only at H
   exact jn (y2,y3) H (sB_ [0,1] [] kr)
  refine tT h1 kr ?_
  refine tK ?_
  refine tS ?_
  refine tB ?_
  refine rU tOk 3 kr ?_
  obtain ⟨v7,ev7,H⟩ := bind_some H
  refine lO tOk 36 0 12 13 15 none ⟨(.slot 0),[],0,true,5,(y2.map Fent.row)⟩ y1 (y1.toNat) (Fent.row v7) _ kr kr kr kr rfl kr (idx_isE ev7) rfl rfl ?_
  refine lU tOk 1 kr ?_
  refine lW tOk (t := 3) (ty := 0) (ad := (.tmp 16)) (x := (.tmp 14)) (g := none) (tI 3) false [cI y3] 0 0 (y1.toNat) 5 0 5 y2 Fent.row v7 (⟨y3,v7.Mac,v7.Port,v7.Age,v7.Static⟩ : Fent) kr kr kr kr kr kr kr kr (idx_get ev7).2 kr kr kr kr ?_
  refine lD 35 0 kr ?_
  refine tG tOk 3 35 0 kr kr ?_
  refine rU tOk 3 kr ?_
  obtain ⟨v8,ev8,H⟩ := bind_some H
  refine lO tOk 36 0 19 20 22 none ⟨(.slot 0),[],0,true,5,((y2.set (y1.toNat) (⟨y3,v7.Mac,v7.Port,v7.Age,v7.Static⟩ : Fent)).map Fent.row)⟩ y1 (y1.toNat) (Fent.row v8) _ kr kr kr kr rfl kr (idx_isE ev8) rfl rfl ?_
  refine lU tOk 1 kr ?_
  refine lW tOk (t := 3) (ty := 0) (ad := (.tmp 23)) (x := (.tmp 21)) (g := none) (tI 3) false [cI (IntKind.wrap .i64 (y3 + 1))] 0 0 (y1.toNat) 5 1 5 (y2.set (y1.toNat) (⟨y3,v7.Mac,v7.Port,v7.Age,v7.Static⟩ : Fent)) Fent.row v8 (⟨v8.Tag,(IntKind.wrap .i64 (y3 + 1)),v8.Port,v8.Age,v8.Static⟩ : Fent) kr kr kr kr kr kr kr kr (idx_get ev8).2 kr kr kr kr ?_
  refine lD 35 0 kr ?_
  refine tG tOk 3 35 0 kr kr ?_
  refine rU tOk 3 kr ?_
  obtain ⟨v9,ev9,H⟩ := bind_some H
  refine lO tOk 36 0 26 27 29 none ⟨(.slot 0),[],0,true,5,(((y2.set (y1.toNat) (⟨y3,v7.Mac,v7.Port,v7.Age,v7.Static⟩ : Fent)).set (y1.toNat) (⟨v8.Tag,(IntKind.wrap .i64 (y3 + 1)),v8.Port,v8.Age,v8.Static⟩ : Fent)).map Fent.row)⟩ y1 (y1.toNat) (Fent.row v9) _ kr kr kr kr rfl kr (idx_isE ev9) rfl rfl ?_
  refine lU tOk 1 kr ?_
  refine lW tOk (t := 3) (ty := 0) (ad := (.tmp 30)) (x := (.tmp 28)) (g := none) (tI 3) false [cI (IntKind.wrap .i64 ((IntKind.wrap .i64 (y3 + 1)) + 1))] 0 0 (y1.toNat) 5 2 5 ((y2.set (y1.toNat) (⟨y3,v7.Mac,v7.Port,v7.Age,v7.Static⟩ : Fent)).set (y1.toNat) (⟨v8.Tag,(IntKind.wrap .i64 (y3 + 1)),v8.Port,v8.Age,v8.Static⟩ : Fent)) Fent.row v9 (⟨v9.Tag,v9.Mac,(IntKind.wrap .i64 ((IntKind.wrap .i64 (y3 + 1)) + 1)),v9.Age,v9.Static⟩ : Fent) kr kr kr kr kr kr kr kr (idx_get ev9).2 kr kr kr kr ?_
  refine lD 35 0 kr ?_
  refine tG tOk 3 35 0 kr kr ?_
  refine rU tOk 3 kr ?_
  obtain ⟨v10,ev10,H⟩ := bind_some H
  refine lO tOk 36 0 33 34 36 none ⟨(.slot 0),[],0,true,5,((((y2.set (y1.toNat) (⟨y3,v7.Mac,v7.Port,v7.Age,v7.Static⟩ : Fent)).set (y1.toNat) (⟨v8.Tag,(IntKind.wrap .i64 (y3 + 1)),v8.Port,v8.Age,v8.Static⟩ : Fent)).set (y1.toNat) (⟨v9.Tag,v9.Mac,(IntKind.wrap .i64 ((IntKind.wrap .i64 (y3 + 1)) + 1)),v9.Age,v9.Static⟩ : Fent)).map Fent.row)⟩ y1 (y1.toNat) (Fent.row v10) _ kr kr kr kr rfl kr (idx_isE ev10) rfl rfl ?_
  refine lU tOk 1 kr ?_
  refine lW tOk (t := 3) (ty := 0) (ad := (.tmp 37)) (x := (.tmp 35)) (g := none) (tI 3) false [cI (IntKind.wrap .i64 ((IntKind.wrap .i64 ((IntKind.wrap .i64 (y3 + 1)) + 1)) + 1))] 0 0 (y1.toNat) 5 3 5 (((y2.set (y1.toNat) (⟨y3,v7.Mac,v7.Port,v7.Age,v7.Static⟩ : Fent)).set (y1.toNat) (⟨v8.Tag,(IntKind.wrap .i64 (y3 + 1)),v8.Port,v8.Age,v8.Static⟩ : Fent)).set (y1.toNat) (⟨v9.Tag,v9.Mac,(IntKind.wrap .i64 ((IntKind.wrap .i64 (y3 + 1)) + 1)),v9.Age,v9.Static⟩ : Fent)) Fent.row v10 (⟨v10.Tag,v10.Mac,v10.Port,(IntKind.wrap .i64 ((IntKind.wrap .i64 ((IntKind.wrap .i64 (y3 + 1)) + 1)) + 1)),v10.Static⟩ : Fent) kr kr kr kr kr kr kr kr (idx_get ev10).2 kr kr kr kr ?_
  refine lD 35 0 kr ?_
  refine tG tOk 3 35 0 kr kr ?_
  refine rU tOk 3 kr ?_
  obtain ⟨hg11,H⟩ := guard_some H
  refine LAt.binC tOk (op := .rem) (t := 3) (ty := 3) (ty' := 3) (x := (.tmp 42)) (y := (.const (.int .i64 3))) (d := 43) (g := none) (.int .i64 (IntKind.wrap .i64 ((IntKind.wrap .i64 ((IntKind.wrap .i64 ((IntKind.wrap .i64 (y3 + 1)) + 1)) + 1)) + 1))) (.int .i64 3) (.int .i64 (Int.tmod (IntKind.wrap .i64 ((IntKind.wrap .i64 ((IntKind.wrap .i64 ((IntKind.wrap .i64 (y3 + 1)) + 1)) + 1)) + 1)) 3)) _ kr kr kr kr kr (φ := (IntKind.i64 = IntKind.i64 ∧ (3 : Int) ≠ 0)) kr (⟨rfl,of_decide_eq_true hg11⟩) rfl ?_
  refine lU tOk 1 kr ?_
  obtain ⟨v12,ev12,H⟩ := bind_some H
  refine lO tOk 36 0 40 41 45 none ⟨(.slot 0),[],0,true,5,(((((y2.set (y1.toNat) (⟨y3,v7.Mac,v7.Port,v7.Age,v7.Static⟩ : Fent)).set (y1.toNat) (⟨v8.Tag,(IntKind.wrap .i64 (y3 + 1)),v8.Port,v8.Age,v8.Static⟩ : Fent)).set (y1.toNat) (⟨v9.Tag,v9.Mac,(IntKind.wrap .i64 ((IntKind.wrap .i64 (y3 + 1)) + 1)),v9.Age,v9.Static⟩ : Fent)).set (y1.toNat) (⟨v10.Tag,v10.Mac,v10.Port,(IntKind.wrap .i64 ((IntKind.wrap .i64 ((IntKind.wrap .i64 (y3 + 1)) + 1)) + 1)),v10.Static⟩ : Fent)).map Fent.row)⟩ y1 (y1.toNat) (Fent.row v12) _ kr kr kr kr rfl kr (idx_isE ev12) rfl rfl ?_
  refine lU tOk 1 kr ?_
  refine lW tOk (t := 4) (ty := 0) (ad := (.tmp 46)) (x := (.tmp 44)) (g := none) (tI 4) false [cB ((Int.tmod (IntKind.wrap .i64 ((IntKind.wrap .i64 ((IntKind.wrap .i64 ((IntKind.wrap .i64 (y3 + 1)) + 1)) + 1)) + 1)) 3) == 0)] 0 0 (y1.toNat) 5 4 5 ((((y2.set (y1.toNat) (⟨y3,v7.Mac,v7.Port,v7.Age,v7.Static⟩ : Fent)).set (y1.toNat) (⟨v8.Tag,(IntKind.wrap .i64 (y3 + 1)),v8.Port,v8.Age,v8.Static⟩ : Fent)).set (y1.toNat) (⟨v9.Tag,v9.Mac,(IntKind.wrap .i64 ((IntKind.wrap .i64 (y3 + 1)) + 1)),v9.Age,v9.Static⟩ : Fent)).set (y1.toNat) (⟨v10.Tag,v10.Mac,v10.Port,(IntKind.wrap .i64 ((IntKind.wrap .i64 ((IntKind.wrap .i64 (y3 + 1)) + 1)) + 1)),v10.Static⟩ : Fent)) Fent.row v12 (⟨v12.Tag,v12.Mac,v12.Port,v12.Age,((Int.tmod (IntKind.wrap .i64 ((IntKind.wrap .i64 ((IntKind.wrap .i64 ((IntKind.wrap .i64 (y3 + 1)) + 1)) + 1)) + 1)) 3) == 0)⟩ : Fent) kr kr kr kr kr kr kr kr (idx_get ev12).2 kr kr kr kr ?_
  refine lD 35 0 kr ?_
  refine tE tOk 3 35 0 kr kr ?_
  refine tE tOk 3 35 0 kr kr ?_
  exact jn (mo6,((IntKind.wrap .i64 (y1 + 1)),(((((y2.set (y1.toNat) (⟨y3,v7.Mac,v7.Port,v7.Age,v7.Static⟩ : Fent)).set (y1.toNat) (⟨v8.Tag,(IntKind.wrap .i64 (y3 + 1)),v8.Port,v8.Age,v8.Static⟩ : Fent)).set (y1.toNat) (⟨v9.Tag,v9.Mac,(IntKind.wrap .i64 ((IntKind.wrap .i64 (y3 + 1)) + 1)),v9.Age,v9.Static⟩ : Fent)).set (y1.toNat) (⟨v10.Tag,v10.Mac,v10.Port,(IntKind.wrap .i64 ((IntKind.wrap .i64 ((IntKind.wrap .i64 (y3 + 1)) + 1)) + 1)),v10.Static⟩ : Fent)).set (y1.toNat) (⟨v12.Tag,v12.Mac,v12.Port,v12.Age,((Int.tmod (IntKind.wrap .i64 ((IntKind.wrap .i64 ((IntKind.wrap .i64 ((IntKind.wrap .i64 (y3 + 1)) + 1)) + 1)) + 1)) 3) == 0)⟩ : Fent)),(IntKind.wrap .i64 ((IntKind.wrap .i64 ((IntKind.wrap .i64 ((IntKind.wrap .i64 ((IntKind.wrap .i64 (y3 + 1)) + 1)) + 1)) + 1)) + 1)))) H (sM mo6 [5,0,1] [] kr)
 rintro ⟨y4,y5⟩ H
 have H : (laws_markFentS_J1 n y4 y5) = some r := H
 unfold laws_markFentS_J1 at H
 refine tG tOk 2 17 0 kr kr ?_
 refine te ?_
 obtain rfl := si H
 exact Fin.ofY _ [(false,[cI y5])] [false] _ [[cL 5 y4 Fent.row]] _ [] kr rfl rfl rfl kr kr kr kr rfl rfl rfl
def laws_markVrowS_J1 (n : Nat) (y4 : (List Vrow)) (y5 : Int) : Option (Int × (List Vrow)) :=
  (some (y5,y4))
def laws_markVrowS_L2 (n : Nat) : Nat → Int → (List Vrow) → Int → Option (((List Vrow) × Int) ⊕ (Int × (List Vrow)))
  | 0,_,_,_ => none
  | mo6 + 1,y1,y2,y3 => (bif (decide (y1 < (y2.length : Int))) then ((idx y2 y1).bind fun v7 => ((idx (y2.set (y1.toNat) (⟨y3,v7.Members,v7.Bare⟩ : Vrow)) y1).bind fun v8 => ((idx ((y2.set (y1.toNat) (⟨y3,v7.Members,v7.Bare⟩ : Vrow)).set (y1.toNat) (⟨v8.Id,(IntKind.wrap .i64 (y3 + 1)),v8.Bare⟩ : Vrow)) y1).bind fun v9 => (laws_markVrowS_L2 n mo6 (IntKind.wrap .i64 (y1 + 1)) (((y2.set (y1.toNat) (⟨y3,v7.Members,v7.Bare⟩ : Vrow)).set (y1.toNat) (⟨v8.Id,(IntKind.wrap .i64 (y3 + 1)),v8.Bare⟩ : Vrow)).set (y1.toNat) (⟨v9.Id,v9.Members,(IntKind.wrap .i64 ((IntKind.wrap .i64 (y3 + 1)) + 1))⟩ : Vrow)) (IntKind.wrap .i64 ((IntKind.wrap .i64 ((IntKind.wrap .i64 (y3 + 1)) + 1)) + 1)))))) else (some (Sum.inl (y2,y3))))
def laws_markVrowSF (n : Nat) (x0 : (List Vrow)) (x1 : Int) : Option (Int × (List Vrow)) :=
  ((laws_markVrowS_L2 n n 0 x0 x1).bind fun o => match o with | .inl (y4,y5) => (laws_markVrowS_J1 n y4 y5) | .inr r => some r)
noncomputable abbrev G190 (k : Nat) := Rg Tryz.f190 k
theorem laws_markVrowS (n : Nat) (x0 : (List Vrow)) (x1 : Int) (r : Int × (List Vrow)) (H : laws_markVrowSF n x0 x1 = some r) : LCall Tryz.prog 190 [.io false [.sl true 3 (x0.map Vrow.row)],.val false [.lit (.int .i64 x1)]] [.val false [.lit (.int .i64 r.1)]] [(0,[.sl true 3 (r.2.map Vrow.row)])] := by
 refine LCall.of_body tOk Tryz.func190 rfl (c := (.seq (G190 0) (.seq (.seq (G190 1) (.block 0 (.loop (.seq (.seq (G190 2) (.cond (.tmp 9) .skip (.exit 0))) (.seq (.block 1 (.seq (G190 4) (.seq (G190 5) (.seq (G190 6) (.seq (G190 7) (.seq (G190 8) (G190 9))))))) (G190 3)))))) (.seq (G190 10) .ret)))) kr (Nat.le_of_ble_eq_true kr) 1 (rs := [.tmp 4]) rfl [0] (by decide) [(false,[.lit (.int .i64 r.1)])] [[.sl true 3 (r.2.map Vrow.row)]] [] fun cx => ?_
 show Tr _ _ _ ⟨34,1,[sC 0 (cL 3 x0 Vrow.row),sI 1 x1],[]⟩ _
 unfold laws_markVrowSF at H
 refine tG tOk 1 3 0 kr kr ?_
 refine tS ?_
 refine tG tOk 1 35 0 kr kr ?_
 obtain ⟨o6,eo6,Ho6⟩ := bind_some H
 clear H
 refine Tr.mid (ι := (List Vrow) × Int) (fun v => ⟨34,1,[sC 0 (cL 3 v.1 Vrow.row),sI 1 v.2],[]⟩) (fun v => laws_markVrowS_J1 n v.1 v.2 = some r) ?_ ?_
 ·refine tB ?_
  refine Tr.loop (ι := Nat × (Int × (List Vrow) × Int)) (fun v => ⟨34,1,[sI 5 v.2.1,sC 0 (cL 3 v.2.2.1 Vrow.row),sI 1 v.2.2.2],[]⟩) (fun v => laws_markVrowS_L2 n v.1 v.2.1 v.2.2.1 v.2.2.2 = some o6) (fun v => v.1) (n,(0,x0,x1)) eo6 (St.sub_of [5,0,1] [] kr) ?_
  rintro ⟨mo6,y1,y2,y3⟩ H
  have H : laws_markVrowS_L2 n mo6 y1 y2 y3 = some o6 := H
  obtain _ | mo6 := mo6
  ·cases (show (none : Option _) = some o6 from H)
  rw [laws_markVrowS_L2] at H
  refine tS ?_
  refine rU tOk 2 kr ?_
  refine lL tOk 37 3 175 7 8 none ⟨(.slot 0),[],0,true,3,(y2.map Vrow.row)⟩ (y2).length _ kr kr kr kr kr (map_len _ _) rfl ?_
  refine uD tOk 1 547 0 kr kr ?_
  obtain ⟨h1,H⟩ | ⟨h1,H⟩ := bC H
  ·refine tF h1 kr ?_
   refine Tr.exit ?_
   refine And.intro (fun _ => ?_) (fun h => absurd rfl h)
   obtain rfl := si H
   have H := Ho6
   dsimp only at H
   exact jn (y2,y3) H (sB_ [0,1] [] kr)
  refine tT h1 kr ?_
  refine tK ?_
  refine tS ?_
  refine tB ?_
  refine rU tOk 3 kr ?_
  obtain ⟨v7,ev7,H⟩ := bind_some H
  refine lO tOk 37 0 12 13 15 none ⟨(.slot 0),[],0,true,3,(y2.map Vrow.row)⟩ y1 (y1.toNat) (Vrow.row v7) _ kr kr kr kr rfl kr (idx_isE ev7) rfl rfl ?_
  refine lU tOk 1 kr ?_
  refine lW tOk (t := 3) (ty := 0) (ad := (.tmp 16)) (x := (.tmp 14)) (g := none) (tI 3) false [cI y3] 0 0 (y1.toNat) 3 0 3 y2 Vrow.row v7 (⟨y3,v7.Members,v7.Bare⟩ : Vrow) kr kr kr kr kr kr kr kr (idx_get ev7).2 kr kr kr kr ?_
  refine lD 35 0 kr ?_
  refine tG tOk 3 35 0 kr kr ?_
  refine rU tOk 3 kr ?_
  obtain ⟨v8,ev8,H⟩ := bind_some H
  refine lO tOk 37 0 19 20 22 none ⟨(.slot 0),[],0,true,3,((y2.set (y1.toNat) (⟨y3,v7.Members,v7.Bare⟩ : Vrow)).map Vrow.row)⟩ y1 (y1.toNat) (Vrow.row v8) _ kr kr kr kr rfl kr (idx_isE ev8) rfl rfl ?_
  refine lU tOk 1 kr ?_
  refine lW tOk (t := 3) (ty := 0) (ad := (.tmp 23)) (x := (.tmp 21)) (g := none) (tI 3) false [cI (IntKind.wrap .i64 (y3 + 1))] 0 0 (y1.toNat) 3 1 3 (y2.set (y1.toNat) (⟨y3,v7.Members,v7.Bare⟩ : Vrow)) Vrow.row v8 (⟨v8.Id,(IntKind.wrap .i64 (y3 + 1)),v8.Bare⟩ : Vrow) kr kr kr kr kr kr kr kr (idx_get ev8).2 kr kr kr kr ?_
  refine lD 35 0 kr ?_
  refine tG tOk 3 35 0 kr kr ?_
  refine rU tOk 3 kr ?_
  obtain ⟨v9,ev9,H⟩ := bind_some H
  refine lO tOk 37 0 26 27 29 none ⟨(.slot 0),[],0,true,3,(((y2.set (y1.toNat) (⟨y3,v7.Members,v7.Bare⟩ : Vrow)).set (y1.toNat) (⟨v8.Id,(IntKind.wrap .i64 (y3 + 1)),v8.Bare⟩ : Vrow)).map Vrow.row)⟩ y1 (y1.toNat) (Vrow.row v9) _ kr kr kr kr rfl kr (idx_isE ev9) rfl rfl ?_
  refine lU tOk 1 kr ?_
  refine lW tOk (t := 3) (ty := 0) (ad := (.tmp 30)) (x := (.tmp 28)) (g := none) (tI 3) false [cI (IntKind.wrap .i64 ((IntKind.wrap .i64 (y3 + 1)) + 1))] 0 0 (y1.toNat) 3 2 3 ((y2.set (y1.toNat) (⟨y3,v7.Members,v7.Bare⟩ : Vrow)).set (y1.toNat) (⟨v8.Id,(IntKind.wrap .i64 (y3 + 1)),v8.Bare⟩ : Vrow)) Vrow.row v9 (⟨v9.Id,v9.Members,(IntKind.wrap .i64 ((IntKind.wrap .i64 (y3 + 1)) + 1))⟩ : Vrow) kr kr kr kr kr kr kr kr (idx_get ev9).2 kr kr kr kr ?_
  refine lD 35 0 kr ?_
  refine tE tOk 3 35 0 kr kr ?_
  refine tE tOk 3 35 0 kr kr ?_
  exact jn (mo6,((IntKind.wrap .i64 (y1 + 1)),(((y2.set (y1.toNat) (⟨y3,v7.Members,v7.Bare⟩ : Vrow)).set (y1.toNat) (⟨v8.Id,(IntKind.wrap .i64 (y3 + 1)),v8.Bare⟩ : Vrow)).set (y1.toNat) (⟨v9.Id,v9.Members,(IntKind.wrap .i64 ((IntKind.wrap .i64 (y3 + 1)) + 1))⟩ : Vrow)),(IntKind.wrap .i64 ((IntKind.wrap .i64 ((IntKind.wrap .i64 (y3 + 1)) + 1)) + 1)))) H (sM mo6 [5,0,1] [] kr)
 rintro ⟨y4,y5⟩ H
 have H : (laws_markVrowS_J1 n y4 y5) = some r := H
 unfold laws_markVrowS_J1 at H
 refine tG tOk 2 17 0 kr kr ?_
 refine te ?_
 obtain rfl := si H
 exact Fin.ofY _ [(false,[cI y5])] [false] _ [[cL 3 y4 Vrow.row]] _ [] kr rfl rfl rfl kr kr kr kr rfl rfl rfl
def laws_markIntS_J1 (n : Nat) (y4 : (List Int)) (y5 : Int) : Option (Int × (List Int)) :=
  (some (y5,y4))
def laws_markIntS_L2 (n : Nat) : Nat → Int → (List Int) → Int → Option (((List Int) × Int) ⊕ (Int × (List Int)))
  | 0,_,_,_ => none
  | mo6 + 1,y1,y2,y3 => (bif (decide (y1 < (y2.length : Int))) then ((idx y2 y1).bind fun v7 => (laws_markIntS_L2 n mo6 (IntKind.wrap .i64 (y1 + 1)) (y2.set (y1.toNat) y3) (IntKind.wrap .i64 (y3 + 1)))) else (some (Sum.inl (y2,y3))))
def laws_markIntSF (n : Nat) (x0 : (List Int)) (x1 : Int) : Option (Int × (List Int)) :=
  ((laws_markIntS_L2 n n 0 x0 x1).bind fun o => match o with | .inl (y4,y5) => (laws_markIntS_J1 n y4 y5) | .inr r => some r)
noncomputable abbrev G191 (k : Nat) := Rg Tryz.f191 k
theorem laws_markIntS (n : Nat) (x0 : (List Int)) (x1 : Int) (r : Int × (List Int)) (H : laws_markIntSF n x0 x1 = some r) : LCall Tryz.prog 191 [.io false [.sl true 1 (x0.map intRow)],.val false [.lit (.int .i64 x1)]] [.val false [.lit (.int .i64 r.1)]] [(0,[.sl true 1 (r.2.map intRow)])] := by
 refine LCall.of_body tOk Tryz.func191 rfl (c := (.seq (G191 0) (.seq (.seq (G191 1) (.block 0 (.loop (.seq (.seq (G191 2) (.cond (.tmp 9) .skip (.exit 0))) (.seq (.block 1 (.seq (G191 4) (G191 5))) (G191 3)))))) (.seq (G191 6) .ret)))) kr (Nat.le_of_ble_eq_true kr) 1 (rs := [.tmp 4]) rfl [0] (by decide) [(false,[.lit (.int .i64 r.1)])] [[.sl true 1 (r.2.map intRow)]] [] fun cx => ?_
 show Tr _ _ _ ⟨19,1,[sC 0 (cL 1 x0 intRow),sI 1 x1],[]⟩ _
 unfold laws_markIntSF at H
 refine tG tOk 1 3 0 kr kr ?_
 refine tS ?_
 refine tG tOk 1 35 0 kr kr ?_
 obtain ⟨o6,eo6,Ho6⟩ := bind_some H
 clear H
 refine Tr.mid (ι := (List Int) × Int) (fun v => ⟨19,1,[sC 0 (cL 1 v.1 intRow),sI 1 v.2],[]⟩) (fun v => laws_markIntS_J1 n v.1 v.2 = some r) ?_ ?_
 ·refine tB ?_
  refine Tr.loop (ι := Nat × (Int × (List Int) × Int)) (fun v => ⟨19,1,[sI 5 v.2.1,sC 0 (cL 1 v.2.2.1 intRow),sI 1 v.2.2.2],[]⟩) (fun v => laws_markIntS_L2 n v.1 v.2.1 v.2.2.1 v.2.2.2 = some o6) (fun v => v.1) (n,(0,x0,x1)) eo6 (St.sub_of [5,0,1] [] kr) ?_
  rintro ⟨mo6,y1,y2,y3⟩ H
  have H : laws_markIntS_L2 n mo6 y1 y2 y3 = some o6 := H
  obtain _ | mo6 := mo6
  ·cases (show (none : Option _) = some o6 from H)
  rw [laws_markIntS_L2] at H
  refine tS ?_
  refine rU tOk 2 kr ?_
  refine lL tOk 25 3 3 7 8 none ⟨(.slot 0),[],0,true,1,(y2.map intRow)⟩ (y2).length _ kr kr kr kr kr (map_len _ _) rfl ?_
  refine uD tOk 1 547 0 kr kr ?_
  obtain ⟨h1,H⟩ | ⟨h1,H⟩ := bC H
  ·refine tF h1 kr ?_
   refine Tr.exit ?_
   refine And.intro (fun _ => ?_) (fun h => absurd rfl h)
   obtain rfl := si H
   have H := Ho6
   dsimp only at H
   exact jn (y2,y3) H (sB_ [0,1] [] kr)
  refine tT h1 kr ?_
  refine tK ?_
  refine tS ?_
  refine tB ?_
  refine rU tOk 3 kr ?_
  obtain ⟨v7,ev7,H⟩ := bind_some H
  refine lO tOk 25 0 12 13 15 none ⟨(.slot 0),[],0,true,1,(y2.map intRow)⟩ y1 (y1.toNat) (intRow v7) _ kr kr kr kr rfl kr (idx_isE ev7) rfl rfl ?_
  refine lW tOk (t := 3) (ty := 0) (ad := (.tmp 15)) (x := (.tmp 14)) (g := none) (tI 3) false [cI y3] 0 0 (y1.toNat) 1 0 1 y2 intRow v7 y3 kr kr kr kr kr kr kr kr (idx_get ev7).2 kr kr kr kr ?_
  refine lD 35 0 kr ?_
  refine tE tOk 3 35 0 kr kr ?_
  refine tE tOk 3 35 0 kr kr ?_
  exact jn (mo6,((IntKind.wrap .i64 (y1 + 1)),(y2.set (y1.toNat) y3),(IntKind.wrap .i64 (y3 + 1)))) H (sM mo6 [5,0,1] [] kr)
 rintro ⟨y4,y5⟩ H
 have H : (laws_markIntS_J1 n y4 y5) = some r := H
 unfold laws_markIntS_J1 at H
 refine tG tOk 2 17 0 kr kr ?_
 refine te ?_
 obtain rfl := si H
 exact Fin.ofY _ [(false,[cI y5])] [false] _ [[cL 1 y4 intRow]] _ [] kr rfl rfl rfl kr kr kr kr rfl rfl rfl
def laws_markVtabF (n : Nat) (x0 : Vtab) (x1 : Int) : Option (Int × Vtab) :=
  ((laws_markVrowSF n x0.Rows x1).bind fun r1 => ((laws_markIntSF n x0.Pvid r1.1).bind fun r2 => (some (r2.1,(⟨r1.2,r2.2⟩ : Vtab)))))
noncomputable abbrev G97 (k : Nat) := Rg Tryz.f97 k
theorem laws_markVtab (n : Nat) (x0 : Vtab) (x1 : Int) (r : Int × Vtab) (H : laws_markVtabF n x0 x1 = some r) : LCall Tryz.prog 97 [.io true (Vtab.row x0),.val false [.lit (.int .i64 x1)]] [.val false [.lit (.int .i64 r.1)]] [(0,(Vtab.row r.2))] := by
 refine LCall.of_body tOk Tryz.func97 rfl (c := (.seq (G97 0) (.seq (G97 1) (.seq (G97 2) (.seq (G97 3) .ret))))) kr (Nat.le_of_ble_eq_true kr) 1 (rs := [.tmp 4]) rfl [0] (by decide) [(false,[.lit (.int .i64 r.1)])] [(Vtab.row r.2)] [] fun cx => ?_
 show Tr _ _ _ ⟨14,1,[sV 0 (Vtab.row x0),sI 1 x1],[]⟩ _
 unfold laws_markVtabF at H
 refine tR ?_
 refine LAt.boxK (T := lk tab) (t := 39) (ty := 0) (x := 0) (d := 2) (g := none) true (Vtab.row x0) kr kr kr kr kr kr ?_
 refine uD tOk 1 7 4 kr kr ?_
 refine rU tOk 3 kr ?_
 obtain ⟨r1,er1,H⟩ := bind_some H
 refine LAt.callL tOk [.lend,.rd] (f := 190) (av := #[.tmp 6,.tmp 7]) (ats := #[37,3]) (d := (some 8)) (ty := 3) (g := none) kr kr kr [] (laws_markVrowS n x0.Rows x1 r1 er1) kr (.inl rfl) ?_
 refine uD tOk 1 7 4 kr kr ?_
 refine rU tOk 3 kr ?_
 obtain ⟨r2,er2,H⟩ := bind_some H
 refine LAt.callL tOk [.lend,.rd] (f := 191) (av := #[.tmp 10,.tmp 11]) (ats := #[25,3]) (d := (some 12)) (ty := 3) (g := none) kr kr kr [] (laws_markIntS n x0.Pvid r1.1 r2 er2) kr (.inl rfl) ?_
 refine uD tOk 1 3 4 kr kr ?_
 refine tG tOk 2 17 4 kr kr ?_
 refine te ?_
 obtain rfl := si H
 exact Fin.ofY _ [(false,[cI r2.1])] [true] _ [[cL 3 r1.2 Vrow.row,cL 1 r2.2 intRow]] _ [] kr rfl rfl rfl kr kr kr kr rfl rfl rfl
def laws_markBridgeF (n : Nat) (x0 : Bridge) (x1 : Int) : Option (Int × Bridge) :=
  ((laws_markPtSF n x0.Ports x1).bind fun r1 => ((laws_markFentSF n x0.F r1.1).bind fun r2 => ((laws_markVtabF n x0.V r2.1).bind fun r3 => (some (r3.1,(⟨x0.Id,x0.Name,r1.2,r2.2,r3.2,x0.Ticks,x0.Parse,x0.Word,x0.Drops,x0.Vers⟩ : Bridge))))))
noncomputable abbrev G18 (k : Nat) := Rg Tryz.f18 k
theorem laws_markBridge (n : Nat) (x0 : Bridge) (x1 : Int) (r : Int × Bridge) (H : laws_markBridgeF n x0 x1 = some r) : LCall Tryz.prog 18 [.io true (Bridge.row x0),.val false [.lit (.int .i64 x1)]] [.val false [.lit (.int .i64 r.1)]] [(0,(Bridge.row r.2))] := by
 refine LCall.of_body tOk Tryz.func18 rfl (c := (.seq (G18 0) (.seq (G18 1) (.seq (G18 2) (.seq (G18 3) (.seq (G18 4) .ret)))))) kr (Nat.le_of_ble_eq_true kr) 1 (rs := [.tmp 4]) rfl [0] (by decide) [(false,[.lit (.int .i64 r.1)])] [(Bridge.row r.2)] [] fun cx => ?_
 show Tr _ _ _ ⟨18,1,[sV 0 (Bridge.row x0),sI 1 x1],[]⟩ _
 unfold laws_markBridgeF at H
 refine tR ?_
 refine LAt.boxK (T := lk tab) (t := 41) (ty := 0) (x := 0) (d := 2) (g := none) true (Bridge.row x0) kr kr kr kr kr kr ?_
 refine uD tOk 1 7 4 kr kr ?_
 refine rU tOk 3 kr ?_
 obtain ⟨r1,er1,H⟩ := bind_some H
 refine LAt.callL tOk [.lend,.rd] (f := 95) (av := #[.tmp 6,.tmp 7]) (ats := #[35,3]) (d := (some 8)) (ty := 3) (g := none) kr kr kr [] (laws_markPtS n x0.Ports x1 r1 er1) kr (.inl rfl) ?_
 refine uD tOk 1 7 4 kr kr ?_
 refine rU tOk 3 kr ?_
 obtain ⟨r2,er2,H⟩ := bind_some H
 refine LAt.callL tOk [.lend,.rd] (f := 96) (av := #[.tmp 10,.tmp 11]) (ats := #[36,3]) (d := (some 12)) (ty := 3) (g := none) kr kr kr [] (laws_markFentS n x0.F r1.1 r2 er2) kr (.inl rfl) ?_
 refine uD tOk 1 7 4 kr kr ?_
 refine rU tOk 3 kr ?_
 obtain ⟨r3,er3,H⟩ := bind_some H
 refine LAt.callL tOk [.lend,.rd] (f := 97) (av := #[.tmp 14,.tmp 15]) (ats := #[39,3]) (d := (some 16)) (ty := 3) (g := none) kr kr kr [] (laws_markVtab n x0.V r2.1 r3 er3) kr (.inl rfl) ?_
 refine uD tOk 1 3 4 kr kr ?_
 refine tG tOk 2 17 4 kr kr ?_
 refine te ?_
 obtain rfl := si H
 exact Fin.ofY _ [(false,[cI r3.1])] [true] _ [[cI x0.Id,cS x0.Name,cL 8 r1.2 Pt.row,cL 5 r2.2 Fent.row,cL 3 r3.2.Rows Vrow.row,cL 1 r3.2.Pvid intRow,cI x0.Ticks,cI x0.Parse,cI x0.Word,cI x0.Drops,cI x0.Vers]] _ [] kr rfl rfl rfl kr kr kr kr rfl rfl rfl
def laws_markByteS_J1 (n : Nat) (y4 : (List Int)) (y5 : Int) : Option (Int × (List Int)) :=
  (some (y5,y4))
def laws_markByteS_L2 (n : Nat) : Nat → Int → (List Int) → Int → Option (((List Int) × Int) ⊕ (Int × (List Int)))
  | 0,_,_,_ => none
  | mo6 + 1,y1,y2,y3 => (bif (decide (y1 < (y2.length : Int))) then ((idx y2 y1).bind fun v7 => (laws_markByteS_L2 n mo6 (IntKind.wrap .i64 (y1 + 1)) (y2.set (y1.toNat) (IntKind.wrap .u8 y3)) (IntKind.wrap .i64 (y3 + 1)))) else (some (Sum.inl (y2,y3))))
def laws_markByteSF (n : Nat) (x0 : (List Int)) (x1 : Int) : Option (Int × (List Int)) :=
  ((laws_markByteS_L2 n n 0 x0 x1).bind fun o => match o with | .inl (y4,y5) => (laws_markByteS_J1 n y4 y5) | .inr r => some r)
noncomputable abbrev G98 (k : Nat) := Rg Tryz.f98 k
theorem laws_markByteS (n : Nat) (x0 : (List Int)) (x1 : Int) (r : Int × (List Int)) (H : laws_markByteSF n x0 x1 = some r) : LCall Tryz.prog 98 [.io false [.sl true 1 (x0.map byteRow)],.val false [.lit (.int .i64 x1)]] [.val false [.lit (.int .i64 r.1)]] [(0,[.sl true 1 (r.2.map byteRow)])] := by
 refine LCall.of_body tOk Tryz.func98 rfl (c := (.seq (G98 0) (.seq (.seq (G98 1) (.block 0 (.loop (.seq (.seq (G98 2) (.cond (.tmp 9) .skip (.exit 0))) (.seq (.block 1 (.seq (G98 4) (G98 5))) (G98 3)))))) (.seq (G98 6) .ret)))) kr (Nat.le_of_ble_eq_true kr) 1 (rs := [.tmp 4]) rfl [0] (by decide) [(false,[.lit (.int .i64 r.1)])] [[.sl true 1 (r.2.map byteRow)]] [] fun cx => ?_
 show Tr _ _ _ ⟨20,1,[sC 0 (cL 1 x0 byteRow),sI 1 x1],[]⟩ _
 unfold laws_markByteSF at H
 refine tG tOk 1 3 0 kr kr ?_
 refine tS ?_
 refine tG tOk 1 35 0 kr kr ?_
 obtain ⟨o6,eo6,Ho6⟩ := bind_some H
 clear H
 refine Tr.mid (ι := (List Int) × Int) (fun v => ⟨20,1,[sC 0 (cL 1 v.1 byteRow),sI 1 v.2],[]⟩) (fun v => laws_markByteS_J1 n v.1 v.2 = some r) ?_ ?_
 ·refine tB ?_
  refine Tr.loop (ι := Nat × (Int × (List Int) × Int)) (fun v => ⟨20,1,[sI 5 v.2.1,sC 0 (cL 1 v.2.2.1 byteRow),sI 1 v.2.2.2],[]⟩) (fun v => laws_markByteS_L2 n v.1 v.2.1 v.2.2.1 v.2.2.2 = some o6) (fun v => v.1) (n,(0,x0,x1)) eo6 (St.sub_of [5,0,1] [] kr) ?_
  rintro ⟨mo6,y1,y2,y3⟩ H
  have H : laws_markByteS_L2 n mo6 y1 y2 y3 = some o6 := H
  obtain _ | mo6 := mo6
  ·cases (show (none : Option _) = some o6 from H)
  rw [laws_markByteS_L2] at H
  refine tS ?_
  refine rU tOk 2 kr ?_
  refine lL tOk 30 3 5 7 8 none ⟨(.slot 0),[],0,true,1,(y2.map byteRow)⟩ (y2).length _ kr kr kr kr kr (map_len _ _) rfl ?_
  refine uD tOk 1 547 0 kr kr ?_
  obtain ⟨h1,H⟩ | ⟨h1,H⟩ := bC H
  ·refine tF h1 kr ?_
   refine Tr.exit ?_
   refine And.intro (fun _ => ?_) (fun h => absurd rfl h)
   obtain rfl := si H
   have H := Ho6
   dsimp only at H
   exact jn (y2,y3) H (sB_ [0,1] [] kr)
  refine tT h1 kr ?_
  refine tK ?_
  refine tS ?_
  refine tB ?_
  refine rU tOk 4 kr ?_
  obtain ⟨v7,ev7,H⟩ := bind_some H
  refine lO tOk 30 0 12 13 16 none ⟨(.slot 0),[],0,true,1,(y2.map byteRow)⟩ y1 (y1.toNat) (byteRow v7) _ kr kr kr kr rfl kr (idx_isE ev7) rfl rfl ?_
  refine lW tOk (t := 5) (ty := 0) (ad := (.tmp 16)) (x := (.tmp 15)) (g := none) (tI 5) false [.lit (.int .u8 (IntKind.wrap .u8 y3))] 0 0 (y1.toNat) 1 0 1 y2 byteRow v7 (IntKind.wrap .u8 y3) kr kr kr kr kr kr kr kr (idx_get ev7).2 kr kr kr kr ?_
  refine lD 35 0 kr ?_
  refine tE tOk 3 35 0 kr kr ?_
  refine tE tOk 3 35 0 kr kr ?_
  exact jn (mo6,((IntKind.wrap .i64 (y1 + 1)),(y2.set (y1.toNat) (IntKind.wrap .u8 y3)),(IntKind.wrap .i64 (y3 + 1)))) H (sM mo6 [5,0,1] [] kr)
 rintro ⟨y4,y5⟩ H
 have H : (laws_markByteS_J1 n y4 y5) = some r := H
 unfold laws_markByteS_J1 at H
 refine tG tOk 2 17 0 kr kr ?_
 refine te ?_
 obtain rfl := si H
 exact Fin.ofY _ [(false,[cI y5])] [false] _ [[cL 1 y4 byteRow]] _ [] kr rfl rfl rfl kr kr kr kr rfl rfl rfl
def laws_markFrameF (n : Nat) (x0 : Frame) (x1 : Int) : Option (Int × Frame) :=
  ((laws_markByteSF n x0.Data x1).bind fun r1 => (some (r1.1,(⟨x0.Dst,x0.Src,x0.Tag,r1.2⟩ : Frame))))
noncomputable abbrev G19 (k : Nat) := Rg Tryz.f19 k
theorem laws_markFrame (n : Nat) (x0 : Frame) (x1 : Int) (r : Int × Frame) (H : laws_markFrameF n x0 x1 = some r) : LCall Tryz.prog 19 [.io true (Frame.row x0),.val false [.lit (.int .i64 x1)]] [.val false [.lit (.int .i64 r.1)]] [(0,(Frame.row r.2))] := by
 refine LCall.of_body tOk Tryz.func19 rfl (c := (.seq (G19 0) (.seq (G19 1) (.seq (G19 2) .ret)))) kr (Nat.le_of_ble_eq_true kr) 1 (rs := [.tmp 4]) rfl [0] (by decide) [(false,[.lit (.int .i64 r.1)])] [(Frame.row r.2)] [] fun cx => ?_
 show Tr _ _ _ ⟨10,1,[sV 0 (Frame.row x0),sI 1 x1],[]⟩ _
 unfold laws_markFrameF at H
 refine tR ?_
 refine LAt.boxK (T := lk tab) (t := 46) (ty := 0) (x := 0) (d := 2) (g := none) true (Frame.row x0) kr kr kr kr kr kr ?_
 refine uD tOk 1 7 4 kr kr ?_
 refine rU tOk 3 kr ?_
 obtain ⟨r1,er1,H⟩ := bind_some H
 refine LAt.callL tOk [.lend,.rd] (f := 98) (av := #[.tmp 6,.tmp 7]) (ats := #[30,3]) (d := (some 8)) (ty := 3) (g := none) kr kr kr [] (laws_markByteS n x0.Data x1 r1 er1) kr (.inl rfl) ?_
 refine uD tOk 1 3 4 kr kr ?_
 refine tG tOk 2 17 4 kr kr ?_
 refine te ?_
 obtain rfl := si H
 exact Fin.ofY _ [(false,[cI r1.1])] [true] _ [[cI x0.Dst,cI x0.Src,cI x0.Tag,cL 1 r1.2 byteRow]] _ [] kr rfl rfl rfl kr kr kr kr rfl rfl rfl
def laws_markOutS_J1 (n : Nat) (y4 : (List Out)) (y5 : Int) : Option (Int × (List Out)) :=
  (some (y5,y4))
def laws_markOutS_L2 (n : Nat) : Nat → Int → (List Out) → Int → Option (((List Out) × Int) ⊕ (Int × (List Out)))
  | 0,_,_,_ => none
  | mo6 + 1,y1,y2,y3 => (bif (decide (y1 < (y2.length : Int))) then ((idx y2 y1).bind fun v7 => ((idx (y2.set (y1.toNat) (⟨y3,v7.F⟩ : Out)) y1).bind fun v8 => ((idx ((y2.set (y1.toNat) (⟨y3,v7.F⟩ : Out)).set (y1.toNat) (⟨v8.Port,(⟨(IntKind.wrap .i64 (y3 + 1)),v8.F.Src,v8.F.Tag,v8.F.Data⟩ : Frame)⟩ : Out)) y1).bind fun v9 => ((idx (((y2.set (y1.toNat) (⟨y3,v7.F⟩ : Out)).set (y1.toNat) (⟨v8.Port,(⟨(IntKind.wrap .i64 (y3 + 1)),v8.F.Src,v8.F.Tag,v8.F.Data⟩ : Frame)⟩ : Out)).set (y1.toNat) (⟨v9.Port,(⟨v9.F.Dst,(IntKind.wrap .i64 ((IntKind.wrap .i64 (y3 + 1)) + 1)),v9.F.Tag,v9.F.Data⟩ : Frame)⟩ : Out)) y1).bind fun v10 => ((idx ((((y2.set (y1.toNat) (⟨y3,v7.F⟩ : Out)).set (y1.toNat) (⟨v8.Port,(⟨(IntKind.wrap .i64 (y3 + 1)),v8.F.Src,v8.F.Tag,v8.F.Data⟩ : Frame)⟩ : Out)).set (y1.toNat) (⟨v9.Port,(⟨v9.F.Dst,(IntKind.wrap .i64 ((IntKind.wrap .i64 (y3 + 1)) + 1)),v9.F.Tag,v9.F.Data⟩ : Frame)⟩ : Out)).set (y1.toNat) (⟨v10.Port,(⟨v10.F.Dst,v10.F.Src,(IntKind.wrap .i64 ((IntKind.wrap .i64 ((IntKind.wrap .i64 (y3 + 1)) + 1)) + 1)),v10.F.Data⟩ : Frame)⟩ : Out)) y1).bind fun v11 => ((laws_markByteSF n v11.F.Data (IntKind.wrap .i64 ((IntKind.wrap .i64 ((IntKind.wrap .i64 ((IntKind.wrap .i64 (y3 + 1)) + 1)) + 1)) + 1))).bind fun r12 => (laws_markOutS_L2 n mo6 (IntKind.wrap .i64 (y1 + 1)) (((((y2.set (y1.toNat) (⟨y3,v7.F⟩ : Out)).set (y1.toNat) (⟨v8.Port,(⟨(IntKind.wrap .i64 (y3 + 1)),v8.F.Src,v8.F.Tag,v8.F.Data⟩ : Frame)⟩ : Out)).set (y1.toNat) (⟨v9.Port,(⟨v9.F.Dst,(IntKind.wrap .i64 ((IntKind.wrap .i64 (y3 + 1)) + 1)),v9.F.Tag,v9.F.Data⟩ : Frame)⟩ : Out)).set (y1.toNat) (⟨v10.Port,(⟨v10.F.Dst,v10.F.Src,(IntKind.wrap .i64 ((IntKind.wrap .i64 ((IntKind.wrap .i64 (y3 + 1)) + 1)) + 1)),v10.F.Data⟩ : Frame)⟩ : Out)).set (y1.toNat) (⟨v11.Port,(⟨v11.F.Dst,v11.F.Src,v11.F.Tag,r12.2⟩ : Frame)⟩ : Out)) r12.1))))))) else (some (Sum.inl (y2,y3))))
def laws_markOutSF (n : Nat) (x0 : (List Out)) (x1 : Int) : Option (Int × (List Out)) :=
  ((laws_markOutS_L2 n n 0 x0 x1).bind fun o => match o with | .inl (y4,y5) => (laws_markOutS_J1 n y4 y5) | .inr r => some r)
noncomputable abbrev G20 (k : Nat) := Rg Tryz.f20 k
theorem laws_markOutS (n : Nat) (x0 : (List Out)) (x1 : Int) (r : Int × (List Out)) (H : laws_markOutSF n x0 x1 = some r) : LCall Tryz.prog 20 [.io false [.sl true 5 (x0.map Out.row)],.val false [.lit (.int .i64 x1)]] [.val false [.lit (.int .i64 r.1)]] [(0,[.sl true 5 (r.2.map Out.row)])] := by
 refine LCall.of_body tOk Tryz.func20 rfl (c := (.seq (G20 0) (.seq (.seq (G20 1) (.block 0 (.loop (.seq (.seq (G20 2) (.cond (.tmp 9) .skip (.exit 0))) (.seq (.block 1 (.seq (G20 4) (.seq (G20 5) (.seq (G20 6) (.seq (G20 7) (.seq (G20 8) (.seq (G20 9) (.seq (G20 10) (.seq (G20 11) (G20 12)))))))))) (G20 3)))))) (.seq (G20 13) .ret)))) kr (Nat.le_of_ble_eq_true kr) 1 (rs := [.tmp 4]) rfl [0] (by decide) [(false,[.lit (.int .i64 r.1)])] [[.sl true 5 (r.2.map Out.row)]] [] fun cx => ?_
 show Tr _ _ _ ⟨52,1,[sC 0 (cL 5 x0 Out.row),sI 1 x1],[]⟩ _
 unfold laws_markOutSF at H
 refine tG tOk 1 3 0 kr kr ?_
 refine tS ?_
 refine tG tOk 1 35 0 kr kr ?_
 obtain ⟨o6,eo6,Ho6⟩ := bind_some H
 clear H
 refine Tr.mid (ι := (List Out) × Int) (fun v => ⟨52,1,[sC 0 (cL 5 v.1 Out.row),sI 1 v.2],[]⟩) (fun v => laws_markOutS_J1 n v.1 v.2 = some r) ?_ ?_
 ·refine tB ?_
  refine Tr.loop (ι := Nat × (Int × (List Out) × Int)) (fun v => ⟨52,1,[sI 5 v.2.1,sC 0 (cL 5 v.2.2.1 Out.row),sI 1 v.2.2.2],[]⟩) (fun v => laws_markOutS_L2 n v.1 v.2.1 v.2.2.1 v.2.2.2 = some o6) (fun v => v.1) (n,(0,x0,x1)) eo6 (St.sub_of [5,0,1] [] kr) ?_
  rintro ⟨mo6,y1,y2,y3⟩ H
  have H : laws_markOutS_L2 n mo6 y1 y2 y3 = some o6 := H
  obtain _ | mo6 := mo6
  ·cases (show (none : Option _) = some o6 from H)
  rw [laws_markOutS_L2] at H
  refine tS ?_
  refine rU tOk 2 kr ?_
  refine lL tOk 42 3 94 7 8 none ⟨(.slot 0),[],0,true,5,(y2.map Out.row)⟩ (y2).length _ kr kr kr kr kr (map_len _ _) rfl ?_
  refine uD tOk 1 547 0 kr kr ?_
  obtain ⟨h1,H⟩ | ⟨h1,H⟩ := bC H
  ·refine tF h1 kr ?_
   refine Tr.exit ?_
   refine And.intro (fun _ => ?_) (fun h => absurd rfl h)
   obtain rfl := si H
   have H := Ho6
   dsimp only at H
   exact jn (y2,y3) H (sB_ [0,1] [] kr)
  refine tT h1 kr ?_
  refine tK ?_
  refine tS ?_
  refine tB ?_
  refine rU tOk 3 kr ?_
  obtain ⟨v7,ev7,H⟩ := bind_some H
  refine lO tOk 42 0 12 13 15 none ⟨(.slot 0),[],0,true,5,(y2.map Out.row)⟩ y1 (y1.toNat) (Out.row v7) _ kr kr kr kr rfl kr (idx_isE ev7) rfl rfl ?_
  refine lU tOk 1 kr ?_
  refine lW tOk (t := 3) (ty := 0) (ad := (.tmp 16)) (x := (.tmp 14)) (g := none) (tI 3) false [cI y3] 0 0 (y1.toNat) 5 0 5 y2 Out.row v7 (⟨y3,v7.F⟩ : Out) kr kr kr kr kr kr kr kr (idx_get ev7).2 kr kr kr kr ?_
  refine lD 35 0 kr ?_
  refine tG tOk 3 35 0 kr kr ?_
  refine rU tOk 3 kr ?_
  obtain ⟨v8,ev8,H⟩ := bind_some H
  refine lO tOk 42 0 19 20 22 none ⟨(.slot 0),[],0,true,5,((y2.set (y1.toNat) (⟨y3,v7.F⟩ : Out)).map Out.row)⟩ y1 (y1.toNat) (Out.row v8) _ kr kr kr kr rfl kr (idx_isE ev8) rfl rfl ?_
  refine lU tOk 2 kr ?_
  refine lW tOk (t := 3) (ty := 0) (ad := (.tmp 24)) (x := (.tmp 21)) (g := none) (tI 3) false [cI (IntKind.wrap .i64 (y3 + 1))] 0 0 (y1.toNat) 5 1 5 (y2.set (y1.toNat) (⟨y3,v7.F⟩ : Out)) Out.row v8 (⟨v8.Port,(⟨(IntKind.wrap .i64 (y3 + 1)),v8.F.Src,v8.F.Tag,v8.F.Data⟩ : Frame)⟩ : Out) kr kr kr kr kr kr kr kr (idx_get ev8).2 kr kr kr kr ?_
  refine lD 35 0 kr ?_
  refine tG tOk 3 35 0 kr kr ?_
  refine rU tOk 3 kr ?_
  obtain ⟨v9,ev9,H⟩ := bind_some H
  refine lO tOk 42 0 27 28 30 none ⟨(.slot 0),[],0,true,5,(((y2.set (y1.toNat) (⟨y3,v7.F⟩ : Out)).set (y1.toNat) (⟨v8.Port,(⟨(IntKind.wrap .i64 (y3 + 1)),v8.F.Src,v8.F.Tag,v8.F.Data⟩ : Frame)⟩ : Out)).map Out.row)⟩ y1 (y1.toNat) (Out.row v9) _ kr kr kr kr rfl kr (idx_isE ev9) rfl rfl ?_
  refine lU tOk 2 kr ?_
  refine lW tOk (t := 3) (ty := 0) (ad := (.tmp 32)) (x := (.tmp 29)) (g := none) (tI 3) false [cI (IntKind.wrap .i64 ((IntKind.wrap .i64 (y3 + 1)) + 1))] 0 0 (y1.toNat) 5 2 5 ((y2.set (y1.toNat) (⟨y3,v7.F⟩ : Out)).set (y1.toNat) (⟨v8.Port,(⟨(IntKind.wrap .i64 (y3 + 1)),v8.F.Src,v8.F.Tag,v8.F.Data⟩ : Frame)⟩ : Out)) Out.row v9 (⟨v9.Port,(⟨v9.F.Dst,(IntKind.wrap .i64 ((IntKind.wrap .i64 (y3 + 1)) + 1)),v9.F.Tag,v9.F.Data⟩ : Frame)⟩ : Out) kr kr kr kr kr kr kr kr (idx_get ev9).2 kr kr kr kr ?_
  refine lD 35 0 kr ?_
  refine tG tOk 3 35 0 kr kr ?_
  refine rU tOk 3 kr ?_
  obtain ⟨v10,ev10,H⟩ := bind_some H
  refine lO tOk 42 0 35 36 38 none ⟨(.slot 0),[],0,true,5,((((y2.set (y1.toNat) (⟨y3,v7.F⟩ : Out)).set (y1.toNat) (⟨v8.Port,(⟨(IntKind.wrap .i64 (y3 + 1)),v8.F.Src,v8.F.Tag,v8.F.Data⟩ : Frame)⟩ : Out)).set (y1.toNat) (⟨v9.Port,(⟨v9.F.Dst,(IntKind.wrap .i64 ((IntKind.wrap .i64 (y3 + 1)) + 1)),v9.F.Tag,v9.F.Data⟩ : Frame)⟩ : Out)).map Out.row)⟩ y1 (y1.toNat) (Out.row v10) _ kr kr kr kr rfl kr (idx_isE ev10) rfl rfl ?_
  refine lU tOk 2 kr ?_
  refine lW tOk (t := 3) (ty := 0) (ad := (.tmp 40)) (x := (.tmp 37)) (g := none) (tI 3) false [cI (IntKind.wrap .i64 ((IntKind.wrap .i64 ((IntKind.wrap .i64 (y3 + 1)) + 1)) + 1))] 0 0 (y1.toNat) 5 3 5 (((y2.set (y1.toNat) (⟨y3,v7.F⟩ : Out)).set (y1.toNat) (⟨v8.Port,(⟨(IntKind.wrap .i64 (y3 + 1)),v8.F.Src,v8.F.Tag,v8.F.Data⟩ : Frame)⟩ : Out)).set (y1.toNat) (⟨v9.Port,(⟨v9.F.Dst,(IntKind.wrap .i64 ((IntKind.wrap .i64 (y3 + 1)) + 1)),v9.F.Tag,v9.F.Data⟩ : Frame)⟩ : Out)) Out.row v10 (⟨v10.Port,(⟨v10.F.Dst,v10.F.Src,(IntKind.wrap .i64 ((IntKind.wrap .i64 ((IntKind.wrap .i64 (y3 + 1)) + 1)) + 1)),v10.F.Data⟩ : Frame)⟩ : Out) kr kr kr kr kr kr kr kr (idx_get ev10).2 kr kr kr kr ?_
  refine lD 35 0 kr ?_
  refine tG tOk 3 35 0 kr kr ?_
  refine Tr.at ?_
  refine lU tOk 2 kr ?_
  obtain ⟨v11,ev11,H⟩ := bind_some H
  refine lO tOk 42 0 43 44 45 none ⟨(.slot 0),[],0,true,5,(((((y2.set (y1.toNat) (⟨y3,v7.F⟩ : Out)).set (y1.toNat) (⟨v8.Port,(⟨(IntKind.wrap .i64 (y3 + 1)),v8.F.Src,v8.F.Tag,v8.F.Data⟩ : Frame)⟩ : Out)).set (y1.toNat) (⟨v9.Port,(⟨v9.F.Dst,(IntKind.wrap .i64 ((IntKind.wrap .i64 (y3 + 1)) + 1)),v9.F.Tag,v9.F.Data⟩ : Frame)⟩ : Out)).set (y1.toNat) (⟨v10.Port,(⟨v10.F.Dst,v10.F.Src,(IntKind.wrap .i64 ((IntKind.wrap .i64 ((IntKind.wrap .i64 (y3 + 1)) + 1)) + 1)),v10.F.Data⟩ : Frame)⟩ : Out)).map Out.row)⟩ y1 (y1.toNat) (Out.row v11) _ kr kr kr kr rfl kr (idx_isE ev11) rfl rfl ?_
  refine lU tOk 2 kr ?_
  refine LAt.loadE tOk (t := 30) (ty := 30) (x := (.tmp 47)) (d := 48) (g := none) (tI 30) (.slot 0) [(0,(y1.toNat))] 5 4 [cL 5 ((((y2.set (y1.toNat) (⟨y3,v7.F⟩ : Out)).set (y1.toNat) (⟨v8.Port,(⟨(IntKind.wrap .i64 (y3 + 1)),v8.F.Src,v8.F.Tag,v8.F.Data⟩ : Frame)⟩ : Out)).set (y1.toNat) (⟨v9.Port,(⟨v9.F.Dst,(IntKind.wrap .i64 ((IntKind.wrap .i64 (y3 + 1)) + 1)),v9.F.Tag,v9.F.Data⟩ : Frame)⟩ : Out)).set (y1.toNat) (⟨v10.Port,(⟨v10.F.Dst,v10.F.Src,(IntKind.wrap .i64 ((IntKind.wrap .i64 ((IntKind.wrap .i64 (y3 + 1)) + 1)) + 1)),v10.F.Data⟩ : Frame)⟩ : Out)) Out.row] (Out.row v11) _ kr kr kr kr kr (getQ_elem rfl (idx_get ev11).2) rfl (by intro h; cases h) kr kr rfl ?_
  refine lU tOk 1 kr ?_
  obtain ⟨r12,er12,H⟩ := bind_some H
  refine LAt.callO tOk [.lend,.rd] (f := 98) (av := #[.tmp 48,.tmp 49]) (ats := #[30,3]) (d := (some 50)) (ty := 3) (g := none) [(48,Out.row v11)] (some [cL 5 (((((y2.set (y1.toNat) (⟨y3,v7.F⟩ : Out)).set (y1.toNat) (⟨v8.Port,(⟨(IntKind.wrap .i64 (y3 + 1)),v8.F.Src,v8.F.Tag,v8.F.Data⟩ : Frame)⟩ : Out)).set (y1.toNat) (⟨v9.Port,(⟨v9.F.Dst,(IntKind.wrap .i64 ((IntKind.wrap .i64 (y3 + 1)) + 1)),v9.F.Tag,v9.F.Data⟩ : Frame)⟩ : Out)).set (y1.toNat) (⟨v10.Port,(⟨v10.F.Dst,v10.F.Src,(IntKind.wrap .i64 ((IntKind.wrap .i64 ((IntKind.wrap .i64 (y3 + 1)) + 1)) + 1)),v10.F.Data⟩ : Frame)⟩ : Out)).set (y1.toNat) (⟨v11.Port,(⟨v11.F.Dst,v11.F.Src,v11.F.Tag,r12.2⟩ : Frame)⟩ : Out)) Out.row]) kr kr kr [] (laws_markByteS n v11.F.Data (IntKind.wrap .i64 ((IntKind.wrap .i64 ((IntKind.wrap .i64 ((IntKind.wrap .i64 (y3 + 1)) + 1)) + 1)) + 1)) r12 er12) (orc_cons (row := [cL 5 ((((y2.set (y1.toNat) (⟨y3,v7.F⟩ : Out)).set (y1.toNat) (⟨v8.Port,(⟨(IntKind.wrap .i64 (y3 + 1)),v8.F.Src,v8.F.Tag,v8.F.Data⟩ : Frame)⟩ : Out)).set (y1.toNat) (⟨v9.Port,(⟨v9.F.Dst,(IntKind.wrap .i64 ((IntKind.wrap .i64 (y3 + 1)) + 1)),v9.F.Tag,v9.F.Data⟩ : Frame)⟩ : Out)).set (y1.toNat) (⟨v10.Port,(⟨v10.F.Dst,v10.F.Src,(IntKind.wrap .i64 ((IntKind.wrap .i64 ((IntKind.wrap .i64 (y3 + 1)) + 1)) + 1)),v10.F.Data⟩ : Frame)⟩ : Out)) Out.row]) (q := [(0,(y1.toNat))]) kr (getQ_elem rfl (idx_get ev11).2) orc_nil) kr (nr_some [cL 5 ((((y2.set (y1.toNat) (⟨y3,v7.F⟩ : Out)).set (y1.toNat) (⟨v8.Port,(⟨(IntKind.wrap .i64 (y3 + 1)),v8.F.Src,v8.F.Tag,v8.F.Data⟩ : Frame)⟩ : Out)).set (y1.toNat) (⟨v9.Port,(⟨v9.F.Dst,(IntKind.wrap .i64 ((IntKind.wrap .i64 (y3 + 1)) + 1)),v9.F.Tag,v9.F.Data⟩ : Frame)⟩ : Out)).set (y1.toNat) (⟨v10.Port,(⟨v10.F.Dst,v10.F.Src,(IntKind.wrap .i64 ((IntKind.wrap .i64 ((IntKind.wrap .i64 (y3 + 1)) + 1)) + 1)),v10.F.Data⟩ : Frame)⟩ : Out)) Out.row] [(0,(y1.toNat))] false 4 [cL 1 r12.2 byteRow] kr (modQ_elem (new := (⟨v11.Port,(⟨v11.F.Dst,v11.F.Src,v11.F.Tag,r12.2⟩ : Frame)⟩ : Out)) rfl (idx_get ev11).2 rfl)) (.inl rfl) ?_
  refine uD tOk 1 35 0 kr kr ?_
  refine tE tOk 3 35 0 kr kr ?_
  exact jn (mo6,((IntKind.wrap .i64 (y1 + 1)),(((((y2.set (y1.toNat) (⟨y3,v7.F⟩ : Out)).set (y1.toNat) (⟨v8.Port,(⟨(IntKind.wrap .i64 (y3 + 1)),v8.F.Src,v8.F.Tag,v8.F.Data⟩ : Frame)⟩ : Out)).set (y1.toNat) (⟨v9.Port,(⟨v9.F.Dst,(IntKind.wrap .i64 ((IntKind.wrap .i64 (y3 + 1)) + 1)),v9.F.Tag,v9.F.Data⟩ : Frame)⟩ : Out)).set (y1.toNat) (⟨v10.Port,(⟨v10.F.Dst,v10.F.Src,(IntKind.wrap .i64 ((IntKind.wrap .i64 ((IntKind.wrap .i64 (y3 + 1)) + 1)) + 1)),v10.F.Data⟩ : Frame)⟩ : Out)).set (y1.toNat) (⟨v11.Port,(⟨v11.F.Dst,v11.F.Src,v11.F.Tag,r12.2⟩ : Frame)⟩ : Out)),r12.1)) H (sM mo6 [5,0,1] [] kr)
 rintro ⟨y4,y5⟩ H
 have H : (laws_markOutS_J1 n y4 y5) = some r := H
 unfold laws_markOutS_J1 at H
 refine tG tOk 2 17 0 kr kr ?_
 refine te ?_
 obtain rfl := si H
 exact Fin.ofY _ [(false,[cI y5])] [false] _ [[cL 5 y4 Out.row]] _ [] kr rfl rfl rfl kr kr kr kr rfl rfl rfl
def laws_heldPtS_J1 (n : Nat) (y3 : Int) : Option (Int) :=
  (some y3)
def laws_heldPtS_L2 (n : Nat) : Nat → (List Pt) → Int → Int → Option ((Int) ⊕ (Int))
  | 0,_,_,_ => none
  | mo4 + 1,x0,y1,y2 => (bif (decide (y1 < (x0.length : Int))) then ((idx x0 y1).bind fun v5 => (bif (decide ((3 : Int) ≠ 0)) then (bif (!(v5.Up == ((Int.tmod y2 3) == 0))) then (some (Sum.inr (-1))) else ((idx x0 y1).bind fun v7 => (bif (v7.Cost != (IntKind.wrap .i64 (y2 + 1))) then (some (Sum.inr (-1))) else ((idx x0 y1).bind fun v8 => (bif (decide ((3 : Int) ≠ 0)) then (bif (!(v8.Has == ((Int.tmod (IntKind.wrap .i64 ((IntKind.wrap .i64 (y2 + 1)) + 1)) 3) == 0))) then (some (Sum.inr (-1))) else ((idx x0 y1).bind fun v10 => (bif (v10.Heard.Root != (IntKind.wrap .i64 ((IntKind.wrap .i64 ((IntKind.wrap .i64 (y2 + 1)) + 1)) + 1))) then (some (Sum.inr (-1))) else ((idx x0 y1).bind fun v11 => (bif (v11.Heard.Cost != (IntKind.wrap .i64 ((IntKind.wrap .i64 ((IntKind.wrap .i64 ((IntKind.wrap .i64 (y2 + 1)) + 1)) + 1)) + 1))) then (some (Sum.inr (-1))) else ((idx x0 y1).bind fun v12 => (bif (v12.Heard.Hops != (IntKind.wrap .i64 ((IntKind.wrap .i64 ((IntKind.wrap .i64 ((IntKind.wrap .i64 ((IntKind.wrap .i64 (y2 + 1)) + 1)) + 1)) + 1)) + 1))) then (some (Sum.inr (-1))) else ((idx x0 y1).bind fun v13 => (bif (v13.Heard.Bridge != (IntKind.wrap .i64 ((IntKind.wrap .i64 ((IntKind.wrap .i64 ((IntKind.wrap .i64 ((IntKind.wrap .i64 ((IntKind.wrap .i64 (y2 + 1)) + 1)) + 1)) + 1)) + 1)) + 1))) then (some (Sum.inr (-1))) else ((idx x0 y1).bind fun v14 => (bif (v14.Heard.Port != (IntKind.wrap .i64 ((IntKind.wrap .i64 ((IntKind.wrap .i64 ((IntKind.wrap .i64 ((IntKind.wrap .i64 ((IntKind.wrap .i64 ((IntKind.wrap .i64 (y2 + 1)) + 1)) + 1)) + 1)) + 1)) + 1)) + 1))) then (some (Sum.inr (-1))) else (laws_heldPtS_L2 n mo4 x0 (IntKind.wrap .i64 (y1 + 1)) (IntKind.wrap .i64 ((IntKind.wrap .i64 ((IntKind.wrap .i64 ((IntKind.wrap .i64 ((IntKind.wrap .i64 ((IntKind.wrap .i64 ((IntKind.wrap .i64 ((IntKind.wrap .i64 (y2 + 1)) + 1)) + 1)) + 1)) + 1)) + 1)) + 1)) + 1)))))))))))))) else none))))) else none)) else (some (Sum.inl y2)))
def laws_heldPtSF (n : Nat) (x0 : (List Pt)) (x1 : Int) : Option (Int) :=
  ((laws_heldPtS_L2 n n x0 0 x1).bind fun o => match o with | .inl y3 => (laws_heldPtS_J1 n y3) | .inr r => some r)
noncomputable abbrev G99 (k : Nat) := Rg Tryz.f99 k
theorem laws_heldPtS (n : Nat) (x0 : (List Pt)) (x1 : Int) (r : Int) (H : laws_heldPtSF n x0 x1 = some r) : LCall Tryz.prog 99 [.val false [.sl false 8 (CV.frzEs (x0.map Pt.row))],.val false [.lit (.int .i64 x1)]] [.val false [.lit (.int .i64 r)]] [] := by
 refine LCall.of_body tOk Tryz.func99 rfl (c := (.seq (G99 0) (.seq (.seq (G99 1) (.block 0 (.loop (.seq (.seq (G99 2) (.cond (.tmp 9) .skip (.exit 0))) (.seq (.block 1 (.seq (.seq (G99 4) (.cond (.tmp 20) (.seq (G99 5) .ret) .skip)) (.seq (G99 6) (.seq (.seq (G99 7) (.cond (.tmp 29) (.seq (G99 8) .ret) .skip)) (.seq (G99 9) (.seq (.seq (G99 10) (.cond (.tmp 40) (.seq (G99 11) .ret) .skip)) (.seq (G99 12) (.seq (.seq (G99 13) (.cond (.tmp 50) (.seq (G99 14) .ret) .skip)) (.seq (G99 15) (.seq (.seq (G99 16) (.cond (.tmp 60) (.seq (G99 17) .ret) .skip)) (.seq (G99 18) (.seq (.seq (G99 19) (.cond (.tmp 70) (.seq (G99 20) .ret) .skip)) (.seq (G99 21) (.seq (.seq (G99 22) (.cond (.tmp 80) (.seq (G99 23) .ret) .skip)) (.seq (G99 24) (.seq (.seq (G99 25) (.cond (.tmp 90) (.seq (G99 26) .ret) .skip)) (G99 27))))))))))))))))) (G99 3)))))) (.seq (G99 28) .ret)))) kr (Nat.le_of_ble_eq_true kr) 0 (rs := [.tmp 4]) rfl [] .nil [(false,[.lit (.int .i64 r)])] [] [] fun cx => ?_
 show Tr _ _ _ ⟨94,0,[sC 0 (cF 8 x0 Pt.row),sI 1 x1],[]⟩ _
 unfold laws_heldPtSF at H
 refine tG tOk 1 3 0 kr kr ?_
 refine tS ?_
 refine tG tOk 1 35 0 kr kr ?_
 obtain ⟨o4,eo4,Ho4⟩ := bind_some H
 clear H
 refine Tr.mid (ι := Int) (fun v => ⟨94,0,[sI 1 v],[]⟩) (fun v => laws_heldPtS_J1 n v = some r) ?_ ?_
 ·refine tB ?_
  refine Tr.loop (ι := Nat × (Int × Int)) (fun v => ⟨94,0,[sI 5 v.2.1,sC 0 (cF 8 x0 Pt.row),sI 1 v.2.2],[]⟩) (fun v => laws_heldPtS_L2 n v.1 x0 v.2.1 v.2.2 = some o4) (fun v => v.1) (n,(0,x1)) eo4 (St.sub_of [5,0,1] [] kr) ?_
  rintro ⟨mo4,y1,y2⟩ H
  have H : laws_heldPtS_L2 n mo4 x0 y1 y2 = some o4 := H
  obtain _ | mo4 := mo4
  ·cases (show (none : Option _) = some o4 from H)
  rw [laws_heldPtS_L2] at H
  refine tS ?_
  refine rU tOk 2 kr ?_
  refine lL tOk 35 3 167 7 8 none ⟨(.slot 7),[],0,false,8,(CV.frzEs (x0.map Pt.row))⟩ (x0).length _ kr kr kr kr kr (frz_len _ _) rfl ?_
  refine uD tOk 1 547 0 kr kr ?_
  obtain ⟨h1,H⟩ | ⟨h1,H⟩ := bC H
  ·refine tF h1 kr ?_
   refine Tr.exit ?_
   refine And.intro (fun _ => ?_) (fun h => absurd rfl h)
   obtain rfl := si H
   have H := Ho4
   dsimp only at H
   exact jn y2 H (sB_ [1] [] kr)
  refine tT h1 kr ?_
  refine tK ?_
  refine tS ?_
  refine tB ?_
  refine tS ?_
  refine rU tOk 2 kr ?_
  obtain ⟨v5,ev5,H⟩ := bind_some H
  refine lI tOk 35 0 12 13 14 none ⟨(.slot 12),[],0,false,8,(CV.frzEs (x0.map Pt.row))⟩ y1 (Pt.row v5) _ kr kr kr kr rfl (idx_isF ev5) rfl ?_
  refine lU tOk 3 kr ?_
  obtain ⟨hg6,H⟩ := guard_some H
  refine LAt.binC tOk (op := .rem) (t := 3) (ty := 3) (ty' := 3) (x := (.tmp 17)) (y := (.const (.int .i64 3))) (d := 18) (g := none) (.int .i64 y2) (.int .i64 3) (.int .i64 (Int.tmod y2 3)) _ kr kr kr kr kr (φ := (IntKind.i64 = IntKind.i64 ∧ (3 : Int) ≠ 0)) kr (⟨rfl,of_decide_eq_true hg6⟩) rfl ?_
  refine uD tOk 2 1048611 0 kr kr ?_
  obtain ⟨h2,H⟩ | ⟨h2,H⟩ := bC H
  ·refine tF h2 kr ?_
   refine tK ?_
   refine tG tOk 3 35 0 kr kr ?_
   refine tS ?_
   refine rU tOk 2 kr ?_
   obtain ⟨v7,ev7,H⟩ := bind_some H
   refine lI tOk 35 0 23 24 25 none ⟨(.slot 23),[],0,false,8,(CV.frzEs (x0.map Pt.row))⟩ y1 (Pt.row v7) _ kr kr kr kr rfl (idx_isF ev7) rfl ?_
   refine uD tOk 4 536870947 0 kr kr ?_
   obtain ⟨h3,H⟩ | ⟨h3,H⟩ := bC H
   ·refine tF h3 kr ?_
    refine tK ?_
    refine tG tOk 3 35 0 kr kr ?_
    refine tS ?_
    refine rU tOk 2 kr ?_
    obtain ⟨v8,ev8,H⟩ := bind_some H
    refine lI tOk 35 0 32 33 34 none ⟨(.slot 32),[],0,false,8,(CV.frzEs (x0.map Pt.row))⟩ y1 (Pt.row v8) _ kr kr kr kr rfl (idx_isF ev8) rfl ?_
    refine lU tOk 3 kr ?_
    obtain ⟨hg9,H⟩ := guard_some H
    refine LAt.binC tOk (op := .rem) (t := 3) (ty := 3) (ty' := 3) (x := (.tmp 37)) (y := (.const (.int .i64 3))) (d := 38) (g := none) (.int .i64 (IntKind.wrap .i64 ((IntKind.wrap .i64 (y2 + 1)) + 1))) (.int .i64 3) (.int .i64 (Int.tmod (IntKind.wrap .i64 ((IntKind.wrap .i64 (y2 + 1)) + 1)) 3)) _ kr kr kr kr kr (φ := (IntKind.i64 = IntKind.i64 ∧ (3 : Int) ≠ 0)) kr (⟨rfl,of_decide_eq_true hg9⟩) rfl ?_
    refine uD tOk 2 1099511627811 0 kr kr ?_
    refine tO ⟨94,0,[sB 40 (!(v8.Has == ((Int.tmod (IntKind.wrap .i64 ((IntKind.wrap .i64 (y2 + 1)) + 1)) 3) == 0))),sI 1 (IntKind.wrap .i64 ((IntKind.wrap .i64 (y2 + 1)) + 1)),sI 5 y1,sC 0 (cF 8 x0 Pt.row)],[]⟩ kr ?_
    cases h4 : (!(v8.Has == ((Int.tmod (IntKind.wrap .i64 ((IntKind.wrap .i64 (y2 + 1)) + 1)) 3) == 0)))
    ·have H := bifF h4 H
     refine tf kr ?_
     refine tK ?_
     refine tG tOk 3 35 0 kr kr ?_
     refine tS ?_
     refine rU tOk 2 kr ?_
     obtain ⟨v10,ev10,H⟩ := bind_some H
     refine lI tOk 35 0 43 44 45 none ⟨(.slot 43),[],0,false,8,(CV.frzEs (x0.map Pt.row))⟩ y1 (Pt.row v10) _ kr kr kr kr rfl (idx_isF ev10) rfl ?_
     refine uD tOk 5 0x4000000000023 0 kr kr ?_
     obtain ⟨h5,H⟩ | ⟨h5,H⟩ := bC H
     ·refine tF h5 kr ?_
      refine tK ?_
      refine tG tOk 3 35 0 kr kr ?_
      refine tS ?_
      refine rU tOk 2 kr ?_
      obtain ⟨v11,ev11,H⟩ := bind_some H
      refine lI tOk 35 0 53 54 55 none ⟨(.slot 53),[],0,false,8,(CV.frzEs (x0.map Pt.row))⟩ y1 (Pt.row v11) _ kr kr kr kr rfl (idx_isF ev11) rfl ?_
      refine uD tOk 5 0x1000000000000023 0 kr kr ?_
      obtain ⟨h6,H⟩ | ⟨h6,H⟩ := bC H
      ·refine tF h6 kr ?_
       refine tK ?_
       refine tG tOk 3 35 0 kr kr ?_
       refine tS ?_
       refine rU tOk 2 kr ?_
       obtain ⟨v12,ev12,H⟩ := bind_some H
       refine lI tOk 35 0 63 64 65 none ⟨(.slot 63),[],0,false,8,(CV.frzEs (x0.map Pt.row))⟩ y1 (Pt.row v12) _ kr kr kr kr rfl (idx_isF ev12) rfl ?_
       refine uD tOk 5 0x400000000000000023 0 kr kr ?_
       obtain ⟨h7,H⟩ | ⟨h7,H⟩ := bC H
       ·refine tF h7 kr ?_
        refine tK ?_
        refine tG tOk 3 35 0 kr kr ?_
        refine tS ?_
        refine rU tOk 2 kr ?_
        obtain ⟨v13,ev13,H⟩ := bind_some H
        refine lI tOk 35 0 73 74 75 none ⟨(.slot 73),[],0,false,8,(CV.frzEs (x0.map Pt.row))⟩ y1 (Pt.row v13) _ kr kr kr kr rfl (idx_isF ev13) rfl ?_
        refine uD tOk 5 0x100000000000000000023 0 kr kr ?_
        refine tO ⟨94,0,[sB 80 (v13.Heard.Bridge != (IntKind.wrap .i64 ((IntKind.wrap .i64 ((IntKind.wrap .i64 ((IntKind.wrap .i64 ((IntKind.wrap .i64 ((IntKind.wrap .i64 (y2 + 1)) + 1)) + 1)) + 1)) + 1)) + 1))),sI 1 (IntKind.wrap .i64 ((IntKind.wrap .i64 ((IntKind.wrap .i64 ((IntKind.wrap .i64 ((IntKind.wrap .i64 ((IntKind.wrap .i64 (y2 + 1)) + 1)) + 1)) + 1)) + 1)) + 1)),sI 5 y1,sC 0 (cF 8 x0 Pt.row)],[]⟩ kr ?_
        cases h8 : (v13.Heard.Bridge != (IntKind.wrap .i64 ((IntKind.wrap .i64 ((IntKind.wrap .i64 ((IntKind.wrap .i64 ((IntKind.wrap .i64 ((IntKind.wrap .i64 (y2 + 1)) + 1)) + 1)) + 1)) + 1)) + 1)))
        ·have H := bifF h8 H
         refine tf kr ?_
         refine tK ?_
         refine tG tOk 3 35 0 kr kr ?_
         refine tS ?_
         refine rU tOk 2 kr ?_
         obtain ⟨v14,ev14,H⟩ := bind_some H
         refine lI tOk 35 0 83 84 85 none ⟨(.slot 83),[],0,false,8,(CV.frzEs (x0.map Pt.row))⟩ y1 (Pt.row v14) _ kr kr kr kr rfl (idx_isF ev14) rfl ?_
         refine uD tOk 5 0x40000000000000000000023 0 kr kr ?_
         obtain ⟨h9,H⟩ | ⟨h9,H⟩ := bC H
         ·refine tF h9 kr ?_
          refine tK ?_
          refine tE tOk 3 35 0 kr kr ?_
          refine tE tOk 3 35 0 kr kr ?_
          exact jn (mo4,((IntKind.wrap .i64 (y1 + 1)),(IntKind.wrap .i64 ((IntKind.wrap .i64 ((IntKind.wrap .i64 ((IntKind.wrap .i64 ((IntKind.wrap .i64 ((IntKind.wrap .i64 ((IntKind.wrap .i64 ((IntKind.wrap .i64 (y2 + 1)) + 1)) + 1)) + 1)) + 1)) + 1)) + 1)) + 1)))) H (sM mo4 [5,0,1] [] kr)
         refine tT h9 kr ?_
         refine tG tOk 1 16 0 kr kr ?_
         refine te ?_
         obtain rfl := si H
         have H := Ho4
         dsimp only at H
         obtain rfl := si H
         exact fO [(false,[cI (-1)])] kr rfl rfl
        have H := bifT h8 H
        refine tt kr ?_
        refine tG tOk 1 16 0 kr kr ?_
        refine te ?_
        obtain rfl := si H
        have H := Ho4
        dsimp only at H
        obtain rfl := si H
        exact fO [(false,[cI (-1)])] kr rfl rfl
       refine tT h7 kr ?_
       refine tG tOk 1 16 0 kr kr ?_
       refine te ?_
       obtain rfl := si H
       have H := Ho4
       dsimp only at H
       obtain rfl := si H
       exact fO [(false,[cI (-1)])] kr rfl rfl
      refine tT h6 kr ?_
      refine tG tOk 1 16 0 kr kr ?_
      refine te ?_
      obtain rfl := si H
      have H := Ho4
      dsimp only at H
      obtain rfl := si H
      exact fO [(false,[cI (-1)])] kr rfl rfl
     refine tT h5 kr ?_
     refine tG tOk 1 16 0 kr kr ?_
     refine te ?_
     obtain rfl := si H
     have H := Ho4
     dsimp only at H
     obtain rfl := si H
     exact fO [(false,[cI (-1)])] kr rfl rfl
    have H := bifT h4 H
    refine tt kr ?_
    refine tG tOk 1 16 0 kr kr ?_
    refine te ?_
    obtain rfl := si H
    have H := Ho4
    dsimp only at H
    obtain rfl := si H
    exact fO [(false,[cI (-1)])] kr rfl rfl
   refine tT h3 kr ?_
   refine tG tOk 1 16 0 kr kr ?_
   refine te ?_
   obtain rfl := si H
   have H := Ho4
   dsimp only at H
   obtain rfl := si H
   exact fO [(false,[cI (-1)])] kr rfl rfl
  refine tT h2 kr ?_
  refine tG tOk 1 16 0 kr kr ?_
  refine te ?_
  obtain rfl := si H
  have H := Ho4
  dsimp only at H
  obtain rfl := si H
  exact fO [(false,[cI (-1)])] kr rfl rfl
 rintro y3 H
 have H : (laws_heldPtS_J1 n y3) = some r := H
 unfold laws_heldPtS_J1 at H
 refine tG tOk 2 16 0 kr kr ?_
 exact te (by obtain rfl := si H; exact fO [(false,[cI y3])] kr rfl rfl)
def laws_heldFentS_J1 (n : Nat) (y3 : Int) : Option (Int) :=
  (some y3)
def laws_heldFentS_L2 (n : Nat) : Nat → (List Fent) → Int → Int → Option ((Int) ⊕ (Int))
  | 0,_,_,_ => none
  | mo4 + 1,x0,y1,y2 => (bif (decide (y1 < (x0.length : Int))) then ((idx x0 y1).bind fun v5 => (bif (v5.Tag != y2) then (some (Sum.inr (-1))) else ((idx x0 y1).bind fun v6 => (bif (v6.Mac != (IntKind.wrap .i64 (y2 + 1))) then (some (Sum.inr (-1))) else ((idx x0 y1).bind fun v7 => (bif (v7.Port != (IntKind.wrap .i64 ((IntKind.wrap .i64 (y2 + 1)) + 1))) then (some (Sum.inr (-1))) else ((idx x0 y1).bind fun v8 => (bif (v8.Age != (IntKind.wrap .i64 ((IntKind.wrap .i64 ((IntKind.wrap .i64 (y2 + 1)) + 1)) + 1))) then (some (Sum.inr (-1))) else ((idx x0 y1).bind fun v9 => (bif (decide ((3 : Int) ≠ 0)) then (bif (!(v9.Static == ((Int.tmod (IntKind.wrap .i64 ((IntKind.wrap .i64 ((IntKind.wrap .i64 ((IntKind.wrap .i64 (y2 + 1)) + 1)) + 1)) + 1)) 3) == 0))) then (some (Sum.inr (-1))) else (laws_heldFentS_L2 n mo4 x0 (IntKind.wrap .i64 (y1 + 1)) (IntKind.wrap .i64 ((IntKind.wrap .i64 ((IntKind.wrap .i64 ((IntKind.wrap .i64 ((IntKind.wrap .i64 (y2 + 1)) + 1)) + 1)) + 1)) + 1)))) else none)))))))))) else (some (Sum.inl y2)))
def laws_heldFentSF (n : Nat) (x0 : (List Fent)) (x1 : Int) : Option (Int) :=
  ((laws_heldFentS_L2 n n x0 0 x1).bind fun o => match o with | .inl y3 => (laws_heldFentS_J1 n y3) | .inr r => some r)
noncomputable abbrev G100 (k : Nat) := Rg Tryz.f100 k
theorem laws_heldFentS (n : Nat) (x0 : (List Fent)) (x1 : Int) (r : Int) (H : laws_heldFentSF n x0 x1 = some r) : LCall Tryz.prog 100 [.val false [.sl false 5 (CV.frzEs (x0.map Fent.row))],.val false [.lit (.int .i64 x1)]] [.val false [.lit (.int .i64 r)]] [] := by
 refine LCall.of_body tOk Tryz.func100 rfl (c := (.seq (G100 0) (.seq (.seq (G100 1) (.block 0 (.loop (.seq (.seq (G100 2) (.cond (.tmp 9) .skip (.exit 0))) (.seq (.block 1 (.seq (.seq (G100 4) (.cond (.tmp 18) (.seq (G100 5) .ret) .skip)) (.seq (G100 6) (.seq (.seq (G100 7) (.cond (.tmp 27) (.seq (G100 8) .ret) .skip)) (.seq (G100 9) (.seq (.seq (G100 10) (.cond (.tmp 36) (.seq (G100 11) .ret) .skip)) (.seq (G100 12) (.seq (.seq (G100 13) (.cond (.tmp 45) (.seq (G100 14) .ret) .skip)) (.seq (G100 15) (.seq (.seq (G100 16) (.cond (.tmp 56) (.seq (G100 17) .ret) .skip)) (G100 18))))))))))) (G100 3)))))) (.seq (G100 19) .ret)))) kr (Nat.le_of_ble_eq_true kr) 0 (rs := [.tmp 4]) rfl [] .nil [(false,[.lit (.int .i64 r)])] [] [] fun cx => ?_
 show Tr _ _ _ ⟨60,0,[sC 0 (cF 5 x0 Fent.row),sI 1 x1],[]⟩ _
 unfold laws_heldFentSF at H
 refine tG tOk 1 3 0 kr kr ?_
 refine tS ?_
 refine tG tOk 1 35 0 kr kr ?_
 obtain ⟨o4,eo4,Ho4⟩ := bind_some H
 clear H
 refine Tr.mid (ι := Int) (fun v => ⟨60,0,[sI 1 v],[]⟩) (fun v => laws_heldFentS_J1 n v = some r) ?_ ?_
 ·refine tB ?_
  refine Tr.loop (ι := Nat × (Int × Int)) (fun v => ⟨60,0,[sI 5 v.2.1,sC 0 (cF 5 x0 Fent.row),sI 1 v.2.2],[]⟩) (fun v => laws_heldFentS_L2 n v.1 x0 v.2.1 v.2.2 = some o4) (fun v => v.1) (n,(0,x1)) eo4 (St.sub_of [5,0,1] [] kr) ?_
  rintro ⟨mo4,y1,y2⟩ H
  have H : laws_heldFentS_L2 n mo4 x0 y1 y2 = some o4 := H
  obtain _ | mo4 := mo4
  ·cases (show (none : Option _) = some o4 from H)
  rw [laws_heldFentS_L2] at H
  refine tS ?_
  refine rU tOk 2 kr ?_
  refine lL tOk 36 3 169 7 8 none ⟨(.slot 7),[],0,false,5,(CV.frzEs (x0.map Fent.row))⟩ (x0).length _ kr kr kr kr kr (frz_len _ _) rfl ?_
  refine uD tOk 1 547 0 kr kr ?_
  obtain ⟨h1,H⟩ | ⟨h1,H⟩ := bC H
  ·refine tF h1 kr ?_
   refine Tr.exit ?_
   refine And.intro (fun _ => ?_) (fun h => absurd rfl h)
   obtain rfl := si H
   have H := Ho4
   dsimp only at H
   exact jn y2 H (sB_ [1] [] kr)
  refine tT h1 kr ?_
  refine tK ?_
  refine tS ?_
  refine tB ?_
  refine tS ?_
  refine rU tOk 2 kr ?_
  obtain ⟨v5,ev5,H⟩ := bind_some H
  refine lI tOk 36 0 12 13 14 none ⟨(.slot 12),[],0,false,5,(CV.frzEs (x0.map Fent.row))⟩ y1 (Fent.row v5) _ kr kr kr kr rfl (idx_isF ev5) rfl ?_
  refine uD tOk 4 262179 0 kr kr ?_
  obtain ⟨h2,H⟩ | ⟨h2,H⟩ := bC H
  ·refine tF h2 kr ?_
   refine tK ?_
   refine tG tOk 3 35 0 kr kr ?_
   refine tS ?_
   refine rU tOk 2 kr ?_
   obtain ⟨v6,ev6,H⟩ := bind_some H
   refine lI tOk 36 0 21 22 23 none ⟨(.slot 21),[],0,false,5,(CV.frzEs (x0.map Fent.row))⟩ y1 (Fent.row v6) _ kr kr kr kr rfl (idx_isF ev6) rfl ?_
   refine uD tOk 4 134217763 0 kr kr ?_
   obtain ⟨h3,H⟩ | ⟨h3,H⟩ := bC H
   ·refine tF h3 kr ?_
    refine tK ?_
    refine tG tOk 3 35 0 kr kr ?_
    refine tS ?_
    refine rU tOk 2 kr ?_
    obtain ⟨v7,ev7,H⟩ := bind_some H
    refine lI tOk 36 0 30 31 32 none ⟨(.slot 30),[],0,false,5,(CV.frzEs (x0.map Fent.row))⟩ y1 (Fent.row v7) _ kr kr kr kr rfl (idx_isF ev7) rfl ?_
    refine uD tOk 4 68719476771 0 kr kr ?_
    obtain ⟨h4,H⟩ | ⟨h4,H⟩ := bC H
    ·refine tF h4 kr ?_
     refine tK ?_
     refine tG tOk 3 35 0 kr kr ?_
     refine tS ?_
     refine rU tOk 2 kr ?_
     obtain ⟨v8,ev8,H⟩ := bind_some H
     refine lI tOk 36 0 39 40 41 none ⟨(.slot 39),[],0,false,5,(CV.frzEs (x0.map Fent.row))⟩ y1 (Fent.row v8) _ kr kr kr kr rfl (idx_isF ev8) rfl ?_
     refine uD tOk 4 35184372088867 0 kr kr ?_
     refine tO ⟨60,0,[sB 45 (v8.Age != (IntKind.wrap .i64 ((IntKind.wrap .i64 ((IntKind.wrap .i64 (y2 + 1)) + 1)) + 1))),sI 1 (IntKind.wrap .i64 ((IntKind.wrap .i64 ((IntKind.wrap .i64 (y2 + 1)) + 1)) + 1)),sI 5 y1,sC 0 (cF 5 x0 Fent.row)],[]⟩ kr ?_
     cases h5 : (v8.Age != (IntKind.wrap .i64 ((IntKind.wrap .i64 ((IntKind.wrap .i64 (y2 + 1)) + 1)) + 1)))
     ·have H := bifF h5 H
      refine tf kr ?_
      refine tK ?_
      refine tG tOk 3 35 0 kr kr ?_
      refine tS ?_
      refine rU tOk 2 kr ?_
      obtain ⟨v9,ev9,H⟩ := bind_some H
      refine lI tOk 36 0 48 49 50 none ⟨(.slot 48),[],0,false,5,(CV.frzEs (x0.map Fent.row))⟩ y1 (Fent.row v9) _ kr kr kr kr rfl (idx_isF ev9) rfl ?_
      refine lU tOk 3 kr ?_
      obtain ⟨hg10,H⟩ := guard_some H
      refine LAt.binC tOk (op := .rem) (t := 3) (ty := 3) (ty' := 3) (x := (.tmp 53)) (y := (.const (.int .i64 3))) (d := 54) (g := none) (.int .i64 (IntKind.wrap .i64 ((IntKind.wrap .i64 ((IntKind.wrap .i64 ((IntKind.wrap .i64 (y2 + 1)) + 1)) + 1)) + 1))) (.int .i64 3) (.int .i64 (Int.tmod (IntKind.wrap .i64 ((IntKind.wrap .i64 ((IntKind.wrap .i64 ((IntKind.wrap .i64 (y2 + 1)) + 1)) + 1)) + 1)) 3)) _ kr kr kr kr kr (φ := (IntKind.i64 = IntKind.i64 ∧ (3 : Int) ≠ 0)) kr (⟨rfl,of_decide_eq_true hg10⟩) rfl ?_
      refine uD tOk 2 72057594037927971 0 kr kr ?_
      obtain ⟨h6,H⟩ | ⟨h6,H⟩ := bC H
      ·refine tF h6 kr ?_
       refine tK ?_
       refine tE tOk 3 35 0 kr kr ?_
       refine tE tOk 3 35 0 kr kr ?_
       exact jn (mo4,((IntKind.wrap .i64 (y1 + 1)),(IntKind.wrap .i64 ((IntKind.wrap .i64 ((IntKind.wrap .i64 ((IntKind.wrap .i64 ((IntKind.wrap .i64 (y2 + 1)) + 1)) + 1)) + 1)) + 1)))) H (sM mo4 [5,0,1] [] kr)
      refine tT h6 kr ?_
      refine tG tOk 1 16 0 kr kr ?_
      refine te ?_
      obtain rfl := si H
      have H := Ho4
      dsimp only at H
      obtain rfl := si H
      exact fO [(false,[cI (-1)])] kr rfl rfl
     have H := bifT h5 H
     refine tt kr ?_
     refine tG tOk 1 16 0 kr kr ?_
     refine te ?_
     obtain rfl := si H
     have H := Ho4
     dsimp only at H
     obtain rfl := si H
     exact fO [(false,[cI (-1)])] kr rfl rfl
    refine tT h4 kr ?_
    refine tG tOk 1 16 0 kr kr ?_
    refine te ?_
    obtain rfl := si H
    have H := Ho4
    dsimp only at H
    obtain rfl := si H
    exact fO [(false,[cI (-1)])] kr rfl rfl
   refine tT h3 kr ?_
   refine tG tOk 1 16 0 kr kr ?_
   refine te ?_
   obtain rfl := si H
   have H := Ho4
   dsimp only at H
   obtain rfl := si H
   exact fO [(false,[cI (-1)])] kr rfl rfl
  refine tT h2 kr ?_
  refine tG tOk 1 16 0 kr kr ?_
  refine te ?_
  obtain rfl := si H
  have H := Ho4
  dsimp only at H
  obtain rfl := si H
  exact fO [(false,[cI (-1)])] kr rfl rfl
 rintro y3 H
 have H : (laws_heldFentS_J1 n y3) = some r := H
 unfold laws_heldFentS_J1 at H
 refine tG tOk 2 16 0 kr kr ?_
 exact te (by obtain rfl := si H; exact fO [(false,[cI y3])] kr rfl rfl)
def laws_heldVrowS_J1 (n : Nat) (y3 : Int) : Option (Int) :=
  (some y3)
def laws_heldVrowS_L2 (n : Nat) : Nat → (List Vrow) → Int → Int → Option ((Int) ⊕ (Int))
  | 0,_,_,_ => none
  | mo4 + 1,x0,y1,y2 => (bif (decide (y1 < (x0.length : Int))) then ((idx x0 y1).bind fun v5 => (bif (v5.Id != y2) then (some (Sum.inr (-1))) else ((idx x0 y1).bind fun v6 => (bif (v6.Members != (IntKind.wrap .i64 (y2 + 1))) then (some (Sum.inr (-1))) else ((idx x0 y1).bind fun v7 => (bif (v7.Bare != (IntKind.wrap .i64 ((IntKind.wrap .i64 (y2 + 1)) + 1))) then (some (Sum.inr (-1))) else (laws_heldVrowS_L2 n mo4 x0 (IntKind.wrap .i64 (y1 + 1)) (IntKind.wrap .i64 ((IntKind.wrap .i64 ((IntKind.wrap .i64 (y2 + 1)) + 1)) + 1))))))))) else (some (Sum.inl y2)))
def laws_heldVrowSF (n : Nat) (x0 : (List Vrow)) (x1 : Int) : Option (Int) :=
  ((laws_heldVrowS_L2 n n x0 0 x1).bind fun o => match o with | .inl y3 => (laws_heldVrowS_J1 n y3) | .inr r => some r)
noncomputable abbrev G192 (k : Nat) := Rg Tryz.f192 k
theorem laws_heldVrowS (n : Nat) (x0 : (List Vrow)) (x1 : Int) (r : Int) (H : laws_heldVrowSF n x0 x1 = some r) : LCall Tryz.prog 192 [.val false [.sl false 3 (CV.frzEs (x0.map Vrow.row))],.val false [.lit (.int .i64 x1)]] [.val false [.lit (.int .i64 r)]] [] := by
 refine LCall.of_body tOk Tryz.func192 rfl (c := (.seq (G192 0) (.seq (.seq (G192 1) (.block 0 (.loop (.seq (.seq (G192 2) (.cond (.tmp 9) .skip (.exit 0))) (.seq (.block 1 (.seq (.seq (G192 4) (.cond (.tmp 18) (.seq (G192 5) .ret) .skip)) (.seq (G192 6) (.seq (.seq (G192 7) (.cond (.tmp 27) (.seq (G192 8) .ret) .skip)) (.seq (G192 9) (.seq (.seq (G192 10) (.cond (.tmp 36) (.seq (G192 11) .ret) .skip)) (G192 12))))))) (G192 3)))))) (.seq (G192 13) .ret)))) kr (Nat.le_of_ble_eq_true kr) 0 (rs := [.tmp 4]) rfl [] .nil [(false,[.lit (.int .i64 r)])] [] [] fun cx => ?_
 show Tr _ _ _ ⟨40,0,[sC 0 (cF 3 x0 Vrow.row),sI 1 x1],[]⟩ _
 unfold laws_heldVrowSF at H
 refine tG tOk 1 3 0 kr kr ?_
 refine tS ?_
 refine tG tOk 1 35 0 kr kr ?_
 obtain ⟨o4,eo4,Ho4⟩ := bind_some H
 clear H
 refine Tr.mid (ι := Int) (fun v => ⟨40,0,[sI 1 v],[]⟩) (fun v => laws_heldVrowS_J1 n v = some r) ?_ ?_
 ·refine tB ?_
  refine Tr.loop (ι := Nat × (Int × Int)) (fun v => ⟨40,0,[sI 5 v.2.1,sC 0 (cF 3 x0 Vrow.row),sI 1 v.2.2],[]⟩) (fun v => laws_heldVrowS_L2 n v.1 x0 v.2.1 v.2.2 = some o4) (fun v => v.1) (n,(0,x1)) eo4 (St.sub_of [5,0,1] [] kr) ?_
  rintro ⟨mo4,y1,y2⟩ H
  have H : laws_heldVrowS_L2 n mo4 x0 y1 y2 = some o4 := H
  obtain _ | mo4 := mo4
  ·cases (show (none : Option _) = some o4 from H)
  rw [laws_heldVrowS_L2] at H
  refine tS ?_
  refine rU tOk 2 kr ?_
  refine lL tOk 37 3 175 7 8 none ⟨(.slot 7),[],0,false,3,(CV.frzEs (x0.map Vrow.row))⟩ (x0).length _ kr kr kr kr kr (frz_len _ _) rfl ?_
  refine uD tOk 1 547 0 kr kr ?_
  obtain ⟨h1,H⟩ | ⟨h1,H⟩ := bC H
  ·refine tF h1 kr ?_
   refine Tr.exit ?_
   refine And.intro (fun _ => ?_) (fun h => absurd rfl h)
   obtain rfl := si H
   have H := Ho4
   dsimp only at H
   exact jn y2 H (sB_ [1] [] kr)
  refine tT h1 kr ?_
  refine tK ?_
  refine tS ?_
  refine tB ?_
  refine tS ?_
  refine rU tOk 2 kr ?_
  obtain ⟨v5,ev5,H⟩ := bind_some H
  refine lI tOk 37 0 12 13 14 none ⟨(.slot 12),[],0,false,3,(CV.frzEs (x0.map Vrow.row))⟩ y1 (Vrow.row v5) _ kr kr kr kr rfl (idx_isF ev5) rfl ?_
  refine uD tOk 4 262179 0 kr kr ?_
  obtain ⟨h2,H⟩ | ⟨h2,H⟩ := bC H
  ·refine tF h2 kr ?_
   refine tK ?_
   refine tG tOk 3 35 0 kr kr ?_
   refine tS ?_
   refine rU tOk 2 kr ?_
   obtain ⟨v6,ev6,H⟩ := bind_some H
   refine lI tOk 37 0 21 22 23 none ⟨(.slot 21),[],0,false,3,(CV.frzEs (x0.map Vrow.row))⟩ y1 (Vrow.row v6) _ kr kr kr kr rfl (idx_isF ev6) rfl ?_
   refine uD tOk 4 134217763 0 kr kr ?_
   obtain ⟨h3,H⟩ | ⟨h3,H⟩ := bC H
   ·refine tF h3 kr ?_
    refine tK ?_
    refine tG tOk 3 35 0 kr kr ?_
    refine tS ?_
    refine rU tOk 2 kr ?_
    obtain ⟨v7,ev7,H⟩ := bind_some H
    refine lI tOk 37 0 30 31 32 none ⟨(.slot 30),[],0,false,3,(CV.frzEs (x0.map Vrow.row))⟩ y1 (Vrow.row v7) _ kr kr kr kr rfl (idx_isF ev7) rfl ?_
    refine uD tOk 4 68719476771 0 kr kr ?_
    obtain ⟨h4,H⟩ | ⟨h4,H⟩ := bC H
    ·refine tF h4 kr ?_
     refine tK ?_
     refine tE tOk 3 35 0 kr kr ?_
     refine tE tOk 3 35 0 kr kr ?_
     exact jn (mo4,((IntKind.wrap .i64 (y1 + 1)),(IntKind.wrap .i64 ((IntKind.wrap .i64 ((IntKind.wrap .i64 (y2 + 1)) + 1)) + 1)))) H (sM mo4 [5,0,1] [] kr)
    refine tT h4 kr ?_
    refine tG tOk 1 16 0 kr kr ?_
    refine te ?_
    obtain rfl := si H
    have H := Ho4
    dsimp only at H
    obtain rfl := si H
    exact fO [(false,[cI (-1)])] kr rfl rfl
   refine tT h3 kr ?_
   refine tG tOk 1 16 0 kr kr ?_
   refine te ?_
   obtain rfl := si H
   have H := Ho4
   dsimp only at H
   obtain rfl := si H
   exact fO [(false,[cI (-1)])] kr rfl rfl
  refine tT h2 kr ?_
  refine tG tOk 1 16 0 kr kr ?_
  refine te ?_
  obtain rfl := si H
  have H := Ho4
  dsimp only at H
  obtain rfl := si H
  exact fO [(false,[cI (-1)])] kr rfl rfl
 rintro y3 H
 have H : (laws_heldVrowS_J1 n y3) = some r := H
 unfold laws_heldVrowS_J1 at H
 refine tG tOk 2 16 0 kr kr ?_
 exact te (by obtain rfl := si H; exact fO [(false,[cI y3])] kr rfl rfl)
def laws_heldIntS_J1 (n : Nat) (y3 : Int) : Option (Int) :=
  (some y3)
def laws_heldIntS_L2 (n : Nat) : Nat → (List Int) → Int → Int → Option ((Int) ⊕ (Int))
  | 0,_,_,_ => none
  | mo4 + 1,x0,y1,y2 => (bif (decide (y1 < (x0.length : Int))) then ((idx x0 y1).bind fun v5 => (bif (v5 != y2) then (some (Sum.inr (-1))) else (laws_heldIntS_L2 n mo4 x0 (IntKind.wrap .i64 (y1 + 1)) (IntKind.wrap .i64 (y2 + 1))))) else (some (Sum.inl y2)))
def laws_heldIntSF (n : Nat) (x0 : (List Int)) (x1 : Int) : Option (Int) :=
  ((laws_heldIntS_L2 n n x0 0 x1).bind fun o => match o with | .inl y3 => (laws_heldIntS_J1 n y3) | .inr r => some r)
noncomputable abbrev G193 (k : Nat) := Rg Tryz.f193 k
theorem laws_heldIntS (n : Nat) (x0 : (List Int)) (x1 : Int) (r : Int) (H : laws_heldIntSF n x0 x1 = some r) : LCall Tryz.prog 193 [.val false [.sl false 1 (CV.frzEs (x0.map intRow))],.val false [.lit (.int .i64 x1)]] [.val false [.lit (.int .i64 r)]] [] := by
 refine LCall.of_body tOk Tryz.func193 rfl (c := (.seq (G193 0) (.seq (.seq (G193 1) (.block 0 (.loop (.seq (.seq (G193 2) (.cond (.tmp 9) .skip (.exit 0))) (.seq (.block 1 (.seq (.seq (G193 4) (.cond (.tmp 17) (.seq (G193 5) .ret) .skip)) (G193 6))) (G193 3)))))) (.seq (G193 7) .ret)))) kr (Nat.le_of_ble_eq_true kr) 0 (rs := [.tmp 4]) rfl [] .nil [(false,[.lit (.int .i64 r)])] [] [] fun cx => ?_
 show Tr _ _ _ ⟨21,0,[sC 0 (cF 1 x0 intRow),sI 1 x1],[]⟩ _
 unfold laws_heldIntSF at H
 refine tG tOk 1 3 0 kr kr ?_
 refine tS ?_
 refine tG tOk 1 35 0 kr kr ?_
 obtain ⟨o4,eo4,Ho4⟩ := bind_some H
 clear H
 refine Tr.mid (ι := Int) (fun v => ⟨21,0,[sI 1 v],[]⟩) (fun v => laws_heldIntS_J1 n v = some r) ?_ ?_
 ·refine tB ?_
  refine Tr.loop (ι := Nat × (Int × Int)) (fun v => ⟨21,0,[sI 5 v.2.1,sC 0 (cF 1 x0 intRow),sI 1 v.2.2],[]⟩) (fun v => laws_heldIntS_L2 n v.1 x0 v.2.1 v.2.2 = some o4) (fun v => v.1) (n,(0,x1)) eo4 (St.sub_of [5,0,1] [] kr) ?_
  rintro ⟨mo4,y1,y2⟩ H
  have H : laws_heldIntS_L2 n mo4 x0 y1 y2 = some o4 := H
  obtain _ | mo4 := mo4
  ·cases (show (none : Option _) = some o4 from H)
  rw [laws_heldIntS_L2] at H
  refine tS ?_
  refine rU tOk 2 kr ?_
  refine lL tOk 25 3 3 7 8 none ⟨(.slot 7),[],0,false,1,(CV.frzEs (x0.map intRow))⟩ (x0).length _ kr kr kr kr kr (frz_len _ _) rfl ?_
  refine uD tOk 1 547 0 kr kr ?_
  obtain ⟨h1,H⟩ | ⟨h1,H⟩ := bC H
  ·refine tF h1 kr ?_
   refine Tr.exit ?_
   refine And.intro (fun _ => ?_) (fun h => absurd rfl h)
   obtain rfl := si H
   have H := Ho4
   dsimp only at H
   exact jn y2 H (sB_ [1] [] kr)
  refine tT h1 kr ?_
  refine tK ?_
  refine tS ?_
  refine tB ?_
  refine tS ?_
  refine rU tOk 2 kr ?_
  obtain ⟨v5,ev5,H⟩ := bind_some H
  refine lI tOk 25 0 12 13 14 none ⟨(.slot 12),[],0,false,1,(CV.frzEs (x0.map intRow))⟩ y1 [cI v5] _ kr kr kr kr rfl (idx_isF ev5) rfl ?_
  refine uD tOk 3 131107 0 kr kr ?_
  obtain ⟨h2,H⟩ | ⟨h2,H⟩ := bC H
  ·refine tF h2 kr ?_
   refine tK ?_
   refine tE tOk 3 35 0 kr kr ?_
   refine tE tOk 3 35 0 kr kr ?_
   exact jn (mo4,((IntKind.wrap .i64 (y1 + 1)),(IntKind.wrap .i64 (y2 + 1)))) H (sM mo4 [5,0,1] [] kr)
  refine tT h2 kr ?_
  refine tG tOk 1 16 0 kr kr ?_
  refine te ?_
  obtain rfl := si H
  have H := Ho4
  dsimp only at H
  obtain rfl := si H
  exact fO [(false,[cI (-1)])] kr rfl rfl
 rintro y3 H
 have H : (laws_heldIntS_J1 n y3) = some r := H
 unfold laws_heldIntS_J1 at H
 refine tG tOk 2 16 0 kr kr ?_
 exact te (by obtain rfl := si H; exact fO [(false,[cI y3])] kr rfl rfl)
def laws_heldVtabF (n : Nat) (x0 : Vtab) (x1 : Int) : Option (Int) :=
  ((laws_heldVrowSF n x0.Rows x1).bind fun r1 => (bif (decide (r1 < 0)) then (some (-1)) else ((laws_heldIntSF n x0.Pvid r1).bind fun r2 => (bif (decide (r2 < 0)) then (some (-1)) else (some r2)))))
noncomputable abbrev G101 (k : Nat) := Rg Tryz.f101 k
theorem laws_heldVtab (n : Nat) (x0 : Vtab) (x1 : Int) (r : Int) (H : laws_heldVtabF n x0 x1 = some r) : LCall Tryz.prog 101 [.val true (CV.frzRow (Vtab.row x0)),.val false [.lit (.int .i64 x1)]] [.val false [.lit (.int .i64 r)]] [] := by
 refine LCall.of_body tOk Tryz.func101 rfl (c := (.seq (G101 0) (.seq (G101 1) (.seq (.seq (G101 2) (.cond (.tmp 10) (.seq (G101 3) .ret) .skip)) (.seq (G101 4) (.seq (.seq (G101 5) (.cond (.tmp 16) (.seq (G101 6) .ret) .skip)) (.seq (G101 7) .ret))))))) kr (Nat.le_of_ble_eq_true kr) 0 (rs := [.tmp 4]) rfl [] .nil [(false,[.lit (.int .i64 r)])] [] [] fun cx => ?_
 show Tr _ _ _ ⟨18,0,[sV 0 (CV.frzRow (Vtab.row x0)),sI 1 x1],[]⟩ _
 unfold laws_heldVtabF at H
 refine tG tOk 2 6 4 kr kr ?_
 refine rU tOk 3 kr ?_
 obtain ⟨r1,er1,H⟩ := bind_some H
 refine lV tOk [.rd,.rd] [] (laws_heldVrowS n x0.Rows x1 r1 er1) kr kr kr kr (.inl rfl) ?_
 refine uD tOk 1 6 4 kr kr ?_
 refine tS ?_
 refine tG tOk 2 1030 4 kr kr ?_
 obtain ⟨h1,H⟩ | ⟨h1,H⟩ := bC H
 ·refine tF h1 kr ?_
  refine tK ?_
  refine rU tOk 3 kr ?_
  obtain ⟨r2,er2,H⟩ := bind_some H
  refine lV tOk [.rd,.rd] [] (laws_heldIntS n x0.Pvid r1 r2 er2) kr kr kr kr (.inl rfl) ?_
  refine uD tOk 1 2 0 kr kr ?_
  refine tS ?_
  refine tG tOk 2 65538 0 kr kr ?_
  obtain ⟨h2,H⟩ | ⟨h2,H⟩ := bC H
  ·refine tF h2 kr ?_
   refine tK ?_
   refine tG tOk 2 16 0 kr kr ?_
   exact te (by obtain rfl := si H; exact fO [(false,[cI r2])] kr rfl rfl)
  refine tT h2 kr ?_
  refine tG tOk 1 16 0 kr kr ?_
  exact te (by obtain rfl := si H; exact fO [(false,[cI (-1)])] kr rfl rfl)
 refine tT h1 kr ?_
 refine tG tOk 1 16 0 kr kr ?_
 exact te (by obtain rfl := si H; exact fO [(false,[cI (-1)])] kr rfl rfl)
def laws_heldBridgeF (n : Nat) (x0 : Bridge) (x1 : Int) : Option (Int) :=
  ((laws_heldPtSF n x0.Ports x1).bind fun r1 => (bif (decide (r1 < 0)) then (some (-1)) else ((laws_heldFentSF n x0.F r1).bind fun r2 => (bif (decide (r2 < 0)) then (some (-1)) else ((laws_heldVtabF n x0.V r2).bind fun r3 => (bif (decide (r3 < 0)) then (some (-1)) else (some r3)))))))
noncomputable abbrev G21 (k : Nat) := Rg Tryz.f21 k
theorem laws_heldBridge (n : Nat) (x0 : Bridge) (x1 : Int) (r : Int) (H : laws_heldBridgeF n x0 x1 = some r) : LCall Tryz.prog 21 [.val true (CV.frzRow (Bridge.row x0)),.val false [.lit (.int .i64 x1)]] [.val false [.lit (.int .i64 r)]] [] := by
 refine LCall.of_body tOk Tryz.func21 rfl (c := (.seq (G21 0) (.seq (G21 1) (.seq (.seq (G21 2) (.cond (.tmp 10) (.seq (G21 3) .ret) .skip)) (.seq (G21 4) (.seq (.seq (G21 5) (.cond (.tmp 16) (.seq (G21 6) .ret) .skip)) (.seq (G21 7) (.seq (.seq (G21 8) (.cond (.tmp 22) (.seq (G21 9) .ret) .skip)) (.seq (G21 10) .ret))))))))) kr (Nat.le_of_ble_eq_true kr) 0 (rs := [.tmp 4]) rfl [] .nil [(false,[.lit (.int .i64 r)])] [] [] fun cx => ?_
 show Tr _ _ _ ⟨24,0,[sV 0 (CV.frzRow (Bridge.row x0)),sI 1 x1],[]⟩ _
 unfold laws_heldBridgeF at H
 refine tG tOk 2 6 4 kr kr ?_
 refine rU tOk 3 kr ?_
 obtain ⟨r1,er1,H⟩ := bind_some H
 refine lV tOk [.rd,.rd] [] (laws_heldPtS n x0.Ports x1 r1 er1) kr kr kr kr (.inl rfl) ?_
 refine uD tOk 1 6 4 kr kr ?_
 refine tS ?_
 refine tG tOk 2 1030 4 kr kr ?_
 obtain ⟨h1,H⟩ | ⟨h1,H⟩ := bC H
 ·refine tF h1 kr ?_
  refine tK ?_
  refine rU tOk 3 kr ?_
  obtain ⟨r2,er2,H⟩ := bind_some H
  refine lV tOk [.rd,.rd] [] (laws_heldFentS n x0.F r1 r2 er2) kr kr kr kr (.inl rfl) ?_
  refine uD tOk 1 6 4 kr kr ?_
  refine tS ?_
  refine tG tOk 2 65542 4 kr kr ?_
  obtain ⟨h2,H⟩ | ⟨h2,H⟩ := bC H
  ·refine tF h2 kr ?_
   refine tK ?_
   refine rU tOk 3 kr ?_
   obtain ⟨r3,er3,H⟩ := bind_some H
   refine lV tOk [.rd,.rd] [] (laws_heldVtab n x0.V r2 r3 er3) kr kr kr kr (.inl rfl) ?_
   refine uD tOk 1 2 0 kr kr ?_
   refine tS ?_
   refine tG tOk 2 4194306 0 kr kr ?_
   obtain ⟨h3,H⟩ | ⟨h3,H⟩ := bC H
   ·refine tF h3 kr ?_
    refine tK ?_
    refine tG tOk 2 16 0 kr kr ?_
    exact te (by obtain rfl := si H; exact fO [(false,[cI r3])] kr rfl rfl)
   refine tT h3 kr ?_
   refine tG tOk 1 16 0 kr kr ?_
   exact te (by obtain rfl := si H; exact fO [(false,[cI (-1)])] kr rfl rfl)
  refine tT h2 kr ?_
  refine tG tOk 1 16 0 kr kr ?_
  exact te (by obtain rfl := si H; exact fO [(false,[cI (-1)])] kr rfl rfl)
 refine tT h1 kr ?_
 refine tG tOk 1 16 0 kr kr ?_
 exact te (by obtain rfl := si H; exact fO [(false,[cI (-1)])] kr rfl rfl)
def laws_heldByteS_J1 (n : Nat) (y3 : Int) : Option (Int) :=
  (some y3)
def laws_heldByteS_L2 (n : Nat) : Nat → (List Int) → Int → Int → Option ((Int) ⊕ (Int))
  | 0,_,_,_ => none
  | mo4 + 1,x0,y1,y2 => (bif (decide (y1 < (x0.length : Int))) then ((idx x0 y1).bind fun v5 => (bif (v5 != (IntKind.wrap .u8 y2)) then (some (Sum.inr (-1))) else (laws_heldByteS_L2 n mo4 x0 (IntKind.wrap .i64 (y1 + 1)) (IntKind.wrap .i64 (y2 + 1))))) else (some (Sum.inl y2)))
def laws_heldByteSF (n : Nat) (x0 : (List Int)) (x1 : Int) : Option (Int) :=
  ((laws_heldByteS_L2 n n x0 0 x1).bind fun o => match o with | .inl y3 => (laws_heldByteS_J1 n y3) | .inr r => some r)
noncomputable abbrev G102 (k : Nat) := Rg Tryz.f102 k
theorem laws_heldByteS (n : Nat) (x0 : (List Int)) (x1 : Int) (r : Int) (H : laws_heldByteSF n x0 x1 = some r) : LCall Tryz.prog 102 [.val false [.sl false 1 (CV.frzEs (x0.map byteRow))],.val false [.lit (.int .i64 x1)]] [.val false [.lit (.int .i64 r)]] [] := by
 refine LCall.of_body tOk Tryz.func102 rfl (c := (.seq (G102 0) (.seq (.seq (G102 1) (.block 0 (.loop (.seq (.seq (G102 2) (.cond (.tmp 9) .skip (.exit 0))) (.seq (.block 1 (.seq (.seq (G102 4) (.cond (.tmp 18) (.seq (G102 5) .ret) .skip)) (G102 6))) (G102 3)))))) (.seq (G102 7) .ret)))) kr (Nat.le_of_ble_eq_true kr) 0 (rs := [.tmp 4]) rfl [] .nil [(false,[.lit (.int .i64 r)])] [] [] fun cx => ?_
 show Tr _ _ _ ⟨22,0,[sC 0 (cF 1 x0 byteRow),sI 1 x1],[]⟩ _
 unfold laws_heldByteSF at H
 refine tG tOk 1 3 0 kr kr ?_
 refine tS ?_
 refine tG tOk 1 35 0 kr kr ?_
 obtain ⟨o4,eo4,Ho4⟩ := bind_some H
 clear H
 refine Tr.mid (ι := Int) (fun v => ⟨22,0,[sI 1 v],[]⟩) (fun v => laws_heldByteS_J1 n v = some r) ?_ ?_
 ·refine tB ?_
  refine Tr.loop (ι := Nat × (Int × Int)) (fun v => ⟨22,0,[sI 5 v.2.1,sC 0 (cF 1 x0 byteRow),sI 1 v.2.2],[]⟩) (fun v => laws_heldByteS_L2 n v.1 x0 v.2.1 v.2.2 = some o4) (fun v => v.1) (n,(0,x1)) eo4 (St.sub_of [5,0,1] [] kr) ?_
  rintro ⟨mo4,y1,y2⟩ H
  have H : laws_heldByteS_L2 n mo4 x0 y1 y2 = some o4 := H
  obtain _ | mo4 := mo4
  ·cases (show (none : Option _) = some o4 from H)
  rw [laws_heldByteS_L2] at H
  refine tS ?_
  refine rU tOk 2 kr ?_
  refine lL tOk 30 3 5 7 8 none ⟨(.slot 7),[],0,false,1,(CV.frzEs (x0.map byteRow))⟩ (x0).length _ kr kr kr kr kr (frz_len _ _) rfl ?_
  refine uD tOk 1 547 0 kr kr ?_
  obtain ⟨h1,H⟩ | ⟨h1,H⟩ := bC H
  ·refine tF h1 kr ?_
   refine Tr.exit ?_
   refine And.intro (fun _ => ?_) (fun h => absurd rfl h)
   obtain rfl := si H
   have H := Ho4
   dsimp only at H
   exact jn y2 H (sB_ [1] [] kr)
  refine tT h1 kr ?_
  refine tK ?_
  refine tS ?_
  refine tB ?_
  refine tS ?_
  refine rU tOk 2 kr ?_
  obtain ⟨v5,ev5,H⟩ := bind_some H
  refine lI tOk 30 0 12 13 14 none ⟨(.slot 12),[],0,false,1,(CV.frzEs (x0.map byteRow))⟩ y1 [.lit (.int .u8 v5)] _ kr kr kr kr rfl (idx_isF ev5) rfl ?_
  refine uD tOk 4 262179 0 kr kr ?_
  obtain ⟨h2,H⟩ | ⟨h2,H⟩ := bC H
  ·refine tF h2 kr ?_
   refine tK ?_
   refine tE tOk 3 35 0 kr kr ?_
   refine tE tOk 3 35 0 kr kr ?_
   exact jn (mo4,((IntKind.wrap .i64 (y1 + 1)),(IntKind.wrap .i64 (y2 + 1)))) H (sM mo4 [5,0,1] [] kr)
  refine tT h2 kr ?_
  refine tG tOk 1 16 0 kr kr ?_
  refine te ?_
  obtain rfl := si H
  have H := Ho4
  dsimp only at H
  obtain rfl := si H
  exact fO [(false,[cI (-1)])] kr rfl rfl
 rintro y3 H
 have H : (laws_heldByteS_J1 n y3) = some r := H
 unfold laws_heldByteS_J1 at H
 refine tG tOk 2 16 0 kr kr ?_
 exact te (by obtain rfl := si H; exact fO [(false,[cI y3])] kr rfl rfl)
def laws_heldOutS_J1 (n : Nat) (y3 : Int) : Option (Int) :=
  (some y3)
def laws_heldOutS_L2 (n : Nat) : Nat → (List Out) → Int → Int → Option ((Int) ⊕ (Int))
  | 0,_,_,_ => none
  | mo4 + 1,x0,y1,y2 => (bif (decide (y1 < (x0.length : Int))) then ((idx x0 y1).bind fun v5 => (bif (v5.Port != y2) then (some (Sum.inr (-1))) else ((idx x0 y1).bind fun v6 => (bif (v6.F.Dst != (IntKind.wrap .i64 (y2 + 1))) then (some (Sum.inr (-1))) else ((idx x0 y1).bind fun v7 => (bif (v7.F.Src != (IntKind.wrap .i64 ((IntKind.wrap .i64 (y2 + 1)) + 1))) then (some (Sum.inr (-1))) else ((idx x0 y1).bind fun v8 => (bif (v8.F.Tag != (IntKind.wrap .i64 ((IntKind.wrap .i64 ((IntKind.wrap .i64 (y2 + 1)) + 1)) + 1))) then (some (Sum.inr (-1))) else ((idx x0 y1).bind fun v9 => ((laws_heldByteSF n v9.F.Data (IntKind.wrap .i64 ((IntKind.wrap .i64 ((IntKind.wrap .i64 ((IntKind.wrap .i64 (y2 + 1)) + 1)) + 1)) + 1))).bind fun r10 => (bif (decide (r10 < 0)) then (some (Sum.inr (-1))) else (laws_heldOutS_L2 n mo4 x0 (IntKind.wrap .i64 (y1 + 1)) r10)))))))))))) else (some (Sum.inl y2)))
def laws_heldOutSF (n : Nat) (x0 : (List Out)) (x1 : Int) : Option (Int) :=
  ((laws_heldOutS_L2 n n x0 0 x1).bind fun o => match o with | .inl y3 => (laws_heldOutS_J1 n y3) | .inr r => some r)
noncomputable abbrev G22 (k : Nat) := Rg Tryz.f22 k
theorem laws_heldOutS (n : Nat) (x0 : (List Out)) (x1 : Int) (r : Int) (H : laws_heldOutSF n x0 x1 = some r) : LCall Tryz.prog 22 [.val false [.sl false 5 (CV.frzEs (x0.map Out.row))],.val false [.lit (.int .i64 x1)]] [.val false [.lit (.int .i64 r)]] [] := by
 refine LCall.of_body tOk Tryz.func22 rfl (c := (.seq (G22 0) (.seq (.seq (G22 1) (.block 0 (.loop (.seq (.seq (G22 2) (.cond (.tmp 9) .skip (.exit 0))) (.seq (.block 1 (.seq (.seq (G22 4) (.cond (.tmp 18) (.seq (G22 5) .ret) .skip)) (.seq (G22 6) (.seq (.seq (G22 7) (.cond (.tmp 28) (.seq (G22 8) .ret) .skip)) (.seq (G22 9) (.seq (.seq (G22 10) (.cond (.tmp 38) (.seq (G22 11) .ret) .skip)) (.seq (G22 12) (.seq (.seq (G22 13) (.cond (.tmp 48) (.seq (G22 14) .ret) .skip)) (.seq (G22 15) (.seq (G22 16) (.seq (G22 17) (.cond (.tmp 60) (.seq (G22 18) .ret) .skip)))))))))))) (G22 3)))))) (.seq (G22 19) .ret)))) kr (Nat.le_of_ble_eq_true kr) 0 (rs := [.tmp 4]) rfl [] .nil [(false,[.lit (.int .i64 r)])] [] [] fun cx => ?_
 show Tr _ _ _ ⟨62,0,[sC 0 (cF 5 x0 Out.row),sI 1 x1],[]⟩ _
 unfold laws_heldOutSF at H
 refine tG tOk 1 3 0 kr kr ?_
 refine tS ?_
 refine tG tOk 1 35 0 kr kr ?_
 obtain ⟨o4,eo4,Ho4⟩ := bind_some H
 clear H
 refine Tr.mid (ι := Int) (fun v => ⟨62,0,[sI 1 v],[]⟩) (fun v => laws_heldOutS_J1 n v = some r) ?_ ?_
 ·refine tB ?_
  refine Tr.loop (ι := Nat × (Int × Int)) (fun v => ⟨62,0,[sI 5 v.2.1,sC 0 (cF 5 x0 Out.row),sI 1 v.2.2],[]⟩) (fun v => laws_heldOutS_L2 n v.1 x0 v.2.1 v.2.2 = some o4) (fun v => v.1) (n,(0,x1)) eo4 (St.sub_of [5,0,1] [] kr) ?_
  rintro ⟨mo4,y1,y2⟩ H
  have H : laws_heldOutS_L2 n mo4 x0 y1 y2 = some o4 := H
  obtain _ | mo4 := mo4
  ·cases (show (none : Option _) = some o4 from H)
  rw [laws_heldOutS_L2] at H
  refine tS ?_
  refine rU tOk 2 kr ?_
  refine lL tOk 42 3 94 7 8 none ⟨(.slot 7),[],0,false,5,(CV.frzEs (x0.map Out.row))⟩ (x0).length _ kr kr kr kr kr (frz_len _ _) rfl ?_
  refine uD tOk 1 547 0 kr kr ?_
  obtain ⟨h1,H⟩ | ⟨h1,H⟩ := bC H
  ·refine tF h1 kr ?_
   refine Tr.exit ?_
   refine And.intro (fun _ => ?_) (fun h => absurd rfl h)
   obtain rfl := si H
   have H := Ho4
   dsimp only at H
   exact jn y2 H (sB_ [1] [] kr)
  refine tT h1 kr ?_
  refine tK ?_
  refine tS ?_
  refine tB ?_
  refine tS ?_
  refine rU tOk 2 kr ?_
  obtain ⟨v5,ev5,H⟩ := bind_some H
  refine lI tOk 42 0 12 13 14 none ⟨(.slot 12),[],0,false,5,(CV.frzEs (x0.map Out.row))⟩ y1 (CV.frzRow (Out.row v5)) _ kr kr kr kr rfl (idx_isF ev5) rfl ?_
  refine uD tOk 4 262179 0 kr kr ?_
  obtain ⟨h2,H⟩ | ⟨h2,H⟩ := bC H
  ·refine tF h2 kr ?_
   refine tK ?_
   refine tG tOk 3 35 0 kr kr ?_
   refine tS ?_
   refine rU tOk 2 kr ?_
   obtain ⟨v6,ev6,H⟩ := bind_some H
   refine lI tOk 42 0 21 22 23 none ⟨(.slot 21),[],0,false,5,(CV.frzEs (x0.map Out.row))⟩ y1 (CV.frzRow (Out.row v6)) _ kr kr kr kr rfl (idx_isF ev6) rfl ?_
   refine uD tOk 5 268435491 0 kr kr ?_
   obtain ⟨h3,H⟩ | ⟨h3,H⟩ := bC H
   ·refine tF h3 kr ?_
    refine tK ?_
    refine tG tOk 3 35 0 kr kr ?_
    refine tS ?_
    refine rU tOk 2 kr ?_
    obtain ⟨v7,ev7,H⟩ := bind_some H
    refine lI tOk 42 0 31 32 33 none ⟨(.slot 31),[],0,false,5,(CV.frzEs (x0.map Out.row))⟩ y1 (CV.frzRow (Out.row v7)) _ kr kr kr kr rfl (idx_isF ev7) rfl ?_
    refine uD tOk 5 274877906979 0 kr kr ?_
    refine tO ⟨62,0,[sB 38 (v7.F.Src != (IntKind.wrap .i64 ((IntKind.wrap .i64 (y2 + 1)) + 1))),sI 1 (IntKind.wrap .i64 ((IntKind.wrap .i64 (y2 + 1)) + 1)),sI 5 y1,sC 0 (cF 5 x0 Out.row)],[]⟩ kr ?_
    cases h4 : (v7.F.Src != (IntKind.wrap .i64 ((IntKind.wrap .i64 (y2 + 1)) + 1)))
    ·have H := bifF h4 H
     refine tf kr ?_
     refine tK ?_
     refine tG tOk 3 35 0 kr kr ?_
     refine tS ?_
     refine rU tOk 2 kr ?_
     obtain ⟨v8,ev8,H⟩ := bind_some H
     refine lI tOk 42 0 41 42 43 none ⟨(.slot 41),[],0,false,5,(CV.frzEs (x0.map Out.row))⟩ y1 (CV.frzRow (Out.row v8)) _ kr kr kr kr rfl (idx_isF ev8) rfl ?_
     refine uD tOk 5 281474976710691 0 kr kr ?_
     obtain ⟨h5,H⟩ | ⟨h5,H⟩ := bC H
     ·refine tF h5 kr ?_
      refine tK ?_
      refine tG tOk 3 35 0 kr kr ?_
      refine rU tOk 2 kr ?_
      obtain ⟨v9,ev9,H⟩ := bind_some H
      refine lI tOk 42 0 51 52 53 none ⟨(.slot 51),[],0,false,5,(CV.frzEs (x0.map Out.row))⟩ y1 (CV.frzRow (Out.row v9)) _ kr kr kr kr rfl (idx_isF ev9) rfl ?_
      refine lU tOk 4 kr ?_
      obtain ⟨r10,er10,H⟩ := bind_some H
      refine lV tOk [.rd,.rd] [] (laws_heldByteS n v9.F.Data (IntKind.wrap .i64 ((IntKind.wrap .i64 ((IntKind.wrap .i64 ((IntKind.wrap .i64 (y2 + 1)) + 1)) + 1)) + 1)) r10 er10) kr kr kr kr (.inl rfl) ?_
      refine uD tOk 1 35 0 kr kr ?_
      refine tG tOk 2 0x1000000000000023 0 kr kr ?_
      obtain ⟨h6,H⟩ | ⟨h6,H⟩ := bC H
      ·refine tF h6 kr ?_
       refine tK ?_
       refine tE tOk 3 35 0 kr kr ?_
       exact jn (mo4,((IntKind.wrap .i64 (y1 + 1)),r10)) H (sM mo4 [5,0,1] [] kr)
      refine tT h6 kr ?_
      refine tG tOk 1 16 0 kr kr ?_
      refine te ?_
      obtain rfl := si H
      have H := Ho4
      dsimp only at H
      obtain rfl := si H
      exact fO [(false,[cI (-1)])] kr rfl rfl
     refine tT h5 kr ?_
     refine tG tOk 1 16 0 kr kr ?_
     refine te ?_
     obtain rfl := si H
     have H := Ho4
     dsimp only at H
     obtain rfl := si H
     exact fO [(false,[cI (-1)])] kr rfl rfl
    have H := bifT h4 H
    refine tt kr ?_
    refine tG tOk 1 16 0 kr kr ?_
    refine te ?_
    obtain rfl := si H
    have H := Ho4
    dsimp only at H
    obtain rfl := si H
    exact fO [(false,[cI (-1)])] kr rfl rfl
   refine tT h3 kr ?_
   refine tG tOk 1 16 0 kr kr ?_
   refine te ?_
   obtain rfl := si H
   have H := Ho4
   dsimp only at H
   obtain rfl := si H
   exact fO [(false,[cI (-1)])] kr rfl rfl
  refine tT h2 kr ?_
  refine tG tOk 1 16 0 kr kr ?_
  refine te ?_
  obtain rfl := si H
  have H := Ho4
  dsimp only at H
  obtain rfl := si H
  exact fO [(false,[cI (-1)])] kr rfl rfl
 rintro y3 H
 have H : (laws_heldOutS_J1 n y3) = some r := H
 unfold laws_heldOutS_J1 at H
 refine tG tOk 2 16 0 kr kr ?_
 exact te (by obtain rfl := si H; exact fO [(false,[cI y3])] kr rfl rfl)
def laws_FnExactForwardF (n : Nat) (x0 : Bridge) (x1 : Int) (x2 : Frame) : Option (Bool) :=
  ((laws_szBridgeF n x0 1048576).bind fun r1 => (bif (decide (r1 < 0)) then (some true) else ((laws_szFrameF n x2 r1).bind fun r2 => (bif (decide (r2 < 0)) then (some true) else ((laws_toBridgeF n x0).bind fun r3 => ((laws_toFrameF n x2).bind fun r4 => ((spec_ForwardF n r3 x1 r4).bind fun r5 => ((laws_toBridgeF n x0).bind fun r6 => ((laws_toFrameF n x2).bind fun r7 => ((impl_ForwardF n r6 x1 r7).bind fun r8 => ((laws_eqBridgeF n r8.1 r5.1).bind fun r9 => (bif (!r9) then (some false) else ((laws_eqOutSF n r8.2 r5.2).bind fun r10 => (bif (!r10) then (some false) else ((laws_toBridgeF n x0).bind fun r11 => ((laws_eqBridgeF n r6 r11).bind fun r12 => (bif (!r12) then (some false) else ((laws_toFrameF n x2).bind fun r13 => ((laws_eqFrameF n r7 r13).bind fun r14 => (bif (!r14) then (some false) else ((laws_markBridgeF n r6 1).bind fun r15 => ((laws_markFrameF n r7 r15.1).bind fun r16 => (bif (decide (r16.1 < 0)) then (some false) else ((laws_eqBridgeF n r8.1 r5.1).bind fun r17 => (bif (!r17) then (some false) else ((laws_eqOutSF n r8.2 r5.2).bind fun r18 => (bif (!r18) then (some false) else ((laws_markBridgeF n r8.1 1).bind fun r19 => ((laws_markOutSF n r8.2 r19.1).bind fun r20 => ((laws_heldBridgeF n r19.2 1).bind fun r21 => (bif (decide (r21 < 0)) then (some false) else ((laws_heldOutSF n r20.2 r21).bind fun r22 => (bif (decide (r22 < 0)) then (some false) else (bif (r22 != r20.1) then (some false) else ((laws_toBridgeF n x0).bind fun r23 => ((laws_toFrameF n x2).bind fun r24 => ((impl_ForwardF n r23 x1 r24).bind fun r25 => ((laws_eqBridgeF n r25.1 r5.1).bind fun r26 => (bif (!r26) then (some false) else ((laws_eqOutSF n r25.2 r5.2).bind fun r27 => (bif (!r27) then (some false) else ((laws_heldBridgeF n r19.2 1).bind fun r28 => (bif (decide (r28 < 0)) then (some false) else ((laws_heldOutSF n r20.2 r28).bind fun r29 => (bif (decide (r29 < 0)) then (some false) else (bif (r29 != r20.1) then (some false) else (some true)))))))))))))))))))))))))))))))))))))))))))))))
noncomputable abbrev G3 (k : Nat) := Rg Tryz.f3 k
noncomputable abbrev D3 (k : Nat) := Rd Tryz.f3 k
theorem laws_FnExactForward (n : Nat) (x0 : Bridge) (x1 : Int) (x2 : Frame) (r : Bool) (H : laws_FnExactForwardF n x0 x1 x2 = some r) : LCall Tryz.prog 3 [.val true (CV.frzRow (Bridge.row x0)),.val false [.lit (.int .i64 x1)],.val true (CV.frzRow (Frame.row x2))] [.val false [.lit (.bool r)]] [] := by
 refine LCall.of_body tOk Tryz.func3 rfl (c := (.seq (G3 0) (.seq (G3 1) (.seq (G3 2) (.seq (.seq (G3 3) (.cond (.tmp 23) (.seq (G3 4) .ret) .skip)) (.seq (G3 5) (.seq (.seq (G3 6) (.cond (.tmp 28) (.seq (G3 7) .ret) .skip)) (.seq (D3 8) (.seq (G3 9) (.seq (G3 10) (.seq (G3 11) (.seq (.seq (G3 12) (.cond (.tmp 58) (.seq (G3 13) .ret) .skip)) (.seq (.seq (D3 14) (.cond (.tmp 63) (.seq (G3 15) .ret) .skip)) (.seq (.seq (D3 16) (.cond (.tmp 68) (.seq (G3 17) .ret) .skip)) (.seq (G3 18) (.seq (G3 19) (.seq (G3 20) (.seq (.seq (G3 21) (.cond (.tmp 88) (.seq (G3 22) .ret) .skip)) (.seq (G3 23) (.seq (G3 24) (.seq (G3 25) (.seq (G3 26) (.seq (G3 27) (.seq (.seq (G3 28) (.cond (.tmp 99) (.seq (G3 29) .ret) .skip)) (.seq (G3 30) (.seq (.seq (G3 31) (.cond (.tmp 104) (.seq (G3 32) .ret) .skip)) (.seq (.seq (G3 33) (.cond (.tmp 107) (.seq (G3 34) .ret) .skip)) (.seq (D3 35) (.seq (.seq (G3 36) (.cond (.tmp 126) (.seq (G3 37) .ret) .skip)) (.seq (G3 38) (.seq (G3 39) (.seq (.seq (G3 40) (.cond (.tmp 131) (.seq (G3 41) .ret) .skip)) (.seq (G3 42) (.seq (.seq (G3 43) (.cond (.tmp 136) (.seq (G3 44) .ret) .skip)) (.seq (.seq (G3 45) (.cond (.tmp 139) (.seq (G3 46) .ret) .skip)) (.seq (G3 47) .ret)))))))))))))))))))))))))))))))))))) kr (Nat.le_of_ble_eq_true kr) 0 (rs := [.tmp 6]) rfl [] .nil [(false,[.lit (.bool r)])] [] [] fun cx => ?_
 show Tr _ _ _ ⟨140,0,[sV 0 (CV.frzRow (Bridge.row x0)),sI 1 x1,sV 2 (CV.frzRow (Frame.row x2))],[]⟩ _
 unfold laws_FnExactForwardF at H
 refine tG tOk 3 42 40 kr kr ?_
 refine tG tOk 1 170 40 kr kr ?_
 refine rU tOk 2 kr ?_
 obtain ⟨r1,er1,H⟩ := bind_some H
 refine lV tOk [.rd,.rd] [] (laws_szBridge n x0 1048576 r1 er1) kr kr kr kr (.inl rfl) ?_
 refine uD tOk 1 170 40 kr kr ?_
 refine tS ?_
 refine tG tOk 2 8388778 40 kr kr ?_
 obtain ⟨h1,H⟩ | ⟨h1,H⟩ := bC H
 ·refine tF h1 kr ?_
  refine tK ?_
  refine rU tOk 2 kr ?_
  obtain ⟨r2,er2,H⟩ := bind_some H
  refine lV tOk [.rd,.rd] [] (laws_szFrame n x2 r1 r2 er2) kr kr kr kr (.inl rfl) ?_
  refine uD tOk 1 170 40 kr kr ?_
  refine tS ?_
  refine tG tOk 2 268435498 40 kr kr ?_
  obtain ⟨h2,H⟩ | ⟨h2,H⟩ := bC H
  ·refine tF h2 kr ?_
   refine tK ?_
   obtain ⟨r3,er3,H⟩ := bind_some H
   obtain ⟨r4,er4,H⟩ := bind_some H
   obtain ⟨r5,er5,H⟩ := bind_some H
   refine Tr.draws mixed 12 kr ⟨140,0,[sC 9 (cL 5 r5.2 Out.row),sA 8 8 11 0,sA 5 5 4 0,sA 3 3 11 0,sI 1 x1],[(8,(Bridge.row r5.1)),(5,(CV.frzRow (Frame.row x2))),(3,(CV.frzRow (Bridge.row x0)))]⟩ (fun cx => ?_) ?_
   ·refine aU tOk [(0,[1,4,5,10]),(2,[]),(3,[4,5,10])] 9 [⟨[4,5,10],32,5,33⟩,⟨[1,4,5,10],29,3,30⟩] [3,2,0] rfl kr (fun cx => ?_)
    refine AT.big2 tOk 1 9 kr (And.intro kr ?_) (And.intro kr ?_)
    ·refine lV tOk [.rd] [] (laws_toBridge n x0 r3 er3) kr kr kr kr (.inl rfl) ?_
     refine lF kr kr kr ?_
     refine AT.big2 tOk 4 9 kr (And.intro kr ?_) (And.intro kr ?_)
     ·refine lV tOk [.rd] [] (laws_toFrame n x2 r4 er4) kr kr kr kr (.inl rfl) ?_
      refine lF kr kr kr ?_
      refine AT.big2 tOk 5 9 kr (And.intro kr ?_) (And.intro kr ?_)
      ·refine lV tOk [.rd,.rd,.rd] [] (spec_Forward n r3 x1 r4 r5 er5) kr kr kr kr (.inl rfl) ?_
       refine lF kr kr kr ?_
       refine AT.movT tOk 6 (ty := 43) (t := 35) (d := 29) (g := none) [(true,(Bridge.row r5.1)),(false,[cL 5 r5.2 Out.row])] _ kr kr kr (.inl rfl) kr kr kr kr rfl (fun cx => ?_)
       refine aU tOk [(7,[]),(8,[])] 3 [⟨[4,5,10],32,5,33⟩,⟨[1,4,5,10],29,3,30⟩] [8,7,6,5,4,1,3,2,0] rfl kr (fun cx => ?_)
       refine AT.big1 tOk 9 kr kr ?_
       refine lU tOk 1 kr ?_
       refine lF kr kr kr ?_
       refine AT.big1 tOk 10 kr kr ?_
       refine lU tOk 1 kr ?_
       refine lF kr kr kr ?_
       refine AT.big1 tOk 11 kr kr ?_
       refine LAt.moveU (T := lk tab) (ty := 42) (x := (.tmp 37)) (d := 9) (g := none) false [cL 5 r5.2 Out.row] kr kr kr kr kr ?_
       refine lF kr kr kr ?_
       exact AT.done [9,8,5,3,1] [8,5,3] _ kr kr rfl
      ·refine lU tOk 1 kr ?_
       refine lF kr kr kr ?_
       refine AT.big1 tOk 5 kr kr ?_
       refine lV tOk [.rd,.rd,.rd] [] (spec_Forward n r3 x1 r4 r5 er5) kr kr kr kr (.inl rfl) ?_
       refine lF kr kr kr ?_
       refine AT.movT tOk 6 (ty := 43) (t := 35) (d := 29) (g := none) [(true,(Bridge.row r5.1)),(false,[cL 5 r5.2 Out.row])] _ kr kr kr (.inl rfl) kr kr kr kr rfl (fun cx => ?_)
       refine aU tOk [(7,[]),(8,[])] 2 [⟨[4,5,10],32,5,33⟩,⟨[1,4,5,10],29,3,30⟩] [8,7,6,5,9,4,1,3,2,0] rfl kr (fun cx => ?_)
       refine AT.big1 tOk 10 kr kr ?_
       refine lU tOk 1 kr ?_
       refine lF kr kr kr ?_
       refine AT.big1 tOk 11 kr kr ?_
       refine LAt.moveU (T := lk tab) (ty := 42) (x := (.tmp 37)) (d := 9) (g := none) false [cL 5 r5.2 Out.row] kr kr kr kr kr ?_
       refine lF kr kr kr ?_
       exact AT.done [9,8,5,3,1] [8,5,3] _ kr kr rfl
     ·refine lU tOk 1 kr ?_
      refine lF kr kr kr ?_
      refine AT.big1 tOk 4 kr kr ?_
      refine lV tOk [.rd] [] (laws_toFrame n x2 r4 er4) kr kr kr kr (.inl rfl) ?_
      refine lF kr kr kr ?_
      refine AT.big1 tOk 5 kr kr ?_
      refine lV tOk [.rd,.rd,.rd] [] (spec_Forward n r3 x1 r4 r5 er5) kr kr kr kr (.inl rfl) ?_
      refine lF kr kr kr ?_
      refine AT.movT tOk 6 (ty := 43) (t := 35) (d := 29) (g := none) [(true,(Bridge.row r5.1)),(false,[cL 5 r5.2 Out.row])] _ kr kr kr (.inl rfl) kr kr kr kr rfl (fun cx => ?_)
      refine aU tOk [(7,[]),(8,[])] 2 [⟨[4,5,10],32,5,33⟩,⟨[1,4,5,10],29,3,30⟩] [8,7,6,5,4,9,1,3,2,0] rfl kr (fun cx => ?_)
      refine AT.big1 tOk 10 kr kr ?_
      refine lU tOk 1 kr ?_
      refine lF kr kr kr ?_
      refine AT.big1 tOk 11 kr kr ?_
      refine LAt.moveU (T := lk tab) (ty := 42) (x := (.tmp 37)) (d := 9) (g := none) false [cL 5 r5.2 Out.row] kr kr kr kr kr ?_
      refine lF kr kr kr ?_
      exact AT.done [9,8,5,3,1] [8,5,3] _ kr kr rfl
    ·refine lU tOk 1 kr ?_
     refine lF kr kr kr ?_
     refine AT.big1 tOk 1 kr kr ?_
     refine lV tOk [.rd] [] (laws_toBridge n x0 r3 er3) kr kr kr kr (.inl rfl) ?_
     refine lF kr kr kr ?_
     refine AT.big1 tOk 4 kr kr ?_
     refine lV tOk [.rd] [] (laws_toFrame n x2 r4 er4) kr kr kr kr (.inl rfl) ?_
     refine lF kr kr kr ?_
     refine AT.big1 tOk 5 kr kr ?_
     refine lV tOk [.rd,.rd,.rd] [] (spec_Forward n r3 x1 r4 r5 er5) kr kr kr kr (.inl rfl) ?_
     refine lF kr kr kr ?_
     refine AT.movT tOk 6 (ty := 43) (t := 35) (d := 29) (g := none) [(true,(Bridge.row r5.1)),(false,[cL 5 r5.2 Out.row])] _ kr kr kr (.inl rfl) kr kr kr kr rfl (fun cx => ?_)
     refine aU tOk [(7,[]),(8,[])] 2 [⟨[4,5,10],32,5,33⟩,⟨[1,4,5,10],29,3,30⟩] [8,7,6,5,4,1,9,3,2,0] rfl kr (fun cx => ?_)
     refine AT.big1 tOk 10 kr kr ?_
     refine lU tOk 1 kr ?_
     refine lF kr kr kr ?_
     refine AT.big1 tOk 11 kr kr ?_
     refine LAt.moveU (T := lk tab) (ty := 42) (x := (.tmp 37)) (d := 9) (g := none) false [cL 5 r5.2 Out.row] kr kr kr kr kr ?_
     refine lF kr kr kr ?_
     exact AT.done [9,8,5,3,1] [8,5,3] _ kr kr rfl
   refine rU tOk 1 kr ?_
   obtain ⟨r6,er6,H⟩ := bind_some H
   refine lV tOk [.rd] [] (laws_toBridge n x0 r6 er6) kr kr kr kr (.inl rfl) ?_
   refine uD tOk 2 1834 1320 kr kr ?_
   refine rU tOk 1 kr ?_
   obtain ⟨r7,er7,H⟩ := bind_some H
   refine lV tOk [.rd] [] (laws_toFrame n x2 r7 er7) kr kr kr kr (.inl rfl) ?_
   refine uD tOk 2 3882 3368 kr kr ?_
   refine rU tOk 3 kr ?_
   obtain ⟨r8,er8,H⟩ := bind_some H
   refine lV tOk [.rd,.rd,.rd] [.box 10,.box 11] (impl_Forward n r6 x1 r7 r8 er8) kr kr kr kr (.inr (rets_cons (Bridge.row_mine _) (rets_cons (mine_cons (mine_sl (mine_map Out.row_mine _)) mine_nil) rets_nil))) ?_
   refine LAt.movT tOk (ty := 43) (t := 46) (d := 42) (g := none) [(true,(Bridge.row r8.1)),(false,[cL 5 r8.2 Out.row])] _ kr (.inl rfl) kr kr kr kr rfl ?_
   refine lU tOk 4 kr ?_
   refine LAt.moveU (T := lk tab) (ty := 42) (x := (.tmp 48)) (d := 13) (g := none) false [cL 5 r8.2 Out.row] kr kr kr kr kr ?_
   refine lD 16170 7464 kr ?_
   refine tS ?_
   refine rU tOk 2 kr ?_
   obtain ⟨r9,er9,H⟩ := bind_some H
   refine lV tOk [.rd,.rd] [.box 12,.box 8] (laws_eqBridge n r8.1 r5.1 r9 er9) kr kr kr kr (.inr (rets_cons (mine_cons mine_lit mine_nil) rets_nil)) ?_
   refine lU tOk 2 kr ?_
   refine lT ⟨140,0,[sB 53 (!r9),sB 52 (!r9),sB 51 r9,sR 50 8 11 0 11 true,sR 49 12 11 0 11 true,sC 13 (cL 5 r8.2 Out.row),sA 12 12 11 0,sA 11 11 4 0,sA 10 10 11 0,sC 9 (cL 5 r5.2 Out.row),sA 8 8 11 0,sA 5 5 4 0,sA 3 3 11 0,sI 1 x1],[(12,(Bridge.row r8.1)),(11,(Frame.row r7)),(10,(Bridge.row r6)),(8,(Bridge.row r5.1)),(5,(CV.frzRow (Frame.row x2))),(3,(CV.frzRow (Bridge.row x0)))]⟩ kr ?_
   cases h3 : (!r9)
   ·have H := bifF h3 H
    refine lU tOk 2 kr ?_
    obtain ⟨r10,er10,H⟩ := bind_some H
    refine lV tOk [.rd,.rd] [.slot 13,.slot 9] (laws_eqOutS n r8.2 r5.2 r10 er10) kr kr kr kr (.inr (rets_cons (mine_cons mine_lit mine_nil) rets_nil)) ?_
    refine uD tOk 2 0x400000000003f2a 7464 kr kr ?_
    obtain ⟨h4,H⟩ | ⟨h4,H⟩ := bC H
    ·refine tF h4 kr ?_
     refine tK ?_
     refine tS ?_
     obtain ⟨r11,er11,H⟩ := bind_some H
     obtain ⟨r12,er12,H⟩ := bind_some H
     refine Tr.draws mixed 5 kr ⟨140,0,[sB 63 (!r12),sC 13 (cL 5 r8.2 Out.row),sA 12 12 11 0,sA 11 11 4 0,sA 10 10 11 0,sC 9 (cL 5 r5.2 Out.row),sA 8 8 11 0,sA 5 5 4 0,sA 3 3 11 0,sI 1 x1],[(12,(Bridge.row r8.1)),(11,(Frame.row r7)),(10,(Bridge.row r6)),(8,(Bridge.row r5.1)),(5,(CV.frzRow (Frame.row x2))),(3,(CV.frzRow (Bridge.row x0)))]⟩ (fun cx => ?_) ?_
     ·refine aU tOk [(0,[3]),(1,[2,3])] 3 [⟨[2,3],29,3,60⟩,⟨[3],41,10,59⟩] [1,0] rfl kr (fun cx => ?_)
      refine AT.big1 tOk 2 kr kr ?_
      refine lV tOk [.rd] [] (laws_toBridge n x0 r11 er11) kr kr kr kr (.inl rfl) ?_
      refine lF kr kr kr ?_
      refine AT.big1 tOk 3 kr kr ?_
      refine lV tOk [.rd,.rd] [.box 10] (laws_eqBridge n r6 r11 r12 er12) kr kr kr kr (.inr (rets_cons (mine_cons mine_lit mine_nil) rets_nil)) ?_
      refine lF kr kr kr ?_
      refine aU tOk [(4,[])] 0 [⟨[2,3],29,3,60⟩,⟨[3],41,10,59⟩] [4,3,2,1,0] rfl kr (fun cx => ?_)
      exact AT.done [63,13,12,11,10,9,8,5,3,1] [12,11,10,8,5,3] _ kr kr rfl
     refine tO ⟨140,0,[sB 63 (!r12),sC 13 (cL 5 r8.2 Out.row),sA 12 12 11 0,sA 11 11 4 0,sA 10 10 11 0,sC 9 (cL 5 r5.2 Out.row),sA 8 8 11 0,sA 5 5 4 0,sA 3 3 11 0,sI 1 x1],[(12,(Bridge.row r8.1)),(11,(Frame.row r7)),(10,(Bridge.row r6)),(8,(Bridge.row r5.1)),(5,(CV.frzRow (Frame.row x2))),(3,(CV.frzRow (Bridge.row x0)))]⟩ kr ?_
     cases h5 : (!r12)
     ·have H := bifF h5 H
      refine tf kr ?_
      refine tK ?_
      refine tS ?_
      obtain ⟨r13,er13,H⟩ := bind_some H
      obtain ⟨r14,er14,H⟩ := bind_some H
      refine Tr.draws mixed 5 kr ⟨140,0,[sB 68 (!r14),sC 13 (cL 5 r8.2 Out.row),sA 12 12 11 0,sA 11 11 4 0,sA 10 10 11 0,sC 9 (cL 5 r5.2 Out.row),sA 8 8 11 0,sA 5 5 4 0,sA 3 3 11 0,sI 1 x1],[(12,(Bridge.row r8.1)),(11,(Frame.row r7)),(10,(Bridge.row r6)),(8,(Bridge.row r5.1)),(5,(CV.frzRow (Frame.row x2))),(3,(CV.frzRow (Bridge.row x0)))]⟩ (fun cx => ?_) ?_
      ·refine aU tOk [(0,[3]),(1,[2,3])] 3 [⟨[2,3],32,5,65⟩,⟨[3],46,11,64⟩] [1,0] rfl kr (fun cx => ?_)
       refine AT.big1 tOk 2 kr kr ?_
       refine lV tOk [.rd] [] (laws_toFrame n x2 r13 er13) kr kr kr kr (.inl rfl) ?_
       refine lF kr kr kr ?_
       refine AT.big1 tOk 3 kr kr ?_
       refine lV tOk [.rd,.rd] [.box 11] (laws_eqFrame n r7 r13 r14 er14) kr kr kr kr (.inr (rets_cons (mine_cons mine_lit mine_nil) rets_nil)) ?_
       refine lF kr kr kr ?_
       refine aU tOk [(4,[])] 0 [⟨[2,3],32,5,65⟩,⟨[3],46,11,64⟩] [4,3,2,1,0] rfl kr (fun cx => ?_)
       exact AT.done [68,13,12,11,10,9,8,5,3,1] [12,11,10,8,5,3] _ kr kr rfl
      refine tO ⟨140,0,[sB 68 (!r14),sC 13 (cL 5 r8.2 Out.row),sA 12 12 11 0,sA 11 11 4 0,sA 10 10 11 0,sC 9 (cL 5 r5.2 Out.row),sA 8 8 11 0,sA 5 5 4 0,sA 3 3 11 0,sI 1 x1],[(12,(Bridge.row r8.1)),(11,(Frame.row r7)),(10,(Bridge.row r6)),(8,(Bridge.row r5.1)),(5,(CV.frzRow (Frame.row x2))),(3,(CV.frzRow (Bridge.row x0)))]⟩ kr ?_
      cases h6 : (!r14)
      ·have H := bifF h6 H
       refine tf kr ?_
       refine tK ?_
       refine tG tOk 1 32554 7464 kr kr ?_
       refine rU tOk 2 kr ?_
       obtain ⟨r15,er15,H⟩ := bind_some H
       refine LAt.callL tOk [.lend,.rd] (f := 18) (av := #[.tmp 69,.tmp 70]) (ats := #[41,3]) (d := (some 71)) (ty := 3) (g := none) kr kr kr [] (laws_markBridge n r6 1 r15 er15) kr (.inl rfl) ?_
       refine uD tOk 1 31530 6440 kr kr ?_
       refine rU tOk 2 kr ?_
       obtain ⟨r16,er16,H⟩ := bind_some H
       refine LAt.callL tOk [.lend,.rd] (f := 19) (av := #[.tmp 72,.tmp 73]) (ats := #[46,3]) (d := (some 74)) (ty := 3) (g := none) kr kr kr [] (laws_markFrame n r7 r15.1 r16 er16) kr (.inl rfl) ?_
       refine uD tOk 1 29482 4392 kr kr ?_
       refine tS ?_
       refine rU tOk 3 kr ?_
       refine lT ⟨140,0,[sB 77 (decide (r16.1 < 0)),sB 76 (decide (r16.1 < 0)),sI 75 r16.1,sI 14 r16.1,sC 13 (cL 5 r8.2 Out.row),sA 12 12 11 0,sC 9 (cL 5 r5.2 Out.row),sA 8 8 11 0,sA 5 5 4 0,sA 3 3 11 0,sI 1 x1],[(12,(Bridge.row r8.1)),(8,(Bridge.row r5.1)),(5,(CV.frzRow (Frame.row x2))),(3,(CV.frzRow (Bridge.row x0)))]⟩ kr ?_
       cases h7 : (decide (r16.1 < 0))
       ·have H := bifF h7 H
        refine lU tOk 2 kr ?_
        obtain ⟨r17,er17,H⟩ := bind_some H
        refine lV tOk [.rd,.rd] [.box 12,.box 8] (laws_eqBridge n r8.1 r5.1 r17 er17) kr kr kr kr (.inr (rets_cons (mine_cons mine_lit mine_nil) rets_nil)) ?_
        refine lU tOk 3 kr ?_
        refine lT ⟨140,0,[sB 83 (!r17),sB 82 (!r17),sB 81 (!r17),sB 80 r17,sR 79 8 11 0 11 true,sR 78 12 11 0 11 true,sB 77 false,sB 76 false,sI 75 r16.1,sI 14 r16.1,sC 13 (cL 5 r8.2 Out.row),sA 12 12 11 0,sC 9 (cL 5 r5.2 Out.row),sA 8 8 11 0,sA 5 5 4 0,sA 3 3 11 0,sI 1 x1],[(12,(Bridge.row r8.1)),(8,(Bridge.row r5.1)),(5,(CV.frzRow (Frame.row x2))),(3,(CV.frzRow (Bridge.row x0)))]⟩ kr ?_
        cases h8 : (!r17)
        ·have H := bifF h8 H
         refine lU tOk 2 kr ?_
         obtain ⟨r18,er18,H⟩ := bind_some H
         refine lV tOk [.rd,.rd] [.slot 13,.slot 9] (laws_eqOutS n r8.2 r5.2 r18 er18) kr kr kr kr (.inr (rets_cons (mine_cons mine_lit mine_nil) rets_nil)) ?_
         refine uD tOk 2 0x1000000000000000000332a 4392 kr kr ?_
         obtain ⟨h9,H⟩ | ⟨h9,H⟩ := bC H
         ·refine tF h9 kr ?_
          refine tK ?_
          refine tG tOk 1 45866 4392 kr kr ?_
          refine rU tOk 2 kr ?_
          obtain ⟨r19,er19,H⟩ := bind_some H
          refine LAt.callL tOk [.lend,.rd] (f := 18) (av := #[.tmp 89,.tmp 90]) (ats := #[41,3]) (d := (some 91)) (ty := 3) (g := none) kr kr kr [] (laws_markBridge n r8.1 1 r19 er19) kr (.inl rfl) ?_
          refine uD tOk 1 45866 4392 kr kr ?_
          refine rU tOk 2 kr ?_
          obtain ⟨r20,er20,H⟩ := bind_some H
          refine LAt.callL tOk [.lend,.rd] (f := 20) (av := #[.tmp 92,.tmp 93]) (ats := #[42,3]) (d := (some 94)) (ty := 3) (g := none) kr kr kr [] (laws_markOutS n r8.2 r19.1 r20 er20) kr (.inl rfl) ?_
          refine uD tOk 1 45866 4392 kr kr ?_
          refine tG tOk 1 111402 4392 kr kr ?_
          refine rU tOk 2 kr ?_
          obtain ⟨r21,er21,H⟩ := bind_some H
          refine lV tOk [.rd,.rd] [.box 12] (laws_heldBridge n r19.2 1 r21 er21) kr kr kr kr (.inr (rets_cons (mine_cons mine_lit mine_nil) rets_nil)) ?_
          refine uD tOk 1 111402 4392 kr kr ?_
          refine tS ?_
          refine tG tOk 2 0x800000000000000000001b32a 4392 kr kr ?_
          obtain ⟨h10,H⟩ | ⟨h10,H⟩ := bC H
          ·refine tF h10 kr ?_
           refine tK ?_
           refine rU tOk 2 kr ?_
           obtain ⟨r22,er22,H⟩ := bind_some H
           refine lV tOk [.rd,.rd] [.slot 13] (laws_heldOutS n r20.2 r21 r22 er22) kr kr kr kr (.inr (rets_cons (mine_cons mine_lit mine_nil) rets_nil)) ?_
           refine uD tOk 1 111402 4392 kr kr ?_
           refine tS ?_
           refine tG tOk 2 0x10000000000000000000001b32a 4392 kr kr ?_
           obtain ⟨h11,H⟩ | ⟨h11,H⟩ := bC H
           ·refine tF h11 kr ?_
            refine tK ?_
            refine tS ?_
            refine tG tOk 3 0x80000000000000000000000b32a 4392 kr kr ?_
            refine tO ⟨140,0,[sB 107 (r22 != r20.1),sI 15 r20.1,sC 13 (cL 5 r20.2 Out.row),sA 12 12 11 0,sC 9 (cL 5 r5.2 Out.row),sA 8 8 11 0,sA 5 5 4 0,sA 3 3 11 0,sI 1 x1],[(12,(Bridge.row r19.2)),(8,(Bridge.row r5.1)),(5,(CV.frzRow (Frame.row x2))),(3,(CV.frzRow (Bridge.row x0)))]⟩ kr ?_
            cases h12 : (r22 != r20.1)
            ·have H := bifF h12 H
             refine tf kr ?_
             refine tK ?_
             obtain ⟨r23,er23,H⟩ := bind_some H
             obtain ⟨r24,er24,H⟩ := bind_some H
             obtain ⟨r25,er25,H⟩ := bind_some H
             refine Tr.draws mixed 12 kr ⟨140,0,[sC 18 (cL 5 r25.2 Out.row),sA 17 17 11 0,sI 15 r20.1,sC 13 (cL 5 r20.2 Out.row),sA 12 12 11 0,sC 9 (cL 5 r5.2 Out.row),sA 8 8 11 0],[(17,(Bridge.row r25.1)),(12,(Bridge.row r19.2)),(8,(Bridge.row r5.1))]⟩ (fun cx => ?_) ?_
             ·refine aU tOk [(0,[1,4,5,10]),(2,[]),(3,[4,5,10])] 9 [⟨[4,5,10],32,5,112⟩,⟨[1,4,5,10],29,3,109⟩] [3,2,0] rfl kr (fun cx => ?_)
              refine AT.big2 tOk 1 9 kr (And.intro kr ?_) (And.intro kr ?_)
              ·refine lV tOk [.rd] [] (laws_toBridge n x0 r23 er23) kr kr kr kr (.inl rfl) ?_
               refine lF kr kr kr ?_
               refine AT.big2 tOk 4 9 kr (And.intro kr ?_) (And.intro kr ?_)
               ·refine lV tOk [.rd] [] (laws_toFrame n x2 r24 er24) kr kr kr kr (.inl rfl) ?_
                refine lF kr kr kr ?_
                refine AT.big2 tOk 5 9 kr (And.intro kr ?_) (And.intro kr ?_)
                ·refine lV tOk [.rd,.rd,.rd] [] (impl_Forward n r23 x1 r24 r25 er25) kr kr kr kr (.inl rfl) ?_
                 refine lF kr kr kr ?_
                 refine AT.movT tOk 6 (ty := 43) (t := 114) (d := 108) (g := none) [(true,(Bridge.row r25.1)),(false,[cL 5 r25.2 Out.row])] _ kr kr kr (.inl rfl) kr kr kr kr rfl (fun cx => ?_)
                 refine aU tOk [(7,[]),(8,[])] 3 [⟨[4,5,10],32,5,112⟩,⟨[1,4,5,10],29,3,109⟩] [8,7,6,5,4,1,3,2,0] rfl kr (fun cx => ?_)
                 refine AT.big1 tOk 9 kr kr ?_
                 refine lU tOk 1 kr ?_
                 refine lF kr kr kr ?_
                 refine AT.big1 tOk 10 kr kr ?_
                 refine lU tOk 1 kr ?_
                 refine lF kr kr kr ?_
                 refine AT.big1 tOk 11 kr kr ?_
                 refine LAt.moveU (T := lk tab) (ty := 42) (x := (.tmp 116)) (d := 18) (g := none) false [cL 5 r25.2 Out.row] kr kr kr kr kr ?_
                 refine lF kr kr kr ?_
                 exact AT.done [18,17,15,13,12,9,8] [17,12,8] _ kr kr rfl
                ·refine lU tOk 1 kr ?_
                 refine lF kr kr kr ?_
                 refine AT.big1 tOk 5 kr kr ?_
                 refine lV tOk [.rd,.rd,.rd] [] (impl_Forward n r23 x1 r24 r25 er25) kr kr kr kr (.inl rfl) ?_
                 refine lF kr kr kr ?_
                 refine AT.movT tOk 6 (ty := 43) (t := 114) (d := 108) (g := none) [(true,(Bridge.row r25.1)),(false,[cL 5 r25.2 Out.row])] _ kr kr kr (.inl rfl) kr kr kr kr rfl (fun cx => ?_)
                 refine aU tOk [(7,[]),(8,[])] 2 [⟨[4,5,10],32,5,112⟩,⟨[1,4,5,10],29,3,109⟩] [8,7,6,5,9,4,1,3,2,0] rfl kr (fun cx => ?_)
                 refine AT.big1 tOk 10 kr kr ?_
                 refine lU tOk 1 kr ?_
                 refine lF kr kr kr ?_
                 refine AT.big1 tOk 11 kr kr ?_
                 refine LAt.moveU (T := lk tab) (ty := 42) (x := (.tmp 116)) (d := 18) (g := none) false [cL 5 r25.2 Out.row] kr kr kr kr kr ?_
                 refine lF kr kr kr ?_
                 exact AT.done [18,17,15,13,12,9,8] [17,12,8] _ kr kr rfl
               ·refine lU tOk 1 kr ?_
                refine lF kr kr kr ?_
                refine AT.big1 tOk 4 kr kr ?_
                refine lV tOk [.rd] [] (laws_toFrame n x2 r24 er24) kr kr kr kr (.inl rfl) ?_
                refine lF kr kr kr ?_
                refine AT.big1 tOk 5 kr kr ?_
                refine lV tOk [.rd,.rd,.rd] [] (impl_Forward n r23 x1 r24 r25 er25) kr kr kr kr (.inl rfl) ?_
                refine lF kr kr kr ?_
                refine AT.movT tOk 6 (ty := 43) (t := 114) (d := 108) (g := none) [(true,(Bridge.row r25.1)),(false,[cL 5 r25.2 Out.row])] _ kr kr kr (.inl rfl) kr kr kr kr rfl (fun cx => ?_)
                refine aU tOk [(7,[]),(8,[])] 2 [⟨[4,5,10],32,5,112⟩,⟨[1,4,5,10],29,3,109⟩] [8,7,6,5,4,9,1,3,2,0] rfl kr (fun cx => ?_)
                refine AT.big1 tOk 10 kr kr ?_
                refine lU tOk 1 kr ?_
                refine lF kr kr kr ?_
                refine AT.big1 tOk 11 kr kr ?_
                refine LAt.moveU (T := lk tab) (ty := 42) (x := (.tmp 116)) (d := 18) (g := none) false [cL 5 r25.2 Out.row] kr kr kr kr kr ?_
                refine lF kr kr kr ?_
                exact AT.done [18,17,15,13,12,9,8] [17,12,8] _ kr kr rfl
              ·refine lU tOk 1 kr ?_
               refine lF kr kr kr ?_
               refine AT.big1 tOk 1 kr kr ?_
               refine lV tOk [.rd] [] (laws_toBridge n x0 r23 er23) kr kr kr kr (.inl rfl) ?_
               refine lF kr kr kr ?_
               refine AT.big1 tOk 4 kr kr ?_
               refine lV tOk [.rd] [] (laws_toFrame n x2 r24 er24) kr kr kr kr (.inl rfl) ?_
               refine lF kr kr kr ?_
               refine AT.big1 tOk 5 kr kr ?_
               refine lV tOk [.rd,.rd,.rd] [] (impl_Forward n r23 x1 r24 r25 er25) kr kr kr kr (.inl rfl) ?_
               refine lF kr kr kr ?_
               refine AT.movT tOk 6 (ty := 43) (t := 114) (d := 108) (g := none) [(true,(Bridge.row r25.1)),(false,[cL 5 r25.2 Out.row])] _ kr kr kr (.inl rfl) kr kr kr kr rfl (fun cx => ?_)
               refine aU tOk [(7,[]),(8,[])] 2 [⟨[4,5,10],32,5,112⟩,⟨[1,4,5,10],29,3,109⟩] [8,7,6,5,4,1,9,3,2,0] rfl kr (fun cx => ?_)
               refine AT.big1 tOk 10 kr kr ?_
               refine lU tOk 1 kr ?_
               refine lF kr kr kr ?_
               refine AT.big1 tOk 11 kr kr ?_
               refine LAt.moveU (T := lk tab) (ty := 42) (x := (.tmp 116)) (d := 18) (g := none) false [cL 5 r25.2 Out.row] kr kr kr kr kr ?_
               refine lF kr kr kr ?_
               exact AT.done [18,17,15,13,12,9,8] [17,12,8] _ kr kr rfl
             refine tS ?_
             refine rU tOk 2 kr ?_
             obtain ⟨r26,er26,H⟩ := bind_some H
             refine lV tOk [.rd,.rd] [.box 17,.box 8] (laws_eqBridge n r25.1 r5.1 r26 er26) kr kr kr kr (.inr (rets_cons (mine_cons mine_lit mine_nil) rets_nil)) ?_
             refine lU tOk 2 kr ?_
             refine lT ⟨140,0,[sB 121 (!r26),sB 120 (!r26),sB 119 r26,sR 118 8 11 0 11 true,sR 117 17 11 0 11 true,sC 18 (cL 5 r25.2 Out.row),sA 17 17 11 0,sI 15 r20.1,sC 13 (cL 5 r20.2 Out.row),sA 12 12 11 0,sC 9 (cL 5 r5.2 Out.row),sA 8 8 11 0],[(17,(Bridge.row r25.1)),(12,(Bridge.row r19.2)),(8,(Bridge.row r5.1))]⟩ kr ?_
             cases h13 : (!r26)
             ·have H := bifF h13 H
              refine lU tOk 2 kr ?_
              obtain ⟨r27,er27,H⟩ := bind_some H
              refine lV tOk [.rd,.rd] [.slot 18,.slot 9] (laws_eqOutS n r25.2 r5.2 r27 er27) kr kr kr kr (.inr (rets_cons (mine_cons mine_lit mine_nil) rets_nil)) ?_
              refine uD tOk 2 0x4000000000000000000000000000b000 4096 kr kr ?_
              obtain ⟨h14,H⟩ | ⟨h14,H⟩ := bC H
              ·refine tF h14 kr ?_
               refine tK ?_
               refine tG tOk 1 110592 4096 kr kr ?_
               refine rU tOk 2 kr ?_
               obtain ⟨r28,er28,H⟩ := bind_some H
               refine lV tOk [.rd,.rd] [.box 12] (laws_heldBridge n r19.2 1 r28 er28) kr kr kr kr (.inr (rets_cons (mine_cons mine_lit mine_nil) rets_nil)) ?_
               refine uD tOk 1 106496 0 kr kr ?_
               refine tS ?_
               refine tG tOk 2 0x80000000000000000000000000001a000 0 kr kr ?_
               obtain ⟨h15,H⟩ | ⟨h15,H⟩ := bC H
               ·refine tF h15 kr ?_
                refine tK ?_
                refine rU tOk 2 kr ?_
                obtain ⟨r29,er29,H⟩ := bind_some H
                refine lV tOk [.rd,.rd] [.slot 13] (laws_heldOutS n r20.2 r28 r29 er29) kr kr kr kr (.inr (rets_cons (mine_cons mine_lit mine_nil) rets_nil)) ?_
                refine uD tOk 1 98304 0 kr kr ?_
                refine tS ?_
                refine tG tOk 2 0x10000000000000000000000000000018000 0 kr kr ?_
                obtain ⟨h16,H⟩ | ⟨h16,H⟩ := bC H
                ·refine tF h16 kr ?_
                 refine tK ?_
                 refine tS ?_
                 refine tG tOk 3 0x80000000000000000000000000000000000 0 kr kr ?_
                 obtain ⟨h17,H⟩ | ⟨h17,H⟩ := bC H
                 ·refine tF h17 kr ?_
                  refine tK ?_
                  refine tG tOk 1 64 0 kr kr ?_
                  exact te (by obtain rfl := si H; exact fO [(false,[cB true])] kr rfl rfl)
                 refine tT h17 kr ?_
                 refine tG tOk 1 64 0 kr kr ?_
                 exact te (by obtain rfl := si H; exact fO [(false,[cB false])] kr rfl rfl)
                refine tT h16 kr ?_
                refine tG tOk 1 64 0 kr kr ?_
                exact te (by obtain rfl := si H; exact fO [(false,[cB false])] kr rfl rfl)
               refine tT h15 kr ?_
               refine tG tOk 1 64 0 kr kr ?_
               exact te (by obtain rfl := si H; exact fO [(false,[cB false])] kr rfl rfl)
              refine tT h14 kr ?_
              refine tG tOk 1 64 0 kr kr ?_
              exact te (by obtain rfl := si H; exact fO [(false,[cB false])] kr rfl rfl)
             have H := bifT h13 H
             refine uD tOk 5 0x4000000000000000000000000000b000 4096 kr kr ?_
             refine tt kr ?_
             refine tG tOk 1 64 0 kr kr ?_
             exact te (by obtain rfl := si H; exact fO [(false,[cB false])] kr rfl rfl)
            have H := bifT h12 H
            refine tt kr ?_
            refine tG tOk 1 64 0 kr kr ?_
            exact te (by obtain rfl := si H; exact fO [(false,[cB false])] kr rfl rfl)
           refine tT h11 kr ?_
           refine tG tOk 1 64 0 kr kr ?_
           exact te (by obtain rfl := si H; exact fO [(false,[cB false])] kr rfl rfl)
          refine tT h10 kr ?_
          refine tG tOk 1 64 0 kr kr ?_
          exact te (by obtain rfl := si H; exact fO [(false,[cB false])] kr rfl rfl)
         refine tT h9 kr ?_
         refine tG tOk 1 64 0 kr kr ?_
         exact te (by obtain rfl := si H; exact fO [(false,[cB false])] kr rfl rfl)
        have H := bifT h8 H
        refine uD tOk 5 0x1000000000000000000332a 4392 kr kr ?_
        refine tt kr ?_
        refine tG tOk 1 64 0 kr kr ?_
        exact te (by obtain rfl := si H; exact fO [(false,[cB false])] kr rfl rfl)
       have H := bifT h7 H
       refine uD tOk 11 0x1000000000000000000332a 4392 kr kr ?_
       refine tt kr ?_
       refine tG tOk 1 64 0 kr kr ?_
       exact te (by obtain rfl := si H; exact fO [(false,[cB false])] kr rfl rfl)
      have H := bifT h6 H
      refine tt kr ?_
      refine tG tOk 1 64 0 kr kr ?_
      exact te (by obtain rfl := si H; exact fO [(false,[cB false])] kr rfl rfl)
     have H := bifT h5 H
     refine tt kr ?_
     refine tG tOk 1 64 0 kr kr ?_
     exact te (by obtain rfl := si H; exact fO [(false,[cB false])] kr rfl rfl)
    refine tT h4 kr ?_
    refine tG tOk 1 64 0 kr kr ?_
    exact te (by obtain rfl := si H; exact fO [(false,[cB false])] kr rfl rfl)
   have H := bifT h3 H
   refine uD tOk 5 0x400000000003f2a 7464 kr kr ?_
   refine tt kr ?_
   refine tG tOk 1 64 0 kr kr ?_
   exact te (by obtain rfl := si H; exact fO [(false,[cB false])] kr rfl rfl)
  refine tT h2 kr ?_
  refine tG tOk 1 64 0 kr kr ?_
  exact te (by obtain rfl := si H; exact fO [(false,[cB true])] kr rfl rfl)
 refine tT h1 kr ?_
 refine tG tOk 1 64 0 kr kr ?_
 exact te (by obtain rfl := si H; exact fO [(false,[cB true])] kr rfl rfl)
end Go.Proofs.YtcegokjpmppdbaaGreat.Tw
