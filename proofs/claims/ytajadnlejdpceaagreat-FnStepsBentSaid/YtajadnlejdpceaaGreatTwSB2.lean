import Derived.Test.YtajadnlejdpceaaGreatProg
import Derived.Test.YtajadnlejdpceaaGreatTlRule
import Derived.Test.YtajadnlejdpceaaGreatTlU15
import Derived.Test.YtajadnlejdpceaaGreatTwSB1
import Derived.WalkKit
set_option linter.unusedVariables false
set_option linter.unusedSimpArgs false
set_option maxRecDepth 100000
set_option maxHeartbeats 1000000
namespace Go.Proofs.YtajadnlejdpceaaGreat.Tw
open Go Go.TL Go.Proofs
def YG (n : Nat) (r3 : zA) (r4 : ByteArray × Src) (r5 : (List Pt) × Src) (r6 : zD × Src) (y17 : (List Int)) (y18 : Int) (y19 : Int) (y20 : (List zB)) : Option (zA × Src) :=
  ((zG n (⟨y17,y18,y19⟩ : Src) 5).bind fun r21 => ((zX n r21.2 [0,1,5,1000000]).bind fun r22 => (some ((⟨r3.Id,r4.1,r5.1,y20,r6.1,r21.1,r3.Pa,r3.Wo,r3.Dr,r22.1⟩ : zA),r22.2))))
def Y3 (n : Nat) (r1 : Int × Src) (r3 : zA) (r4 : ByteArray × Src) (r5 : (List Pt) × Src) (r6 : zD × Src) (y13 : (List Int)) (y14 : Int) (y15 : Int) (y16 : (List zB)) : Option (zA × Src) :=
  ((QC n (⟨y13,y14,y15⟩ : Src) 3).bind fun r23 => (bif r23.1 then ((JL n r23.2).bind fun r24 => ((zG n r24.2 (IntKind.wrap .i64 (1 + r1.1))).bind fun r25 => ((Y1 n y16 1 r24.1 r25.1).bind fun r26 => (YG n r3 r4 r5 r6 r25.2.b r25.2.i r25.2.h r26.1)))) else (YG n r3 r4 r5 r6 r23.2.b r23.2.i r23.2.h y16)))
def QX (n : Nat) : Nat → Int × Src → Int → (List Int) → Int → Int → (List zB) → Option (((List Int) × Int × Int × (List zB)) ⊕ (zA × Src))
  | 0,_,_,_,_,_,_ => none
  | mo27 + 1,r1,y8,y9,y10,y11,y12 => (bif (decide (y8 > 0)) then ((zG n (⟨y9,y10,y11⟩ : Src) 3).bind fun r28 => ((JL n r28.2).bind fun r29 => ((zG n r29.2 (IntKind.wrap .i64 (1 + r1.1))).bind fun r30 => ((zBA n y12 (IntKind.wrap .i64 (1 + r28.1)) r29.1 r30.1).bind fun r31 => (QX n mo27 r1 (IntKind.wrap .i64 (y8 - 1)) r30.2.b r30.2.i r30.2.h r31))))) else (some (Sum.inl (y9,y10,y11,y12))))
def zA0 (n : Nat) (x0 : Src) : Option (zA × Src) :=
  ((zG n x0 4).bind fun r1 => ((zG n r1.2 5).bind fun r2 => ((qo n (IntKind.wrap .i64 (1 + r2.1)) (IntKind.wrap .i64 (1 + r1.1))).bind fun r3 => ((JK n r2.2 [(⟨#[]⟩ : ByteArray),(⟨#[121,97,114,100]⟩ : ByteArray),(⟨#[98,49]⟩ : ByteArray)]).bind fun r4 => ((YT n r4.2 (IntKind.wrap .i64 (1 + r1.1))).bind fun r5 => ((zAZ n r5.2 (IntKind.wrap .i64 (1 + r1.1))).bind fun r6 => ((zG n r6.2 6).bind fun r7 => ((QX n n r1 r7.1 r7.2.b r7.2.i r7.2.h r3.F).bind fun o => match o with | .inl (y13,y14,y15,y16) => (Y3 n r1 r3 r4 r5 r6 y13 y14 y15 y16) | .inr r => some r))))))))
def zPy : Tab := ⟨13,[0,1,0,4,8,0,40,0,0,448,594,2047,4095],[0,1,0,4,8,0,32,0,0,384,594,0,3072],[0,1,0,4,12,0,44,0,0,492,1023,2047,4095]⟩
noncomputable abbrev zDm (k : Nat) := Rg Tryz.f150 k
noncomputable abbrev zPT (k : Nat) := Rd Tryz.f150 k
theorem zDC : zc (rg Tryz.f150 9) zPy = true := kr
def zO3 : Tab := ⟨13,[0,1,0,4,0,0,56,74,128,256,256,1023,3071],[0,1,0,4,0,0,48,74,128,256,256,0,2560],[0,1,0,4,0,0,60,127,255,511,511,1023,3071]⟩
theorem zBy : zc (rg Tryz.f150 11) zO3 = true := kr
theorem zMN (n : Nat) (x0 : Src) (r : zA × Src) (H : zA0 n x0 = some r) : zE Tryz.prog 150 [.ptr (fR (Src.row x0))] [.val true (zA.row r.1)] [(0,(fR (Src.row r.2)))] := by
 refine zE.of_body tOk Tryz.func150 rfl (c := (.seq (zDm 0) (.seq (zDm 1) (.seq (zDm 2) (.seq (zDm 3) (.seq (zDm 4) (.seq (zDm 5) (.seq (.seq (zDm 6) (.block 0 (.loop (.seq (.seq (zDm 7) (.cond (.tmp 29) .skip (.exit 0))) (.seq (.block 1 (zPT 9)) (zDm 8)))))) (.seq (.seq (zDm 10) (.cond (.tmp 45) (zPT 11) .skip)) (.seq (zDm 12) (.seq (zDm 13) (.seq (zDm 14) .ret)))))))))))) kr (Nat.le_of_ble_eq_true kr) 1 (rs := [.cell 2 31]) rfl [] .nil [(true,(zA.row r.1))] [] [(0,(fR (Src.row r.2)))] fun cx=>?_
 show Tr _ _ _ ⟨66,1,[sA 0 0 3 0],[(0,(fR (Src.row x0)))]⟩ _
 unfold zA0 at H
 refine gA 1 5 5<|rA 1<|bE H fun r1 er1 H=> vL [.lend,.rd] (zL n x0 4 r1 er1)<|uA 2 13 5<|rA 1<|bE H fun r2 er2 H=> vL [.lend,.rd] (zL n r1.2 5 r2 er2)<|lA 2<|bE H fun r3 er3 H=> vA [.rd,.rd] (zGd n (wI (1 + r2.1)) (wI (1 + r1.1)) r3 er3)<|uA 2 29 21<|rA 2<|bE H fun r4 er4 H=> vL [.lend,.rd] (zKD n r2.2 [(⟨#[]⟩ : ByteArray),(⟨#[121,97,114,100]⟩ : ByteArray),(⟨#[98,49]⟩ : ByteArray)] r4 er4)<|uA 2 29 21<|rA 2<|bE H fun r5 er5 H=> vL [.lend,.rd] (zIB n r4.2 (wI (1 + r1.1)) r5 er5)<|uA 2 29 21<|rA 2<|bE H fun r6 er6 H=> vL [.lend,.rd] (zIu n r5.2 (wI (1 + r1.1)) r6 er6)<|uA 2 29 21<|tS<|rA 1<|bE H fun r7 er7 H=> vL [.lend,.rd] (zL n r6.2 6 r7 er7)<|uA 1 61 21 ?_
 obtain ⟨o27,eo27,Ho27⟩ := bs H
 clear H
 refine Tr.mid (ι := (List Int) × Int × Int × (List zB)) (fun v => ⟨66,1,[sA 4 4 11 0,sI 3 (wI (1 + r1.1)),sA 2 2 11 0,sA 0 0 3 0],[(0,[cF 1 v.1 zZ,cI v.2.1,cI v.2.2.1]),(4,[cI r3.Id,cS r4.1,cL 8 r5.1 Pt.row,cL 5 v.2.2.2 zB.row,cL 3 r6.1.Rows zC.row,cL 1 r6.1.Pv intRow,cI r3.Tk,cI r3.Pa,cI r3.Wo,cI r3.Dr,cI r3.Ve]),(2,[cI 0,cS (⟨#[]⟩ : ByteArray),cL 8 ([] : List Pt) Pt.row,cL 5 ([] : List zB) zB.row,cL 3 ([] : List zC) zC.row,cL 1 ([] : List Int) intRow,cI 0,cI 0,cI 0,cI 0,cI 0])]⟩) (fun v => Y3 n r1 r3 r4 r5 r6 v.1 v.2.1 v.2.2.1 v.2.2.2 = some r) ?_ ?_
 ·refine tB<|Tr.loop (ι := Nat × (Int × (List Int) × Int × Int × (List zB))) (fun v => ⟨66,1,[sI 5 v.2.1,sA 4 4 11 0,sI 3 (wI (1 + r1.1)),sA 2 2 11 0,sA 0 0 3 0],[(0,[cF 1 v.2.2.1 zZ,cI v.2.2.2.1,cI v.2.2.2.2.1]),(4,[cI r3.Id,cS r4.1,cL 8 r5.1 Pt.row,cL 5 v.2.2.2.2.2 zB.row,cL 3 r6.1.Rows zC.row,cL 1 r6.1.Pv intRow,cI r3.Tk,cI r3.Pa,cI r3.Wo,cI r3.Dr,cI r3.Ve]),(2,[cI 0,cS (⟨#[]⟩ : ByteArray),cL 8 ([] : List Pt) Pt.row,cL 5 ([] : List zB) zB.row,cL 3 ([] : List zC) zC.row,cL 1 ([] : List Int) intRow,cI 0,cI 0,cI 0,cI 0,cI 0])]⟩) (fun v => QX n v.1 r1 v.2.1 v.2.2.1 v.2.2.2.1 v.2.2.2.2.1 v.2.2.2.2.2 = some o27) (fun v => v.1) (n,(r7.1,r7.2.b,r7.2.i,r7.2.h,r3.F)) eo27 (St.sub_of [5,4,3,2,0] [0,4,2] kr) ?_
  rintro ⟨_ | mo27,y8,y9,y10,y11,y12⟩ H
  ·exact nN H
  have H : QX n (mo27+1) r1 y8 y9 y10 y11 y12 = some o27 := H
  rw [QX] at H
  refine tS<|gA 2 536870973 21 ?_
  obtain ⟨h2,H⟩ | ⟨h2,H⟩ := bC H
  ·refine nA h2<|Tr.exit<|aJ ?_
   cases H
   exact jA (y9,y10,y11,y12) Ho27 [4,3,2,0] [0,4,2]
  refine tA h2<|tK<|tS<|tB<|bE H fun r28 er28 H=> bE H fun r29 er29 H=> bE H fun r30 er30 H=> bE H fun r31 er31 H=> Tr.draw mixed 13 kr ⟨66,1,[sI 5 y8,sA 4 4 11 0,sI 3 (wI (1 + r1.1)),sA 2 2 11 0,sA 0 0 3 0],[(4,[cI r3.Id,cS r4.1,cL 8 r5.1 Pt.row,cL 5 r31 zB.row,cL 3 r6.1.Rows zC.row,cL 1 r6.1.Pv intRow,cI r3.Tk,cI r3.Pa,cI r3.Wo,cI r3.Dr,cI r3.Ve]),(0,(fR (Src.row r30.2))),(2,[cI 0,cS (⟨#[]⟩ : ByteArray),cL 8 ([] : List Pt) Pt.row,cL 5 ([] : List zB) zB.row,cL 3 ([] : List zC) zC.row,cL 1 ([] : List Int) intRow,cI 0,cI 0,cI 0,cI 0,cI 0])]⟩ (fun cx=>?_) ?_
  ·exact mA zDC ([(0,[]),(1,[10,12])]++zl [2,5,7,8]) 7 [⟨[10,12],25,32,33⟩] fun cx=>mC zDC 3<|vL [.lend,.rd] (zL n (⟨y9,y10,y11⟩ : Src) 3 r28 er28)<|fA<|mA zDC [(4,[])] 5 [⟨[10,12],25,32,33⟩] fun cx=>mC zDC 6<|vL [.lend] (zFJ n r28.2 r29 er29)<|fA<|mC zDC 9<|vL [.lend,.rd] (zL n r29.2 (wI (1 + r1.1)) r30 er30)<|fA<|mC zDC 10<|vB [.rd,.rd,.rd,.rd] [.box 4] (zJ1 n y12 (wI (1 + r28.1)) r29.1 r30.1 r31 er31) (.inr (zM (zJ (Q6 (Zv zB.row_mine _)) zg) zT))<|fA<|mA zDC [(11,[])] 1 [⟨[10,12],25,32,33⟩] fun cx=>mC zDC 12<|lA 1<|fA<|mE zDC [5,4,3,2,0] [4,0,2]
  exact eA 3 61 21<|jB mo27 ((wI (y8 - 1)),r30.2.b,r30.2.i,r30.2.h,r31) H [5,4,3,2,0] [0,4,2]
 rintro ⟨y13,y14,y15,y16⟩ H
 have H : (Y3 n r1 r3 r4 r5 r6 y13 y14 y15 y16) = some r := H
 unfold Y3 at H
 refine tS<|Tr.mid (ι := (List Int) × Int × Int × (List zB)) (fun v => ⟨66,1,[sA 4 4 11 0,sA 2 2 11 0,sA 0 0 3 0],[(0,[cF 1 v.1 zZ,cI v.2.1,cI v.2.2.1]),(4,[cI r3.Id,cS r4.1,cL 8 r5.1 Pt.row,cL 5 v.2.2.2 zB.row,cL 3 r6.1.Rows zC.row,cL 1 r6.1.Pv intRow,cI r3.Tk,cI r3.Pa,cI r3.Wo,cI r3.Dr,cI r3.Ve]),(2,[cI 0,cS (⟨#[]⟩ : ByteArray),cL 8 ([] : List Pt) Pt.row,cL 5 ([] : List zB) zB.row,cL 3 ([] : List zC) zC.row,cL 1 ([] : List Int) intRow,cI 0,cI 0,cI 0,cI 0,cI 0])]⟩) (fun v => YG n r3 r4 r5 r6 v.1 v.2.1 v.2.2.1 v.2.2.2 = some r) ?_ ?_
 ·refine rA 1<|bE H fun r23 er23 H=> vL [.lend,.rd] (zCa n (⟨y13,y14,y15⟩ : Src) 3 r23 er23)<|dA 35184372088861 21 ?_
  cases h1 : r23.1
  ·have H := qe h1 H
   exact nB_<|tK<|jA (r23.2.b,r23.2.i,r23.2.h,y16) H [4,2,0] [0,4,2]
  have H := qf h1 H
  refine tB_<|bE H fun r24 er24 H=> bE H fun r25 er25 H=> bE H fun r26 er26 H=> Tr.draw mixed 13 kr ⟨66,1,[sA 4 4 11 0,sA 2 2 11 0,sA 0 0 3 0],[(4,[cI r3.Id,cS r4.1,cL 8 r5.1 Pt.row,cL 5 r26.1 zB.row,cL 3 r6.1.Rows zC.row,cL 1 r6.1.Pv intRow,cI r3.Tk,cI r3.Pa,cI r3.Wo,cI r3.Dr,cI r3.Ve]),(0,(fR (Src.row r25.2))),(2,[cI 0,cS (⟨#[]⟩ : ByteArray),cL 8 ([] : List Pt) Pt.row,cL 5 ([] : List zB) zB.row,cL 3 ([] : List zC) zC.row,cL 1 ([] : List Int) intRow,cI 0,cI 0,cI 0,cI 0,cI 0])]⟩ (fun cx=>?_) ?_
  ·refine mA zBy ([(0,[]),(1,[7,12])]++zl [2,4,5]) 8 [⟨[7,12],25,47,48⟩] fun cx=>mC zBy 3<|vL [.lend] (zFJ n r23.2 r24 er24)<|fA<|mC zBy 6<|vL [.lend,.rd] (zL n r24.2 (wI (1 + r1.1)) r25 er25)<|fA<|mC zBy 7<|vB [.rd,.rd,.rd,.rd] [.box 4] (zGf n y16 1 r24.1 r25.1 r26 er26) (.inr (zM (zJ (Q6 (Zv zB.row_mine _)) zg) (zM (zJ zN zg) zT)))<|fA<|AT.movT tOk 8 (ty := 173) (t := 54) (d := 46) (g := none) [(false,[cL 5 r26.1 zB.row]),(false,[cB r26.2])] _ kr (oM zBy kr) (dM zBy kr) (.inl rfl) kr kr kr kr rfl (fun cx=>?_)
   exact mA zBy (zl [9,10,11]) 1 [⟨[7,12],25,47,48⟩] fun cx=>mC zBy 12<|lA 1<|fA<|mE zBy [4,2,0] [4,0,2]
  exact jA (r25.2.b,r25.2.i,r25.2.h,r26.1) H [4,2,0] [0,4,2]
 rintro ⟨y17,y18,y19,y20⟩ H
 have H : (YG n r3 r4 r5 r6 y17 y18 y19 y20) = some r := H
 unfold YG at H
 exact rA 1<|bE H fun r21 er21 H=> vL [.lend,.rd] (zL n (⟨y17,y18,y19⟩ : Src) 5 r21 er21)<|uA 2 21 21<|rA 2<|bE H fun r22 er22 H=> vL [.lend,.rd] (zj n r21.2 [0,1,5,1000000] r22 er22)<|uA 2 21 21<|gA 2 5 5<|te<|fY [(true,[cI r3.Id,cS r4.1,cL 8 r5.1 Pt.row,cL 5 y20 zB.row,cL 3 r6.1.Rows zC.row,cL 1 r6.1.Pv intRow,cI r21.1,cI r3.Pa,cI r3.Wo,cI r3.Dr,cI r22.1])] [(0,(fR (Src.row r22.2)))] H
def zBB (n : Nat) (x0 : Src) : Option (Vec × Src) :=
  ((zAY n x0).bind fun r1 => ((zG n r1.2 12).bind fun r2 => (bif (r2.1 == 0) then ((zX n r2.2 [0,99,100]).bind fun r6 => (some ((⟨r6.1,r1.1.Co,r1.1.Hops,r1.1.Bridge,r1.1.Port⟩ : Vec),r6.2))) else (bif (r2.1 == 1) then ((zX n r2.2 [(-1),99999,100000,100001]).bind fun r5 => (some ((⟨r1.1.Root,r5.1,r1.1.Hops,r1.1.Bridge,r1.1.Port⟩ : Vec),r5.2))) else (bif (r2.1 == 2) then ((zX n r2.2 [(-1),11]).bind fun r4 => (some ((⟨r1.1.Root,r1.1.Co,r4.1,r1.1.Bridge,r1.1.Port⟩ : Vec),r4.2))) else (bif (r2.1 == 3) then ((zX n r2.2 [(-1),7,8]).bind fun r3 => (some ((⟨r1.1.Root,r1.1.Co,r1.1.Hops,r1.1.Bridge,r3.1⟩ : Vec),r3.2))) else (some (r1.1,r2.2))))))))
noncomputable abbrev G79 (k : Nat) := Rg Tryz.f79 k
theorem zKE (n : Nat) (x0 : Src) (r : Vec × Src) (H : zBB n x0 = some r) : zE Tryz.prog 79 [.ptr (fR (Src.row x0))] [.val true (Vec.row r.1)] [(0,(fR (Src.row r.2)))] := by
 refine zE.of_body tOk Tryz.func79 rfl (c := (.seq (G79 0) (.seq (G79 1) (.seq (.seq (G79 2) (.block 0 (.seq (G79 3) (.cond (.tmp 8) (G79 4) (.seq (G79 5) (.cond (.tmp 14) (G79 6) (.seq (G79 7) (.cond (.tmp 20) (G79 8) (.seq (G79 9) (.cond (.tmp 26) (G79 10) .skip)))))))))) (.seq (G79 11) .ret))))) kr (Nat.le_of_ble_eq_true kr) 1 (rs := [.cell 2 33]) rfl [] .nil [(true,(Vec.row r.1))] [] [(0,(fR (Src.row r.2)))] fun cx=>?_
 show Tr _ _ _ ⟨33,1,[sA 0 0 3 0],[(0,(fR (Src.row x0)))]⟩ _
 unfold zBB at H
 refine gA 1 5 5<|rA 1<|bE H fun r1 er1 H=> vL [.lend] (zIt n x0 r1 er1)<|uA 2 13 13<|tS<|rA 1<|bE H fun r2 er2 H=> vL [.lend,.rd] (zL n r1.2 12 r2 er2)<|dA 141 13<|tB<|gA 2 397 13 ?_
 obtain ⟨h1,H⟩ | ⟨h1,H⟩ := bC H
 ·refine nA h1<|gA 2 16525 13 ?_
  obtain ⟨h2,H⟩ | ⟨h2,H⟩ := bC H
  ·refine nA h2<|gA 2 1048717 13 ?_
   obtain ⟨h3,H⟩ | ⟨h3,H⟩ := bC H
   ·refine nA h3<|gA 2 67108877 13 ?_
    obtain ⟨h4,H⟩ | ⟨h4,H⟩ := bC H
    ·exact nA h4<|tK<|gA 2 5 5<|te<|fY [(true,(Vec.row r1.1))] [(0,(fR (Src.row r2.2)))] H
    exact tA h4<|Tr.at<|lA 2<|bE H fun r3 er3 H=> vL [.lend,.rd] (zj n r2.2 [(-1),7,8] r3 er3)<|uA 2 13 13<|gA 2 5 5<|te<|fY [(true,[cI r1.1.Root,cI r1.1.Co,cI r1.1.Hops,cI r1.1.Bridge,cI r3.1])] [(0,(fR (Src.row r3.2)))] H
   exact tA h3<|Tr.at<|lA 2<|bE H fun r4 er4 H=> vL [.lend,.rd] (zj n r2.2 [(-1),11] r4 er4)<|uA 2 13 13<|gA 2 5 5<|te<|fY [(true,[cI r1.1.Root,cI r1.1.Co,cI r4.1,cI r1.1.Bridge,cI r1.1.Port])] [(0,(fR (Src.row r4.2)))] H
  exact tA h2<|Tr.at<|lA 2<|bE H fun r5 er5 H=> vL [.lend,.rd] (zj n r2.2 [(-1),99999,100000,100001] r5 er5)<|uA 2 13 13<|gA 2 5 5<|te<|fY [(true,[cI r1.1.Root,cI r5.1,cI r1.1.Hops,cI r1.1.Bridge,cI r1.1.Port])] [(0,(fR (Src.row r5.2)))] H
 exact tA h1<|Tr.at<|lA 2<|bE H fun r6 er6 H=> vL [.lend,.rd] (zj n r2.2 [0,99,100] r6 er6)<|uA 2 13 13<|gA 2 5 5<|te<|fY [(true,[cI r6.1,cI r1.1.Co,cI r1.1.Hops,cI r1.1.Bridge,cI r1.1.Port])] [(0,(fR (Src.row r6.2)))] H
def zBq (n : Nat) (x0 : Src) : Option ((List Pt) × Src) :=
  ((zG n x0 4).bind fun r1 => ((YT n r1.2 (IntKind.wrap .i64 (1 + r1.1))).bind fun r2 => ((zG n r2.2 12).bind fun r3 => (bif (r3.1 == 0) then ((zBB n r3.2).bind fun r7 => ((idx r2.1 0).bind fun v8 => (some ((r2.1.set (((0 : Int)).toNat) (⟨v8.Up,v8.Co,v8.Has,r7.1⟩ : Pt)),r7.2)))) else (bif (r3.1 == 1) then ((zX n r3.2 [0,1000,1001]).bind fun r5 => ((idx r2.1 0).bind fun v6 => (some ((r2.1.set (((0 : Int)).toNat) (⟨v6.Up,r5.1,v6.Has,v6.Hd⟩ : Pt)),r5.2)))) else (bif (r3.1 == 2) then ((idx r2.1 0).bind fun v4 => (some ((r2.1.set (((0 : Int)).toNat) (⟨false,v4.Co,v4.Has,v4.Hd⟩ : Pt)),r3.2))) else (some (r2.1,r3.2))))))))
noncomputable abbrev zGJ (k : Nat) := Rg Tryz.f152 k
theorem zMl (n : Nat) (x0 : Src) (r : (List Pt) × Src) (H : zBq n x0 = some r) : zE Tryz.prog 152 [.ptr (fR (Src.row x0))] [.val false [.sl true 8 (r.1.map Pt.row)]] [(0,(fR (Src.row r.2)))] := by
 refine zE.of_body tOk Tryz.func152 rfl (c := (.seq (zGJ 0) (.seq (zGJ 1) (.seq (.seq (zGJ 2) (.block 0 (.seq (zGJ 3) (.cond (.tmp 11) (zGJ 4) (.seq (zGJ 5) (.cond (.tmp 18) (zGJ 6) (.seq (zGJ 7) (.cond (.tmp 26) (zGJ 8) .skip)))))))) (.seq (zGJ 9) .ret))))) kr (Nat.le_of_ble_eq_true kr) 1 (rs := [.tmp 2]) rfl [] .nil [(false,[.sl true 8 (r.1.map Pt.row)])] [] [(0,(fR (Src.row r.2)))] fun cx=>?_
 show Tr _ _ _ ⟨32,1,[sA 0 0 3 0],[(0,(fR (Src.row x0)))]⟩ _
 unfold zBq at H
 refine gA 1 1 1<|rA 2<|bE H fun r1 er1 H=> vL [.lend,.rd] (zL n x0 4 r1 er1)<|lA 1<|bE H fun r2 er2 H=> vL [.lend,.rd] (zIB n r1.2 (wI (1 + r1.1)) r2 er2)<|LAt.moveU (T := lk tab) (ty := 24) (x := (.tmp 8)) (d := 3) (g := none) false [cL 8 r2.1 Pt.row] kr kr kr kr kr<|dA 9 1<|tS<|rA 1<|bE H fun r3 er3 H=> vL [.lend,.rd] (zL n r2.2 12 r3 er3)<|dA 1033 1<|tB<|gA 2 3081 1 ?_
 obtain ⟨h1,H⟩ | ⟨h1,H⟩ := bC H
 ·refine nA h1<|gA 2 263177 1 ?_
  obtain ⟨h2,H⟩ | ⟨h2,H⟩ := bC H
  ·refine nA h2<|gA 2 67108873 1 ?_
   obtain ⟨h3,H⟩ | ⟨h3,H⟩ := bC H
   ·exact nA h3<|tK<|gA 2 13 1<|te<|fY [(false,[cL 8 r2.1 Pt.row])] [(0,(fR (Src.row r3.2)))] H
   exact tA h3<|Tr.at<|lA 1<|bE H fun v4 ev4 H=> oA Pt.row ev4<|lA 1<|sS (tI 4) false [cB false] 3 0 (((0 : Int)).toNat) 8 0 8 Pt.row (⟨false,v4.Co,v4.Has,v4.Hd⟩ : Pt) (zK ev4).2<|dA 9 1<|gA 2 13 1<|te<|fY [(false,[cL 8 (r2.1.set (((0 : Int)).toNat) (⟨false,v4.Co,v4.Has,v4.Hd⟩ : Pt)) Pt.row])] [(0,(fR (Src.row r3.2)))] H
  exact tA h2<|Tr.at<|lA 3<|bE H fun r5 er5 H=> vL [.lend,.rd] (zj n r3.2 [0,1000,1001] r5 er5)<|bE H fun v6 ev6 H=> oA Pt.row ev6<|lA 1<|sS (tI 3) false [cI r5.1] 3 0 (((0 : Int)).toNat) 8 1 8 Pt.row (⟨v6.Up,r5.1,v6.Has,v6.Hd⟩ : Pt) (zK ev6).2<|dA 9 1<|gA 2 13 1<|te<|fY [(false,[cL 8 (r2.1.set (((0 : Int)).toNat) (⟨v6.Up,r5.1,v6.Has,v6.Hd⟩ : Pt)) Pt.row])] [(0,(fR (Src.row r5.2)))] H
 exact tA h1<|Tr.at<|lA 2<|bE H fun r7 er7 H=> vL [.lend] (zKE n r3.2 r7 er7)<|bE H fun v8 ev8 H=> oA Pt.row ev8<|lA 1<|sS (tI 33) true (Vec.row r7.1) 3 0 (((0 : Int)).toNat) 8 3 8 Pt.row (⟨v8.Up,v8.Co,v8.Has,r7.1⟩ : Pt) (zK ev8).2<|dA 9 1<|gA 2 13 1<|te<|fY [(false,[cL 8 (r2.1.set (((0 : Int)).toNat) (⟨v8.Up,v8.Co,v8.Has,r7.1⟩ : Pt)) Pt.row])] [(0,(fR (Src.row r7.2)))] H
def zCH (n : Nat) (y7 : (List zB)) (y8 : (List Int)) (y9 : Int) (y10 : Int) : Option ((List zB) × Src) :=
  (some (y7,(⟨y8,y9,y10⟩ : Src)))
def Zs (n : Nat) : Nat → Int → (List zB) → (List Int) → Int → Int → Option (((List zB) × (List Int) × Int × Int) ⊕ ((List zB) × Src))
  | 0,_,_,_,_,_ => none
  | mo11 + 1,y2,y3,y4,y5,y6 => (bif (decide (y2 > 0)) then ((zG n (⟨y4,y5,y6⟩ : Src) 6).bind fun r12 => (bif (r12.1 == 0) then ((zG n r12.2 3).bind fun r19 => ((JL n r19.2).bind fun r20 => ((zG n r20.2 4).bind fun r21 => ((Y1 n y3 (IntKind.wrap .i64 (1 + r19.1)) r20.1 r21.1).bind fun r22 => (Zs n mo11 (IntKind.wrap .i64 (y2 - 1)) r22.1 r21.2.b r21.2.i r21.2.h))))) else (bif (r12.1 == 1) then ((Yo n y3).bind fun r18 => (Zs n mo11 (IntKind.wrap .i64 (y2 - 1)) r18 r12.2.b r12.2.i r12.2.h)) else ((zG n r12.2 3).bind fun r13 => ((JL n r13.2).bind fun r14 => ((zG n r14.2 3).bind fun r15 => ((zG n r15.2 4).bind fun r16 => ((zBA n y3 (IntKind.wrap .i64 (1 + r13.1)) (IntKind.wrap .i64 (r14.1 + r15.1)) r16.1).bind fun r17 => (Zs n mo11 (IntKind.wrap .i64 (y2 - 1)) r17 r16.2.b r16.2.i r16.2.h))))))))) else (some (Sum.inl (y3,y4,y5,y6))))
def zBu (n : Nat) (x0 : Src) : Option ((List zB) × Src) :=
  ((zG n x0 10).bind fun r1 => ((Zs n n r1.1 ([] : List zB) r1.2.b r1.2.i r1.2.h).bind fun o => match o with | .inl (y7,y8,y9,y10) => (zCH n y7 y8 y9 y10) | .inr r => some r))
noncomputable abbrev zEo (k : Nat) := Rg Tryz.f186 k
theorem zMo (n : Nat) (x0 : Src) (r : (List zB) × Src) (H : zBu n x0 = some r) : zE Tryz.prog 186 [.ptr (fR (Src.row x0))] [.val false [.sl true 5 (r.1.map zB.row)]] [(0,(fR (Src.row r.2)))] := by
 refine zE.of_body tOk Tryz.func186 rfl (c := (.seq (zEo 0) (.seq (zEo 1) (.seq (.seq (zEo 2) (.block 0 (.loop (.seq (.seq (zEo 3) (.cond (.tmp 9) .skip (.exit 0))) (.seq (.block 1 (.seq (zEo 5) (.block 2 (.seq (zEo 7) (.cond (.tmp 26) (zEo 8) (.seq (zEo 9) (.cond (.tmp 40) (zEo 10) (zEo 6)))))))) (zEo 4)))))) (.seq (zEo 11) .ret))))) kr (Nat.le_of_ble_eq_true kr) 1 (rs := [.tmp 2]) rfl [] .nil [(false,[.sl true 5 (r.1.map zB.row)])] [] [(0,(fR (Src.row r.2)))] fun cx=>?_
 show Tr _ _ _ ⟨45,1,[sA 0 0 3 0],[(0,(fR (Src.row x0)))]⟩ _
 unfold zBu at H
 refine gA 1 1 1<|rA 1<|LAt.moveU (T := lk tab) (ty := 25) (x := (.tmp 5)) (d := 3) (g := none) false [cL 5 ([] : List zB) zB.row] kr kr kr kr kr<|dA 9 1<|tS<|rA 1<|bE H fun r1 er1 H=> vL [.lend,.rd] (zL n x0 10 r1 er1)<|uA 1 25 1 ?_
 obtain ⟨o11,eo11,Ho11⟩ := bs H
 clear H
 refine Tr.mid (ι := (List zB) × (List Int) × Int × Int) (fun v => ⟨45,1,[sC 3 (cL 5 v.1 zB.row),sA 0 0 3 0],[(0,[cF 1 v.2.1 zZ,cI v.2.2.1,cI v.2.2.2])]⟩) (fun v => zCH n v.1 v.2.1 v.2.2.1 v.2.2.2 = some r) ?_ ?_
 ·refine tB<|Tr.loop (ι := Nat × (Int × (List zB) × (List Int) × Int × Int)) (fun v => ⟨45,1,[sI 4 v.2.1,sC 3 (cL 5 v.2.2.1 zB.row),sA 0 0 3 0],[(0,[cF 1 v.2.2.2.1 zZ,cI v.2.2.2.2.1,cI v.2.2.2.2.2])]⟩) (fun v => Zs n v.1 v.2.1 v.2.2.1 v.2.2.2.1 v.2.2.2.2.1 v.2.2.2.2.2 = some o11) (fun v => v.1) (n,(r1.1,([] : List zB),r1.2.b,r1.2.i,r1.2.h)) eo11 (St.sub_of [4,3,0] [0] kr) ?_
  rintro ⟨_ | mo11,y2,y3,y4,y5,y6⟩ H
  ·exact nN H
  have H : Zs n (mo11+1) y2 y3 y4 y5 y6 = some o11 := H
  rw [Zs] at H
  refine tS<|gA 2 537 1 ?_
  obtain ⟨h1,H⟩ | ⟨h1,H⟩ := bC H
  ·refine nA h1<|Tr.exit<|aJ ?_
   cases H
   exact jA (y3,y4,y5,y6) Ho11 [3,0] [0]
  refine tA h1<|tK<|tS<|tB<|rA 1<|bE H fun r12 er12 H=> vL [.lend,.rd] (zL n (⟨y4,y5,y6⟩ : Src) 6 r12 er12)<|dA 8217 1<|tB<|gA 2 67117081 1 ?_
  obtain ⟨h2,H⟩ | ⟨h2,H⟩ := bC H
  ·refine nA h2<|gA 2 1099511627801 1 ?_
   obtain ⟨h3,H⟩ | ⟨h3,H⟩ := bC H
   ·exact nA h3<|Tr.at<|lA 2<|bE H fun r13 er13 H=> vL [.lend,.rd] (zL n r12.2 3 r13 er13)<|lA 2<|bE H fun r14 er14 H=> vL [.lend] (zFJ n r13.2 r14 er14)<|lA 1<|bE H fun r15 er15 H=> vL [.lend,.rd] (zL n r14.2 3 r15 er15)<|lA 2<|bE H fun r16 er16 H=> vL [.lend,.rd] (zL n r15.2 4 r16 er16)<|bE H fun r17 er17 H=> vB [.rd,.rd,.rd,.rd] [.slot 3] (zJ1 n y3 (wI (1 + r13.1)) (wI (r14.1 + r15.1)) r16.1 r17 er17) (.inr (zM (zJ (Q6 (Zv zB.row_mine _)) zg) zT))<|LAt.moveU (T := lk tab) (ty := 25) (x := (.tmp 25)) (d := 3) (g := none) false [cL 5 r17 zB.row] kr kr kr kr kr<|dA 25 1<|eA 3 25 1<|jB mo11 ((wI (y2 - 1)),r17,r16.2.b,r16.2.i,r16.2.h) H [4,3,0] [0]
   exact tA h3<|Tr.at<|lA 1<|bE H fun r18 er18 H=> vB [.rd] [.slot 3] (zIr n y3 r18 er18) (.inr (zM (zJ (Q6 (Zv zB.row_mine _)) zg) zT))<|LAt.moveU (T := lk tab) (ty := 25) (x := (.tmp 43)) (d := 3) (g := none) false [cL 5 r18 zB.row] kr kr kr kr kr<|dA 25 1<|eA 3 25 1<|jB mo11 ((wI (y2 - 1)),r18,r12.2.b,r12.2.i,r12.2.h) H [4,3,0] [0]
  exact tA h2<|Tr.at<|lA 2<|bE H fun r19 er19 H=> vL [.lend,.rd] (zL n r12.2 3 r19 er19)<|lA 2<|bE H fun r20 er20 H=> vL [.lend] (zFJ n r19.2 r20 er20)<|lA 1<|bE H fun r21 er21 H=> vL [.lend,.rd] (zL n r20.2 4 r21 er21)<|bE H fun r22 er22 H=> vB [.rd,.rd,.rd,.rd] [.slot 3] (zGf n y3 (wI (1 + r19.1)) r20.1 r21.1 r22 er22) (.inr (zM (zJ (Q6 (Zv zB.row_mine _)) zg) (zM (zJ zN zg) zT)))<|LAt.movT tOk (ty := 173) (t := 37) (d := 28) (g := none) [(false,[cL 5 r22.1 zB.row]),(false,[cB r22.2])] _ kr (.inl rfl) kr kr kr kr rfl<|lA 2<|LAt.moveU (T := lk tab) (ty := 25) (x := (.tmp 38)) (d := 3) (g := none) false [cL 5 r22.1 zB.row] kr kr kr kr kr<|dA 25 1<|eA 3 25 1<|jB mo11 ((wI (y2 - 1)),r22.1,r21.2.b,r21.2.i,r21.2.h) H [4,3,0] [0]
 rintro ⟨y7,y8,y9,y10⟩ H
 have H : (zCH n y7 y8 y9 y10) = some r := H
 unfold zCH at H
 exact gA 2 13 1<|te<|fY [(false,[cL 5 y7 zB.row])] [(0,[cF 1 y8 zZ,cI y9,cI y10])] H
def zCx (n : Nat) (y8 : (List zB)) (y9 : (List Int)) (y10 : Int) (y11 : Int) : Option ((List zB) × Src) :=
  (some (y8,(⟨y9,y10,y11⟩ : Src)))
def YW (n : Nat) : Nat → Int → (List zB) → (List Int) → Int → Int → Option (((List zB) × (List Int) × Int × Int) ⊕ ((List zB) × Src))
  | 0,_,_,_,_,_ => none
  | mo12 + 1,y3,y4,y5,y6,y7 => ((zG n (⟨y5,y6,y7⟩ : Src) 3).bind fun r13 => (bif (decide (y3 < (IntKind.wrap .i64 (11 + r13.1)))) then (bif (decide (y4.length + [(⟨50,(IntKind.wrap .i64 (100 + y3)),1,0,false⟩ : zB)].length ≤ 268435456)) then (YW n mo12 (IntKind.wrap .i64 (y3 + 1)) (y4 ++ [(⟨50,(IntKind.wrap .i64 (100 + y3)),1,0,false⟩ : zB)]) r13.2.b r13.2.i r13.2.h) else none) else (some (Sum.inl (y4,r13.2.b,r13.2.i,r13.2.h)))))
def zCb (n : Nat) (x0 : Src) : Option ((List zB) × Src) :=
  ((zBu n x0).bind fun r1 => ((zG n r1.2 12).bind fun r2 => (bif (r2.1 == 0) then ((zX n r2.2 [0,1,99,100]).bind fun r15 => ((zX n r15.2 [0,1,9999]).bind fun r16 => ((zX n r16.2 [(-1),7,8]).bind fun r17 => ((zX n r17.2 [(-1),4,5]).bind fun r18 => (bif (decide (r1.1.length + [(⟨r15.1,r16.1,r17.1,r18.1,false⟩ : zB)].length ≤ 268435456)) then (some ((r1.1 ++ [(⟨r15.1,r16.1,r17.1,r18.1,false⟩ : zB)]),r18.2)) else none))))) else (bif (r2.1 == 1) then ((YW n n 0 r1.1 r2.2.b r2.2.i r2.2.h).bind fun o => match o with | .inl (y8,y9,y10,y11) => (zCx n y8 y9 y10 y11) | .inr r => some r) else (some (r1.1,r2.2))))))
noncomputable abbrev zFO (k : Nat) := Rg Tryz.f153 k
theorem zNc (n : Nat) (x0 : Src) (r : (List zB) × Src) (H : zCb n x0 = some r) : zE Tryz.prog 153 [.ptr (fR (Src.row x0))] [.val false [.sl true 5 (r.1.map zB.row)]] [(0,(fR (Src.row r.2)))] := by
 refine zE.of_body tOk Tryz.func153 rfl (c := (.seq (zFO 0) (.seq (zFO 1) (.seq (.seq (zFO 2) (.block 0 (.seq (zFO 3) (.cond (.tmp 9) (zFO 4) (.seq (zFO 5) (.cond (.tmp 27) (.seq (zFO 6) (.block 1 (.loop (.seq (.seq (zFO 7) (.cond (.tmp 33) .skip (.exit 1))) (.seq (.block 2 (zFO 9)) (zFO 8)))))) .skip)))))) (.seq (zFO 10) .ret))))) kr (Nat.le_of_ble_eq_true kr) 1 (rs := [.tmp 2]) rfl [] .nil [(false,[.sl true 5 (r.1.map zB.row)])] [] [(0,(fR (Src.row r.2)))] fun cx=>?_
 show Tr _ _ _ ⟨43,1,[sA 0 0 3 0],[(0,(fR (Src.row x0)))]⟩ _
 unfold zCb at H
 refine gA 1 1 1<|rA 1<|bE H fun r1 er1 H=> vL [.lend] (zMo n x0 r1 er1)<|LAt.moveU (T := lk tab) (ty := 25) (x := (.tmp 6)) (d := 3) (g := none) false [cL 5 r1.1 zB.row] kr kr kr kr kr<|dA 9 1<|tS<|rA 1<|bE H fun r2 er2 H=> vL [.lend,.rd] (zL n r1.2 12 r2 er2)<|dA 265 1<|tB<|gA 2 777 1 ?_
 obtain ⟨h1,H⟩ | ⟨h1,H⟩ := bC H
 ·refine nA h1<|gA 2 134217737 1 ?_
  obtain ⟨h2,H⟩ | ⟨h2,H⟩ := bC H
  ·exact nA h2<|tK<|gA 2 13 1<|te<|fY [(false,[cL 5 r1.1 zB.row])] [(0,(fR (Src.row r2.2)))] H
  refine tA h2<|gA 1 25 1 ?_
  obtain ⟨o12,eo12,Ho12⟩ := bs H
  clear H
  refine Tr.mid (ι := (List zB) × (List Int) × Int × Int) (fun v => ⟨43,1,[sC 3 (cL 5 v.1 zB.row),sA 0 0 3 0],[(0,[cF 1 v.2.1 zZ,cI v.2.2.1,cI v.2.2.2])]⟩) (fun v => zCx n v.1 v.2.1 v.2.2.1 v.2.2.2 = some r) ?_ ?_
  ·refine tB<|Tr.loop (ι := Nat × (Int × (List zB) × (List Int) × Int × Int)) (fun v => ⟨43,1,[sI 4 v.2.1,sC 3 (cL 5 v.2.2.1 zB.row),sA 0 0 3 0],[(0,[cF 1 v.2.2.2.1 zZ,cI v.2.2.2.2.1,cI v.2.2.2.2.2])]⟩) (fun v => YW n v.1 v.2.1 v.2.2.1 v.2.2.2.1 v.2.2.2.2.1 v.2.2.2.2.2 = some o12) (fun v => v.1) (n,(0,r1.1,r2.2.b,r2.2.i,r2.2.h)) eo12 (St.sub_of [4,3,0] [0] kr) ?_
   rintro ⟨_ | mo12,y3,y4,y5,y6,y7⟩ H
   ·exact nN H
   have H : YW n (mo12+1) y3 y4 y5 y6 y7 = some o12 := H
   rw [YW] at H
   refine tS<|rA 2<|bE H fun r13 er13 H=> vL [.lend,.rd] (zL n (⟨y5,y6,y7⟩ : Src) 3 r13 er13)<|uA 2 8589934617 1 ?_
   obtain ⟨h3,H⟩ | ⟨h3,H⟩ := bC H
   ·refine nA h3<|Tr.exit<|aJ ?_
    cases H
    exact jA (y4,r13.2.b,r13.2.i,r13.2.h) Ho12 [3,0] [0]
   exact tA h3<|tK<|tS<|tB<|Tr.at<|lA 5<|gE H fun hg14 H=> LAt.appMU tOk (t := 25) (ty := 25) (e := 103) (x := (.tmp 36)) (y := (.tmp 40)) (d := 41) (g := none) (tI 103) zB.row y4 [(⟨50,(wI (100 + y3)),1,0,false⟩ : zB)] kr kr kr kr kr kr kr kr kr kr hg14<|LAt.moveU (T := lk tab) (ty := 25) (x := (.tmp 41)) (d := 3) (g := none) false [cL 5 (y4 ++ [(⟨50,(wI (100 + y3)),1,0,false⟩ : zB)]) zB.row] kr kr kr kr kr<|dA 25 1<|eA 3 25 1<|jB mo12 ((wI (y3 + 1)),(y4 ++ [(⟨50,(wI (100 + y3)),1,0,false⟩ : zB)]),r13.2.b,r13.2.i,r13.2.h) H [4,3,0] [0]
  rintro ⟨y8,y9,y10,y11⟩ H
  have H : (zCx n y8 y9 y10 y11) = some r := H
  unfold zCx at H
  exact gA 2 13 1<|te<|fY [(false,[cL 5 y8 zB.row])] [(0,[cF 1 y9 zZ,cI y10,cI y11])] H
 exact tA h1<|Tr.at<|lA 3<|bE H fun r15 er15 H=> vL [.lend,.rd] (zj n r2.2 [0,1,99,100] r15 er15)<|lA 2<|bE H fun r16 er16 H=> vL [.lend,.rd] (zj n r15.2 [0,1,9999] r16 er16)<|lA 2<|bE H fun r17 er17 H=> vL [.lend,.rd] (zj n r16.2 [(-1),7,8] r17 er17)<|lA 2<|bE H fun r18 er18 H=> vL [.lend,.rd] (zj n r17.2 [(-1),4,5] r18 er18)<|lA 2<|gE H fun hg19 H=> LAt.appMU tOk (t := 25) (ty := 25) (e := 103) (x := (.tmp 11)) (y := (.tmp 25)) (d := 26) (g := none) (tI 103) zB.row r1.1 [(⟨r15.1,r16.1,r17.1,r18.1,false⟩ : zB)] kr kr kr kr kr kr kr kr kr kr hg19<|LAt.moveU (T := lk tab) (ty := 25) (x := (.tmp 26)) (d := 3) (g := none) false [cL 5 (r1.1 ++ [(⟨r15.1,r16.1,r17.1,r18.1,false⟩ : zB)]) zB.row] kr kr kr kr kr<|dA 9 1<|gA 2 13 1<|te<|fY [(false,[cL 5 (r1.1 ++ [(⟨r15.1,r16.1,r17.1,r18.1,false⟩ : zB)]) zB.row])] [(0,(fR (Src.row r18.2)))] H
def zA4 (n : Nat) (r1 : Int × Src) (r3 : Int × Src) (y7 : (List zC)) (y8 : (List Int)) : Option (zD × Int × Src) :=
  (some ((⟨y7,y8⟩ : zD),(IntKind.wrap .i64 (1 + r1.1)),r3.2))
def YX (n : Nat) : Nat → Int → (List zC) → (List Int) → Option (((List zC) × (List Int)) ⊕ (zD × Int × Src))
  | 0,_,_,_ => none
  | mo9 + 1,y4,y5,y6 => (bif (decide (y4 < 6)) then ((zBC n (⟨y5,y6⟩ : zD) (⟨(IntKind.wrap .i64 (10 + y4)),0,0⟩ : zC)).bind fun r10 => (YX n mo9 (IntKind.wrap .i64 (y4 + 1)) r10.Rows r10.Pv)) else (some (Sum.inl (y5,y6))))
def zCc (n : Nat) (x0 : Src) : Option (zD × Int × Src) :=
  ((zG n x0 4).bind fun r1 => ((zAZ n r1.2 (IntKind.wrap .i64 (1 + r1.1))).bind fun r2 => ((zG n r2.2 12).bind fun r3 => (bif (r3.1 == 0) then ((zX n r3.2 [0,1,9,100]).bind fun r14 => ((zX n r14.2 [(-1),0,1,64]).bind fun r15 => ((zG n r15.2 3).bind fun r16 => (bif (decide (r2.1.Rows.length + [(⟨r14.1,r15.1,r16.1⟩ : zC)].length ≤ 268435456)) then (some ((⟨(r2.1.Rows ++ [(⟨r14.1,r15.1,r16.1⟩ : zC)]),r2.1.Pv⟩ : zD),(IntKind.wrap .i64 (1 + r1.1)),r16.2)) else none)))) else (bif (r3.1 == 1) then ((zX n r3.2 [0,7]).bind fun r12 => ((idx r2.1.Pv 0).bind fun v13 => (some ((⟨r2.1.Rows,(r2.1.Pv.set (((0 : Int)).toNat) r12.1)⟩ : zD),(IntKind.wrap .i64 (1 + r1.1)),r12.2)))) else (bif (r3.1 == 2) then ((zX n r3.2 [0,6,7]).bind fun r11 => (some (r2.1,r11.1,r11.2))) else (bif (r3.1 == 3) then ((YX n n 0 r2.1.Rows r2.1.Pv).bind fun o => match o with | .inl (y7,y8) => (zA4 n r1 r3 y7 y8) | .inr r => some r) else (some (r2.1,(IntKind.wrap .i64 (1 + r1.1)),r3.2)))))))))
def zPz : Tab := ⟨15,[0,1,0,0,12,0,0,112,0,384,656,1024,2562,8191,16383],[0,1,0,0,12,0,0,96,0,256,656,1024,2050,0,12288],[0,1,0,0,12,0,0,124,0,508,1020,2044,4095,8191,16383]⟩
noncomputable abbrev zDA (k : Nat) := Rg Tryz.f154 k
noncomputable abbrev zPU (k : Nat) := Rd Tryz.f154 k
theorem ZA : zc (rg Tryz.f154 5) zPz = true := kr
theorem zLa (n : Nat) (r3 : Int × Src) (r14 : Int × Src) (r15 : Int × Src) (r16 : Int × Src) (r2 : zD × Src) (r1 : Int × Src) (er14 : (zX n r3.2 [0,1,9,100]) = some r14) (er15 : (zX n r14.2 [(-1),0,1,64]) = some r15) (er16 : (zG n r15.2 3) = some r16) (hg17 : (decide (r2.1.Rows.length + [(⟨r14.1,r15.1,r16.1⟩ : zC)].length ≤ 268435456)) = true) (cx : Cx) : AT Tryz.prog cx (rg Tryz.f154 5) [] 15 [] ⟨57,1,[sB 15 (r3.1 == 0),sI 14 r3.1,sA 5 5 2 0,sI 4 (wI (1 + r1.1)),sA 2 2 2 0,sA 0 0 3 0],[(0,(fR (Src.row r3.2))),(5,(zD.row r2.1)),(2,[cL 3 ([] : List zC) zC.row,cL 1 ([] : List Int) intRow])]⟩ (fun s => s = ⟨57,1,[sA 5 5 2 0,sI 4 (wI (1 + r1.1)),sA 2 2 2 0,sA 0 0 3 0],[(5,[cL 3 (r2.1.Rows ++ [(⟨r14.1,r15.1,r16.1⟩ : zC)]) zC.row,cL 1 r2.1.Pv intRow]),(0,(fR (Src.row r16.2))),(2,[cL 3 ([] : List zC) zC.row,cL 1 ([] : List Int) intRow])]⟩) := by
 refine mA ZA ([(0,[]),(1,[12,14])]++zl [2,5,8]) 10 [⟨[12,14],26,17,18⟩] fun cx=>mB2 tOk ZA 3 6 kr (And.intro kr ?_) (And.intro kr ?_)
 ·refine lA 1<|fA<|mB2 tOk ZA 4 6 kr (And.intro kr ?_) (And.intro kr ?_)
  ·exact vL [.lend,.rd] (zj n r3.2 [0,1,9,100] r14 er14)<|fA<|mC ZA 6<|lA 1<|fA<|mC ZA 7<|vL [.lend,.rd] (zj n r14.2 [(-1),0,1,64] r15 er15)<|fA<|mC ZA 9<|vL [.lend,.rd] (zL n r15.2 3 r16 er16)<|fA<|mC ZA 10<|lA 1<|fA<|mC ZA 11<|lA 1<|fA<|mC ZA 12<|LAt.appMU tOk (t := 26) (ty := 26) (e := 113) (x := (.tmp 18)) (y := (.tmp 28)) (d := 29) (g := none) (tI 113) zC.row r2.1.Rows [(⟨r14.1,r15.1,r16.1⟩ : zC)] kr kr kr kr kr kr kr kr kr kr hg17<|fA<|mA ZA [(13,[])] 1 [⟨[12,14],26,17,18⟩] fun cx=>mC ZA 14<|lA 1<|fA<|mE ZA [5,4,2,0] [5,0,2]
  ·exact lA 1<|fA<|mC ZA 4<|vL [.lend,.rd] (zj n r3.2 [0,1,9,100] r14 er14)<|fA<|mC ZA 7<|vL [.lend,.rd] (zj n r14.2 [(-1),0,1,64] r15 er15)<|fA<|mC ZA 9<|vL [.lend,.rd] (zL n r15.2 3 r16 er16)<|fA<|mC ZA 10<|lA 1<|fA<|mC ZA 11<|lA 1<|fA<|mC ZA 12<|LAt.appMU tOk (t := 26) (ty := 26) (e := 113) (x := (.tmp 18)) (y := (.tmp 28)) (d := 29) (g := none) (tI 113) zC.row r2.1.Rows [(⟨r14.1,r15.1,r16.1⟩ : zC)] kr kr kr kr kr kr kr kr kr kr hg17<|fA<|mA ZA [(13,[])] 1 [⟨[12,14],26,17,18⟩] fun cx=>mC ZA 14<|lA 1<|fA<|mE ZA [5,4,2,0] [5,0,2]
 ·exact lA 1<|fA<|mC ZA 3<|lA 1<|fA<|mC ZA 4<|vL [.lend,.rd] (zj n r3.2 [0,1,9,100] r14 er14)<|fA<|mC ZA 7<|vL [.lend,.rd] (zj n r14.2 [(-1),0,1,64] r15 er15)<|fA<|mC ZA 9<|vL [.lend,.rd] (zL n r15.2 3 r16 er16)<|fA<|mC ZA 10<|lA 1<|fA<|mC ZA 11<|lA 1<|fA<|mC ZA 12<|LAt.appMU tOk (t := 26) (ty := 26) (e := 113) (x := (.tmp 18)) (y := (.tmp 28)) (d := 29) (g := none) (tI 113) zC.row r2.1.Rows [(⟨r14.1,r15.1,r16.1⟩ : zC)] kr kr kr kr kr kr kr kr kr kr hg17<|fA<|mA ZA [(13,[])] 1 [⟨[12,14],26,17,18⟩] fun cx=>mC ZA 14<|lA 1<|fA<|mE ZA [5,4,2,0] [5,0,2]
theorem zNd (n : Nat) (x0 : Src) (r : zD × Int × Src) (H : zCc n x0 = some r) : zE Tryz.prog 154 [.ptr (fR (Src.row x0))] [.val true (zD.row r.1),.val false [.lit (.int .i64 r.2.1)]] [(0,(fR (Src.row r.2.2)))] := by
 refine zE.of_body tOk Tryz.func154 rfl (c := (.seq (zDA 0) (.seq (zDA 1) (.seq (zDA 2) (.seq (.seq (zDA 3) (.block 0 (.seq (zDA 4) (.cond (.tmp 15) (zPU 5) (.seq (zDA 6) (.cond (.tmp 31) (zPU 7) (.seq (zDA 8) (.cond (.tmp 39) (zDA 9) (.seq (zDA 10) (.cond (.tmp 44) (.seq (zDA 11) (.block 1 (.loop (.seq (.seq (zDA 12) (.cond (.tmp 47) .skip (.exit 1))) (.seq (.block 2 (zDA 14)) (zDA 13)))))) .skip)))))))))) (.seq (zDA 15) .ret)))))) kr (Nat.le_of_ble_eq_true kr) 1 (rs := [.cell 2 29,.tmp 3]) rfl [] .nil [(true,(zD.row r.1)),(false,[.lit (.int .i64 r.2.1)])] [] [(0,(fR (Src.row r.2.2)))] fun cx=>?_
 show Tr _ _ _ ⟨57,1,[sA 0 0 3 0],[(0,(fR (Src.row x0)))]⟩ _
 unfold zCc at H
 refine gA 2 5 5<|rA 1<|bE H fun r1 er1 H=> vL [.lend,.rd] (zL n x0 4 r1 er1)<|uA 2 21 5<|rA 2<|bE H fun r2 er2 H=> vL [.lend,.rd] (zIu n r1.2 (wI (1 + r1.1)) r2 er2)<|uA 2 53 37<|tS<|rA 1<|bE H fun r3 er3 H=> vL [.lend,.rd] (zL n r2.2 12 r3 er3)<|dA 16437 37<|tB<|gA 2 49205 37 ?_
 obtain ⟨h1,H⟩ | ⟨h1,H⟩ := bC H
 ·refine nA h1<|gA 2 2147500085 37 ?_
  obtain ⟨h2,H⟩ | ⟨h2,H⟩ := bC H
  ·refine nA h2<|gA 2 549755830325 37 ?_
   obtain ⟨h3,H⟩ | ⟨h3,H⟩ := bC H
   ·refine nA h3<|gA 2 17592186044469 37 ?_
    obtain ⟨h4,H⟩ | ⟨h4,H⟩ := bC H
    ·exact nA h4<|tK<|gA 4 13 5<|te<|fY [(true,(zD.row r2.1)),(false,[cI (wI (1 + r1.1))])] [(0,(fR (Src.row r3.2)))] H
    refine tA h4<|gA 1 117 37 ?_
    obtain ⟨o9,eo9,Ho9⟩ := bs H
    clear H
    refine Tr.mid (ι := (List zC) × (List Int)) (fun v => ⟨57,1,[sA 5 5 2 0,sI 4 (wI (1 + r1.1)),sA 2 2 2 0,sA 0 0 3 0],[(0,(fR (Src.row r3.2))),(5,[cL 3 v.1 zC.row,cL 1 v.2 intRow]),(2,[cL 3 ([] : List zC) zC.row,cL 1 ([] : List Int) intRow])]⟩) (fun v => zA4 n r1 r3 v.1 v.2 = some r) ?_ ?_
    ·refine tB<|Tr.loop (ι := Nat × (Int × (List zC) × (List Int))) (fun v => ⟨57,1,[sI 6 v.2.1,sA 5 5 2 0,sI 4 (wI (1 + r1.1)),sA 2 2 2 0,sA 0 0 3 0],[(0,(fR (Src.row r3.2))),(5,[cL 3 v.2.2.1 zC.row,cL 1 v.2.2.2 intRow]),(2,[cL 3 ([] : List zC) zC.row,cL 1 ([] : List Int) intRow])]⟩) (fun v => YX n v.1 v.2.1 v.2.2.1 v.2.2.2 = some o9) (fun v => v.1) (n,(0,r2.1.Rows,r2.1.Pv)) eo9 (St.sub_of [6,5,4,2,0] [0,5,2] kr) ?_
     rintro ⟨_ | mo9,y4,y5,y6⟩ H
     ·exact nN H
     have H : YX n (mo9+1) y4 y5 y6 = some o9 := H
     rw [YX] at H
     refine tS<|gA 2 0x800000000075 37 ?_
     obtain ⟨h5,H⟩ | ⟨h5,H⟩ := bC H
     ·refine nA h5<|Tr.exit<|aJ ?_
      cases H
      exact jA (y5,y6) Ho9 [5,4,2,0] [0,5,2]
     exact tA h5<|tK<|tS<|tB<|Tr.at<|lA 4<|bE H fun r10 er10 H=> vB [.rd,.rd] [.box 5] (zKG n (⟨y5,y6⟩ : zD) (⟨(wI (10 + y4)),0,0⟩ : zC) r10 er10) (.inr (zM (zD.row_mine _) zT))<|uA 1 117 37<|eA 3 117 37<|jB mo9 ((wI (y4 + 1)),r10.Rows,r10.Pv) H [6,5,4,2,0] [0,5,2]
    rintro ⟨y7,y8⟩ H
    have H : (zA4 n r1 r3 y7 y8) = some r := H
    unfold zA4 at H
    exact gA 4 13 5<|te<|fY [(true,[cL 3 y7 zC.row,cL 1 y8 intRow]),(false,[cI (wI (1 + r1.1))])] [(0,(fR (Src.row r3.2)))] H
   exact tA h3<|Tr.at<|lA 2<|bE H fun r11 er11 H=> vL [.lend,.rd] (zj n r3.2 [0,6,7] r11 er11)<|uA 1 53 37<|gA 4 13 5<|te<|fY [(true,(zD.row r2.1)),(false,[cI r11.1])] [(0,(fR (Src.row r11.2)))] H
  refine tA h2<|bE H fun r12 er12 H=> bE H fun v13 ev13 H=> Tr.draw mixed 7 kr ⟨57,1,[sA 5 5 2 0,sI 4 (wI (1 + r1.1)),sA 2 2 2 0,sA 0 0 3 0],[(5,[cL 3 r2.1.Rows zC.row,cL 1 (r2.1.Pv.set (((0 : Int)).toNat) r12.1) intRow]),(0,(fR (Src.row r12.2))),(2,[cL 3 ([] : List zC) zC.row,cL 1 ([] : List Int) intRow])]⟩ (fun cx=>?_) ?_
  ·refine aA [(0,[]),(1,[6]),(2,[])] 4 [⟨[6],27,33,34⟩] fun cx=>bA 3<|lA 1<|fA<|bA 4<|vL [.lend,.rd] (zj n r3.2 [0,7] r12 er12)<|fA<|AT.indexO tOk 5 (t := 27) (ty := 0) (x := (.tmp 34)) (y := (.const (.int .i64 0))) (d := 38) (g := none) ⟨(.box 5),[(0,0)],1,true,1,(r2.1.Pv.map intRow)⟩ 0 (((0 : Int)).toNat) (intRow v13) _ kr kr kr kr kr kr rfl kr (Qz ev13) rfl rfl (fun cx=>?_)
   exact bA 6<|LAt.storeB tOk (t := 3) (ty := 0) (ad := (.tmp 38)) (x := (.tmp 37)) (g := none) (tI 3) false [cI r12.1] 5 1 (((0 : Int)).toNat) 1 0 1 r2.1.Pv intRow v13 r12.1 kr kr kr kr kr kr kr kr (zK ev13).2 kr kr kr kr<|fA<|eE [5,4,2,0] [5,0,2]
  exact gA 4 13 5<|te<|fY [(true,[cL 3 r2.1.Rows zC.row,cL 1 (r2.1.Pv.set (((0 : Int)).toNat) r12.1) intRow]),(false,[cI (wI (1 + r1.1))])] [(0,(fR (Src.row r12.2)))] H
 exact tA h1<|bE H fun r14 er14 H=> bE H fun r15 er15 H=> bE H fun r16 er16 H=> gE H fun hg17 H=> sT ⟨57,1,[sB 15 (r3.1 == 0),sI 14 r3.1,sA 5 5 2 0,sI 4 (wI (1 + r1.1)),sA 2 2 2 0,sA 0 0 3 0],[(0,(fR (Src.row r3.2))),(5,(zD.row r2.1)),(2,[cL 3 ([] : List zC) zC.row,cL 1 ([] : List Int) intRow])]⟩<|Tr.draw mixed 15 kr ⟨57,1,[sA 5 5 2 0,sI 4 (wI (1 + r1.1)),sA 2 2 2 0,sA 0 0 3 0],[(5,[cL 3 (r2.1.Rows ++ [(⟨r14.1,r15.1,r16.1⟩ : zC)]) zC.row,cL 1 r2.1.Pv intRow]),(0,(fR (Src.row r16.2))),(2,[cL 3 ([] : List zC) zC.row,cL 1 ([] : List Int) intRow])]⟩ (zLa n r3 r14 r15 r16 r2 r1 er14 er15 er16 hg17)<|gA 4 13 5<|te<|fY [(true,[cL 3 (r2.1.Rows ++ [(⟨r14.1,r15.1,r16.1⟩ : zC)]) zC.row,cL 1 r2.1.Pv intRow]),(false,[cI (wI (1 + r1.1))])] [(0,(fR (Src.row r16.2)))] H
def zBs (n : Nat) (x0 : Src) : Option (zA × Src) :=
  ((zA0 n x0).bind fun r1 => ((zG n r1.2 16).bind fun r2 => (bif (r2.1 == 0) then ((zX n r2.2 [0,99,100]).bind fun r8 => (some ((⟨r8.1,r1.1.Name,r1.1.Ps,r1.1.F,r1.1.V,r1.1.Tk,r1.1.Pa,r1.1.Wo,r1.1.Dr,r1.1.Ve⟩ : zA),r8.2))) else (bif (r2.1 == 1) then ((JK n r2.2 [(⟨#[116,101,110,45,98,121,116,101,115,45]⟩ : ByteArray),(⟨#[101,108,101,118,101,110,45,98,121,116,101]⟩ : ByteArray)]).bind fun r7 => (some ((⟨r1.1.Id,r7.1,r1.1.Ps,r1.1.F,r1.1.V,r1.1.Tk,r1.1.Pa,r1.1.Wo,r1.1.Dr,r1.1.Ve⟩ : zA),r7.2))) else (bif (r2.1 == 2) then ((zBq n r2.2).bind fun r6 => (some ((⟨r1.1.Id,r1.1.Name,r6.1,r1.1.F,r1.1.V,r1.1.Tk,r1.1.Pa,r1.1.Wo,r1.1.Dr,r1.1.Ve⟩ : zA),r6.2))) else (bif (r2.1 == 3) then ((zCb n r2.2).bind fun r5 => (some ((⟨r1.1.Id,r1.1.Name,r1.1.Ps,r5.1,r1.1.V,r1.1.Tk,r1.1.Pa,r1.1.Wo,r1.1.Dr,r1.1.Ve⟩ : zA),r5.2))) else (bif (r2.1 == 4) then ((zCc n r2.2).bind fun r4 => (some ((⟨r1.1.Id,r1.1.Name,r1.1.Ps,r1.1.F,r4.1,r1.1.Tk,r1.1.Pa,r1.1.Wo,r1.1.Dr,r1.1.Ve⟩ : zA),r4.2.2))) else (bif (r2.1 == 5) then ((zX n r2.2 [(-1),1000000,1000001]).bind fun r3 => (some ((⟨r1.1.Id,r1.1.Name,r1.1.Ps,r1.1.F,r1.1.V,r1.1.Tk,r1.1.Pa,r1.1.Wo,r3.1,r1.1.Ve⟩ : zA),r3.2))) else (some (r1.1,r2.2))))))))))
noncomputable abbrev G77 (k : Nat) := Rg Tryz.f77 k
theorem zMm (n : Nat) (x0 : Src) (r : zA × Src) (H : zBs n x0 = some r) : zE Tryz.prog 77 [.ptr (fR (Src.row x0))] [.val true (zA.row r.1)] [(0,(fR (Src.row r.2)))] := by
 refine zE.of_body tOk Tryz.func77 rfl (c := (.seq (G77 0) (.seq (G77 1) (.seq (.seq (G77 2) (.block 0 (.seq (G77 3) (.cond (.tmp 8) (G77 4) (.seq (G77 5) (.cond (.tmp 14) (G77 6) (.seq (G77 7) (.cond (.tmp 20) (G77 8) (.seq (G77 9) (.cond (.tmp 25) (G77 10) (.seq (G77 11) (.cond (.tmp 30) (G77 12) (.seq (G77 13) (.cond (.tmp 38) (G77 14) .skip)))))))))))))) (.seq (G77 15) .ret))))) kr (Nat.le_of_ble_eq_true kr) 1 (rs := [.cell 2 31]) rfl [] .nil [(true,(zA.row r.1))] [] [(0,(fR (Src.row r.2)))] fun cx=>?_
 show Tr _ _ _ ⟨45,1,[sA 0 0 3 0],[(0,(fR (Src.row x0)))]⟩ _
 unfold zBs at H
 refine gA 1 5 5<|rA 1<|bE H fun r1 er1 H=> vL [.lend] (zMN n x0 r1 er1)<|uA 2 13 13<|tS<|rA 1<|bE H fun r2 er2 H=> vL [.lend,.rd] (zL n r1.2 16 r2 er2)<|dA 141 13<|tB<|gA 2 397 13 ?_
 obtain ⟨h1,H⟩ | ⟨h1,H⟩ := bC H
 ·refine nA h1<|gA 2 16525 13 ?_
  obtain ⟨h2,H⟩ | ⟨h2,H⟩ := bC H
  ·refine nA h2<|gA 2 1048717 13 ?_
   obtain ⟨h3,H⟩ | ⟨h3,H⟩ := bC H
   ·refine nA h3<|gA 2 33554573 13 ?_
    obtain ⟨h4,H⟩ | ⟨h4,H⟩ := bC H
    ·refine nA h4<|gA 2 1073741965 13 ?_
     obtain ⟨h5,H⟩ | ⟨h5,H⟩ := bC H
     ·refine nA h5<|gA 2 274877906957 13 ?_
      obtain ⟨h6,H⟩ | ⟨h6,H⟩ := bC H
      ·exact nA h6<|tK<|gA 2 5 5<|te<|fY [(true,(zA.row r1.1))] [(0,(fR (Src.row r2.2)))] H
      exact tA h6<|Tr.at<|lA 2<|bE H fun r3 er3 H=> vL [.lend,.rd] (zj n r2.2 [(-1),1000000,1000001] r3 er3)<|uA 2 13 13<|gA 2 5 5<|te<|fY [(true,[cI r1.1.Id,cS r1.1.Name,cL 8 r1.1.Ps Pt.row,cL 5 r1.1.F zB.row,cL 3 r1.1.V.Rows zC.row,cL 1 r1.1.V.Pv intRow,cI r1.1.Tk,cI r1.1.Pa,cI r1.1.Wo,cI r3.1,cI r1.1.Ve])] [(0,(fR (Src.row r3.2)))] H
     exact tA h5<|Tr.at<|lA 1<|bE H fun r4 er4 H=> vL [.lend] (zNd n r2.2 r4 er4)<|LAt.movT tOk (ty := 153) (t := 34) (d := 32) (g := none) [(true,(zD.row r4.1)),(false,[cI r4.2.1])] _ kr (.inl rfl) kr kr kr kr rfl<|uA 4 13 13<|gA 2 5 5<|te<|fY [(true,[cI r1.1.Id,cS r1.1.Name,cL 8 r1.1.Ps Pt.row,cL 5 r1.1.F zB.row,cL 3 r4.1.Rows zC.row,cL 1 r4.1.Pv intRow,cI r1.1.Tk,cI r1.1.Pa,cI r1.1.Wo,cI r1.1.Dr,cI r1.1.Ve])] [(0,(fR (Src.row r4.2.2)))] H
    exact tA h4<|Tr.at<|lA 1<|bE H fun r5 er5 H=> vL [.lend] (zNc n r2.2 r5 er5)<|uA 2 13 13<|gA 2 5 5<|te<|fY [(true,[cI r1.1.Id,cS r1.1.Name,cL 8 r1.1.Ps Pt.row,cL 5 r5.1 zB.row,cL 3 r1.1.V.Rows zC.row,cL 1 r1.1.V.Pv intRow,cI r1.1.Tk,cI r1.1.Pa,cI r1.1.Wo,cI r1.1.Dr,cI r1.1.Ve])] [(0,(fR (Src.row r5.2)))] H
   exact tA h3<|Tr.at<|lA 1<|bE H fun r6 er6 H=> vL [.lend] (zMl n r2.2 r6 er6)<|uA 2 13 13<|gA 2 5 5<|te<|fY [(true,[cI r1.1.Id,cS r1.1.Name,cL 8 r6.1 Pt.row,cL 5 r1.1.F zB.row,cL 3 r1.1.V.Rows zC.row,cL 1 r1.1.V.Pv intRow,cI r1.1.Tk,cI r1.1.Pa,cI r1.1.Wo,cI r1.1.Dr,cI r1.1.Ve])] [(0,(fR (Src.row r6.2)))] H
  exact tA h2<|Tr.at<|lA 2<|bE H fun r7 er7 H=> vL [.lend,.rd] (zKD n r2.2 [(⟨#[116,101,110,45,98,121,116,101,115,45]⟩ : ByteArray),(⟨#[101,108,101,118,101,110,45,98,121,116,101]⟩ : ByteArray)] r7 er7)<|uA 2 13 13<|gA 2 5 5<|te<|fY [(true,[cI r1.1.Id,cS r7.1,cL 8 r1.1.Ps Pt.row,cL 5 r1.1.F zB.row,cL 3 r1.1.V.Rows zC.row,cL 1 r1.1.V.Pv intRow,cI r1.1.Tk,cI r1.1.Pa,cI r1.1.Wo,cI r1.1.Dr,cI r1.1.Ve])] [(0,(fR (Src.row r7.2)))] H
 exact tA h1<|Tr.at<|lA 2<|bE H fun r8 er8 H=> vL [.lend,.rd] (zj n r2.2 [0,99,100] r8 er8)<|uA 2 13 13<|gA 2 5 5<|te<|fY [(true,[cI r8.1,cS r1.1.Name,cL 8 r1.1.Ps Pt.row,cL 5 r1.1.F zB.row,cL 3 r1.1.V.Rows zC.row,cL 1 r1.1.V.Pv intRow,cI r1.1.Tk,cI r1.1.Pa,cI r1.1.Wo,cI r1.1.Dr,cI r1.1.Ve])] [(0,(fR (Src.row r8.2)))] H
def Yr (n : Nat) (x0 : Src) (x1 : Int) : Option (Net × Src) :=
  ((zA1 n x0 x1).bind fun r1 => (bif ((r1.1.Bs.length : Int) == 0) then (some (r1.1,r1.2)) else ((zG n r1.2 (r1.1.Bs.length : Int)).bind fun r2 => ((zG n r2.2 20).bind fun r3 => (bif (r3.1 == 0) then ((zBs n r3.2).bind fun r14 => ((idx r1.1.Bs r2.1).bind fun v15 => (some ((⟨(r1.1.Bs.set (r2.1.toNat) r14.1),r1.1.Ls,r1.1.Said⟩ : Net),r14.2)))) else (bif (r3.1 == 1) then ((zG n r3.2 3).bind fun r9 => ((zG n r9.2 3).bind fun r10 => ((zG n r10.2 7).bind fun r11 => ((zG n r11.2 7).bind fun r12 => (bif (decide (r1.1.Ls.length + [(⟨r9.1,r10.1,(IntKind.wrap .i64 (r11.1 - 1)),r12.1⟩ : Link)].length ≤ 268435456)) then (some ((⟨r1.1.Bs,(r1.1.Ls ++ [(⟨r9.1,r10.1,(IntKind.wrap .i64 (r11.1 - 1)),r12.1⟩ : Link)]),r1.1.Said⟩ : Net),r12.2)) else none))))) else (bif (r3.1 == 2) then ((zX n r3.2 [(-1),0,8,9]).bind fun r6 => ((zBB n r6.2).bind fun r7 => (bif (decide (r1.1.Said.length + [(⟨r6.1,false,r7.1⟩ : Say)].length ≤ 268435456)) then (some ((⟨r1.1.Bs,r1.1.Ls,(r1.1.Said ++ [(⟨r6.1,false,r7.1⟩ : Say)])⟩ : Net),r7.2)) else none))) else (bif (r3.1 == 3) then ((idx r1.1.Bs r2.1).bind fun v4 => ((idx v4.Ps 0).bind fun v5 => (some ((⟨(r1.1.Bs.set (r2.1.toNat) (⟨v4.Id,v4.Name,(v4.Ps.set (((0 : Int)).toNat) (⟨(!v5.Up),v5.Co,v5.Has,v5.Hd⟩ : Pt)),v4.F,v4.V,v4.Tk,v4.Pa,v4.Wo,v4.Dr,v4.Ve⟩ : zA)),r1.1.Ls,r1.1.Said⟩ : Net),r3.2)))) else (some (r1.1,r3.2))))))))))
def zO2 : Tab := ⟨19,[0,1,0,6,8,16,0,64,0,384,512,1024,2048,4096,8192,16384,65535,131071,196607],[0,1,0,6,8,16,0,64,0,384,512,1024,2048,4096,8192,16384,32,65536,163840],[0,1,0,7,15,31,0,64,0,448,960,1984,4032,8128,16320,32704,65535,131071,262143]⟩
noncomputable abbrev zFN (k : Nat) := Rg Tryz.f122 k
noncomputable abbrev zND (k : Nat) := Rd Tryz.f122 k
theorem qG : zc (rg Tryz.f122 13) zO2 = true := kr
def zO1 : Tab := ⟨12,[0,1,0,0,12,0,48,80,128,322,1023,2047],[0,1,0,0,12,0,32,80,128,258,0,1536],[0,1,0,0,12,0,60,124,252,511,1023,2047]⟩
theorem zA6 : zc (rg Tryz.f122 11) zO1 = true := kr
def zPe : Tab := ⟨16,[0,1,0,4,0,24,0,96,128,0,640,1320,2048,5122,16383,32767],[0,1,0,4,0,16,0,64,128,0,512,1320,2048,4098,0,24576],[0,1,0,4,0,28,0,124,252,0,764,2044,4092,8191,16383,32767]⟩
theorem zAp : zc (rg Tryz.f122 9) zPe = true := kr
theorem zKp (n : Nat) (r2 : Int × Src) (r1 : Net × Src) (v4 : zA) (v5 : Pt) (r3 : Int × Src) (ev4 : (idx r1.1.Bs r2.1) = some v4) (ev5 : (idx v4.Ps 0) = some v5) (cx : Cx) : AT Tryz.prog cx (rg Tryz.f122 13) [] 19 [] ⟨81,1,[sB 60 (r3.1 == 3),sI 6 r2.1,sA 5 5 3 0,sA 4 4 3 0,sA 0 0 3 0],[(0,(fR (Src.row r3.2))),(5,(Net.row r1.1)),(4,[cL 11 ([] : List zA) zA.row,cL 4 ([] : List Link) Link.row,cL 7 ([] : List Say) Say.row])]⟩ (fun s => s = ⟨81,1,[sA 5 5 3 0,sA 4 4 3 0,sA 0 0 3 0],[(5,[cL 11 (r1.1.Bs.set (r2.1.toNat) (⟨v4.Id,v4.Name,(v4.Ps.set (((0 : Int)).toNat) (⟨(!v5.Up),v5.Co,v5.Has,v5.Hd⟩ : Pt)),v4.F,v4.V,v4.Tk,v4.Pa,v4.Wo,v4.Dr,v4.Ve⟩ : zA)) zA.row,cL 4 r1.1.Ls Link.row,cL 7 r1.1.Said Say.row]),(0,(fR (Src.row r3.2))),(4,[cL 11 ([] : List zA) zA.row,cL 4 ([] : List Link) Link.row,cL 7 ([] : List Say) Say.row])]⟩) := by
 refine mA qG [(0,[]),(1,[18]),(2,[])] 16 [⟨[18],49,62,63⟩] fun cx=>oN qG 3 zA.row ev4 fun cx=>mA qG [(4,[]),(6,[]),(7,[18]),(8,[])] 11 [⟨[18],49,68,69⟩,⟨[18],49,62,63⟩] fun cx=>oN qG 9 zA.row ev4 fun cx=>mA qG [(10,[])] 9 [⟨[18],49,68,69⟩,⟨[18],49,62,63⟩] fun cx=>mB2 tOk qG 5 11 kr (And.intro kr ?_) (And.intro kr ?_)
 ·refine dE (tI 24) (.box 5) [(0,0),(0,(r2.1.toNat))] 11 2 [.sl true 3 [(Net.row r1.1)]] (zA.row v4) (zQ rfl (zK ev4).2)<|fA<|mC qG 11<|dE (tI 24) (.box 5) [(0,0),(0,(r2.1.toNat))] 11 2 [.sl true 3 [(Net.row r1.1)]] (zA.row v4) (zQ rfl (zK ev4).2)<|fA<|mC qG 12<|LAt.indexD tOk (t := 24) (ty := 0) (et := 100) (x := (.tmp 73)) (y := (.const (.int .i64 0))) (d := 74) (g := none) (tI 100) ⟨(.box 5),[(0,0),(0,(r2.1.toNat))],2,true,8,(v4.Ps.map Pt.row)⟩ .i64 0 (((0 : Int)).toNat) (Pt.row v5) kr kr kr kr kr kr kr (zBm (row := [.sl true 3 [(Net.row r1.1)]]) (e := zA.row v4) kr kr (zQ rfl (zK ev4).2) rfl rfl) rfl kr (Qz ev5) rfl<|fA<|mA qG [(13,[])] 5 [⟨[18],49,68,69⟩,⟨[18],49,62,63⟩] fun cx=>mC qG 14<|dE (tI 4) (.box 5) [(0,0),(0,(r2.1.toNat)),(2,(((0 : Int)).toNat))] 8 0 [.sl true 3 [(Net.row r1.1)]] (Pt.row v5) (zBZ rfl (zK ev4).2 rfl (zK ev5).2)<|fA<|mA qG [(15,[])] 3 [⟨[18],49,68,69⟩,⟨[18],49,62,63⟩] fun cx=>mC qG 16<|LAt.indexD tOk (t := 24) (ty := 0) (et := 100) (x := (.tmp 67)) (y := (.const (.int .i64 0))) (d := 78) (g := none) (tI 100) ⟨(.box 5),[(0,0),(0,(r2.1.toNat))],2,true,8,(v4.Ps.map Pt.row)⟩ .i64 0 (((0 : Int)).toNat) (Pt.row v5) kr kr kr kr kr kr kr (zBm (row := [.sl true 3 [(Net.row r1.1)]]) (e := zA.row v4) kr kr (zQ rfl (zK ev4).2) rfl rfl) rfl kr (Qz ev5) rfl<|fA<|mA qG [(17,[])] 1 [⟨[18],49,68,69⟩,⟨[18],49,62,63⟩] fun cx=>?_
  exact sA_ 0xa030c000000000000031 49 ⟨81,1,[(79,.adr (.box 5) [(0,0),(0,(r2.1.toNat)),(2,(((0 : Int)).toNat))] 8 0),sB 77 (!v5.Up),sR 69 5 3 0 1 false,sA 68 5 3 0,sR 63 5 3 0 1 false,sA 62 5 3 0,sA 5 5 3 0,sA 4 4 3 0,sA 0 0 3 0],[(0,(fR (Src.row r3.2))),(5,(Net.row r1.1)),(4,[cL 11 ([] : List zA) zA.row,cL 4 ([] : List Link) Link.row,cL 7 ([] : List Say) Say.row])]⟩<|mC qG 18<|LAt.storeK tOk (t := 4) (ty := 0) (ad := (.tmp 79)) (x := (.tmp 77)) (g := none) (tI 4) false [cB (!v5.Up)] (.box 5) [(0,0),(0,(r2.1.toNat)),(2,(((0 : Int)).toNat))] [(0,(r2.1.toNat)),(2,(((0 : Int)).toNat))] 8 0 [.sl true 3 [(Net.row r1.1)]] (Pt.row v5) (Net.row r1.1) [cL 11 (r1.1.Bs.set (r2.1.toNat) (⟨v4.Id,v4.Name,(v4.Ps.set (((0 : Int)).toNat) (⟨(!v5.Up),v5.Co,v5.Has,v5.Hd⟩ : Pt)),v4.F,v4.V,v4.Tk,v4.Pa,v4.Wo,v4.Dr,v4.Ve⟩ : zA)) zA.row,cL 4 r1.1.Ls Link.row,cL 7 r1.1.Said Say.row] kr kr kr kr kr kr (zBZ rfl (zK ev4).2 rfl (zK ev5).2) rfl (by intro h; cases h) kr kr rfl (zG7 (new := (⟨v4.Id,v4.Name,(v4.Ps.set (((0 : Int)).toNat) (⟨(!v5.Up),v5.Co,v5.Has,v5.Hd⟩ : Pt)),v4.F,v4.V,v4.Tk,v4.Pa,v4.Wo,v4.Dr,v4.Ve⟩ : zA)) (new2 := (⟨(!v5.Up),v5.Co,v5.Has,v5.Hd⟩ : Pt)) rfl (zK ev4).2 rfl (zK ev5).2 kr kr) kr<|fA<|mE qG [5,4,0] [5,0,4]
 ·refine dE (tI 24) (.box 5) [(0,0),(0,(r2.1.toNat))] 11 2 [.sl true 3 [(Net.row r1.1)]] (zA.row v4) (zQ rfl (zK ev4).2)<|fA<|mB2 tOk qG 5 12 kr (And.intro kr ?_) (And.intro kr ?_)
  ·refine dE (tI 24) (.box 5) [(0,0),(0,(r2.1.toNat))] 11 2 [.sl true 3 [(Net.row r1.1)]] (zA.row v4) (zQ rfl (zK ev4).2)<|fA<|mC qG 12<|LAt.indexD tOk (t := 24) (ty := 0) (et := 100) (x := (.tmp 73)) (y := (.const (.int .i64 0))) (d := 74) (g := none) (tI 100) ⟨(.box 5),[(0,0),(0,(r2.1.toNat))],2,true,8,(v4.Ps.map Pt.row)⟩ .i64 0 (((0 : Int)).toNat) (Pt.row v5) kr kr kr kr kr kr kr (zBm (row := [.sl true 3 [(Net.row r1.1)]]) (e := zA.row v4) kr kr (zQ rfl (zK ev4).2) rfl rfl) rfl kr (Qz ev5) rfl<|fA<|mA qG [(13,[])] 5 [⟨[18],49,68,69⟩,⟨[18],49,62,63⟩] fun cx=>mC qG 14<|dE (tI 4) (.box 5) [(0,0),(0,(r2.1.toNat)),(2,(((0 : Int)).toNat))] 8 0 [.sl true 3 [(Net.row r1.1)]] (Pt.row v5) (zBZ rfl (zK ev4).2 rfl (zK ev5).2)<|fA<|mA qG [(15,[])] 3 [⟨[18],49,68,69⟩,⟨[18],49,62,63⟩] fun cx=>mC qG 16<|LAt.indexD tOk (t := 24) (ty := 0) (et := 100) (x := (.tmp 67)) (y := (.const (.int .i64 0))) (d := 78) (g := none) (tI 100) ⟨(.box 5),[(0,0),(0,(r2.1.toNat))],2,true,8,(v4.Ps.map Pt.row)⟩ .i64 0 (((0 : Int)).toNat) (Pt.row v5) kr kr kr kr kr kr kr (zBm (row := [.sl true 3 [(Net.row r1.1)]]) (e := zA.row v4) kr kr (zQ rfl (zK ev4).2) rfl rfl) rfl kr (Qz ev5) rfl<|fA<|mA qG [(17,[])] 1 [⟨[18],49,68,69⟩,⟨[18],49,62,63⟩] fun cx=>sA_ 0xa030c000000000000031 49 ⟨81,1,[(79,.adr (.box 5) [(0,0),(0,(r2.1.toNat)),(2,(((0 : Int)).toNat))] 8 0),sB 77 (!v5.Up),sR 69 5 3 0 1 false,sA 68 5 3 0,sR 63 5 3 0 1 false,sA 62 5 3 0,sA 5 5 3 0,sA 4 4 3 0,sA 0 0 3 0],[(0,(fR (Src.row r3.2))),(5,(Net.row r1.1)),(4,[cL 11 ([] : List zA) zA.row,cL 4 ([] : List Link) Link.row,cL 7 ([] : List Say) Say.row])]⟩ ?_
   exact mC qG 18<|LAt.storeK tOk (t := 4) (ty := 0) (ad := (.tmp 79)) (x := (.tmp 77)) (g := none) (tI 4) false [cB (!v5.Up)] (.box 5) [(0,0),(0,(r2.1.toNat)),(2,(((0 : Int)).toNat))] [(0,(r2.1.toNat)),(2,(((0 : Int)).toNat))] 8 0 [.sl true 3 [(Net.row r1.1)]] (Pt.row v5) (Net.row r1.1) [cL 11 (r1.1.Bs.set (r2.1.toNat) (⟨v4.Id,v4.Name,(v4.Ps.set (((0 : Int)).toNat) (⟨(!v5.Up),v5.Co,v5.Has,v5.Hd⟩ : Pt)),v4.F,v4.V,v4.Tk,v4.Pa,v4.Wo,v4.Dr,v4.Ve⟩ : zA)) zA.row,cL 4 r1.1.Ls Link.row,cL 7 r1.1.Said Say.row] kr kr kr kr kr kr (zBZ rfl (zK ev4).2 rfl (zK ev5).2) rfl (by intro h; cases h) kr kr rfl (zG7 (new := (⟨v4.Id,v4.Name,(v4.Ps.set (((0 : Int)).toNat) (⟨(!v5.Up),v5.Co,v5.Has,v5.Hd⟩ : Pt)),v4.F,v4.V,v4.Tk,v4.Pa,v4.Wo,v4.Dr,v4.Ve⟩ : zA)) (new2 := (⟨(!v5.Up),v5.Co,v5.Has,v5.Hd⟩ : Pt)) rfl (zK ev4).2 rfl (zK ev5).2 kr kr) kr<|fA<|mE qG [5,4,0] [5,0,4]
  ·refine LAt.indexD tOk (t := 24) (ty := 0) (et := 100) (x := (.tmp 73)) (y := (.const (.int .i64 0))) (d := 74) (g := none) (tI 100) ⟨(.box 5),[(0,0),(0,(r2.1.toNat))],2,true,8,(v4.Ps.map Pt.row)⟩ .i64 0 (((0 : Int)).toNat) (Pt.row v5) kr kr kr kr kr kr kr (zBm (row := [.sl true 3 [(Net.row r1.1)]]) (e := zA.row v4) kr kr (zQ rfl (zK ev4).2) rfl rfl) rfl kr (Qz ev5) rfl<|fA<|mA qG [(13,[])] 6 [⟨[18],49,68,69⟩,⟨[18],49,62,63⟩] fun cx=>mB2 tOk qG 5 14 kr (And.intro kr ?_) (And.intro kr ?_)
   ·refine dE (tI 24) (.box 5) [(0,0),(0,(r2.1.toNat))] 11 2 [.sl true 3 [(Net.row r1.1)]] (zA.row v4) (zQ rfl (zK ev4).2)<|fA<|mC qG 14<|dE (tI 4) (.box 5) [(0,0),(0,(r2.1.toNat)),(2,(((0 : Int)).toNat))] 8 0 [.sl true 3 [(Net.row r1.1)]] (Pt.row v5) (zBZ rfl (zK ev4).2 rfl (zK ev5).2)<|fA<|mA qG [(15,[])] 3 [⟨[18],49,68,69⟩,⟨[18],49,62,63⟩] fun cx=>mC qG 16<|LAt.indexD tOk (t := 24) (ty := 0) (et := 100) (x := (.tmp 67)) (y := (.const (.int .i64 0))) (d := 78) (g := none) (tI 100) ⟨(.box 5),[(0,0),(0,(r2.1.toNat))],2,true,8,(v4.Ps.map Pt.row)⟩ .i64 0 (((0 : Int)).toNat) (Pt.row v5) kr kr kr kr kr kr kr (zBm (row := [.sl true 3 [(Net.row r1.1)]]) (e := zA.row v4) kr kr (zQ rfl (zK ev4).2) rfl rfl) rfl kr (Qz ev5) rfl<|fA<|mA qG [(17,[])] 1 [⟨[18],49,68,69⟩,⟨[18],49,62,63⟩] fun cx=>sA_ 0xa030c000000000000031 49 ⟨81,1,[(79,.adr (.box 5) [(0,0),(0,(r2.1.toNat)),(2,(((0 : Int)).toNat))] 8 0),sB 77 (!v5.Up),sR 69 5 3 0 1 false,sA 68 5 3 0,sR 63 5 3 0 1 false,sA 62 5 3 0,sA 5 5 3 0,sA 4 4 3 0,sA 0 0 3 0],[(0,(fR (Src.row r3.2))),(5,(Net.row r1.1)),(4,[cL 11 ([] : List zA) zA.row,cL 4 ([] : List Link) Link.row,cL 7 ([] : List Say) Say.row])]⟩<|mC qG 18<|LAt.storeK tOk (t := 4) (ty := 0) (ad := (.tmp 79)) (x := (.tmp 77)) (g := none) (tI 4) false [cB (!v5.Up)] (.box 5) [(0,0),(0,(r2.1.toNat)),(2,(((0 : Int)).toNat))] [(0,(r2.1.toNat)),(2,(((0 : Int)).toNat))] 8 0 [.sl true 3 [(Net.row r1.1)]] (Pt.row v5) (Net.row r1.1) [cL 11 (r1.1.Bs.set (r2.1.toNat) (⟨v4.Id,v4.Name,(v4.Ps.set (((0 : Int)).toNat) (⟨(!v5.Up),v5.Co,v5.Has,v5.Hd⟩ : Pt)),v4.F,v4.V,v4.Tk,v4.Pa,v4.Wo,v4.Dr,v4.Ve⟩ : zA)) zA.row,cL 4 r1.1.Ls Link.row,cL 7 r1.1.Said Say.row] kr kr kr kr kr kr (zBZ rfl (zK ev4).2 rfl (zK ev5).2) rfl (by intro h; cases h) kr kr rfl (zG7 (new := (⟨v4.Id,v4.Name,(v4.Ps.set (((0 : Int)).toNat) (⟨(!v5.Up),v5.Co,v5.Has,v5.Hd⟩ : Pt)),v4.F,v4.V,v4.Tk,v4.Pa,v4.Wo,v4.Dr,v4.Ve⟩ : zA)) (new2 := (⟨(!v5.Up),v5.Co,v5.Has,v5.Hd⟩ : Pt)) rfl (zK ev4).2 rfl (zK ev5).2 kr kr) kr ?_
    exact fA<|mE qG [5,4,0] [5,0,4]
   ·refine dE (tI 4) (.box 5) [(0,0),(0,(r2.1.toNat)),(2,(((0 : Int)).toNat))] 8 0 [.sl true 3 [(Net.row r1.1)]] (Pt.row v5) (zBZ rfl (zK ev4).2 rfl (zK ev5).2)<|fA<|mA qG [(15,[])] 4 [⟨[18],49,68,69⟩,⟨[18],49,62,63⟩] fun cx=>mC qG 5<|dE (tI 24) (.box 5) [(0,0),(0,(r2.1.toNat))] 11 2 [.sl true 3 [(Net.row r1.1)]] (zA.row v4) (zQ rfl (zK ev4).2)<|fA<|mC qG 16<|LAt.indexD tOk (t := 24) (ty := 0) (et := 100) (x := (.tmp 67)) (y := (.const (.int .i64 0))) (d := 78) (g := none) (tI 100) ⟨(.box 5),[(0,0),(0,(r2.1.toNat))],2,true,8,(v4.Ps.map Pt.row)⟩ .i64 0 (((0 : Int)).toNat) (Pt.row v5) kr kr kr kr kr kr kr (zBm (row := [.sl true 3 [(Net.row r1.1)]]) (e := zA.row v4) kr kr (zQ rfl (zK ev4).2) rfl rfl) rfl kr (Qz ev5) rfl<|fA<|mA qG [(17,[])] 1 [⟨[18],49,68,69⟩,⟨[18],49,62,63⟩] fun cx=>sA_ 0xa030c000000000000031 49 ⟨81,1,[(79,.adr (.box 5) [(0,0),(0,(r2.1.toNat)),(2,(((0 : Int)).toNat))] 8 0),sB 77 (!v5.Up),sR 69 5 3 0 1 false,sA 68 5 3 0,sR 63 5 3 0 1 false,sA 62 5 3 0,sA 5 5 3 0,sA 4 4 3 0,sA 0 0 3 0],[(0,(fR (Src.row r3.2))),(5,(Net.row r1.1)),(4,[cL 11 ([] : List zA) zA.row,cL 4 ([] : List Link) Link.row,cL 7 ([] : List Say) Say.row])]⟩<|mC qG 18<|LAt.storeK tOk (t := 4) (ty := 0) (ad := (.tmp 79)) (x := (.tmp 77)) (g := none) (tI 4) false [cB (!v5.Up)] (.box 5) [(0,0),(0,(r2.1.toNat)),(2,(((0 : Int)).toNat))] [(0,(r2.1.toNat)),(2,(((0 : Int)).toNat))] 8 0 [.sl true 3 [(Net.row r1.1)]] (Pt.row v5) (Net.row r1.1) [cL 11 (r1.1.Bs.set (r2.1.toNat) (⟨v4.Id,v4.Name,(v4.Ps.set (((0 : Int)).toNat) (⟨(!v5.Up),v5.Co,v5.Has,v5.Hd⟩ : Pt)),v4.F,v4.V,v4.Tk,v4.Pa,v4.Wo,v4.Dr,v4.Ve⟩ : zA)) zA.row,cL 4 r1.1.Ls Link.row,cL 7 r1.1.Said Say.row] kr kr kr kr kr kr (zBZ rfl (zK ev4).2 rfl (zK ev5).2) rfl (by intro h; cases h) kr kr rfl (zG7 (new := (⟨v4.Id,v4.Name,(v4.Ps.set (((0 : Int)).toNat) (⟨(!v5.Up),v5.Co,v5.Has,v5.Hd⟩ : Pt)),v4.F,v4.V,v4.Tk,v4.Pa,v4.Wo,v4.Dr,v4.Ve⟩ : zA)) (new2 := (⟨(!v5.Up),v5.Co,v5.Has,v5.Hd⟩ : Pt)) rfl (zK ev4).2 rfl (zK ev5).2 kr kr) kr ?_
    exact fA<|mE qG [5,4,0] [5,0,4]
theorem zD7 (n : Nat) (x0 : Src) (x1 : Int) (r : Net × Src) (H : Yr n x0 x1 = some r) : zE Tryz.prog 122 [.ptr (fR (Src.row x0)),.val false [.lit (.int .i64 x1)]] [.val true (Net.row r.1)] [(0,(fR (Src.row r.2)))] := by
 refine zE.of_body tOk Tryz.func122 rfl (c := (.seq (zFN 0) (.seq (zFN 1) (.seq (.seq (zFN 2) (.cond (.tmp 13) (.seq (zFN 3) .ret) .skip)) (.seq (zFN 4) (.seq (.seq (zFN 5) (.block 0 (.seq (zFN 6) (.cond (.tmp 22) (zND 7) (.seq (zFN 8) (.cond (.tmp 30) (zND 9) (.seq (zFN 10) (.cond (.tmp 47) (zND 11) (.seq (zFN 12) (.cond (.tmp 60) (zND 13) .skip)))))))))) (.seq (zFN 14) .ret))))))) kr (Nat.le_of_ble_eq_true kr) 1 (rs := [.cell 4 53]) rfl [] .nil [(true,(Net.row r.1))] [] [(0,(fR (Src.row r.2)))] fun cx=>?_
 show Tr _ _ _ ⟨81,1,[sA 0 0 3 0,sI 1 x1],[(0,(fR (Src.row x0)))]⟩ _
 unfold Yr at H
 refine gA 1 19 17<|rA 2<|bE H fun r1 er1 H=> vL [.lend,.rd] (zMO n x0 x1 r1 er1)<|uA 2 49 49<|tS<|rA 2<|kO r1.1.Bs zA.row<|uA 1 8241 49 ?_
 obtain ⟨h1,H⟩ | ⟨h1,H⟩ := bC H
 ·refine nA h1<|tK<|rA 3<|kO r1.1.Bs zA.row<|bE H fun r2 er2 H=> vL [.lend,.rd] (zL n r1.2 (r1.1.Bs.length : Int) r2 er2)<|uA 1 113 49<|tS<|rA 1<|bE H fun r3 er3 H=> vL [.lend,.rd] (zL n r2.2 20 r3 er3)<|dA 2097265 49<|tB<|gA 2 6291569 49 ?_
  obtain ⟨h2,H⟩ | ⟨h2,H⟩ := bC H
  ·refine nA h2<|gA 2 1075839089 49 ?_
   obtain ⟨h3,H⟩ | ⟨h3,H⟩ := bC H
   ·refine nA h3<|gA 2 0x800000200071 49 ?_
    obtain ⟨h4,H⟩ | ⟨h4,H⟩ := bC H
    ·refine nA h4<|gA 2 0x1000000000000071 49 ?_
     obtain ⟨h5,H⟩ | ⟨h5,H⟩ := bC H
     ·exact nA h5<|tK<|gA 2 17 17<|te<|fY [(true,(Net.row r1.1))] [(0,(fR (Src.row r3.2)))] H
     exact tA h5<|bE H fun v4 ev4 H=> bE H fun v5 ev5 H=> sT ⟨81,1,[sB 60 (r3.1 == 3),sI 6 r2.1,sA 5 5 3 0,sA 4 4 3 0,sA 0 0 3 0],[(0,(fR (Src.row r3.2))),(5,(Net.row r1.1)),(4,[cL 11 ([] : List zA) zA.row,cL 4 ([] : List Link) Link.row,cL 7 ([] : List Say) Say.row])]⟩<|Tr.draw mixed 19 kr ⟨81,1,[sA 5 5 3 0,sA 4 4 3 0,sA 0 0 3 0],[(5,[cL 11 (r1.1.Bs.set (r2.1.toNat) (⟨v4.Id,v4.Name,(v4.Ps.set (((0 : Int)).toNat) (⟨(!v5.Up),v5.Co,v5.Has,v5.Hd⟩ : Pt)),v4.F,v4.V,v4.Tk,v4.Pa,v4.Wo,v4.Dr,v4.Ve⟩ : zA)) zA.row,cL 4 r1.1.Ls Link.row,cL 7 r1.1.Said Say.row]),(0,(fR (Src.row r3.2))),(4,[cL 11 ([] : List zA) zA.row,cL 4 ([] : List Link) Link.row,cL 7 ([] : List Say) Say.row])]⟩ (zKp n r2 r1 v4 v5 r3 ev4 ev5)<|gA 2 17 17<|te<|fY [(true,[cL 11 (r1.1.Bs.set (r2.1.toNat) (⟨v4.Id,v4.Name,(v4.Ps.set (((0 : Int)).toNat) (⟨(!v5.Up),v5.Co,v5.Has,v5.Hd⟩ : Pt)),v4.F,v4.V,v4.Tk,v4.Pa,v4.Wo,v4.Dr,v4.Ve⟩ : zA)) zA.row,cL 4 r1.1.Ls Link.row,cL 7 r1.1.Said Say.row])] [(0,(fR (Src.row r3.2)))] H
    refine tA h4<|bE H fun r6 er6 H=> bE H fun r7 er7 H=> gE H fun hg8 H=> Tr.draw mixed 12 kr ⟨81,1,[sA 5 5 3 0,sA 4 4 3 0,sA 0 0 3 0],[(5,[cL 11 r1.1.Bs zA.row,cL 4 r1.1.Ls Link.row,cL 7 (r1.1.Said ++ [(⟨r6.1,false,r7.1⟩ : Say)]) Say.row]),(0,(fR (Src.row r7.2))),(4,[cL 11 ([] : List zA) zA.row,cL 4 ([] : List Link) Link.row,cL 7 ([] : List Say) Say.row])]⟩ (fun cx=>?_) ?_
    ·exact mA zA6 [(0,[]),(1,[9,11]),(2,[]),(5,[])] 8 [⟨[9,11],51,49,50⟩] fun cx=>mC zA6 3<|lA 1<|fA<|mC zA6 4<|vL [.lend,.rd] (zj n r3.2 [(-1),0,8,9] r6 er6)<|fA<|mC zA6 6<|vL [.lend] (zKE n r6.2 r7 er7)<|fA<|mC zA6 7<|lA 1<|fA<|mC zA6 8<|lA 1<|fA<|mC zA6 9<|LAt.appMU tOk (t := 51) (ty := 51) (e := 127) (x := (.tmp 50)) (y := (.tmp 57)) (d := 58) (g := none) (tI 127) Say.row r1.1.Said [(⟨r6.1,false,r7.1⟩ : Say)] kr kr kr kr kr kr kr kr kr kr hg8<|fA<|mA zA6 [(10,[])] 1 [⟨[9,11],51,49,50⟩] fun cx=>mC zA6 11<|lA 1<|fA<|mE zA6 [5,4,0] [5,0,4]
    exact gA 2 17 17<|te<|fY [(true,[cL 11 r1.1.Bs zA.row,cL 4 r1.1.Ls Link.row,cL 7 (r1.1.Said ++ [(⟨r6.1,false,r7.1⟩ : Say)]) Say.row])] [(0,(fR (Src.row r7.2)))] H
   refine tA h3<|bE H fun r9 er9 H=> bE H fun r10 er10 H=> bE H fun r11 er11 H=> bE H fun r12 er12 H=> gE H fun hg13 H=> Tr.draw mixed 16 kr ⟨81,1,[sA 5 5 3 0,sA 4 4 3 0,sA 0 0 3 0],[(5,[cL 11 r1.1.Bs zA.row,cL 4 (r1.1.Ls ++ [(⟨r9.1,r10.1,(wI (r11.1 - 1)),r12.1⟩ : Link)]) Link.row,cL 7 r1.1.Said Say.row]),(0,(fR (Src.row r12.2))),(4,[cL 11 ([] : List zA) zA.row,cL 4 ([] : List Link) Link.row,cL 7 ([] : List Say) Say.row])]⟩ (fun cx=>?_) ?_
   ·exact mA zAp ([(0,[]),(1,[13,15])]++zl [2,4,6,9]) 10 [⟨[13,15],50,32,33⟩] fun cx=>mC zAp 3<|vL [.lend,.rd] (zL n r3.2 3 r9 er9)<|fA<|mC zAp 5<|vL [.lend,.rd] (zL n r9.2 3 r10 er10)<|fA<|mC zAp 7<|vL [.lend,.rd] (zL n r10.2 7 r11 er11)<|fA<|mA zAp [(8,[])] 6 [⟨[13,15],50,32,33⟩] fun cx=>mC zAp 10<|vL [.lend,.rd] (zL n r11.2 7 r12 er12)<|fA<|mC zAp 11<|lA 1<|fA<|mC zAp 12<|lA 1<|fA<|mC zAp 13<|LAt.appMU tOk (t := 50) (ty := 50) (e := 78) (x := (.tmp 33)) (y := (.tmp 44)) (d := 45) (g := none) (tI 78) Link.row r1.1.Ls [(⟨r9.1,r10.1,(wI (r11.1 - 1)),r12.1⟩ : Link)] kr kr kr kr kr kr kr kr kr kr hg13<|fA<|mA zAp [(14,[])] 1 [⟨[13,15],50,32,33⟩] fun cx=>mC zAp 15<|lA 1<|fA<|mE zAp [5,4,0] [5,0,4]
   exact gA 2 17 17<|te<|fY [(true,[cL 11 r1.1.Bs zA.row,cL 4 (r1.1.Ls ++ [(⟨r9.1,r10.1,(wI (r11.1 - 1)),r12.1⟩ : Link)]) Link.row,cL 7 r1.1.Said Say.row])] [(0,(fR (Src.row r12.2)))] H
  refine tA h2<|bE H fun r14 er14 H=> bE H fun v15 ev15 H=> Tr.draw mixed 7 kr ⟨81,1,[sA 5 5 3 0,sA 4 4 3 0,sA 0 0 3 0],[(5,[cL 11 (r1.1.Bs.set (r2.1.toNat) r14.1) zA.row,cL 4 r1.1.Ls Link.row,cL 7 r1.1.Said Say.row]),(0,(fR (Src.row r14.2))),(4,[cL 11 ([] : List zA) zA.row,cL 4 ([] : List Link) Link.row,cL 7 ([] : List Say) Say.row])]⟩ (fun cx=>?_) ?_
  ·refine aA [(0,[]),(1,[6]),(2,[]),(3,[])] 3 [⟨[6],49,24,25⟩] fun cx=>bA 4<|vL [.lend] (zMm n r3.2 r14 er14)<|fA<|aO tOk 5 49 0 25 26 29 none ⟨(.box 5),[(0,0)],0,true,11,(r1.1.Bs.map zA.row)⟩ r2.1 (r2.1.toNat) (zA.row v15) _ kr kr kr kr kr kr rfl kr (Qz ev15) rfl rfl (fun cx=>?_)
   exact bA 6<|LAt.storeB tOk (t := 31) (ty := 0) (ad := (.tmp 29)) (x := (.tmp 28)) (g := none) (tI 31) true (zA.row r14.1) 5 0 (r2.1.toNat) 11 0 11 r1.1.Bs zA.row v15 r14.1 kr kr kr kr kr kr kr kr (zK ev15).2 kr kr kr kr<|fA<|eE [5,4,0] [5,0,4]
  exact gA 2 17 17<|te<|fY [(true,[cL 11 (r1.1.Bs.set (r2.1.toNat) r14.1) zA.row,cL 4 r1.1.Ls Link.row,cL 7 r1.1.Said Say.row])] [(0,(fR (Src.row r14.2)))] H
 exact tA h1<|gA 2 17 17<|te<|fY [(true,(Net.row r1.1))] [(0,(fR (Src.row r1.2)))] H
def zAP (n : Nat) (x0 : (List Int)) : Option (Net × Event) :=
  ((JJ n x0).bind fun r1 => ((Yw n x0 12).bind fun r2 => ((Yr n r1 r2).bind fun r3 => ((Ye n r3.2 r3.1).bind fun r4 => ((zG n r4.2 10).bind fun r5 => (bif (r5.1 == 0) then ((zG n r5.2 8).bind fun r7 => (some (r3.1,(⟨r7.1,r4.1.At⟩ : Event)))) else (bif (r5.1 == 1) then ((zX n r5.2 [(-1),40,0]).bind fun r6 => (some (r3.1,(⟨r4.1.Ki,r6.1⟩ : Event)))) else (some (r3.1,r4.1)))))))))
theorem zLX (n : Nat) (x0 : (List Int)) (r : Net × Event) (H : zAP n x0 = some r) : zE Tryz.prog 65 [.val false [.sl false 1 (CV.frzEs (x0.map zZ))]] [.val true (fR (Net.row r.1)),.val true (Event.row r.2)] [] := by
 refine cW Tryz.func65 (fun g d => sl [g 0,g 1,g 2,g 3,sl [g 4] (.block 0 (sl [g 5] (cn 18 (g 6) (sl [g 7] (cn 23 (g 8) .skip))))),d 9] .ret) [.cell 2 53,.cell 3 84] fun cx=>?_
 unfold zAP at H
 refine gA 2 13 12<|rA 1<|bE H fun r1 er1 H=> vA [.rd] (zFI n x0 r1 er1)<|uA 1 29 268<|rA 2<|bE H fun r2 er2 H=> vA [.rd,.rd] (zEA n x0 12 r2 er2)<|bE H fun r3 er3 H=> vL [.lend,.rd] (zD7 n r1 r2 r3 er3)<|uA 2 60 300<|rA 2<|bE H fun r4 er4 H=> LAt.frzB 5<|vL [.lend,.rd] (zHS n r3.2 r3.1 r4 er4)<|uA 2 124 364<|tS<|rA 1<|bE H fun r5 er5 H=> vL [.lend,.rd] (zL n r4.2 10 r5 er5)<|dA 131196 364<|tB<|gA 2 393340 364 ?_
 obtain ⟨h1,H⟩ | ⟨h1,H⟩ := bC H
 ·refine nA h1<|gA 2 8388732 364 ?_
  obtain ⟨h2,H⟩ | ⟨h2,H⟩ := bC H
  ·refine nA h2<|tK<|Tr.draws mixed 4 kr ⟨31,0,[sA 3 3 2 0,sA 2 2 3 0],[(3,(Event.row r4.1)),(2,(fR (Net.row r3.1)))]⟩ (fun cx=>?_) ?_
   ·exact aA [(0,[2,3]),(1,[3])] 2 [⟨[3],84,6,30⟩,⟨[2,3],53,5,29⟩] fun cx=>bA 2<|lA 1<|fA<|bA 3<|lA 1<|fA<|eE [3,2] [3,2]
   exact te (fJ [(true,(fR (Net.row r3.1))),(true,(Event.row r4.1))] H)
  refine tA h2<|Tr.at<|lA 2<|bE H fun r6 er6 H=> vL [.lend,.rd] (zj n r5.2 [(-1),40,0] r6 er6)<|uA 2 108 108<|Tr.draws mixed 4 kr ⟨31,0,[sA 3 3 2 0,sA 2 2 3 0],[(3,[cI r4.1.Ki,cI r6.1]),(2,(fR (Net.row r3.1)))]⟩ (fun cx=>?_) ?_
  ·exact aA [(0,[2,3]),(1,[3])] 2 [⟨[3],84,6,30⟩,⟨[2,3],53,5,29⟩] fun cx=>bA 2<|lA 1<|fA<|bA 3<|lA 1<|fA<|eE [3,2] [3,2]
  exact te (fJ [(true,(fR (Net.row r3.1))),(true,[cI r4.1.Ki,cI r6.1])] H)
 refine tA h1<|Tr.at<|lA 1<|bE H fun r7 er7 H=> vL [.lend,.rd] (zL n r5.2 8 r7 er7)<|uA 2 108 108<|Tr.draws mixed 4 kr ⟨31,0,[sA 3 3 2 0,sA 2 2 3 0],[(3,[cI r7.1,cI r4.1.At]),(2,(fR (Net.row r3.1)))]⟩ (fun cx=>?_) ?_
 ·exact aA [(0,[2,3]),(1,[3])] 2 [⟨[3],84,6,30⟩,⟨[2,3],53,5,29⟩] fun cx=>bA 2<|lA 1<|fA<|bA 3<|lA 1<|fA<|eE [3,2] [3,2]
 exact te (fJ [(true,(fR (Net.row r3.1))),(true,[cI r7.1,cI r4.1.At])] H)
def zCp (n : Nat) (x0 : (List zB)) : Option ((List zB)) :=
  (bif (decide (([] : List zB).length + x0.length ≤ 268435456)) then (some (([] : List zB) ++ x0)) else none)
theorem zLw (n : Nat) (x0 : (List zB)) (r : (List zB)) (H : zCp n x0 = some r) : zE Tryz.prog 159 [.val false [.sl false 5 (CV.frzEs (x0.map zB.row))]] [.val false [.sl true 5 (r.map zB.row)]] [] := by
 refine cW Tryz.func159 (fun g d => sl [g 0,g 1] .ret) [.tmp 2] fun cx=>?_
 unfold zCp at H
 exact gA 1 1 0<|rA 1<|gE H fun hg1 H=> LAt.appCU tOk (t := 25) (ty := 25) (e := 103) (x := (.const (.slice none 0 0))) (y := (.tmp 3)) (d := 4) (g := none) (tI 103) zB.row ([] : List zB) x0 ⟨(.slot 3),[],0,false,5,(CV.frzEs (x0.map zB.row))⟩ kr kr kr kr kr kr kr kr kr kr kr (.inr rfl) (fun _ => rfl) (fun _ => rfl) hg1<|LAt.moveU (T := lk tab) (ty := 25) (x := (.tmp 4)) (d := 2) (g := none) false [cL 5 (([] : List zB) ++ x0) zB.row] kr kr kr kr kr<|dA 4 0<|te (fJ [(false,[cL 5 (([] : List zB) ++ x0) zB.row])] H)
def zB4 (n : Nat) (x0 : (List Int)) : Option ((List Int)) :=
  (bif (decide (([] : List Int).length + x0.length ≤ 268435456)) then (some (([] : List Int) ++ x0)) else none)
theorem zLS (n : Nat) (x0 : (List Int)) (r : (List Int)) (H : zB4 n x0 = some r) : zE Tryz.prog 117 [.val false [.sl false 1 (CV.frzEs (x0.map intRow))]] [.val false [.sl true 1 (r.map intRow)]] [] := by
 refine cW Tryz.func117 (fun g d => sl [g 0,g 1] .ret) [.tmp 2] fun cx=>?_
 unfold zB4 at H
 exact gA 1 1 0<|rA 1<|gE H fun hg1 H=> LAt.appCU tOk (t := 27) (ty := 27) (e := 3) (x := (.const (.slice none 0 0))) (y := (.tmp 3)) (d := 4) (g := none) (tI 3) intRow ([] : List Int) x0 ⟨(.slot 3),[],0,false,1,(CV.frzEs (x0.map intRow))⟩ kr kr kr kr kr kr kr kr kr kr kr (.inr rfl) (fun _ => rfl) (fun _ => rfl) hg1<|LAt.moveU (T := lk tab) (ty := 27) (x := (.tmp 4)) (d := 2) (g := none) false [cL 1 (([] : List Int) ++ x0) intRow] kr kr kr kr kr<|dA 4 0<|te (fJ [(false,[cL 1 (([] : List Int) ++ x0) intRow])] H)
def zAM (n : Nat) (x0 : zD) : Option (zD) :=
  (bif (decide (([] : List zC).length + x0.Rows.length ≤ 268435456)) then ((zB4 n x0.Pv).bind fun r2 => (some (⟨(([] : List zC) ++ x0.Rows),r2⟩ : zD))) else none)
theorem zLT (n : Nat) (x0 : zD) (r : zD) (H : zAM n x0 = some r) : zE Tryz.prog 160 [.val true (fR (zD.row x0))] [.val true (zD.row r)] [] := by
 refine cW Tryz.func160 (fun g d => sl [g 0,d 1] .ret) [.cell 2 29] fun cx=>?_
 unfold zAM at H
 refine gA 2 6 6<|gE H fun hg1 H=> bE H fun r2 er2 H=> Tr.draws mixed 8 kr ⟨10,0,[sA 2 2 2 0],[(2,[cL 3 (([] : List zC) ++ x0.Rows) zC.row,cL 1 r2 intRow])]⟩ (fun cx=>?_) ?_
 ·exact aA [(0,[]),(1,[2,5,6,7]),(3,[]),(4,[5,6,7])] 4 [⟨[5,6,7],27,6,7⟩,⟨[2,5,6,7],26,3,4⟩] fun cx=>bA 2<|LAt.appCU tOk (t := 26) (ty := 26) (e := 113) (x := (.const (.slice none 0 0))) (y := (.tmp 4)) (d := 5) (g := none) (tI 113) zC.row ([] : List zC) x0.Rows ⟨(.box 1),[(0,0)],0,false,3,(CV.frzEs (x0.Rows.map zC.row))⟩ kr kr kr kr kr kr kr kr kr kr kr (.inr rfl) (fun _ => rfl) (fun _ => rfl) hg1<|fA<|bA 5<|vA [.rd] (zLS n x0.Pv r2 er2)<|fA<|bA 6<|lA 1<|fA<|bA 7<|lA 1<|fA<|eE [2] [2]
 exact te (fJ [(true,[cL 3 (([] : List zC) ++ x0.Rows) zC.row,cL 1 r2 intRow])] H)
def Zd (n : Nat) (x0 : zA) : Option (zA) :=
  (bif (decide (([] : List Pt).length + x0.Ps.length ≤ 268435456)) then ((zCp n x0.F).bind fun r2 => ((zAM n x0.V).bind fun r3 => (some (⟨x0.Id,x0.Name,(([] : List Pt) ++ x0.Ps),r2,r3,x0.Tk,x0.Pa,x0.Wo,x0.Dr,x0.Ve⟩ : zA)))) else none)
theorem zBJ (n : Nat) (x0 : zA) (r : zA) (H : Zd n x0 = some r) : zE Tryz.prog 86 [.val true (fR (zA.row x0))] [.val true (zA.row r)] [] := by
 refine cW Tryz.func86 (fun g d => sl [g 0,g 1,d 2,g 3] .ret) [.cell 2 31] fun cx=>?_
 unfold Zd at H
 refine gA 2 6 6<|rA 2<|gE H fun hg1 H=> LAt.appCU tOk (t := 24) (ty := 24) (e := 100) (x := (.const (.slice none 0 0))) (y := (.tmp 4)) (d := 5) (g := none) (tI 100) Pt.row ([] : List Pt) x0.Ps ⟨(.slot 4),[],0,false,8,(CV.frzEs (x0.Ps.map Pt.row))⟩ kr kr kr kr kr kr kr kr kr kr kr (.inr rfl) (fun _ => rfl) (fun _ => rfl) hg1<|uA 2 6 6<|bE H fun r2 er2 H=> bE H fun r3 er3 H=> Tr.draws mixed 10 kr ⟨16,0,[sA 2 2 11 0,sA 1 1 11 0],[(1,[cI x0.Id,cS x0.Name,cL 8 (([] : List Pt) ++ x0.Ps) Pt.row,cL 5 r2 zB.row,cL 3 r3.Rows zC.row,cL 1 r3.Pv intRow,cI x0.Tk,cI x0.Pa,cI x0.Wo,cI x0.Dr,cI x0.Ve]),(2,[cI 0,cS (⟨#[]⟩ : ByteArray),cL 8 ([] : List Pt) Pt.row,cL 5 ([] : List zB) zB.row,cL 3 ([] : List zC) zC.row,cL 1 ([] : List Int) intRow,cI 0,cI 0,cI 0,cI 0,cI 0])]⟩ (fun cx=>?_) ?_
 ·exact aA [(0,[]),(1,[2,5,7,9]),(3,[]),(4,[5,7,9])] 6 [⟨[5,7,9],29,10,11⟩,⟨[2,5,7,9],25,7,8⟩] fun cx=>bA 2<|vA [.rd] (zLw n x0.F r2 er2)<|fA<|aA [(6,[])] 4 [⟨[5,7,9],29,10,11⟩,⟨[2,5,7,9],25,7,8⟩] fun cx=>bA 5<|vA [.rd] (zLT n x0.V r3 er3)<|fA<|bA 7<|LAt.storeO tOk (t := 25) (ty := 0) (ad := (.tmp 13)) (x := (.tmp 9)) (g := none) (tI 25) false [cL 5 r2 zB.row] 1 3 [cI x0.Id,cS x0.Name,cL 8 (([] : List Pt) ++ x0.Ps) Pt.row,cF 5 x0.F zB.row,cF 3 x0.V.Rows zC.row,cF 1 x0.V.Pv intRow,cI x0.Tk,cI x0.Pa,cI x0.Wo,cI x0.Dr,cI x0.Ve] kr kr kr kr kr kr kr kr<|fA<|aA [(8,[])] 1 [⟨[5,7,9],29,10,11⟩,⟨[2,5,7,9],25,7,8⟩] fun cx=>bA 9<|lA 1<|fA<|eE [2,1] [1,2]
 exact gA 2 4 4<|te (fJ [(true,[cI x0.Id,cS x0.Name,cL 8 (([] : List Pt) ++ x0.Ps) Pt.row,cL 5 r2 zB.row,cL 3 r3.Rows zC.row,cL 1 r3.Pv intRow,cI x0.Tk,cI x0.Pa,cI x0.Wo,cI x0.Dr,cI x0.Ve])] H)
def zBK (n : Nat) (x0 : Net) (y5 : (List zA)) : Option (Net) :=
  (some (⟨y5,(([] : List Link) ++ x0.Ls),(([] : List Say) ++ x0.Said)⟩ : Net))
def QV (n : Nat) : Nat → Net → Int → (List zA) → Option (((List zA)) ⊕ (Net))
  | 0,_,_,_ => none
  | mo6 + 1,x0,y3,y4 => (bif (decide (y3 < (x0.Bs.length : Int))) then ((idx x0.Bs y3).bind fun v7 => ((Zd n v7).bind fun r8 => (bif (decide (y4.length + [r8].length ≤ 268435456)) then (QV n mo6 x0 (IntKind.wrap .i64 (y3 + 1)) (y4 ++ [r8])) else none))) else (some (Sum.inl y4)))
def YO (n : Nat) (x0 : Net) : Option (Net) :=
  (bif (decide (([] : List Link).length + x0.Ls.length ≤ 268435456)) then (bif (decide (([] : List Say).length + x0.Said.length ≤ 268435456)) then ((QV n n x0 0 ([] : List zA)).bind fun o => match o with | .inl y5 => (zBK n x0 y5) | .inr r => some r) else none) else none)
theorem zDK (n : Nat) (x0 : Net) (r : Net) (H : YO n x0 = some r) : zE Tryz.prog 111 [.val true (fR (Net.row x0))] [.val true (Net.row r)] [] := by
 refine cW Tryz.func111 (fun g d => sl [g 0,d 1,sl [g 2] (.block 0 (.loop (sl [g 3,cn 17 .skip (.exit 0),.block 1 (sl [g 4] (d 5))] (g 6)))),g 7] .ret) [.cell 2 53] fun cx=>?_
 unfold YO at H
 refine gA 2 6 6<|gE H fun hg1 H=> gE H fun hg2 H=> Tr.draws mixed 9 kr ⟨29,0,[sA 3 3 3 0,sA 2 2 3 0,sA 1 1 3 0],[(3,[cL 11 ([] : List zA) zA.row,cL 4 (([] : List Link) ++ x0.Ls) Link.row,cL 7 (([] : List Say) ++ x0.Said) Say.row]),(2,[cL 11 ([] : List zA) zA.row,cL 4 ([] : List Link) Link.row,cL 7 ([] : List Say) Say.row]),(1,(fR (Net.row x0)))]⟩ (fun cx=>?_) ?_
 ·refine aA [(0,[]),(1,[2,5,6,8]),(3,[]),(4,[5,6,8])] 5 [⟨[5,6,8],51,9,10⟩,⟨[2,5,6,8],50,6,7⟩] fun cx=>AT.big2 tOk 2 7 kr (And.intro kr ?_) (And.intro kr ?_)
  ·refine LAt.appCU tOk (t := 50) (ty := 50) (e := 78) (x := (.const (.slice none 0 0))) (y := (.tmp 7)) (d := 8) (g := none) (tI 78) Link.row ([] : List Link) x0.Ls ⟨(.box 1),[(0,0)],1,false,4,(CV.frzEs (x0.Ls.map Link.row))⟩ kr kr kr kr kr kr kr kr kr kr kr (.inr rfl) (fun _ => rfl) (fun _ => rfl) hg1<|fA<|AT.big2 tOk 5 7 kr (And.intro kr ?_) (And.intro kr ?_)
   ·refine LAt.appCU tOk (t := 51) (ty := 51) (e := 127) (x := (.const (.slice none 0 0))) (y := (.tmp 10)) (d := 11) (g := none) (tI 127) Say.row ([] : List Say) x0.Said ⟨(.box 1),[(0,0)],2,false,7,(CV.frzEs (x0.Said.map Say.row))⟩ kr kr kr kr kr kr kr kr kr kr kr (.inr rfl) (fun _ => rfl) (fun _ => rfl) hg2<|fA<|AT.big2 tOk 6 7 kr (And.intro kr ?_) (And.intro kr ?_)
    ·exact lA 1<|fA<|bA 7<|lA 1<|fA<|bA 8<|lA 1<|fA<|eE [3,2,1] [3,2,1]
    ·exact lA 1<|fA<|bA 6<|lA 1<|fA<|bA 8<|lA 1<|fA<|eE [3,2,1] [3,2,1]
   ·exact lA 1<|fA<|bA 5<|LAt.appCU tOk (t := 51) (ty := 51) (e := 127) (x := (.const (.slice none 0 0))) (y := (.tmp 10)) (d := 11) (g := none) (tI 127) Say.row ([] : List Say) x0.Said ⟨(.box 1),[(0,0)],2,false,7,(CV.frzEs (x0.Said.map Say.row))⟩ kr kr kr kr kr kr kr kr kr kr kr (.inr rfl) (fun _ => rfl) (fun _ => rfl) hg2<|fA<|bA 6<|lA 1<|fA<|bA 8<|lA 1<|fA<|eE [3,2,1] [3,2,1]
  ·exact lA 1<|fA<|bA 2<|LAt.appCU tOk (t := 50) (ty := 50) (e := 78) (x := (.const (.slice none 0 0))) (y := (.tmp 7)) (d := 8) (g := none) (tI 78) Link.row ([] : List Link) x0.Ls ⟨(.box 1),[(0,0)],1,false,4,(CV.frzEs (x0.Ls.map Link.row))⟩ kr kr kr kr kr kr kr kr kr kr kr (.inr rfl) (fun _ => rfl) (fun _ => rfl) hg1<|fA<|bA 5<|LAt.appCU tOk (t := 51) (ty := 51) (e := 127) (x := (.const (.slice none 0 0))) (y := (.tmp 10)) (d := 11) (g := none) (tI 127) Say.row ([] : List Say) x0.Said ⟨(.box 1),[(0,0)],2,false,7,(CV.frzEs (x0.Said.map Say.row))⟩ kr kr kr kr kr kr kr kr kr kr kr (.inr rfl) (fun _ => rfl) (fun _ => rfl) hg2<|fA<|bA 6<|lA 1<|fA<|bA 8<|lA 1<|fA<|eE [3,2,1] [3,2,1]
 refine tS<|rA 2<|kF x0.Bs zA.row<|uA 1 114700 12 ?_
 obtain ⟨o6,eo6,Ho6⟩ := bs H
 clear H
 refine Tr.mid (ι := (List zA)) (fun v => ⟨29,0,[sA 3 3 3 0,sA 2 2 3 0],[(3,[cL 11 v zA.row,cL 4 (([] : List Link) ++ x0.Ls) Link.row,cL 7 (([] : List Say) ++ x0.Said) Say.row]),(2,[cL 11 ([] : List zA) zA.row,cL 4 ([] : List Link) Link.row,cL 7 ([] : List Say) Say.row])]⟩) (fun v => zBK n x0 v = some r) ?_ ?_
 ·refine tB<|Tr.loop (ι := Nat × (Int × (List zA))) (fun v => ⟨29,0,[sI 16 v.2.1,sI 15 (x0.Bs.length : Int),sC 14 (cF 11 x0.Bs zA.row),sA 3 3 3 0,sA 2 2 3 0],[(3,[cL 11 v.2.2 zA.row,cL 4 (([] : List Link) ++ x0.Ls) Link.row,cL 7 (([] : List Say) ++ x0.Said) Say.row]),(2,[cL 11 ([] : List zA) zA.row,cL 4 ([] : List Link) Link.row,cL 7 ([] : List Say) Say.row])]⟩) (fun v => QV n v.1 x0 v.2.1 v.2.2 = some o6) (fun v => v.1) (n,(0,([] : List zA))) eo6 (St.sub_of [16,15,14,3,2] [3,2] kr) ?_
  rintro ⟨_ | mo6,y3,y4⟩ H
  ·exact nN H
  have H : QV n (mo6+1) x0 y3 y4 = some o6 := H
  rw [QV] at H
  refine gA 1 245772 12<|tS ?_
  obtain ⟨h1,H⟩ | ⟨h1,H⟩ := bC H
  ·refine nA h1<|Tr.exit<|aJ ?_
   cases H
   exact jA y4 Ho6 [3,2] [3,2]
  refine tA h1<|tK<|tS<|tB<|tR<|bE H fun v7 ev7 H=> iA zA.row ev7<|uA 3 114732 44<|bE H fun r8 er8 H=> gE H fun hg9 H=> Tr.draw mixed 8 kr ⟨29,0,[sI 16 y3,sI 15 (x0.Bs.length : Int),sC 14 (cF 11 x0.Bs zA.row),sA 3 3 3 0,sA 2 2 3 0],[(3,[cL 11 (y4 ++ [r8]) zA.row,cL 4 (([] : List Link) ++ x0.Ls) Link.row,cL 7 (([] : List Say) ++ x0.Said) Say.row]),(2,[cL 11 ([] : List zA) zA.row,cL 4 ([] : List Link) Link.row,cL 7 ([] : List Say) Say.row])]⟩ (fun cx=>?_) ?_
  ·exact aA [(0,[]),(1,[5,7]),(2,[3,4,5,7])] 5 [⟨[3,4,5,7],31,5,22⟩,⟨[5,7],49,20,21⟩] fun cx=>bA 3<|vA [.rd] (zBJ n v7 r8 er8)<|fA<|bA 4<|lA 1<|fA<|bA 5<|LAt.appMU tOk (t := 49) (ty := 49) (e := 31) (x := (.tmp 21)) (y := (.tmp 24)) (d := 25) (g := none) (tI 31) zA.row y4 [r8] kr kr kr kr kr kr kr kr kr kr hg9<|fA<|aA [(6,[])] 1 [⟨[3,4,5,7],31,5,22⟩,⟨[5,7],49,20,21⟩] fun cx=>bA 7<|lA 1<|fA<|eE [16,15,14,3,2] [3,2]
  exact eA 2 114700 12<|jB mo6 ((wI (y3 + 1)),(y4 ++ [r8])) H [16,15,14,3,2] [3,2]
 rintro y5 H
 have H : (zBK n x0 y5) = some r := H
 unfold zBK at H
 exact gA 2 4 4<|te (fJ [(true,[cL 11 y5 zA.row,cL 4 (([] : List Link) ++ x0.Ls) Link.row,cL 7 (([] : List Say) ++ x0.Said) Say.row])] H)
def qK (n : Nat) (x0 : Int) (x1 : Int) (x2 : Int) : Option (Bool) :=
  (bif (decide (x0 ≥ x1)) then (some (decide (x0 ≤ x2))) else (some false))
theorem qS (n : Nat) (x0 : Int) (x1 : Int) (x2 : Int) (r : Bool) (H : qK n x0 x1 x2 = some r) : zE Tryz.prog 82 [.val false [.lit (.int .i64 x0)],.val false [.lit (.int .i64 x1)],.val false [.lit (.int .i64 x2)]] [.val false [.lit (.bool r)]] [] := by
 refine cW Tryz.func82 (fun g d => sl [g 0,g 1] .ret) [.tmp 6] fun cx=>?_
 unfold qK at H
 refine gA 1 7 0<|rA 4 ?_
 obtain ⟨h1,H⟩ | ⟨h1,H⟩ := bC H
 ·exact qL 1029 0 [10] h1<|uA 5 64 0<|te (fF H)
 exact qL 1029 0 [10] h1<|uA 5 64 0<|te (fJ [(false,[cB (decide (x0 ≤ x2))])] H)
def JE (n : Nat) (x0 : Vec) : Option (Bool) :=
  ((qK n x0.Root 1 99).bind fun r1 => (bif r1 then ((qK n x0.Co 0 100000).bind fun r2 => (bif r2 then ((qK n x0.Hops 0 10).bind fun r3 => (bif r3 then ((qK n x0.Bridge 1 99).bind fun r4 => (bif r4 then ((qK n x0.Port 0 7).bind fun r5 => (some r5)) else (some false))) else (some false))) else (some false))) else (some false)))
theorem zDJ (n : Nat) (x0 : Vec) (r : Bool) (H : JE n x0 = some r) : zE Tryz.prog 88 [.val true (fR (Vec.row x0))] [.val false [.lit (.bool r)]] [] := by
 refine cW Tryz.func88 (fun g d => sl [g 0,g 1] .ret) [.tmp 2] fun cx=>?_
 unfold JE at H
 refine gA 2 2 2<|rA 2<|bE H fun r1 er1 H=> vA [.rd,.rd,.rd] (qS n x0.Root 1 99 r1 er1)<|lA 1 ?_
 obtain ⟨h1,H⟩ | ⟨h1,H⟩ := bC H
 ·exact qL 66 2 [6] h1<|uA 20 4 0<|te (fF H)
 refine qL 66 2 [6] h1<|lA 2<|bE H fun r2 er2 H=> vA [.rd,.rd,.rd] (qS n x0.Co 0 100000 r2 er2)<|lA 2 ?_
 obtain ⟨h2,H⟩ | ⟨h2,H⟩ := bC H
 ·exact qL 2050 2 [11] h2<|uA 15 4 0<|te (fF H)
 refine qL 2050 2 [11] h2<|lA 2<|bE H fun r3 er3 H=> vA [.rd,.rd,.rd] (qS n x0.Hops 0 10 r3 er3)<|lA 2 ?_
 obtain ⟨h3,H⟩ | ⟨h3,H⟩ := bC H
 ·exact qL 65538 2 [16] h3<|uA 10 4 0<|te (fF H)
 refine qL 65538 2 [16] h3<|lA 2<|bE H fun r4 er4 H=> vA [.rd,.rd,.rd] (qS n x0.Bridge 1 99 r4 er4)<|lA 2 ?_
 obtain ⟨h4,H⟩ | ⟨h4,H⟩ := bC H
 ·exact qL 2097154 2 [21] h4<|uA 5 4 0<|te (fF H)
 exact qL 2097154 2 [21] h4<|lA 2<|bE H fun r5 er5 H=> vA [.rd,.rd,.rd] (qS n x0.Port 0 7 r5 er5)<|uA 2 4 0<|te (fJ [(false,[cB r5])] H)
def zDH (n : Nat) (x0 : Pt) : Option (Bool) :=
  ((qK n x0.Co 1 1000).bind fun r1 => (bif (!r1) then (some false) else (bif x0.Has then (bif (!x0.Up) then (some false) else ((JE n x0.Hd).bind fun r2 => (some r2))) else (some ((x0.Hd.Root == 0) && ((x0.Hd.Co == 0) && ((x0.Hd.Hops == 0) && ((x0.Hd.Bridge == 0) && ((x0.Hd.Port == 0) && true)))))))))
theorem zN0 (n : Nat) (x0 : Pt) (r : Bool) (H : zDH n x0 = some r) : zE Tryz.prog 97 [.val true (fR (Pt.row x0))] [.val false [.lit (.bool r)]] [] := by
 refine cW Tryz.func97 (fun g d => sl [g 0,sl [g 1] (cn 15 (sl [g 2] .ret) .skip),sl [g 3] (cn 17 (sl [g 4] .ret) .skip),g 5] .ret) [.tmp 2] fun cx=>?_
 unfold zDH at H
 refine gA 2 2 2<|tS<|rA 2<|bE H fun r1 er1 H=> vA [.rd,.rd,.rd] (qS n x0.Co 1 1000 r1 er1)<|lA 2 ?_
 obtain ⟨h1,H⟩ | ⟨h1,H⟩ := bC H
 ·refine qL 130 2 [7] h1<|lA 3 ?_
  obtain ⟨h2,H⟩ | ⟨h2,H⟩ := bC H
  ·exact qL 1154 2 [10] h2<|uA 5 32770 2<|nB_<|tK<|tS<|gA 2 131074 2<|qT [17] h2<|nB_<|tK<|rA 3<|LAt.eqSG false (t := 33) (ty := 33) (ty' := 4) (x := (.tmp 22)) (y := (.tmp 23)) (d := 24) (g := none) ((x0.Hd.Root == 0) && ((x0.Hd.Co == 0) && ((x0.Hd.Hops == 0) && ((x0.Hd.Bridge == 0) && ((x0.Hd.Port == 0) && true))))) _ kr kr kr kr rfl<|uA 1 4 0<|te (fJ [(false,[cB ((x0.Hd.Root == 0) && ((x0.Hd.Co == 0) && ((x0.Hd.Hops == 0) && ((x0.Hd.Bridge == 0) && ((x0.Hd.Port == 0) && true)))))])] H)
  refine qL 1154 2 [10] h2<|uA 5 32770 2 ?_
  obtain ⟨h3,H⟩ | ⟨h3,H⟩ := bC H
  ·exact nA h3<|tK<|tS<|gA 2 131074 2<|qT [17] h2<|tB_<|rA 2<|bE H fun r2 er2 H=> vA [.rd] (zDJ n x0.Hd r2 er2)<|uA 1 4 0<|te (fJ [(false,[cB r2])] H)
  exact tA h3<|gA 1 4 0<|te (fF H)
 exact qL 130 2 [7] h1<|uA 8 32770 2<|tB_<|gA 1 4 0<|te (fF H)
def zDM (n : Nat) (x0 : zB) : Option (Bool) :=
  ((qK n x0.Tag 1 99).bind fun r1 => (bif r1 then ((qK n x0.Mac 1 9999).bind fun r2 => (bif r2 then ((qK n x0.Port 0 7).bind fun r3 => (bif r3 then ((qK n x0.Age 0 4).bind fun r4 => (bif r4 then (bif (!x0.Sc) then (some true) else (some (x0.Age == 0))) else (some false))) else (some false))) else (some false))) else (some false)))
theorem zGL (n : Nat) (x0 : zB) (r : Bool) (H : zDM n x0 = some r) : zE Tryz.prog 167 [.val true (fR (zB.row x0))] [.val false [.lit (.bool r)]] [] := by
 refine cW Tryz.func167 (fun g d => sl [g 0,g 1] .ret) [.tmp 2] fun cx=>?_
 unfold zDM at H
 refine gA 2 2 2<|rA 2<|bE H fun r1 er1 H=> vA [.rd,.rd,.rd] (qS n x0.Tag 1 99 r1 er1)<|lA 1 ?_
 obtain ⟨h1,H⟩ | ⟨h1,H⟩ := bC H
 ·exact qL 66 2 [6] h1<|uA 25 4 0<|te (fF H)
 refine qL 66 2 [6] h1<|lA 2<|bE H fun r2 er2 H=> vA [.rd,.rd,.rd] (qS n x0.Mac 1 9999 r2 er2)<|lA 2 ?_
 obtain ⟨h2,H⟩ | ⟨h2,H⟩ := bC H
 ·exact qL 2050 2 [11] h2<|uA 20 4 0<|te (fF H)
 refine qL 2050 2 [11] h2<|lA 2<|bE H fun r3 er3 H=> vA [.rd,.rd,.rd] (qS n x0.Port 0 7 r3 er3)<|lA 2 ?_
 obtain ⟨h3,H⟩ | ⟨h3,H⟩ := bC H
 ·exact qL 65538 2 [16] h3<|uA 15 4 0<|te (fF H)
 refine qL 65538 2 [16] h3<|lA 2<|bE H fun r4 er4 H=> vA [.rd,.rd,.rd] (qS n x0.Age 0 4 r4 er4)<|lA 2 ?_
 obtain ⟨h4,H⟩ | ⟨h4,H⟩ := bC H
 ·exact qL 2097154 2 [21] h4<|uA 10 4 0<|te (fF H)
 refine qL 2097154 2 [21] h4<|lA 4 ?_
 obtain ⟨h5,H⟩ | ⟨h5,H⟩ := bC H
 ·exact qL 35651586 2 [25] h5<|uA 6 4 0<|te (fJ [(false,[cB (x0.Age == 0)])] H)
 exact qL 35651586 2 [25] h5<|uA 6 4 0<|te (fT H)
def zBd (n : Nat) (x0 : zB) (x1 : Int) (x2 : Int) : Option (Bool) :=
  (bif (decide (x0.Tag > x1)) then (some true) else (bif (x0.Tag == x1) then (some (decide (x0.Mac > x2))) else (some false)))
theorem zMZ (n : Nat) (x0 : zB) (x1 : Int) (x2 : Int) (r : Bool) (H : zBd n x0 x1 x2 = some r) : zE Tryz.prog 168 [.val true (fR (zB.row x0)),.val false [.lit (.int .i64 x1)],.val false [.lit (.int .i64 x2)]] [.val false [.lit (.bool r)]] [] := by
 refine cW Tryz.func168 (fun g d => sl [g 0,g 1] .ret) [.tmp 6] fun cx=>?_
 unfold zBd at H
 refine gA 2 14 8<|rA 5 ?_
 obtain ⟨h1,H⟩ | ⟨h1,H⟩ := bC H
 ·refine qL 2062 8 [11] h1<|lA 5 ?_
  obtain ⟨h2,H⟩ | ⟨h2,H⟩ := bC H
  ·exact qL 67596 8 [16] h2<|uA 7 64 0<|te (fF H)
  exact qL 67596 8 [16] h2<|uA 7 64 0<|te (fJ [(false,[cB (decide (x0.Mac > x2))])] H)
 exact qL 2062 8 [11] h1<|uA 12 64 0<|te (fT H)
def zCh (n : Nat) (x0 : (List zB)) : Option (Bool) :=
  (some (decide ((x0.length : Int) ≤ 12)))
def Qg (n : Nat) : Nat → (List zB) → Int → Option ((Unit) ⊕ (Bool))
  | 0,_,_ => none
  | mo2 + 1,x0,y1 => (bif (decide (y1 < (x0.length : Int))) then ((idx x0 y1).bind fun v3 => ((zDM n v3).bind fun r4 => (bif (!r4) then (some (Sum.inr false)) else (bif (decide (y1 > 0)) then ((idx x0 (IntKind.wrap .i64 (y1 - 1))).bind fun v5 => ((idx x0 (IntKind.wrap .i64 (y1 - 1))).bind fun v6 => ((zBd n v3 v5.Tag v6.Mac).bind fun r7 => (bif (!r7) then (some (Sum.inr false)) else (Qg n mo2 x0 (IntKind.wrap .i64 (y1 + 1))))))) else (Qg n mo2 x0 (IntKind.wrap .i64 (y1 + 1))))))) else (some (Sum.inl ())))
def zCU (n : Nat) (x0 : (List zB)) : Option (Bool) :=
  ((Qg n n x0 0).bind fun o => match o with | .inl _ => (zCh n x0) | .inr r => some r)
def zQc : Tab := ⟨24,[0,1,2,6,8,24,40,64,64,64,576,1344,2112,4160,64,64,32832,81984,131136,262208,532672,1048640,2097224,4194312],[0,1,2,4,8,24,40,64,64,64,576,1344,2112,4160,64,64,32832,81984,131136,262208,532672,1048640,2097224,4194312],[0,1,3,7,15,31,63,127,127,127,639,1919,3967,8063,127,127,32895,114815,245887,508031,1048575,2097151,4194303,8388607]⟩
theorem YC : zc (rg Tryz.f98 4) zQc = true := kr
theorem zNO (n : Nat) (x0 : (List zB)) (r : Bool) (H : zCU n x0 = some r) : zE Tryz.prog 98 [.val false [.sl false 5 (CV.frzEs (x0.map zB.row))]] [.val false [.lit (.bool r)]] [] := by
 refine cW Tryz.func98 (fun g d => sl [g 0,sl [g 1] (.block 0 (.loop (sl [g 2,cn 8 .skip (.exit 0),.block 1 (sl [g 3,d 4] (cn 35 (sl [g 5] .ret) .skip))] (g 6)))),g 7] .ret) [.tmp 2] fun cx=>?_
 unfold zCU at H
 refine gA 1 1 0<|tS<|rA 1<|kF x0 zB.row<|uA 1 225 0 ?_
 obtain ⟨o2,eo2,Ho2⟩ := bs H
 clear H
 refine Tr.mid (ι := Unit) (fun v => ⟨40,0,[sC 0 (cF 5 x0 zB.row)],[]⟩) (fun v => zCh n x0 = some r) ?_ ?_
 ·refine tB<|Tr.loop (ι := Nat × (Int)) (fun v => ⟨40,0,[sI 7 v.2,sI 6 (x0.length : Int),sC 5 (cF 5 x0 zB.row),sC 0 (cF 5 x0 zB.row)],[]⟩) (fun v => Qg n v.1 x0 v.2 = some o2) (fun v => v.1) (n,0) eo2 (St.sub_of [7,6,5,0] [] kr) ?_
  rintro ⟨_ | mo2,y1⟩ H
  ·exact nN H
  have H : Qg n (mo2+1) x0 y1 = some o2 := H
  rw [Qg] at H
  refine gA 1 481 0<|tS ?_
  obtain ⟨h1,H⟩ | ⟨h1,H⟩ := bC H
  ·refine nA h1<|Tr.exit<|aJ ?_
   cases H
   exact jA () Ho2 [0] []
  refine tA h1<|tK<|tS<|tB<|rA 1<|bE H fun v3 ev3 H=> iA zB.row ev3<|uA 4 249 16<|bE H fun r4 er4 H=> sT ⟨40,0,[sI 3 y1,sA 4 4 5 0,sI 7 y1,sI 6 (x0.length : Int),sC 5 (cF 5 x0 zB.row),sC 0 (cF 5 x0 zB.row)],[(4,(zB.row v3))]⟩ ?_
  cases h2 : (!r4)
  ·have H := qe h2 H
   refine sT ⟨40,0,[sI 3 y1,sA 4 4 5 0,sI 7 y1,sI 6 (x0.length : Int),sC 5 (cF 5 x0 zB.row),sC 0 (cF 5 x0 zB.row)],[(4,(zB.row v3))]⟩ ?_
   cases h3 : (decide (y1 > 0))
   ·have H := qe h3 H
    refine Tr.draws mixed 24 kr ⟨40,0,[sB 35 false,sI 7 y1,sI 6 (x0.length : Int),sC 5 (cF 5 x0 zB.row),sC 0 (cF 5 x0 zB.row)],[]⟩ (fun cx=>?_) ?_
    ·exact mA YC [(0,[1])] 23 [⟨[1],103,4,12⟩] fun cx=>mC YC 1<|vA [.rd] (zGL n v3 r4 er4)<|fA<|mA YC [(2,[]),(3,[])] 20 [⟨[1],103,4,12⟩] fun cx=>qA 37113 16 [15] h2<|mA YC (zl [4,5,6]) 17 [⟨[1],103,4,12⟩] fun cx=>qA 299257 16 [18] h3<|mA YC (zl [7,8,9,10,11,12,13,14,15,16,17,18,19,20,21,22,23]) 0 [⟨[1],103,4,12⟩] fun cx=>mE YC [35,7,6,5,0] []
    exact nB_<|tK<|eA 2 225 0<|jB mo2 (wI (y1 + 1)) H [7,6,5,0] []
   have H := qf h3 H
   refine bE H fun v5 ev5 H=> bE H fun v6 ev6 H=> bE H fun r7 er7 H=> Tr.draws mixed 24 kr ⟨40,0,[sB 35 (!r7),sI 7 y1,sI 6 (x0.length : Int),sC 5 (cF 5 x0 zB.row),sC 0 (cF 5 x0 zB.row)],[]⟩ (fun cx=>?_) ?_
   ·exact mA YC [(0,[1,20])] 23 [⟨[1,20],103,4,12⟩] fun cx=>mC YC 1<|vA [.rd] (zGL n v3 r4 er4)<|fA<|mA YC [(2,[]),(3,[])] 20 [⟨[1,20],103,4,12⟩] fun cx=>qA 37113 16 [15] h2<|mA YC (zl [4,5,6]) 17 [⟨[1,20],103,4,12⟩] fun cx=>qA 299257 16 [18] h3<|mA YC ([(7,[20])]++zl [8,9,10]) 13 [⟨[20],103,4,19⟩,⟨[1,20],103,4,12⟩] fun cx=>iN YC 11 zB.row ev5 fun cx=>mA YC (zl [12,13,14,15,16]) 7 [⟨[20],103,4,19⟩,⟨[1,20],103,4,12⟩] fun cx=>iN YC 17 zB.row ev6 fun cx=>mA YC [(18,[]),(19,[])] 4 [⟨[20],103,4,19⟩,⟨[1,20],103,4,12⟩] fun cx=>mC YC 20<|vA [.rd,.rd,.rd] (zMZ n v3 v5.Tag v6.Mac r7 er7)<|fA<|mA YC (zl [21,22,23]) 0 [⟨[20],103,4,19⟩,⟨[1,20],103,4,12⟩] fun cx=>mE YC [35,7,6,5,0] []
   obtain ⟨h4,H⟩ | ⟨h4,H⟩ := bC H
   ·exact qT [35] h4<|nB_<|tK<|eA 2 225 0<|jB mo2 (wI (y1 + 1)) H [7,6,5,0] []
   refine qT [35] h4<|tB_<|gA 1 4 0<|te ?_
   cases H
   exact fF Ho2
  have H := qf h2 H
  refine Tr.draws mixed 24 kr ⟨40,0,[sB 35 true,sI 7 y1,sI 6 (x0.length : Int),sC 5 (cF 5 x0 zB.row),sC 0 (cF 5 x0 zB.row)],[]⟩ (fun cx=>?_) ?_
  ·exact mA YC [(0,[1])] 23 [⟨[1],103,4,12⟩] fun cx=>mC YC 1<|vA [.rd] (zGL n v3 r4 er4)<|fA<|mA YC [(2,[]),(3,[])] 20 [⟨[1],103,4,12⟩] fun cx=>qA 37113 16 [15] h2<|mA YC (zl [4,5,6,7,8,9,10,11,12,13,14,15,16,17,18,19,20,21,22,23]) 0 [⟨[1],103,4,12⟩] fun cx=>mE YC [35,7,6,5,0] []
  refine tB_<|gA 1 4 0<|te ?_
  cases H
  exact fF Ho2
 rintro _ H
 have H : (zCh n x0) = some r := H
 unfold zCh at H
 exact rA 1<|kF x0 zB.row<|uA 2 4 0<|te (fJ [(false,[cB (decide ((x0.length : Int) ≤ 12))])] H)
def Q4 (n : Nat) (x0 : Int) : Option (Int) :=
  (bif (decide ((0 : Int) ≤ x0)) then (some (IntKind.wrap .i64 ((IntKind.wrap .i64 (1 * 2 ^ min ((x0 : Int)).toNat (IntKind.bits .i64))) - 1))) else none)
theorem zCo (n : Nat) (x0 : Int) (r : Int) (H : Q4 n x0 = some r) : zE Tryz.prog 158 [.val false [.lit (.int .i64 x0)]] [.val false [.lit (.int .i64 r)]] [] := by
 refine cW Tryz.func158 (fun g d => sl [g 0,g 1] .ret) [.tmp 2] fun cx=>?_
 unfold Q4 at H
 exact gA 1 1 0<|rA 1<|gE H fun hg1 H=> LAt.binC tOk (op := .shl) (t := 3) (ty := 3) (ty' := 3) (x := (.const (.int .i64 1))) (y := (.tmp 3)) (d := 4) (g := none) (.int .i64 1) (.int .i64 x0) (.int .i64 (wI (1 * 2 ^ min ((x0 : Int)).toNat (IntKind.bits .i64)))) _ kr kr kr kr kr (φ := (0 : Int) ≤ x0) kr (of_decide_eq_true hg1) rfl<|uA 2 4 0<|te (fJ [(false,[cI (wI ((wI (1 * 2 ^ min ((x0 : Int)).toNat (IntKind.bits .i64))) - 1))])] H)
def zCk (n : Nat) : Option (Int) :=
  (some (-1))
def Y4 (n : Nat) : Nat → zD → Int → Int → Option ((Unit) ⊕ (Int))
  | 0,_,_,_ => none
  | mo2 + 1,x0,x1,y1 => (bif (decide (y1 < (x0.Rows.length : Int))) then ((idx x0.Rows y1).bind fun v3 => (bif (v3.Id == x1) then (some (Sum.inr y1)) else (Y4 n mo2 x0 x1 (IntKind.wrap .i64 (y1 + 1))))) else (some (Sum.inl ())))
def zCV (n : Nat) (x0 : zD) (x1 : Int) : Option (Int) :=
  ((Y4 n n x0 x1 0).bind fun o => match o with | .inl _ => (zCk n) | .inr r => some r)
theorem zNP (n : Nat) (x0 : zD) (x1 : Int) (r : Int) (H : zCV n x0 x1 = some r) : zE Tryz.prog 169 [.val true (fR (zD.row x0)),.val false [.lit (.int .i64 x1)]] [.val false [.lit (.int .i64 r)]] [] := by
 refine cW Tryz.func169 (fun g d => sl [g 0,sl [g 1] (.block 0 (.loop (sl [g 2,cn 11 .skip (.exit 0),.block 1 (sl [g 3,g 4] (cn 18 (sl [g 5] .ret) .skip))] (g 6)))),g 7] .ret) [.tmp 4] fun cx=>?_
 unfold zCV at H
 refine gA 2 6 4<|tS<|rA 2<|kF x0.Rows zC.row<|uA 1 1794 0 ?_
 obtain ⟨o2,eo2,Ho2⟩ := bs H
 clear H
 refine Tr.mid (ι := Unit) (fun v => ⟨21,0,[],[]⟩) (fun v => zCk n = some r) ?_ ?_
 ·refine tB<|Tr.loop (ι := Nat × (Int)) (fun v => ⟨21,0,[sI 10 v.2,sI 9 (x0.Rows.length : Int),sC 8 (cF 3 x0.Rows zC.row),sI 1 x1],[]⟩) (fun v => Y4 n v.1 x0 x1 v.2 = some o2) (fun v => v.1) (n,0) eo2 (St.sub_of [10,9,8,1] [] kr) ?_
  rintro ⟨_ | mo2,y1⟩ H
  ·exact nN H
  have H : Y4 n (mo2+1) x0 x1 y1 = some o2 := H
  rw [Y4] at H
  refine gA 1 3842 0<|tS ?_
  obtain ⟨h1,H⟩ | ⟨h1,H⟩ := bC H
  ·refine nA h1<|Tr.exit<|aJ ?_
   cases H
   exact jA () Ho2 [] []
  refine tA h1<|tK<|tS<|tB<|rA 1<|bE H fun v3 ev3 H=> iA zC.row ev3<|uA 4 1890 64<|gA 4 263970 0 ?_
  obtain ⟨h2,H⟩ | ⟨h2,H⟩ := bC H
  ·exact nA h2<|tK<|eA 2 1794 0<|jB mo2 (wI (y1 + 1)) H [10,9,8,1] []
  refine tA h2<|gA 2 16 0<|te ?_
  cases H
  exact fJ [(false,[cI y1])] Ho2
 rintro _ H
 have H : (zCk n) = some r := H
 unfold zCk at H
 exact gA 1 16 0<|te (fJ [(false,[cI (-1)])] H)
def zB3 (n : Nat) : Option (Bool) :=
  (some true)
def Q3 (n : Nat) : Nat → zD → Int → Option ((Unit) ⊕ (Bool))
  | 0,_,_ => none
  | mo4 + 1,x0,y3 => (bif (decide (y3 < (x0.Pv.length : Int))) then ((idx x0.Pv y3).bind fun v5 => ((zCV n x0 v5).bind fun r6 => (bif (decide (r6 < 0)) then (some (Sum.inr false)) else (Q3 n mo4 x0 (IntKind.wrap .i64 (y3 + 1)))))) else (some (Sum.inl ())))
def zAL (n : Nat) (x0 : zD) : Option (Bool) :=
  ((Q3 n n x0 0).bind fun o => match o with | .inl _ => (zB3 n) | .inr r => some r)
def QM (n : Nat) : Nat → zD → Int → Int → Option ((Unit) ⊕ (Bool))
  | 0,_,_,_ => none
  | mo7 + 1,x0,x1,y2 => (bif (decide (y2 < (x0.Rows.length : Int))) then ((idx x0.Rows y2).bind fun v8 => ((qK n v8.Id 1 99).bind fun r9 => (bif (!r9) then (some (Sum.inr false)) else (bif (decide (y2 > 0)) then ((idx x0.Rows (IntKind.wrap .i64 (y2 - 1))).bind fun v12 => (bif (decide (v12.Id ≥ v8.Id)) then (some (Sum.inr false)) else ((Q4 n x1).bind fun r13 => ((qK n v8.Members 0 r13).bind fun r14 => (bif (!r14) then (some (Sum.inr false)) else (bif ((IntKind.wrap .i64 (BitVec.ofInt (IntKind.bits .i64) v8.Bare &&& ~~~BitVec.ofInt (IntKind.bits .i64) v8.Members).toNat) != 0) then (some (Sum.inr false)) else (QM n mo7 x0 x1 (IntKind.wrap .i64 (y2 + 1))))))))) else ((Q4 n x1).bind fun r10 => ((qK n v8.Members 0 r10).bind fun r11 => (bif (!r11) then (some (Sum.inr false)) else (bif ((IntKind.wrap .i64 (BitVec.ofInt (IntKind.bits .i64) v8.Bare &&& ~~~BitVec.ofInt (IntKind.bits .i64) v8.Members).toNat) != 0) then (some (Sum.inr false)) else (QM n mo7 x0 x1 (IntKind.wrap .i64 (y2 + 1))))))))))) else (some (Sum.inl ())))
def zBc (n : Nat) (x0 : zD) (x1 : Int) : Option (Bool) :=
  ((qK n x1 1 6).bind fun r1 => (bif (!r1) then (some false) else (bif ((x0.Pv.length : Int) != x1) then (some false) else (bif (decide ((x0.Rows.length : Int) > 6)) then (some false) else ((QM n n x0 x1 0).bind fun o => match o with | .inl _ => (zAL n x0) | .inr r => some r)))))
def zQd : Tab := ⟨36,[0,1,2,4,12,16,48,80,128,384,128,1152,2688,4224,8320,128,32896,82048,131216,262160,524416,1048576,3145728,1048576,9437184,22020096,34603008,68157440,167772160,268435456,805306368,268435456,2415919104,5637144576,8858370048,17448304640],[0,1,2,4,8,16,48,80,128,384,128,1152,2688,4224,8320,128,32896,82048,131216,262160,524288,1048576,3145728,1048576,9437184,22020096,34603008,68157440,134217728,268435456,805306368,268435456,2415919104,5637144576,8858370048,17448304640],[0,1,3,7,15,31,63,127,255,511,255,1279,4095,8191,16383,255,33023,131071,262143,524287,1048575,2097151,4194303,2097151,10485759,33554431,67108863,134217727,268435455,536870911,1073741823,536870911,2684354559,8589934591,17179869183,34359738367]⟩
theorem zz : zc (rg Tryz.f99 6) zQd = true := kr
theorem zKV (n : Nat) (x1 : Int) (r13 : Int) (v8 : zC) (r14 : Bool) (y2 : Int) (x0 : zD) (er13 : (Q4 n x1) = some r13) (er14 : (qK n v8.Members 0 r13) = some r14) (h12 : (!r14) = false) (cx : Cx) : AT Tryz.prog cx (rg Tryz.f99 6) [⟨[24,25],3,48,49⟩,⟨[24,25],26,41,42⟩,⟨[2,24,25],3,33,34⟩] 15 [20,19,18,17,16,15,14,13,12,11,10,9,8,7,6,5,4,3,2,1,0] ⟨82,0,[sB 53 false,sI 49 v8.Id,sA 48 6 3 0,sR 42 2 2 0 1 false,sA 41 2 2 0,sI 34 v8.Id,sA 33 6 3 0,sA 6 6 3 0,sI 28 y2,sI 27 (x0.Rows.length : Int),sC 26 (cF 3 x0.Rows zC.row),sA 2 2 2 0,sI 1 x1],[(6,(zC.row v8)),(2,(fR (zD.row x0)))]⟩ (fun s => s = ⟨82,0,[sB 68 ((wI (bO v8.Bare &&& ~~~bO v8.Members).toNat) != 0),sI 28 y2,sI 27 (x0.Rows.length : Int),sC 26 (cF 3 x0.Rows zC.row),sA 2 2 2 0,sI 1 x1],[(2,(fR (zD.row x0)))]⟩) := by
 exact mA zz [(21,[]),(22,[25]),(23,[])] 12 [⟨[25],3,54,55⟩,⟨[24,25],3,48,49⟩,⟨[24,25],26,41,42⟩,⟨[2,24,25],3,33,34⟩] fun cx=>mC zz 24<|vA [.rd] (zCo n x1 r13 er13)<|fA<|mC zz 25<|vA [.rd,.rd,.rd] (qS n v8.Members 0 r13 r14 er14)<|fA<|mA zz (zl [26,27,28]) 7 [⟨[25],3,54,55⟩,⟨[24,25],3,48,49⟩,⟨[24,25],26,41,42⟩,⟨[2,24,25],3,33,34⟩] fun cx=>qA 0x20c306061c000046 68 [61] h12<|mA zz (zl [29,30,31,32,33,34,35]) 0 [⟨[],3,64,65⟩,⟨[],3,62,63⟩,⟨[25],3,54,55⟩,⟨[24,25],3,48,49⟩,⟨[24,25],26,41,42⟩,⟨[2,24,25],3,33,34⟩] fun cx=>mE zz [68,28,27,26,2,1] [2]
theorem zKW (n : Nat) (x1 : Int) (r13 : Int) (v8 : zC) (r14 : Bool) (y2 : Int) (x0 : zD) (er13 : (Q4 n x1) = some r13) (er14 : (qK n v8.Members 0 r13) = some r14) (h12 : (!r14) = true) (cx : Cx) : AT Tryz.prog cx (rg Tryz.f99 6) [⟨[24,25],3,48,49⟩,⟨[24,25],26,41,42⟩,⟨[2,24,25],3,33,34⟩] 15 [20,19,18,17,16,15,14,13,12,11,10,9,8,7,6,5,4,3,2,1,0] ⟨82,0,[sB 53 false,sI 49 v8.Id,sA 48 6 3 0,sR 42 2 2 0 1 false,sA 41 2 2 0,sI 34 v8.Id,sA 33 6 3 0,sA 6 6 3 0,sI 28 y2,sI 27 (x0.Rows.length : Int),sC 26 (cF 3 x0.Rows zC.row),sA 2 2 2 0,sI 1 x1],[(6,(zC.row v8)),(2,(fR (zD.row x0)))]⟩ (fun s => s = ⟨82,0,[sB 68 true,sI 28 y2,sI 27 (x0.Rows.length : Int),sC 26 (cF 3 x0.Rows zC.row),sA 2 2 2 0,sI 1 x1],[(2,(fR (zD.row x0)))]⟩) := by
 exact mA zz [(21,[]),(22,[25]),(23,[])] 12 [⟨[25],3,54,55⟩,⟨[24,25],3,48,49⟩,⟨[24,25],26,41,42⟩,⟨[2,24,25],3,33,34⟩] fun cx=>mC zz 24<|vA [.rd] (zCo n x1 r13 er13)<|fA<|mC zz 25<|vA [.rd,.rd,.rd] (qS n v8.Members 0 r13 r14 er14)<|fA<|mA zz (zl [26,27,28]) 7 [⟨[25],3,54,55⟩,⟨[24,25],3,48,49⟩,⟨[24,25],26,41,42⟩,⟨[2,24,25],3,33,34⟩] fun cx=>qA 0x20c306061c000046 68 [61] h12<|mA zz (zl [29,30,31,32,33,34,35]) 0 [⟨[25],3,54,55⟩,⟨[24,25],3,48,49⟩,⟨[24,25],26,41,42⟩,⟨[2,24,25],3,33,34⟩] fun cx=>mE zz [68,28,27,26,2,1] [2]
theorem zKX (n : Nat) (v8 : zC) (y2 : Int) (x0 : zD) (x1 : Int) (cx : Cx) : AT Tryz.prog cx (rg Tryz.f99 6) [⟨[],3,48,49⟩,⟨[],26,41,42⟩,⟨[2],3,33,34⟩] 15 [20,19,18,17,16,15,14,13,12,11,10,9,8,7,6,5,4,3,2,1,0] ⟨82,0,[sB 53 true,sI 49 v8.Id,sA 48 6 3 0,sR 42 2 2 0 1 false,sA 41 2 2 0,sI 34 v8.Id,sA 33 6 3 0,sA 6 6 3 0,sI 28 y2,sI 27 (x0.Rows.length : Int),sC 26 (cF 3 x0.Rows zC.row),sA 2 2 2 0,sI 1 x1],[(6,(zC.row v8)),(2,(fR (zD.row x0)))]⟩ (fun s => s = ⟨82,0,[sB 68 true,sI 28 y2,sI 27 (x0.Rows.length : Int),sC 26 (cF 3 x0.Rows zC.row),sA 2 2 2 0,sI 1 x1],[(2,(fR (zD.row x0)))]⟩) := by
 exact mA zz (zl [21,22,23,24,25,26,27,28,29,30,31,32,33,34,35]) 0 [⟨[],3,48,49⟩,⟨[],26,41,42⟩,⟨[2],3,33,34⟩] fun cx=>mE zz [68,28,27,26,2,1] [2]
theorem zMY (n : Nat) (x0 : zD) (x1 : Int) (r : Bool) (H : zBc n x0 x1 = some r) : zE Tryz.prog 99 [.val true (fR (zD.row x0)),.val false [.lit (.int .i64 x1)]] [.val false [.lit (.bool r)]] [] := by
 refine cW Tryz.func99 (fun g d => sl [g 0,sl [g 1] (cn 24 (sl [g 2] .ret) .skip),sl [g 3] (.block 0 (.loop (sl [g 4,cn 29 .skip (.exit 0),.block 1 (sl [g 5,d 6] (cn 68 (sl [g 7] .ret) .skip))] (g 8)))),sl [g 9] (.block 2 (.loop (sl [g 10,cn 74 .skip (.exit 2),.block 3 (sl [g 11,g 12] (cn 80 (sl [g 13] .ret) .skip))] (g 14)))),g 15] .ret) [.tmp 4] fun cx=>?_
 unfold zBc at H
 refine gA 2 6 4<|tS<|rA 1<|bE H fun r1 er1 H=> vA [.rd,.rd,.rd] (qS n x1 1 6 r1 er1)<|lA 2 ?_
 obtain ⟨h1,H⟩ | ⟨h1,H⟩ := bC H
 ·refine qL 4102 4 [12] h1<|lA 2<|kF x0.Pv intRow<|lA 4 ?_
  obtain ⟨h2,H⟩ | ⟨h2,H⟩ := bC H
  ·refine qL 524294 4 [19] h2<|lA 2<|kF x0.Rows zC.row<|uA 2 16777222 4 ?_
   obtain ⟨h3,H⟩ | ⟨h3,H⟩ := bC H
   ·refine nA h3<|tK<|tS<|rA 2<|kF x0.Rows zC.row<|uA 1 469762054 4 ?_
    obtain ⟨o7,eo7,Ho7⟩ := bs H
    clear H
    refine Tr.mid (ι := Unit) (fun v => ⟨82,0,[sA 2 2 2 0],[(2,(fR (zD.row x0)))]⟩) (fun v => zAL n x0 = some r) ?_ ?_
    ·refine tB<|Tr.loop (ι := Nat × (Int)) (fun v => ⟨82,0,[sI 28 v.2,sI 27 (x0.Rows.length : Int),sC 26 (cF 3 x0.Rows zC.row),sA 2 2 2 0,sI 1 x1],[(2,(fR (zD.row x0)))]⟩) (fun v => QM n v.1 x0 x1 v.2 = some o7) (fun v => v.1) (n,0) eo7 (St.sub_of [28,27,26,2,1] [2] kr) ?_
     rintro ⟨_ | mo7,y2⟩ H
     ·exact nN H
     have H : QM n (mo7+1) x0 x1 y2 = some o7 := H
     rw [QM] at H
     refine gA 1 1006632966 4<|tS ?_
     obtain ⟨h6,H⟩ | ⟨h6,H⟩ := bC H
     ·refine nA h6<|Tr.exit<|aJ ?_
      cases H
      exact jA () Ho7 [2] [2]
     refine tA h6<|tK<|tS<|tB<|rA 1<|bE H fun v8 ev8 H=> iA zC.row ev8<|uA 4 469762150 68<|bE H fun r9 er9 H=> sT ⟨82,0,[sI 5 y2,sA 6 6 3 0,sI 28 y2,sI 27 (x0.Rows.length : Int),sC 26 (cF 3 x0.Rows zC.row),sA 2 2 2 0,sI 1 x1],[(6,(zC.row v8)),(2,(fR (zD.row x0)))]⟩ ?_
     cases h7 : (!r9)
     ·have H := qe h7 H
      refine sT ⟨82,0,[sI 5 y2,sA 6 6 3 0,sI 28 y2,sI 27 (x0.Rows.length : Int),sC 26 (cF 3 x0.Rows zC.row),sA 2 2 2 0,sI 1 x1],[(6,(zC.row v8)),(2,(fR (zD.row x0)))]⟩ ?_
      cases h8 : (decide (y2 > 0))
      ·have H := qe h8 H
       refine bE H fun r10 er10 H=> bE H fun r11 er11 H=> sT ⟨82,0,[sI 5 y2,sA 6 6 3 0,sI 28 y2,sI 27 (x0.Rows.length : Int),sC 26 (cF 3 x0.Rows zC.row),sA 2 2 2 0,sI 1 x1],[(6,(zC.row v8)),(2,(fR (zD.row x0)))]⟩ ?_
       cases h9 : (!r11)
       ·have H := qe h9 H
        refine Tr.draws mixed 36 kr ⟨82,0,[sB 68 ((wI (bO v8.Bare &&& ~~~bO v8.Members).toNat) != 0),sI 28 y2,sI 27 (x0.Rows.length : Int),sC 26 (cF 3 x0.Rows zC.row),sA 2 2 2 0,sI 1 x1],[(2,(fR (zD.row x0)))]⟩ (fun cx=>?_) ?_
        ·exact mA zz [(0,[]),(1,[2,24,25])] 34 [⟨[2,24,25],3,33,34⟩] fun cx=>mC zz 2<|vA [.rd,.rd,.rd] (qS n v8.Id 1 99 r9 er9)<|fA<|mA zz [(3,[]),(4,[])] 31 [⟨[2,24,25],3,33,34⟩] fun cx=>qA 163678519398 68 [37] h7<|mA zz (zl [5,6,7]) 28 [⟨[2,24,25],3,33,34⟩] fun cx=>qA 1263190147174 68 [40] h8<|mA zz (zl [8,9,10,11,12,13,14,15,16,17,18,19,20,21]++[(22,[25]),(23,[])]) 12 [⟨[25],3,54,55⟩,⟨[2,24,25],3,33,34⟩] fun cx=>mC zz 24<|vA [.rd] (zCo n x1 r10 er10)<|fA<|mC zz 25<|vA [.rd,.rd,.rd] (qS n v8.Members 0 r10 r11 er11)<|fA<|mA zz (zl [26,27,28]) 7 [⟨[25],3,54,55⟩,⟨[2,24,25],3,33,34⟩] fun cx=>qA 0x20c000061c000046 68 [61] h9<|mA zz (zl [29,30,31,32,33,34,35]) 0 [⟨[],3,64,65⟩,⟨[],3,62,63⟩,⟨[25],3,54,55⟩,⟨[2,24,25],3,33,34⟩] fun cx=>mE zz [68,28,27,26,2,1] [2]
        obtain ⟨h10,H⟩ | ⟨h10,H⟩ := bC H
        ·exact qT [68] h10<|nB_<|tK<|eA 2 469762054 4<|jB mo7 (wI (y2 + 1)) H [28,27,26,2,1] [2]
        refine qT [68] h10<|tB_<|gA 1 16 0<|te ?_
        cases H
        exact fF Ho7
       have H := qf h9 H
       refine Tr.draws mixed 36 kr ⟨82,0,[sB 68 true,sI 28 y2,sI 27 (x0.Rows.length : Int),sC 26 (cF 3 x0.Rows zC.row),sA 2 2 2 0,sI 1 x1],[(2,(fR (zD.row x0)))]⟩ (fun cx=>?_) ?_
       ·exact mA zz [(0,[]),(1,[2,24,25])] 34 [⟨[2,24,25],3,33,34⟩] fun cx=>mC zz 2<|vA [.rd,.rd,.rd] (qS n v8.Id 1 99 r9 er9)<|fA<|mA zz [(3,[]),(4,[])] 31 [⟨[2,24,25],3,33,34⟩] fun cx=>qA 163678519398 68 [37] h7<|mA zz (zl [5,6,7]) 28 [⟨[2,24,25],3,33,34⟩] fun cx=>qA 1263190147174 68 [40] h8<|mA zz (zl [8,9,10,11,12,13,14,15,16,17,18,19,20,21]++[(22,[25]),(23,[])]) 12 [⟨[25],3,54,55⟩,⟨[2,24,25],3,33,34⟩] fun cx=>mC zz 24<|vA [.rd] (zCo n x1 r10 er10)<|fA<|mC zz 25<|vA [.rd,.rd,.rd] (qS n v8.Members 0 r10 r11 er11)<|fA<|mA zz (zl [26,27,28]) 7 [⟨[25],3,54,55⟩,⟨[2,24,25],3,33,34⟩] fun cx=>qA 0x20c000061c000046 68 [61] h9<|mA zz (zl [29,30,31,32,33,34,35]) 0 [⟨[25],3,54,55⟩,⟨[2,24,25],3,33,34⟩] fun cx=>mE zz [68,28,27,26,2,1] [2]
       refine tB_<|gA 1 16 0<|te ?_
       cases H
       exact fF Ho7
      have H := qf h8 H
      refine bE H fun v12 ev12 H=> sT ⟨82,0,[sI 5 y2,sA 6 6 3 0,sI 28 y2,sI 27 (x0.Rows.length : Int),sC 26 (cF 3 x0.Rows zC.row),sA 2 2 2 0,sI 1 x1],[(6,(zC.row v8)),(2,(fR (zD.row x0)))]⟩ ?_
      cases h11 : (decide (v12.Id ≥ v8.Id))
      ·have H := qe h11 H
       refine bE H fun r13 er13 H=> bE H fun r14 er14 H=> sT ⟨82,0,[sI 5 y2,sA 6 6 3 0,sI 28 y2,sI 27 (x0.Rows.length : Int),sC 26 (cF 3 x0.Rows zC.row),sA 2 2 2 0,sI 1 x1],[(6,(zC.row v8)),(2,(fR (zD.row x0)))]⟩ ?_
       cases h12 : (!r14)
       ·have H := qe h12 H
        refine Tr.draws mixed 36 kr ⟨82,0,[sB 68 ((wI (bO v8.Bare &&& ~~~bO v8.Members).toNat) != 0),sI 28 y2,sI 27 (x0.Rows.length : Int),sC 26 (cF 3 x0.Rows zC.row),sA 2 2 2 0,sI 1 x1],[(2,(fR (zD.row x0)))]⟩ (fun cx=>?_) ?_
        ·refine mA zz [(0,[]),(1,[2,24,25])] 34 [⟨[2,24,25],3,33,34⟩] fun cx=>mC zz 2<|vA [.rd,.rd,.rd] (qS n v8.Id 1 99 r9 er9)<|fA<|mA zz [(3,[]),(4,[])] 31 [⟨[2,24,25],3,33,34⟩] fun cx=>qA 163678519398 68 [37] h7<|mA zz (zl [5,6,7]) 28 [⟨[2,24,25],3,33,34⟩] fun cx=>qA 1263190147174 68 [40] h8<|mA zz [(8,[]),(9,[24,25]),(10,[]),(11,[])] 24 [⟨[24,25],26,41,42⟩,⟨[2,24,25],3,33,34⟩] fun cx=>iN zz 12 zC.row ev12 fun cx=>mA zz (zl [13,14,15]++[(16,[24,25])]++zl [17,18,19,20]) 15 [⟨[24,25],3,48,49⟩,⟨[24,25],26,41,42⟩,⟨[2,24,25],3,33,34⟩] fun cx=>sA_ 9858247494205510 68 ⟨82,0,[sB 53 (decide (v12.Id ≥ v8.Id)),sI 49 v8.Id,sA 48 6 3 0,sR 42 2 2 0 1 false,sA 41 2 2 0,sI 34 v8.Id,sA 33 6 3 0,sA 6 6 3 0,sI 28 y2,sI 27 (x0.Rows.length : Int),sC 26 (cF 3 x0.Rows zC.row),sA 2 2 2 0,sI 1 x1],[(6,(zC.row v8)),(2,(fR (zD.row x0)))]⟩ ?_
         rw [h11]
         exact zKV n x1 r13 v8 r14 y2 x0 er13 er14 h12 cx
        obtain ⟨h13,H⟩ | ⟨h13,H⟩ := bC H
        ·exact qT [68] h13<|nB_<|tK<|eA 2 469762054 4<|jB mo7 (wI (y2 + 1)) H [28,27,26,2,1] [2]
        refine qT [68] h13<|tB_<|gA 1 16 0<|te ?_
        cases H
        exact fF Ho7
       have H := qf h12 H
       refine Tr.draws mixed 36 kr ⟨82,0,[sB 68 true,sI 28 y2,sI 27 (x0.Rows.length : Int),sC 26 (cF 3 x0.Rows zC.row),sA 2 2 2 0,sI 1 x1],[(2,(fR (zD.row x0)))]⟩ (fun cx=>?_) ?_
       ·refine mA zz [(0,[]),(1,[2,24,25])] 34 [⟨[2,24,25],3,33,34⟩] fun cx=>mC zz 2<|vA [.rd,.rd,.rd] (qS n v8.Id 1 99 r9 er9)<|fA<|mA zz [(3,[]),(4,[])] 31 [⟨[2,24,25],3,33,34⟩] fun cx=>qA 163678519398 68 [37] h7<|mA zz (zl [5,6,7]) 28 [⟨[2,24,25],3,33,34⟩] fun cx=>qA 1263190147174 68 [40] h8<|mA zz [(8,[]),(9,[24,25]),(10,[]),(11,[])] 24 [⟨[24,25],26,41,42⟩,⟨[2,24,25],3,33,34⟩] fun cx=>iN zz 12 zC.row ev12 fun cx=>mA zz (zl [13,14,15]++[(16,[24,25])]++zl [17,18,19,20]) 15 [⟨[24,25],3,48,49⟩,⟨[24,25],26,41,42⟩,⟨[2,24,25],3,33,34⟩] fun cx=>sA_ 9858247494205510 68 ⟨82,0,[sB 53 (decide (v12.Id ≥ v8.Id)),sI 49 v8.Id,sA 48 6 3 0,sR 42 2 2 0 1 false,sA 41 2 2 0,sI 34 v8.Id,sA 33 6 3 0,sA 6 6 3 0,sI 28 y2,sI 27 (x0.Rows.length : Int),sC 26 (cF 3 x0.Rows zC.row),sA 2 2 2 0,sI 1 x1],[(6,(zC.row v8)),(2,(fR (zD.row x0)))]⟩ ?_
        rw [h11]
        exact zKW n x1 r13 v8 r14 y2 x0 er13 er14 h12 cx
       refine tB_<|gA 1 16 0<|te ?_
       cases H
       exact fF Ho7
      have H := qf h11 H
      refine Tr.draws mixed 36 kr ⟨82,0,[sB 68 true,sI 28 y2,sI 27 (x0.Rows.length : Int),sC 26 (cF 3 x0.Rows zC.row),sA 2 2 2 0,sI 1 x1],[(2,(fR (zD.row x0)))]⟩ (fun cx=>?_) ?_
      ·refine mA zz [(0,[]),(1,[2])] 34 [⟨[2],3,33,34⟩] fun cx=>mC zz 2<|vA [.rd,.rd,.rd] (qS n v8.Id 1 99 r9 er9)<|fA<|mA zz [(3,[]),(4,[])] 31 [⟨[2],3,33,34⟩] fun cx=>qA 163678519398 68 [37] h7<|mA zz (zl [5,6,7]) 28 [⟨[2],3,33,34⟩] fun cx=>qA 1263190147174 68 [40] h8<|mA zz (zl [8,9,10,11]) 24 [⟨[],26,41,42⟩,⟨[2],3,33,34⟩] fun cx=>iN zz 12 zC.row ev12 fun cx=>mA zz (zl [13,14,15,16,17,18,19,20]) 15 [⟨[],3,48,49⟩,⟨[],26,41,42⟩,⟨[2],3,33,34⟩] fun cx=>sA_ 9858247494205510 68 ⟨82,0,[sB 53 (decide (v12.Id ≥ v8.Id)),sI 49 v8.Id,sA 48 6 3 0,sR 42 2 2 0 1 false,sA 41 2 2 0,sI 34 v8.Id,sA 33 6 3 0,sA 6 6 3 0,sI 28 y2,sI 27 (x0.Rows.length : Int),sC 26 (cF 3 x0.Rows zC.row),sA 2 2 2 0,sI 1 x1],[(6,(zC.row v8)),(2,(fR (zD.row x0)))]⟩ ?_
       rw [h11]
       exact zKX n v8 y2 x0 x1 cx
      refine tB_<|gA 1 16 0<|te ?_
      cases H
      exact fF Ho7
     have H := qf h7 H
     refine Tr.draws mixed 36 kr ⟨82,0,[sB 68 true,sI 28 y2,sI 27 (x0.Rows.length : Int),sC 26 (cF 3 x0.Rows zC.row),sA 2 2 2 0,sI 1 x1],[(2,(fR (zD.row x0)))]⟩ (fun cx=>?_) ?_
     ·exact mA zz [(0,[]),(1,[2])] 34 [⟨[2],3,33,34⟩] fun cx=>mC zz 2<|vA [.rd,.rd,.rd] (qS n v8.Id 1 99 r9 er9)<|fA<|mA zz [(3,[]),(4,[])] 31 [⟨[2],3,33,34⟩] fun cx=>qA 163678519398 68 [37] h7<|mA zz (zl [5,6,7,8,9,10,11,12,13,14,15,16,17,18,19,20,21,22,23,24,25,26,27,28,29,30,31,32,33,34,35]) 0 [⟨[2],3,33,34⟩] fun cx=>mE zz [68,28,27,26,2,1] [2]
     refine tB_<|gA 1 16 0<|te ?_
     cases H
     exact fF Ho7
    rintro _ H
    have H : (zAL n x0) = some r := H
    unfold zAL at H
    refine tS<|rA 2<|kF x0.Pv intRow<|uA 1 0x3800000000000000004 4 ?_
    obtain ⟨o4,eo4,Ho4⟩ := bs H
    clear H
    refine Tr.mid (ι := Unit) (fun v => ⟨82,0,[],[]⟩) (fun v => zB3 n = some r) ?_ ?_
    ·refine tB<|Tr.loop (ι := Nat × (Int)) (fun v => ⟨82,0,[sI 73 v.2,sI 72 (x0.Pv.length : Int),sC 71 (cF 1 x0.Pv intRow),sA 2 2 2 0],[(2,(fR (zD.row x0)))]⟩) (fun v => Q3 n v.1 x0 v.2 = some o4) (fun v => v.1) (n,0) eo4 (St.sub_of [73,72,71,2] [2] kr) ?_
     rintro ⟨_ | mo4,y3⟩ H
     ·exact nN H
     have H : Q3 n (mo4+1) x0 y3 = some o4 := H
     rw [Q3] at H
     refine gA 1 0x7800000000000000004 4<|tS ?_
     obtain ⟨h4,H⟩ | ⟨h4,H⟩ := bC H
     ·refine nA h4<|Tr.exit<|aJ ?_
      cases H
      exact jA () Ho4 [] []
     refine tA h4<|tK<|tS<|tB<|tR<|bE H fun v5 ev5 H=> iA intRow ev5<|uA 2 0x3800000000000000104 4<|rA 2<|bE H fun r6 er6 H=> vA [.rd,.rd] (zNP n x0 v5 r6 er6)<|uA 1 0x103800000000000000004 4 ?_
     obtain ⟨h5,H⟩ | ⟨h5,H⟩ := bC H
     ·exact nA h5<|tK<|eA 2 0x3800000000000000004 4<|jB mo4 (wI (y3 + 1)) H [73,72,71,2] [2]
     refine tA h5<|gA 1 16 0<|te ?_
     cases H
     exact fF Ho4
    rintro _ H
    have H : (zB3 n) = some r := H
    unfold zB3 at H
    exact gA 1 16 0<|te (fT H)
   exact tA h3<|gA 1 16 0<|te (fF H)
  exact qL 524294 4 [19] h2<|uA 5 16777222 4<|tB_<|gA 1 16 0<|te (fF H)
 exact qL 4102 4 [12] h1<|uA 12 16777222 4<|tB_<|gA 1 16 0<|te (fF H)
def YP (n : Nat) (x0 : Int) : Option (Bool) :=
  ((qK n x0 0 1000000).bind fun r1 => (some r1))
theorem zBe (n : Nat) (x0 : Int) (r : Bool) (H : YP n x0 = some r) : zE Tryz.prog 100 [.val false [.lit (.int .i64 x0)]] [.val false [.lit (.bool r)]] [] := by
 refine cW Tryz.func100 (fun g d => sl [g 0,g 1] .ret) [.tmp 2] fun cx=>?_
 unfold YP at H
 exact gA 1 1 0<|rA 1<|bE H fun r1 er1 H=> vA [.rd,.rd,.rd] (qS n x0 0 1000000 r1 er1)<|uA 1 4 0<|te (fJ [(false,[cB r1])] H)
def JS (n : Nat) (x0 : zA) : Option (Bool) :=
  ((qK n x0.Id 1 99).bind fun r2 => (bif (!r2) then (some false) else (bif (decide ((x0.Name.size : Int) > 10)) then (some false) else ((qK n (x0.Ps.length : Int) 1 6).bind fun r3 => (bif (!r3) then (some false) else ((zCU n x0.F).bind fun r4 => (bif (!r4) then (some false) else ((zBc n x0.V (x0.Ps.length : Int)).bind fun r5 => (bif (!r5) then (some false) else ((YP n x0.Tk).bind fun r6 => (bif r6 then ((YP n x0.Pa).bind fun r7 => (bif r7 then ((YP n x0.Wo).bind fun r8 => (bif r8 then ((YP n x0.Dr).bind fun r9 => (bif r9 then ((YP n x0.Ve).bind fun r10 => (some r10)) else (some false))) else (some false))) else (some false))) else (some false))))))))))))
def Qq (n : Nat) : Nat → zA → Int → Option ((Unit) ⊕ (Bool))
  | 0,_,_ => none
  | mo11 + 1,x0,y1 => (bif (decide (y1 < (x0.Ps.length : Int))) then ((idx x0.Ps y1).bind fun v12 => ((zDH n v12).bind fun r13 => (bif (!r13) then (some (Sum.inr false)) else (Qq n mo11 x0 (IntKind.wrap .i64 (y1 + 1)))))) else (some (Sum.inl ())))
def Q0 (n : Nat) (x0 : zA) : Option (Bool) :=
  ((Qq n n x0 0).bind fun o => match o with | .inl _ => (JS n x0) | .inr r => some r)
theorem zEq (n : Nat) (x0 : zA) (r : Bool) (H : Q0 n x0 = some r) : zE Tryz.prog 23 [.val true (fR (zA.row x0))] [.val false [.lit (.bool r)]] [] := by
 refine cW Tryz.func23 (fun g d => sl [g 0,sl [g 1] (.block 0 (.loop (sl [g 2,cn 9 .skip (.exit 0),.block 1 (sl [g 3,g 4] (cn 14 (sl [g 5] .ret) .skip))] (g 6)))),sl [g 7] (cn 47 (sl [g 8] .ret) .skip),g 9] .ret) [.tmp 2] fun cx=>?_
 unfold Q0 at H
 refine gA 2 2 2<|tS<|rA 2<|kF x0.Ps Pt.row<|uA 1 450 2 ?_
 obtain ⟨o11,eo11,Ho11⟩ := bs H
 clear H
 refine Tr.mid (ι := Unit) (fun v => ⟨71,0,[sA 1 1 11 0],[(1,(fR (zA.row x0)))]⟩) (fun v => JS n x0 = some r) ?_ ?_
 ·refine tB<|Tr.loop (ι := Nat × (Int)) (fun v => ⟨71,0,[sI 8 v.2,sI 7 (x0.Ps.length : Int),sC 6 (cF 8 x0.Ps Pt.row),sA 1 1 11 0],[(1,(fR (zA.row x0)))]⟩) (fun v => Qq n v.1 x0 v.2 = some o11) (fun v => v.1) (n,0) eo11 (St.sub_of [8,7,6,1] [1] kr) ?_
  rintro ⟨_ | mo11,y1⟩ H
  ·exact nN H
  have H : Qq n (mo11+1) x0 y1 = some o11 := H
  rw [Qq] at H
  refine gA 1 962 2<|tS ?_
  obtain ⟨h10,H⟩ | ⟨h10,H⟩ := bC H
  ·refine nA h10<|Tr.exit<|aJ ?_
   cases H
   exact jA () Ho11 [1] [1]
  refine tA h10<|tK<|tS<|tB<|tR<|bE H fun v12 ev12 H=> iA Pt.row ev12<|uA 3 466 18<|rA 1<|bE H fun r13 er13 H=> vA [.rd] (zN0 n v12 r13 er13)<|uA 1 16834 2 ?_
  obtain ⟨h11,H⟩ | ⟨h11,H⟩ := bC H
  ·exact nA h11<|tK<|eA 2 450 2<|jB mo11 (wI (y1 + 1)) H [8,7,6,1] [1]
  refine tA h11<|gA 1 4 0<|te ?_
  cases H
  exact fF Ho11
 rintro _ H
 have H : (JS n x0) = some r := H
 unfold JS at H
 refine tS<|rA 2<|bE H fun r2 er2 H=> vA [.rd,.rd,.rd] (qS n x0.Id 1 99 r2 er2)<|lA 2 ?_
 obtain ⟨h1,H⟩ | ⟨h1,H⟩ := bC H
 ·refine qL 1048578 2 [20] h1<|lA 6 ?_
  obtain ⟨h2,H⟩ | ⟨h2,H⟩ := bC H
  ·refine qL 67108866 2 [26] h2<|lA 2<|kF x0.Ps Pt.row<|bE H fun r3 er3 H=> vA [.rd,.rd,.rd] (qS n (x0.Ps.length : Int) 1 6 r3 er3)<|lA 3 ?_
   obtain ⟨h3,H⟩ | ⟨h3,H⟩ := bC H
   ·refine qL 8589934594 2 [33] h3<|lA 2<|bE H fun r4 er4 H=> vA [.rd] (zNO n x0.F r4 er4)<|lA 3 ?_
    obtain ⟨h4,H⟩ | ⟨h4,H⟩ := bC H
    ·refine qL 549755813890 2 [39] h4<|lA 4<|kF x0.Ps Pt.row<|bE H fun r5 er5 H=> vA [.rd,.rd] (zMY n x0.V (x0.Ps.length : Int) r5 er5)<|uA 2 0x800000000002 2 ?_
     obtain ⟨h5,H⟩ | ⟨h5,H⟩ := bC H
     ·refine nA h5<|tK<|rA 2<|bE H fun r6 er6 H=> vA [.rd] (zBe n x0.Tk r6 er6)<|lA 1 ?_
      obtain ⟨h6,H⟩ | ⟨h6,H⟩ := bC H
      ·exact qL 0x8000000000002 2 [51] h6<|uA 20 4 0<|te (fF H)
      refine qL 0x8000000000002 2 [51] h6<|lA 2<|bE H fun r7 er7 H=> vA [.rd] (zBe n x0.Pa r7 er7)<|lA 2 ?_
      obtain ⟨h7,H⟩ | ⟨h7,H⟩ := bC H
      ·exact qL 72057594037927938 2 [56] h7<|uA 15 4 0<|te (fF H)
      refine qL 72057594037927938 2 [56] h7<|lA 2<|bE H fun r8 er8 H=> vA [.rd] (zBe n x0.Wo r8 er8)<|lA 2 ?_
      obtain ⟨h8,H⟩ | ⟨h8,H⟩ := bC H
      ·exact qL 0x2000000000000002 2 [61] h8<|uA 10 4 0<|te (fF H)
      refine qL 0x2000000000000002 2 [61] h8<|lA 2<|bE H fun r9 er9 H=> vA [.rd] (zBe n x0.Dr r9 er9)<|lA 2 ?_
      obtain ⟨h9,H⟩ | ⟨h9,H⟩ := bC H
      ·exact qL 0x40000000000000002 2 [66] h9<|uA 5 4 0<|te (fF H)
      exact qL 0x40000000000000002 2 [66] h9<|lA 2<|bE H fun r10 er10 H=> vA [.rd] (zBe n x0.Ve r10 er10)<|uA 2 4 0<|te (fJ [(false,[cB r10])] H)
     exact tA h5<|gA 1 4 0<|te (fF H)
    exact qL 549755813890 2 [39] h4<|uA 8 0x800000000002 2<|tB_<|gA 1 4 0<|te (fF H)
   exact qL 8589934594 2 [33] h3<|uA 14 0x800000000002 2<|tB_<|gA 1 4 0<|te (fF H)
  exact qL 67108866 2 [26] h2<|uA 21 0x800000000002 2<|tB_<|gA 1 4 0<|te (fF H)
 exact qL 1048578 2 [20] h1<|uA 27 0x800000000002 2<|tB_<|gA 1 4 0<|te (fF H)
def zDL (n : Nat) : Option (Bool) :=
  (some false)
def QA (n : Nat) : Nat → (List Link) → Int → Int → Int → Option ((Unit) ⊕ (Bool))
  | 0,_,_,_,_ => none
  | mo2 + 1,x0,x1,x2,y1 => (bif (decide (y1 < (x0.length : Int))) then ((idx x0 y1).bind fun v3 => (bif (v3.A == x1) then (bif (v3.P == x2) then (some (Sum.inr true)) else (bif (v3.B == x1) then (bif (v3.Q == x2) then (some (Sum.inr true)) else (QA n mo2 x0 x1 x2 (IntKind.wrap .i64 (y1 + 1)))) else (QA n mo2 x0 x1 x2 (IntKind.wrap .i64 (y1 + 1))))) else (bif (v3.B == x1) then (bif (v3.Q == x2) then (some (Sum.inr true)) else (QA n mo2 x0 x1 x2 (IntKind.wrap .i64 (y1 + 1)))) else (QA n mo2 x0 x1 x2 (IntKind.wrap .i64 (y1 + 1)))))) else (some (Sum.inl ())))
def zAh (n : Nat) (x0 : (List Link)) (x1 : Int) (x2 : Int) : Option (Bool) :=
  ((QA n n x0 x1 x2 0).bind fun o => match o with | .inl _ => (zDL n) | .inr r => some r)
theorem zFz (n : Nat) (x0 : (List Link)) (x1 : Int) (x2 : Int) (r : Bool) (H : zAh n x0 x1 x2 = some r) : zE Tryz.prog 123 [.val false [.sl false 4 (CV.frzEs (x0.map Link.row))],.val false [.lit (.int .i64 x1)],.val false [.lit (.int .i64 x2)]] [.val false [.lit (.bool r)]] [] := by
 refine cW Tryz.func123 (fun g d => sl [g 0,sl [g 1] (.block 0 (.loop (sl [g 2,cn 12 .skip (.exit 0),.block 1 (sl [g 3,g 4] (cn 36 (sl [g 5] .ret) .skip))] (g 6)))),g 7] .ret) [.tmp 6] fun cx=>?_
 unfold zAh at H
 refine gA 1 7 0<|tS<|rA 1<|kF x0 Link.row<|uA 1 3590 0 ?_
 obtain ⟨o2,eo2,Ho2⟩ := bs H
 clear H
 refine Tr.mid (ι := Unit) (fun v => ⟨38,0,[],[]⟩) (fun v => zDL n = some r) ?_ ?_
 ·refine tB<|Tr.loop (ι := Nat × (Int)) (fun v => ⟨38,0,[sI 11 v.2,sI 10 (x0.length : Int),sC 9 (cF 4 x0 Link.row),sI 1 x1,sI 2 x2],[]⟩) (fun v => QA n v.1 x0 x1 x2 v.2 = some o2) (fun v => v.1) (n,0) eo2 (St.sub_of [11,10,9,1,2] [] kr) ?_
  rintro ⟨_ | mo2,y1⟩ H
  ·exact nN H
  have H : QA n (mo2+1) x0 x1 x2 y1 = some o2 := H
  rw [QA] at H
  refine gA 1 7686 0<|tS ?_
  obtain ⟨h1,H⟩ | ⟨h1,H⟩ := bC H
  ·refine nA h1<|Tr.exit<|aJ ?_
   cases H
   exact jA () Ho2 [] []
  refine tA h1<|tK<|tS<|tB<|tR<|bE H fun v3 ev3 H=> iA Link.row ev3<|uA 3 3846 256<|rA 5 ?_
  obtain ⟨h2,H⟩ | ⟨h2,H⟩ := bC H
  ·refine qL 528134 256 [19] h2<|lA 11 ?_
   obtain ⟨h3,H⟩ | ⟨h3,H⟩ := bC H
   ·exact qL 1107300102 256 [30] h3<|uA 6 68719480326 0<|nB_<|tK<|eA 2 3590 0<|jB mo2 (wI (y1 + 1)) H [11,10,9,1,2] []
   refine qL 1107300102 256 [30] h3<|uA 6 68719480326 0 ?_
   obtain ⟨h4,H⟩ | ⟨h4,H⟩ := bC H
   ·exact nA h4<|tK<|eA 2 3590 0<|jB mo2 (wI (y1 + 1)) H [11,10,9,1,2] []
   refine tA h4<|gA 1 64 0<|te ?_
   cases H
   exact fT Ho2
  refine qL 528134 256 [19] h2<|lA 6 ?_
  obtain ⟨h5,H⟩ | ⟨h5,H⟩ := bC H
  ·refine qL 33558278 256 [25] h5<|lA 5 ?_
   obtain ⟨h6,H⟩ | ⟨h6,H⟩ := bC H
   ·exact qL 1107300102 256 [30] h6<|uA 6 68719480326 0<|nB_<|tK<|eA 2 3590 0<|jB mo2 (wI (y1 + 1)) H [11,10,9,1,2] []
   refine qL 1107300102 256 [30] h6<|uA 6 68719480326 0 ?_
   obtain ⟨h7,H⟩ | ⟨h7,H⟩ := bC H
   ·exact nA h7<|tK<|eA 2 3590 0<|jB mo2 (wI (y1 + 1)) H [11,10,9,1,2] []
   refine tA h7<|gA 1 64 0<|te ?_
   cases H
   exact fT Ho2
  refine qL 33558278 256 [25] h5<|uA 11 68719480326 0<|tB_<|gA 1 64 0<|te ?_
  cases H
  exact fT Ho2
 rintro _ H
 have H : (zDL n) = some r := H
 unfold zDL at H
 exact gA 1 64 0<|te (fF H)
def Qd (n : Nat) (x0 : Net) (x1 : Int) (x2 : Int) : Option (Pt × Bool) :=
  ((qK n x1 0 (IntKind.wrap .i64 ((x0.Bs.length : Int) - 1))).bind fun r1 => (bif (!r1) then (some ((⟨false,0,false,(⟨0,0,0,0,0⟩ : Vec)⟩ : Pt),false)) else ((idx x0.Bs x1).bind fun v2 => ((qK n x2 0 (IntKind.wrap .i64 ((v2.Ps.length : Int) - 1))).bind fun r3 => (bif (!r3) then (some ((⟨false,0,false,(⟨0,0,0,0,0⟩ : Vec)⟩ : Pt),false)) else ((idx x0.Bs x1).bind fun v4 => ((idx v4.Ps x2).bind fun v5 => (some (v5,true)))))))))
theorem zA7 (n : Nat) (x0 : Net) (x1 : Int) (x2 : Int) (r : Pt × Bool) (H : Qd n x0 x1 x2 = some r) : zE Tryz.prog 127 [.val true (fR (Net.row x0)),.val false [.lit (.int .i64 x1)],.val false [.lit (.int .i64 x2)]] [.val true (Pt.row r.1),.val false [.lit (.bool r.2)]] [] := by
 refine cW Tryz.func127 (fun g d => sl [g 0,sl [g 1] (cn 27 (sl [g 2] .ret) .skip),g 3] .ret) [.cell 6 100,.tmp 7] fun cx=>?_
 unfold Qd at H
 refine gA 3 78 72<|tS<|rA 3<|kF x0.Bs zA.row<|lA 1<|bE H fun r1 er1 H=> vA [.rd,.rd,.rd] (qS n x1 0 (wI ((x0.Bs.length : Int) - 1)) r1 er1)<|lA 2 ?_
 obtain ⟨h1,H⟩ | ⟨h1,H⟩ := bC H
 ·refine qL 32846 72 [15] h1<|lA 4<|bE H fun v2 ev2 H=> iA zA.row ev2<|lA 2<|kF v2.Ps Pt.row<|lA 1<|bE H fun r3 er3 H=> vA [.rd,.rd,.rd] (qS n x2 0 (wI ((v2.Ps.length : Int) - 1)) r3 er3)<|uA 2 134217806 72 ?_
  obtain ⟨h2,H⟩ | ⟨h2,H⟩ := bC H
  ·exact nA h2<|tK<|rA 3<|bE H fun v4 ev4 H=> iA zA.row ev4<|lA 3<|bE H fun v5 ev5 H=> iA Pt.row ev5<|uA 3 192 64<|te (fJ [(true,(Pt.row v5)),(false,[cB true])] H)
  exact tA h2<|gA 3 192 64<|te (fJ [(true,[cB false,cI 0,cB false,cI 0,cI 0,cI 0,cI 0,cI 0]),(false,[cB false])] H)
 exact qL 32846 72 [15] h1<|uA 12 134217806 72<|tB_<|gA 3 192 64<|te (fJ [(true,[cB false,cI 0,cB false,cI 0,cI 0,cI 0,cI 0,cI 0]),(false,[cB false])] H)
def zBL (n : Nat) : Option (Bool) :=
  (some true)
def qn (n : Nat) : Nat → Net → Int → Option ((Unit) ⊕ (Bool))
  | 0,_,_ => none
  | mo2 + 1,x0,y1 => (bif (decide (y1 < (x0.Ls.length : Int))) then ((idx x0.Ls y1).bind fun v3 => ((Qd n x0 v3.A v3.P).bind fun r4 => ((Qd n x0 v3.B v3.Q).bind fun r5 => (bif (decide (y1 ≥ 9)) then (some (Sum.inr false)) else (bif (!r4.2) then (some (Sum.inr false)) else (bif (!r5.2) then (some (Sum.inr false)) else (bif (v3.A == v3.B) then (some (Sum.inr false)) else (bif (!(r4.1.Up == r5.1.Up)) then (some (Sum.inr false)) else (bif (decide ((0 : Int) ≤ 0) && (decide ((0 : Int) ≤ y1) && decide ((y1 : Int) ≤ (x0.Ls.length : Int)))) then ((zAh n ((x0.Ls.drop ((0 : Int)).toNat).take (((y1 : Int)).toNat - ((0 : Int)).toNat)) v3.A v3.P).bind fun r7 => (bif r7 then (some (Sum.inr false)) else (bif (decide ((0 : Int) ≤ 0) && (decide ((0 : Int) ≤ y1) && decide ((y1 : Int) ≤ (x0.Ls.length : Int)))) then ((zAh n ((x0.Ls.drop ((0 : Int)).toNat).take (((y1 : Int)).toNat - ((0 : Int)).toNat)) v3.B v3.Q).bind fun r9 => (bif r9 then (some (Sum.inr false)) else (qn n mo2 x0 (IntKind.wrap .i64 (y1 + 1))))) else none))) else none))))))))) else (some (Sum.inl ())))
def zAx (n : Nat) (x0 : Net) : Option (Bool) :=
  ((qn n n x0 0).bind fun o => match o with | .inl _ => (zBL n) | .inr r => some r)
def zPf : Tab := ⟨20,[0,1,0,6,0,16,0,64,168,256,512,1536,512,6656,512,16896,512,66048,172544,262656],[0,1,0,6,0,16,0,64,168,256,512,1536,512,6656,512,16896,512,66048,172544,262656],[0,1,0,7,0,16,0,64,255,511,1023,2047,1023,8191,1023,17407,1023,66559,262143,524287]⟩
theorem JP : zc (rg Tryz.f124 8) zPf = true := kr
theorem zLy (n : Nat) (x0 : Net) (r : Bool) (H : zAx n x0 = some r) : zE Tryz.prog 124 [.val true (fR (Net.row x0))] [.val false [.lit (.bool r)]] [] := by
 refine cW Tryz.func124 (fun g d => sl [g 0,sl [g 1] (.block 0 (.loop (sl [g 2,cn 13 .skip (.exit 0),.block 1 (sl [g 3,g 4,g 5,sl [g 6] (cn 58 (sl [g 7] .ret) .skip),d 8] (cn 78 (sl [g 9] .ret) .skip))] (g 10)))),g 11] .ret) [.tmp 2] fun cx=>?_
 unfold zAx at H
 refine gA 2 2 2<|tS<|rA 2<|kF x0.Ls Link.row<|uA 1 7170 2 ?_
 obtain ⟨o2,eo2,Ho2⟩ := bs H
 clear H
 refine Tr.mid (ι := Unit) (fun v => ⟨80,0,[],[]⟩) (fun v => zBL n = some r) ?_ ?_
 ·refine tB<|Tr.loop (ι := Nat × (Int)) (fun v => ⟨80,0,[sI 12 v.2,sI 11 (x0.Ls.length : Int),sC 10 (cF 4 x0.Ls Link.row),sA 1 1 3 0],[(1,(fR (Net.row x0)))]⟩) (fun v => qn n v.1 x0 v.2 = some o2) (fun v => v.1) (n,0) eo2 (St.sub_of [12,11,10,1] [1] kr) ?_
  rintro ⟨_ | mo2,y1⟩ H
  ·exact nN H
  have H : qn n (mo2+1) x0 y1 = some o2 := H
  rw [qn] at H
  refine gA 1 15362 2<|tS ?_
  obtain ⟨h1,H⟩ | ⟨h1,H⟩ := bC H
  ·refine nA h1<|Tr.exit<|aJ ?_
   cases H
   exact jA () Ho2 [] []
  refine tA h1<|tK<|tS<|tB<|rA 1<|bE H fun v3 ev3 H=> iA Link.row ev3<|uA 4 7194 18<|rA 5<|bE H fun r4 er4 H=> vA [.rd,.rd,.rd] (zA7 n x0 v3.A v3.P r4 er4)<|LAt.movT tOk (ty := 129) (t := 23) (d := 17) (g := none) [(true,(Pt.row r4.1)),(false,[cB r4.2])] _ kr (.inl rfl) kr kr kr kr rfl<|uA 5 7290 50<|rA 5<|bE H fun r5 er5 H=> vA [.rd,.rd,.rd] (zA7 n x0 v3.B v3.Q r5 er5)<|LAt.movT tOk (ty := 129) (t := 32) (d := 26) (g := none) [(true,(Pt.row r5.1)),(false,[cB r5.2])] _ kr (.inl rfl) kr kr kr kr rfl<|uA 5 7674 178<|tS<|rA 3 ?_
  obtain ⟨h2,H⟩ | ⟨h2,H⟩ := bC H
  ·refine qL 137438961146 178 [37] h2<|lA 4 ?_
   obtain ⟨h3,H⟩ | ⟨h3,H⟩ := bC H
   ·refine qL 2199023263162 178 [41] h3<|lA 4 ?_
    obtain ⟨h4,H⟩ | ⟨h4,H⟩ := bC H
    ·refine qL 35184372096186 178 [45] h4<|lA 7 ?_
     obtain ⟨h5,H⟩ | ⟨h5,H⟩ := bC H
     ·refine qL 4503599627377850 178 [52] h5<|uA 6 0x400000000001c1a 18 ?_
      obtain ⟨h6,H⟩ | ⟨h6,H⟩ := bC H
      ·refine nA h6<|tK<|gE H fun hg6 H=> bE H fun r7 er7 H=> sT ⟨80,0,[sB 58 (!(r4.1.Up == r5.1.Up)),sI 3 y1,sA 4 4 4 0,sI 12 y1,sI 11 (x0.Ls.length : Int),sC 10 (cF 4 x0.Ls Link.row),sA 1 1 3 0],[(4,(Link.row v3)),(1,(fR (Net.row x0)))]⟩ ?_
       cases h7 : r7
       ·have H := qe h7 H
        refine gE H fun hg8 H=> bE H fun r9 er9 H=> Tr.draws mixed 20 kr ⟨80,0,[sB 78 r9,sI 12 y1,sI 11 (x0.Ls.length : Int),sC 10 (cF 4 x0.Ls Link.row),sA 1 1 3 0],[(1,(fR (Net.row x0)))]⟩ (fun cx=>?_) ?_
        ·refine mA JP [(0,[]),(1,[3,8,13,18]),(2,[]),(4,[]),(5,[8,13,18]),(6,[]),(7,[8,13,18])] 13 [⟨[8,13,18],3,65,66⟩,⟨[8,13,18],3,63,64⟩,⟨[3,8,13,18],50,59,60⟩] fun cx=>mC JP 3<|LAt.cutG tOk (t := 50) (ty := 50) (e := 78) (x := (.tmp 60)) (lo := none) (hi := (some (.tmp 61))) (d := 62) (g := none) (tI 78) Link.row x0.Ls ⟨(.box 1),[(0,0)],1,false,4,(CV.frzEs (x0.Ls.map Link.row))⟩ 0 y1 kr kr kr kr kr kr rfl kr rfl kr kr hg6<|fA<|mC JP 8<|vA [.rd,.rd,.rd] (zFz n ((x0.Ls.drop ((0 : Int)).toNat).take (((y1 : Int)).toNat - ((0 : Int)).toNat)) v3.A v3.P r7 er7)<|fA<|mA JP [(9,[])] 10 [⟨[8,13,18],3,65,66⟩,⟨[8,13,18],3,63,64⟩,⟨[3,8,13,18],50,59,60⟩] fun cx=>qA 0x179800000000001c1a 18 [68] h7<|mA JP [(10,[]),(11,[13,18]),(12,[]),(14,[]),(15,[18]),(16,[]),(17,[18])] 3 [⟨[18],3,75,76⟩,⟨[18],3,73,74⟩,⟨[13,18],50,69,70⟩,⟨[8,13,18],3,65,66⟩,⟨[8,13,18],3,63,64⟩,⟨[3,8,13,18],50,59,60⟩] fun cx=>mC JP 13<|LAt.cutG tOk (t := 50) (ty := 50) (e := 78) (x := (.tmp 70)) (lo := none) (hi := (some (.tmp 71))) (d := 72) (g := (some (9,false))) (tI 78) Link.row x0.Ls ⟨(.box 1),[(0,0)],1,false,4,(CV.frzEs (x0.Ls.map Link.row))⟩ 0 y1 kr kr kr kr kr kr rfl kr rfl kr kr hg8<|fA<|mC JP 18<|vA [.rd,.rd,.rd] (zFz n ((x0.Ls.drop ((0 : Int)).toNat).take (((y1 : Int)).toNat - ((0 : Int)).toNat)) v3.B v3.Q r9 er9)<|fA<|mA JP [(19,[])] 0 [⟨[18],3,75,76⟩,⟨[18],3,73,74⟩,⟨[13,18],50,69,70⟩,⟨[8,13,18],3,65,66⟩,⟨[8,13,18],3,63,64⟩,⟨[3,8,13,18],50,59,60⟩] fun cx=>?_
         exact mE JP [78,12,11,10,1] [1]
        cases h8 : r9
        ·have H := qe h8 H
         exact nB_<|tK<|eA 2 7170 2<|jB mo2 (wI (y1 + 1)) H [12,11,10,1] [1]
        have H := qf h8 H
        refine tB_<|gA 1 4 0<|te ?_
        cases H
        exact fF Ho2
       have H := qf h7 H
       refine Tr.draws mixed 20 kr ⟨80,0,[sB 78 true,sI 12 y1,sI 11 (x0.Ls.length : Int),sC 10 (cF 4 x0.Ls Link.row),sA 1 1 3 0],[(1,(fR (Net.row x0)))]⟩ (fun cx=>?_) ?_
       ·exact mA JP [(0,[]),(1,[3,8]),(2,[]),(4,[]),(5,[8]),(6,[]),(7,[8])] 13 [⟨[8],3,65,66⟩,⟨[8],3,63,64⟩,⟨[3,8],50,59,60⟩] fun cx=>mC JP 3<|LAt.cutG tOk (t := 50) (ty := 50) (e := 78) (x := (.tmp 60)) (lo := none) (hi := (some (.tmp 61))) (d := 62) (g := none) (tI 78) Link.row x0.Ls ⟨(.box 1),[(0,0)],1,false,4,(CV.frzEs (x0.Ls.map Link.row))⟩ 0 y1 kr kr kr kr kr kr rfl kr rfl kr kr hg6<|fA<|mC JP 8<|vA [.rd,.rd,.rd] (zFz n ((x0.Ls.drop ((0 : Int)).toNat).take (((y1 : Int)).toNat - ((0 : Int)).toNat)) v3.A v3.P r7 er7)<|fA<|mA JP [(9,[])] 10 [⟨[8],3,65,66⟩,⟨[8],3,63,64⟩,⟨[3,8],50,59,60⟩] fun cx=>qA 0x179800000000001c1a 18 [68] h7<|mA JP (zl [10,11,12,13,14,15,16,17,18,19]) 0 [⟨[8],3,65,66⟩,⟨[8],3,63,64⟩,⟨[3,8],50,59,60⟩] fun cx=>mE JP [78,12,11,10,1] [1]
       refine tB_<|gA 1 4 0<|te ?_
       cases H
       exact fF Ho2
      refine tA h6<|gA 1 4 0<|te ?_
      cases H
      exact fF Ho2
     refine qL 4503599627377850 178 [52] h5<|uA 6 0x400000000001c1a 18<|tB_<|gA 1 4 0<|te ?_
     cases H
     exact fF Ho2
    refine qL 35184372096186 178 [45] h4<|uA 13 0x400000000001c1a 18<|tB_<|gA 1 4 0<|te ?_
    cases H
    exact fF Ho2
   refine qL 2199023263162 178 [41] h3<|uA 17 0x400000000001c1a 18<|tB_<|gA 1 4 0<|te ?_
   cases H
   exact fF Ho2
  refine qL 137438961146 178 [37] h2<|uA 21 0x400000000001c1a 18<|tB_<|gA 1 4 0<|te ?_
  cases H
  exact fF Ho2
 rintro _ H
 have H : (zBL n) = some r := H
 unfold zBL at H
 exact gA 1 4 0<|te (fT H)
def zAs (n : Nat) (x0 : Net) : Option (Bool) :=
  ((zAx n x0).bind fun r4 => (some r4))
def ZT (n : Nat) : Nat → Net → Int → Option ((Unit) ⊕ (Bool))
  | 0,_,_ => none
  | mo5 + 1,x0,y3 => (bif (decide (y3 < (x0.Said.length : Int))) then ((idx x0.Said y3).bind fun v6 => ((qK n v6.Link 0 (IntKind.wrap .i64 ((x0.Ls.length : Int) - 1))).bind fun r7 => (bif (!r7) then (some (Sum.inr false)) else ((JE n v6.V).bind fun r8 => (bif (!r8) then (some (Sum.inr false)) else (ZT n mo5 x0 (IntKind.wrap .i64 (y3 + 1)))))))) else (some (Sum.inl ())))
def Jk (n : Nat) (x0 : Net) : Option (Bool) :=
  ((ZT n n x0 0).bind fun o => match o with | .inl _ => (zAs n x0) | .inr r => some r)
def zAu (n : Nat) (k : (Int → Option ((Unit) ⊕ (Bool)))) (y2 : Int) (y16 : Int) : Option ((Unit) ⊕ (Bool)) :=
  (k (IntKind.wrap .i64 (y2 + 1)))
def Zh (n : Nat) : Nat → zA → Net → Int → Int → Option ((Int) ⊕ (Bool))
  | 0,_,_,_,_ => none
  | mo17 + 1,v10,x0,y2,y15 => (bif (decide (y15 < (v10.Ps.length : Int))) then ((idx v10.Ps y15).bind fun v18 => (bif v18.Has then ((zAh n x0.Ls y2 y15).bind fun r19 => (bif (!r19) then (some (Sum.inr false)) else (Zh n mo17 v10 x0 y2 (IntKind.wrap .i64 (y15 + 1))))) else (Zh n mo17 v10 x0 y2 (IntKind.wrap .i64 (y15 + 1))))) else (some (Sum.inl y15)))
def zAt (n : Nat) (k : (Int → Option ((Unit) ⊕ (Bool)))) (v10 : zA) (x0 : Net) (y2 : Int) (y14 : Int) : Option ((Unit) ⊕ (Bool)) :=
  ((Zh n n v10 x0 y2 0).bind fun o => match o with | .inl y16 => (zAu n k y2 y16) | .inr r => some (Sum.inr r))
def QE (n : Nat) : Nat → zA → Net → Int → Int → Option ((Int) ⊕ (Bool))
  | 0,_,_,_,_ => none
  | mo20 + 1,v10,x0,y2,y13 => (bif (decide (y13 < (((x0.Bs.drop ((0 : Int)).toNat).take (((y2 : Int)).toNat - ((0 : Int)).toNat)).length : Int))) then ((idx ((x0.Bs.drop ((0 : Int)).toNat).take (((y2 : Int)).toNat - ((0 : Int)).toNat)) y13).bind fun v21 => (bif (v21.Id == v10.Id) then (some (Sum.inr false)) else (QE n mo20 v10 x0 y2 (IntKind.wrap .i64 (y13 + 1))))) else (some (Sum.inl y13)))
def qX (n : Nat) : Nat → Net → Int → Option ((Unit) ⊕ (Bool))
  | 0,_,_ => none
  | mo9 + 1,x0,y2 => (bif (decide (y2 < (x0.Bs.length : Int))) then ((idx x0.Bs y2).bind fun v10 => ((Q0 n v10).bind fun r11 => (bif (!r11) then (some (Sum.inr false)) else (bif (decide ((0 : Int) ≤ 0) && (decide ((0 : Int) ≤ y2) && decide ((y2 : Int) ≤ (x0.Bs.length : Int)))) then ((QE n n v10 x0 y2 0).bind fun o => match o with | .inl y14 => (zAt n (fun v => qX n mo9 x0 v) v10 x0 y2 y14) | .inr r => some (Sum.inr r)) else none)))) else (some (Sum.inl ())))
def Q9 (n : Nat) (x0 : Net) : Option (Bool) :=
  ((qK n (x0.Bs.length : Int) 1 6).bind fun r1 => (bif (!r1) then (some false) else (bif (decide ((x0.Said.length : Int) > 40)) then (some false) else ((qX n n x0 0).bind fun o => match o with | .inl _ => (Jk n x0) | .inr r => some r))))
theorem zJh (n : Nat) (x0 : Net) (r : Bool) (H : Q9 n x0 = some r) : zE Tryz.prog 47 [.val true (fR (Net.row x0))] [.val false [.lit (.bool r)]] [] := by
 refine cW Tryz.func47 (fun g d => sl [g 0,sl [g 1] (cn 21 (sl [g 2] .ret) .skip),sl [g 3] (.block 0 (.loop (sl [g 4,cn 26 .skip (.exit 0),.block 1 (sl [g 5,sl [g 6] (cn 32 (sl [g 7] .ret) .skip),sl [g 8] (.block 2 (.loop (sl [g 9,cn 39 .skip (.exit 2),.block 3 (sl [g 10,g 11] (cn 46 (sl [g 12] .ret) .skip))] (g 13)))),g 14] (.block 4 (.loop (sl [g 15,cn 52 .skip (.exit 4),.block 5 (sl [g 16,g 17] (cn 65 (sl [g 18] .ret) .skip))] (g 19)))))] (g 20)))),sl [g 21] (.block 6 (.loop (sl [g 22,cn 72 .skip (.exit 6),.block 7 (sl [g 23,g 24] (cn 88 (sl [g 25] .ret) .skip))] (g 26)))),g 27] .ret) [.tmp 2] fun cx=>?_
 unfold Q9 at H
 refine gA 2 6 2<|tS<|rA 2<|kF x0.Bs zA.row<|bE H fun r1 er1 H=> vA [.rd,.rd,.rd] (qS n (x0.Bs.length : Int) 1 6 r1 er1)<|lA 2 ?_
 obtain ⟨h1,H⟩ | ⟨h1,H⟩ := bC H
 ·refine qL 65542 2 [16] h1<|lA 2<|kF x0.Said Say.row<|uA 2 2097158 2 ?_
  obtain ⟨h2,H⟩ | ⟨h2,H⟩ := bC H
  ·refine nA h2<|tK<|tS<|rA 2<|kF x0.Bs zA.row<|uA 1 58720262 2 ?_
   obtain ⟨o9,eo9,Ho9⟩ := bs H
   clear H
   refine Tr.mid (ι := Unit) (fun v => ⟨92,0,[sB 2 false,sA 1 1 3 0],[(1,(fR (Net.row x0)))]⟩) (fun v => Jk n x0 = some r) ?_ ?_
   ·refine tB<|Tr.loop (ι := Nat × (Int)) (fun v => ⟨92,0,[sI 25 v.2,sI 24 (x0.Bs.length : Int),sC 23 (cF 11 x0.Bs zA.row),sB 2 false,sA 1 1 3 0],[(1,(fR (Net.row x0)))]⟩) (fun v => qX n v.1 x0 v.2 = some o9) (fun v => v.1) (n,0) eo9 (St.sub_of [25,24,23,2,1] [1] kr) ?_
    rintro ⟨_ | mo9,y2⟩ H
    ·exact nN H
    have H : qX n (mo9+1) x0 y2 = some o9 := H
    rw [qX] at H
    refine gA 1 125829126 2<|tS ?_
    obtain ⟨h6,H⟩ | ⟨h6,H⟩ := bC H
    ·refine nA h6<|Tr.exit<|aJ ?_
     cases H
     exact jA () Ho9 [2,1] [1]
    refine tA h6<|tK<|tS<|tB<|rA 1<|bE H fun v10 ev10 H=> iA zA.row ev10<|uA 4 1065353246 18<|tS<|rA 1<|bE H fun r11 er11 H=> vA [.rd] (zEq n v10 r11 er11)<|uA 1 8581546014 18 ?_
    obtain ⟨h7,H⟩ | ⟨h7,H⟩ := bC H
    ·refine nA h7<|tK<|tS<|rA 3<|gE H fun hg12 H=> LAt.cutG tOk (t := 49) (ty := 49) (e := 31) (x := (.tmp 34)) (lo := none) (hi := (some (.tmp 35))) (d := 36) (g := none) (tI 31) zA.row x0.Bs ⟨(.slot 34),[],0,false,11,(CV.frzEs (x0.Bs.map zA.row))⟩ 0 y2 kr kr kr kr kr kr rfl kr rfl kr kr hg12<|kF ((x0.Bs.drop ((0 : Int)).toNat).take (((y2 : Int)).toNat - ((0 : Int)).toNat)) zA.row<|uA 1 549747425310 18<|sT ⟨92,0,[sI 38 0,sI 37 (((x0.Bs.drop ((0 : Int)).toNat).take (((y2 : Int)).toNat - ((0 : Int)).toNat)).length : Int),sC 36 (cF 11 ((x0.Bs.drop ((0 : Int)).toNat).take (((y2 : Int)).toNat - ((0 : Int)).toNat)) zA.row),sI 35 y2,sC 34 (cF 11 x0.Bs zA.row),sA 33 1 3 0,sB 32 (!r11),sB 31 r11,sV 30 (fR (zA.row v10)),sI 3 y2,sA 4 4 11 0,sV 29 (fR (zA.row v10)),(28,.fad ((fR (zA.row v10)))),sI 27 y2,sB 26 (decide (y2 < (x0.Bs.length : Int))),sI 25 y2,sI 24 (x0.Bs.length : Int),sC 23 (cF 11 x0.Bs zA.row),sB 2 false,sA 1 1 3 0],[(4,(fR (zA.row v10))),(1,(fR (Net.row x0)))]⟩ ?_
     rw [h6]
     rw [h7]
     obtain ⟨o20,eo20,Ho20⟩ := bs H
     clear H
     refine Tr.mid (ι := Int) (fun v => ⟨92,0,[sB 39 false,sI 38 v,sI 37 (((x0.Bs.drop ((0 : Int)).toNat).take (((y2 : Int)).toNat - ((0 : Int)).toNat)).length : Int),sC 36 (cF 11 ((x0.Bs.drop ((0 : Int)).toNat).take (((y2 : Int)).toNat - ((0 : Int)).toNat)) zA.row),sI 35 y2,sC 34 (cF 11 x0.Bs zA.row),sA 33 1 3 0,sB 32 false,sB 31 r11,sV 30 (fR (zA.row v10)),sI 3 y2,sA 4 4 11 0,sV 29 (fR (zA.row v10)),(28,.fad ((fR (zA.row v10)))),sI 27 y2,sB 26 true,sI 25 y2,sI 24 (x0.Bs.length : Int),sC 23 (cF 11 x0.Bs zA.row),sB 2 false,sA 1 1 3 0],[(4,(fR (zA.row v10))),(1,(fR (Net.row x0)))]⟩) (fun v => zAt n (fun v => qX n mo9 x0 v) v10 x0 y2 v = some o9) ?_ ?_
     ·refine tB<|Tr.loop (ι := Nat × (Int)) (fun v => ⟨92,0,[sI 38 v.2,sI 37 (((x0.Bs.drop ((0 : Int)).toNat).take (((y2 : Int)).toNat - ((0 : Int)).toNat)).length : Int),sC 36 (cF 11 ((x0.Bs.drop ((0 : Int)).toNat).take (((y2 : Int)).toNat - ((0 : Int)).toNat)) zA.row),sI 35 y2,sC 34 (cF 11 x0.Bs zA.row),sA 33 1 3 0,sB 32 false,sB 31 r11,sV 30 (fR (zA.row v10)),sI 3 y2,sA 4 4 11 0,sV 29 (fR (zA.row v10)),(28,.fad ((fR (zA.row v10)))),sI 27 y2,sB 26 true,sI 25 y2,sI 24 (x0.Bs.length : Int),sC 23 (cF 11 x0.Bs zA.row),sB 2 false,sA 1 1 3 0],[(4,(fR (zA.row v10))),(1,(fR (Net.row x0)))]⟩) (fun v => QE n v.1 v10 x0 y2 v.2 = some o20) (fun v => v.1) (n,0) eo20 (St.sub_of [38,37,36,35,34,33,32,31,30,3,4,29,28,27,26,25,24,23,2,1] [4,1] kr) ?_
      rintro ⟨_ | mo20,y13⟩ H
      ·exact nN H
      have H : QE n (mo20+1) v10 x0 y2 y13 = some o20 := H
      rw [QE] at H
      refine gA 1 0xffff80001e 18<|tS ?_
      obtain ⟨h11,H⟩ | ⟨h11,H⟩ := bC H
      ·refine nA h11<|Tr.exit<|aJ ?_
       obtain rfl := si H
       have H := Ho20
       dsimp only at H
       exact qB 0xffff80001e 18 [39] h11<|jA y13 H [39,38,37,36,35,34,33,32,31,30,3,4,29,28,27,26,25,24,23,2,1] [4,1]
      refine tA h11<|tK<|tS<|tB<|tR<|bE H fun v21 ev21 H=> iA zA.row ev21<|uA 3 4398038122590 82<|gA 5 0x7fffff80005e 82 ?_
      obtain ⟨h12,H⟩ | ⟨h12,H⟩ := bC H
      ·exact nA h12<|tK<|eA 2 0xffffff80005e 82<|jB mo20 (wI (y13 + 1)) H [38,37,36,35,34,33,32,31,30,3,4,29,28,27,26,25,24,23,2,1] [4,1]
      refine tA h12<|gA 1 0x7fffff80005e 82<|te ?_
      obtain rfl := si H
      have H := Ho20
      dsimp only at H
      cases H
      exact fF Ho9
     rintro y14 H
     have H : (zAt n (fun v => qX n mo9 x0 v) v10 x0 y2 y14) = some o9 := H
     unfold zAt at H
     refine rA 2<|kF v10.Ps Pt.row<|uA 1 0xf00ffff80001e 18 ?_
     obtain ⟨o17,eo17,Ho17⟩ := bs H
     clear H
     refine Tr.mid (ι := Int) (fun v => ⟨92,0,[sB 52 false,sI 51 v,sI 50 (v10.Ps.length : Int),sC 49 (cF 8 v10.Ps Pt.row),sA 48 4 11 2,sB 39 false,sI 38 y14,sI 37 (((x0.Bs.drop ((0 : Int)).toNat).take (((y2 : Int)).toNat - ((0 : Int)).toNat)).length : Int),sC 36 (cF 11 ((x0.Bs.drop ((0 : Int)).toNat).take (((y2 : Int)).toNat - ((0 : Int)).toNat)) zA.row),sI 35 y2,sC 34 (cF 11 x0.Bs zA.row),sA 33 1 3 0,sB 32 false,sB 31 r11,sV 30 (fR (zA.row v10)),sI 3 y2,sA 4 4 11 0,sV 29 (fR (zA.row v10)),(28,.fad ((fR (zA.row v10)))),sI 27 y2,sB 26 true,sI 25 y2,sI 24 (x0.Bs.length : Int),sC 23 (cF 11 x0.Bs zA.row),sB 2 false,sA 1 1 3 0],[(4,(fR (zA.row v10))),(1,(fR (Net.row x0)))]⟩) (fun v => zAu n (fun v => qX n mo9 x0 v) y2 v = some o9) ?_ ?_
     ·refine tB<|Tr.loop (ι := Nat × (Int)) (fun v => ⟨92,0,[sI 51 v.2,sI 50 (v10.Ps.length : Int),sC 49 (cF 8 v10.Ps Pt.row),sA 48 4 11 2,sB 39 false,sI 38 y14,sI 37 (((x0.Bs.drop ((0 : Int)).toNat).take (((y2 : Int)).toNat - ((0 : Int)).toNat)).length : Int),sC 36 (cF 11 ((x0.Bs.drop ((0 : Int)).toNat).take (((y2 : Int)).toNat - ((0 : Int)).toNat)) zA.row),sI 35 y2,sC 34 (cF 11 x0.Bs zA.row),sA 33 1 3 0,sB 32 false,sB 31 r11,sV 30 (fR (zA.row v10)),sI 3 y2,sA 4 4 11 0,sV 29 (fR (zA.row v10)),(28,.fad ((fR (zA.row v10)))),sI 27 y2,sB 26 true,sI 25 y2,sI 24 (x0.Bs.length : Int),sC 23 (cF 11 x0.Bs zA.row),sB 2 false,sA 1 1 3 0],[(4,(fR (zA.row v10))),(1,(fR (Net.row x0)))]⟩) (fun v => Zh n v.1 v10 x0 y2 v.2 = some o17) (fun v => v.1) (n,0) eo17 (St.sub_of [51,50,49,48,39,38,37,36,35,34,33,32,31,30,3,4,29,28,27,26,25,24,23,2,1] [4,1] kr) ?_
      rintro ⟨_ | mo17,y15⟩ H
      ·exact nN H
      have H : Zh n (mo17+1) v10 x0 y2 y15 = some o17 := H
      rw [Zh] at H
      refine gA 1 8726823781269534 18<|tS ?_
      obtain ⟨h8,H⟩ | ⟨h8,H⟩ := bC H
      ·refine nA h8<|Tr.exit<|aJ ?_
       obtain rfl := si H
       have H := Ho17
       dsimp only at H
       exact qB 8726823781269534 18 [52] h8<|jA y15 H [52,51,50,49,48,39,38,37,36,35,34,33,32,31,30,3,4,29,28,27,26,25,24,23,2,1] [4,1]
      refine tA h8<|tK<|tS<|tB<|rA 1<|bE H fun v18 ev18 H=> iA Pt.row ev18<|uA 4 0xff00ffff80019e 274<|rA 3 ?_
      obtain ⟨h9,H⟩ | ⟨h9,H⟩ := bC H
      ·exact qL 0x7ff00ffff80019e 274 [58,57] h9<|uA 7 0x3ffff00ffff80019e 274<|nB_<|tK<|eA 2 0x7ffff00ffff80019e 274<|jB mo17 (wI (y15 + 1)) H [51,50,49,48,39,38,37,36,35,34,33,32,31,30,3,4,29,28,27,26,25,24,23,2,1] [4,1]
      refine qL 0x7ff00ffff80019e 274 [58,57] h9<|lA 4<|bE H fun r19 er19 H=> vA [.rd,.rd,.rd] (zFz n x0.Ls y2 y15 r19 er19)<|uA 2 0x3ffff00ffff80019e 274 ?_
      obtain ⟨h10,H⟩ | ⟨h10,H⟩ := bC H
      ·exact nA h10<|tK<|eA 2 0x7ffff00ffff80019e 274<|jB mo17 (wI (y15 + 1)) H [51,50,49,48,39,38,37,36,35,34,33,32,31,30,3,4,29,28,27,26,25,24,23,2,1] [4,1]
      refine tA h10<|gA 1 0x3ffff00ffff80019e 274<|te ?_
      obtain rfl := si H
      have H := Ho17
      dsimp only at H
      cases H
      exact fF Ho9
     rintro y16 H
     have H : (zAu n (fun v => qX n mo9 x0 v) y2 y16) = some o9 := H
     unfold zAu at H
     exact eA 2 0x8001f00ffff80001e 18<|jB mo9 (wI (y2 + 1)) H [25,24,23,2,1] [1]
    refine tA h7<|gA 1 8581546014 18<|te ?_
    cases H
    exact fF Ho9
   rintro _ H
   have H : (Jk n x0) = some r := H
   unfold Jk at H
   refine tS<|rA 2<|kF x0.Said Say.row<|uA 1 0xe00000000000000006 2 ?_
   obtain ⟨o5,eo5,Ho5⟩ := bs H
   clear H
   refine Tr.mid (ι := Unit) (fun v => ⟨92,0,[sB 2 false,sA 1 1 3 0],[(1,(fR (Net.row x0)))]⟩) (fun v => zAs n x0 = some r) ?_ ?_
   ·refine tB<|Tr.loop (ι := Nat × (Int)) (fun v => ⟨92,0,[sI 71 v.2,sI 70 (x0.Said.length : Int),sC 69 (cF 7 x0.Said Say.row),sB 2 false,sA 1 1 3 0],[(1,(fR (Net.row x0)))]⟩) (fun v => ZT n v.1 x0 v.2 = some o5) (fun v => v.1) (n,0) eo5 (St.sub_of [71,70,69,2,1] [1] kr) ?_
    rintro ⟨_ | mo5,y3⟩ H
    ·exact nN H
    have H : ZT n (mo5+1) x0 y3 = some o5 := H
    rw [ZT] at H
    refine gA 1 0x1e00000000000000006 2<|tS ?_
    obtain ⟨h3,H⟩ | ⟨h3,H⟩ := bC H
    ·refine nA h3<|Tr.exit<|aJ ?_
     cases H
     exact jA () Ho5 [2,1] [1]
    refine tA h3<|tK<|tS<|tB<|tR<|bE H fun v6 ev6 H=> iA Say.row ev6<|uA 3 0x7e00000000000000406 1026<|rA 4<|kF x0.Ls Link.row<|lA 1<|bE H fun r7 er7 H=> vA [.rd,.rd,.rd] (qS n v6.Link 0 (wI ((x0.Ls.length : Int) - 1)) r7 er7)<|lA 2 ?_
    obtain ⟨h4,H⟩ | ⟨h4,H⟩ := bC H
    ·refine qL 0xfffe00000000000000406 1026 [83,82] h4<|lA 2<|bE H fun r8 er8 H=> vA [.rd] (zDJ n v6.V r8 er8)<|uA 2 0x1ffffe00000000000000406 1026 ?_
     obtain ⟨h5,H⟩ | ⟨h5,H⟩ := bC H
     ·exact nA h5<|tK<|eA 2 0x3ffffe00000000000000406 1026<|jB mo5 (wI (y3 + 1)) H [71,70,69,2,1] [1]
     refine tA h5<|gA 1 0x1ffffe00000000000000406 1026<|te ?_
     cases H
     exact fF Ho5
    refine qL 0xfffe00000000000000406 1026 [83,82] h4<|uA 5 0x1ffffe00000000000000406 1026<|tB_<|gA 1 0x1ffffe00000000000000406 1026<|te ?_
    cases H
    exact fF Ho5
   rintro _ H
   have H : (zAs n x0) = some r := H
   unfold zAs at H
   exact rA 1<|bE H fun r4 er4 H=> vA [.rd] (zLy n x0 r4 er4)<|uA 1 4 0<|te (fJ [(false,[cB r4])] H)
  exact tA h2<|gA 1 6 2<|te (fF H)
 exact qL 65542 2 [16] h1<|uA 5 2097158 2<|tB_<|gA 1 6 2<|te (fF H)
def Z9 (n : Nat) (x0 : Net) (x1 : Int) : Option (Bool) :=
  ((qK n x1 0 (IntKind.wrap .i64 ((x0.Ls.length : Int) - 1))).bind fun r1 => (bif (!r1) then (some false) else ((idx x0.Ls x1).bind fun v2 => ((idx x0.Ls x1).bind fun v3 => ((Qd n x0 v2.A v3.P).bind fun r4 => ((idx x0.Ls x1).bind fun v5 => ((idx x0.Ls x1).bind fun v6 => ((Qd n x0 v5.B v6.Q).bind fun r7 => (bif r4.2 then (bif r7.2 then (bif r4.1.Up then (some r7.1.Up) else (some false)) else (some false)) else (some false))))))))))
def zQa : Tab := ⟨20,[0,0,2,0,12,16,32,0,128,0,768,1024,2048,4161,8192,16384,16384,0,196607,524287],[0,0,2,0,12,16,32,0,128,0,768,1024,2048,4161,8192,16384,16384,0,163840,65536],[0,0,2,0,14,30,62,0,128,0,896,1920,3968,8191,16383,32767,32767,0,196607,524287]⟩
theorem Yx : zc (rg Tryz.f49 3) zQa = true := kr
def zQb : Tab := ⟨20,[0,0,2,0,12,16,32,0,128,0,768,1024,2048,4161,8192,16384,16384,0,196607,524287],[0,0,2,0,12,16,32,0,128,0,768,1024,2048,4161,8192,16384,16384,0,163840,65536],[0,0,2,0,14,30,62,0,128,0,896,1920,3968,8191,16383,32767,32767,0,196607,524287]⟩
theorem Yy : zc (rg Tryz.f49 4) zQb = true := kr
theorem zD3 (n : Nat) (x0 : Net) (x1 : Int) (r : Bool) (H : Z9 n x0 x1 = some r) : zE Tryz.prog 49 [.val true (fR (Net.row x0)),.val false [.lit (.int .i64 x1)]] [.val false [.lit (.bool r)]] [] := by
 refine cW Tryz.func49 (fun g d => sl [g 0,sl [g 1] (cn 15 (sl [g 2] .ret) .skip),d 3,d 4,g 5] .ret) [.tmp 4] fun cx=>?_
 unfold Z9 at H
 refine gA 2 6 4<|tS<|rA 3<|kF x0.Ls Link.row<|lA 1<|bE H fun r1 er1 H=> vA [.rd,.rd,.rd] (qS n x1 0 (wI ((x0.Ls.length : Int) - 1)) r1 er1)<|uA 1 32774 4 ?_
 obtain ⟨h1,H⟩ | ⟨h1,H⟩ := bC H
 ·refine nA h1<|tK<|bE H fun v2 ev2 H=> bE H fun v3 ev3 H=> bE H fun r4 er4 H=> Tr.draws mixed 20 kr ⟨62,0,[sB 6 r4.2,sA 5 5 8 0,sA 2 2 3 0,sI 1 x1],[(5,(Pt.row r4.1)),(2,(fR (Net.row x0)))]⟩ (fun cx=>?_) ?_
  ·refine mA Yx [(0,[13,18]),(1,[]),(2,[13,18]),(3,[])] 16 [⟨[13,18],50,18,19⟩,⟨[13,18],53,2,17⟩] fun cx=>iN Yx 4 Link.row ev2 fun cx=>mA Yx (zl [5,6,7]++[(8,[13,18]),(9,[])]) 10 [⟨[13,18],50,24,25⟩,⟨[13,18],50,18,19⟩,⟨[13,18],53,2,17⟩] fun cx=>iN Yx 10 Link.row ev3 fun cx=>mA Yx [(11,[]),(12,[])] 7 [⟨[13,18],50,24,25⟩,⟨[13,18],50,18,19⟩,⟨[13,18],53,2,17⟩] fun cx=>mB2 tOk Yx 13 17 kr (And.intro kr ?_) (And.intro kr ?_)
   ·refine vA [.rd,.rd,.rd] (zA7 n x0 v2.A v3.P r4 er4)<|fA<|AT.movT tOk 14 (ty := 129) (t := 30) (d := 16) (g := none) [(true,(Pt.row r4.1)),(false,[cB r4.2])] _ kr (oM Yx kr) (dM Yx kr) (.inl rfl) kr kr kr kr rfl (fun cx=>?_)
    exact mA Yx [(15,[]),(16,[])] 3 [⟨[13,18],50,24,25⟩,⟨[13,18],50,18,19⟩,⟨[13,18],53,2,17⟩] fun cx=>mC Yx 17<|lA 1<|fA<|mC Yx 18<|lA 1<|fA<|mA Yx [(19,[])] 0 [⟨[13,18],50,24,25⟩,⟨[13,18],50,18,19⟩,⟨[13,18],53,2,17⟩] fun cx=>mE Yx [6,5,2,1] [5,2]
   ·refine lA 1<|fA<|mC Yx 13<|vA [.rd,.rd,.rd] (zA7 n x0 v2.A v3.P r4 er4)<|fA<|AT.movT tOk 14 (ty := 129) (t := 30) (d := 16) (g := none) [(true,(Pt.row r4.1)),(false,[cB r4.2])] _ kr (oM Yx kr) (dM Yx kr) (.inl rfl) kr kr kr kr rfl (fun cx=>?_)
    exact mA Yx [(15,[]),(16,[])] 2 [⟨[13,18],50,24,25⟩,⟨[13,18],50,18,19⟩,⟨[13,18],53,2,17⟩] fun cx=>mC Yx 18<|lA 1<|fA<|mA Yx [(19,[])] 0 [⟨[13,18],50,24,25⟩,⟨[13,18],50,18,19⟩,⟨[13,18],53,2,17⟩] fun cx=>mE Yx [6,5,2,1] [5,2]
  refine bE H fun v5 ev5 H=> bE H fun v6 ev6 H=> bE H fun r7 er7 H=> Tr.draws mixed 20 kr ⟨62,0,[sB 8 r7.2,sA 7 7 8 0,sB 6 r4.2,sA 5 5 8 0],[(7,(Pt.row r7.1)),(5,(Pt.row r4.1))]⟩ (fun cx=>?_) ?_
  ·refine mA Yy [(0,[13,18]),(1,[]),(2,[13,18]),(3,[])] 16 [⟨[13,18],50,35,36⟩,⟨[13,18],53,2,34⟩] fun cx=>iN Yy 4 Link.row ev5 fun cx=>mA Yy (zl [5,6,7]++[(8,[13,18]),(9,[])]) 10 [⟨[13,18],50,41,42⟩,⟨[13,18],50,35,36⟩,⟨[13,18],53,2,34⟩] fun cx=>iN Yy 10 Link.row ev6 fun cx=>mA Yy [(11,[]),(12,[])] 7 [⟨[13,18],50,41,42⟩,⟨[13,18],50,35,36⟩,⟨[13,18],53,2,34⟩] fun cx=>mB2 tOk Yy 13 17 kr (And.intro kr ?_) (And.intro kr ?_)
   ·refine vA [.rd,.rd,.rd] (zA7 n x0 v5.B v6.Q r7 er7)<|fA<|AT.movT tOk 14 (ty := 129) (t := 47) (d := 33) (g := none) [(true,(Pt.row r7.1)),(false,[cB r7.2])] _ kr (oM Yy kr) (dM Yy kr) (.inl rfl) kr kr kr kr rfl (fun cx=>?_)
    exact mA Yy [(15,[]),(16,[])] 3 [⟨[13,18],50,41,42⟩,⟨[13,18],50,35,36⟩,⟨[13,18],53,2,34⟩] fun cx=>mC Yy 17<|lA 1<|fA<|mC Yy 18<|lA 1<|fA<|mA Yy [(19,[])] 0 [⟨[13,18],50,41,42⟩,⟨[13,18],50,35,36⟩,⟨[13,18],53,2,34⟩] fun cx=>mE Yy [8,7,6,5] [7,5]
   ·refine lA 1<|fA<|mC Yy 13<|vA [.rd,.rd,.rd] (zA7 n x0 v5.B v6.Q r7 er7)<|fA<|AT.movT tOk 14 (ty := 129) (t := 47) (d := 33) (g := none) [(true,(Pt.row r7.1)),(false,[cB r7.2])] _ kr (oM Yy kr) (dM Yy kr) (.inl rfl) kr kr kr kr rfl (fun cx=>?_)
    exact mA Yy [(15,[]),(16,[])] 2 [⟨[13,18],50,41,42⟩,⟨[13,18],50,35,36⟩,⟨[13,18],53,2,34⟩] fun cx=>mC Yy 18<|lA 1<|fA<|mA Yy [(19,[])] 0 [⟨[13,18],50,41,42⟩,⟨[13,18],50,35,36⟩,⟨[13,18],53,2,34⟩] fun cx=>mE Yy [8,7,6,5] [7,5]
  refine rA 2 ?_
  obtain ⟨h2,H⟩ | ⟨h2,H⟩ := bC H
  ·exact qL 0x80000000001a0 160 [51] h2<|uA 11 16 0<|te (fF H)
  refine qL 0x80000000001a0 160 [51] h2<|lA 3 ?_
  obtain ⟨h3,H⟩ | ⟨h3,H⟩ := bC H
  ·exact qL 0x400000000000a0 160 [54] h3<|uA 8 16 0<|te (fF H)
  refine qL 0x400000000000a0 160 [54] h3<|lA 4 ?_
  obtain ⟨h4,H⟩ | ⟨h4,H⟩ := bC H
  ·exact qL 0x400000000000080 128 [58] h4<|uA 4 16 0<|te (fF H)
  exact qL 0x400000000000080 128 [58] h4<|uA 4 16 0<|te (fJ [(false,[cB r7.1.Up])] H)
 exact tA h1<|gA 1 16 0<|te (fF H)
def zCm (n : Nat) (x0 : Vec) (x1 : Int) : Option (Vec × Bool) :=
  ((JE n x0).bind fun r1 => (bif (!r1) then (some (x0,false)) else ((qK n x1 1 1000).bind fun r2 => (bif (!r2) then (some (x0,false)) else ((JE n (⟨x0.Root,(IntKind.wrap .i64 (x0.Co + x1)),(IntKind.wrap .i64 (x0.Hops + 1)),x0.Bridge,x0.Port⟩ : Vec)).bind fun r3 => (bif (!r3) then (some (x0,false)) else (some ((⟨x0.Root,(IntKind.wrap .i64 (x0.Co + x1)),(IntKind.wrap .i64 (x0.Hops + 1)),x0.Bridge,x0.Port⟩ : Vec),true))))))))
theorem zLv (n : Nat) (x0 : Vec) (x1 : Int) (r : Vec × Bool) (H : zCm n x0 x1 = some r) : zE Tryz.prog 176 [.val true (fR (Vec.row x0)),.val false [.lit (.int .i64 x1)]] [.val true (Vec.row r.1),.val false [.lit (.bool r.2)]] [] := by
 refine cW Tryz.func176 (fun g d => sl [g 0,sl [g 1] (cn 14 (sl [g 2] .ret) .skip),g 3,g 4,g 5,sl [g 6] (cn 28 (sl [g 7] .ret) .skip),g 8] .ret) [.cell 4 33,.tmp 5] fun cx=>?_
 unfold zCm at H
 refine gA 3 22 20<|tS<|rA 1<|bE H fun r1 er1 H=> vA [.rd] (zDJ n x0 r1 er1)<|lA 2 ?_
 obtain ⟨h1,H⟩ | ⟨h1,H⟩ := bC H
 ·refine qL 1046 20 [10] h1<|lA 1<|bE H fun r2 er2 H=> vA [.rd,.rd,.rd] (qS n x1 1 1000 r2 er2)<|uA 2 16406 20 ?_
  obtain ⟨h2,H⟩ | ⟨h2,H⟩ := bC H
  ·refine nA h2<|tK<|gA 3 86 84<|gA 6 84 84<|gA 5 84 84<|tS<|rA 1<|bE H fun r3 er3 H=> vA [.rd] (zDJ n (⟨x0.Root,(wI (x0.Co + x1)),(wI (x0.Hops + 1)),x0.Bridge,x0.Port⟩ : Vec) r3 er3)<|uA 1 268435540 84 ?_
   obtain ⟨h3,H⟩ | ⟨h3,H⟩ := bC H
   ·exact nA h3<|tK<|gA 3 48 16<|te (fJ [(true,[cI x0.Root,cI (wI (x0.Co + x1)),cI (wI (x0.Hops + 1)),cI x0.Bridge,cI x0.Port]),(false,[cB true])] H)
   exact tA h3<|gA 3 48 16<|te (fJ [(true,(Vec.row x0)),(false,[cB false])] H)
  exact tA h2<|gA 3 48 16<|te (fJ [(true,(Vec.row x0)),(false,[cB false])] H)
 exact qL 1046 20 [10] h1<|uA 4 16406 20<|tB_<|gA 3 48 16<|te (fJ [(true,(Vec.row x0)),(false,[cB false])] H)
def zAr (n : Nat) (x0 : Vec) (x1 : Vec) : Option (Bool) :=
  (bif (x0.Root != x1.Root) then (some (decide (x0.Root < x1.Root))) else (bif (x0.Co != x1.Co) then (some (decide (x0.Co < x1.Co))) else (bif (x0.Bridge != x1.Bridge) then (some (decide (x0.Bridge < x1.Bridge))) else (some (decide (x0.Port < x1.Port))))))
theorem zHp (n : Nat) (x0 : Vec) (x1 : Vec) (r : Bool) (H : zAr n x0 x1 = some r) : zE Tryz.prog 177 [.val true (fR (Vec.row x0)),.val true (fR (Vec.row x1))] [.val false [.lit (.bool r)]] [] := by
 refine cW Tryz.func177 (fun g d => sl [g 0,.block 0 (sl [g 1] (cn 5 (sl [g 2] .ret) (sl [g 3] (cn 16 (sl [g 4] .ret) (sl [g 5] (cn 27 (sl [g 6] .ret) .skip)))))),g 7] .ret) [.tmp 4] fun cx=>?_
 unfold zAr at H
 refine gA 3 12 12<|tS<|tB<|gA 6 44 12 ?_
 obtain ⟨h1,H⟩ | ⟨h1,H⟩ := bC H
 ·refine nA h1<|gA 6 65548 12 ?_
  obtain ⟨h2,H⟩ | ⟨h2,H⟩ := bC H
  ·refine nA h2<|gA 6 134217740 12 ?_
   obtain ⟨h3,H⟩ | ⟨h3,H⟩ := bC H
   ·exact nA h3<|tK<|gA 6 16 0<|te (fJ [(false,[cB (decide (x0.Port < x1.Port))])] H)
   exact tA h3<|gA 6 16 0<|te (fJ [(false,[cB (decide (x0.Bridge < x1.Bridge))])] H)
  exact tA h2<|gA 6 16 0<|te (fJ [(false,[cB (decide (x0.Co < x1.Co))])] H)
 exact tA h1<|gA 6 16 0<|te (fJ [(false,[cB (decide (x0.Root < x1.Root))])] H)
end Go.Proofs.YtajadnlejdpceaaGreat.Tw
