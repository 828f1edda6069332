import Derived.Test.YtajadnlejdpceaaGreatProg
import Derived.Test.YtajadnlejdpceaaGreatTlRule
import Derived.Test.YtajadnlejdpceaaGreatTlU15
import Derived.Test.YtajadnlejdpceaaGreatTwNT2
import Derived.WalkKit
set_option linter.unusedVariables false
set_option linter.unusedSimpArgs false
set_option maxRecDepth 100000
set_option maxHeartbeats 1000000
namespace Go.Proofs.YtajadnlejdpceaaGreat.Tw
open Go Go.TL Go.Proofs
def zAs (n : Nat) (r1 : Int × Src) (r3 : Int × Src) (y7 : (List zC)) (y8 : (List Int)) : Option (zD × Int × Src) :=
  (some ((⟨y7,y8⟩ : zD),(IntKind.wrap .i64 (1 + r1.1)),r3.2))
def YP (n : Nat) : Nat → Int → (List zC) → (List Int) → Option (((List zC) × (List Int)) ⊕ (zD × Int × Src))
  | 0,_,_,_ => none
  | mo9 + 1,y4,y5,y6 => (bif (decide (y4 < 6)) then ((zAz n (⟨y5,y6⟩ : zD) (⟨(IntKind.wrap .i64 (10 + y4)),0,0⟩ : zC)).bind fun r10 => (YP n mo9 (IntKind.wrap .i64 (y4 + 1)) r10.Rows r10.Pv)) else (some (Sum.inl (y5,y6))))
def zCF (n : Nat) (x0 : Src) : Option (zD × Int × Src) :=
  ((zF n x0 4).bind fun r1 => ((zAM n r1.2 (IntKind.wrap .i64 (1 + r1.1))).bind fun r2 => ((zF n r2.2 12).bind fun r3 => (bif (r3.1 == 0) then ((zY n r3.2 [0,1,9,100]).bind fun r14 => ((zY n r14.2 [(-1),0,1,64]).bind fun r15 => ((zF n r15.2 3).bind fun r16 => (bif (decide (r2.1.Rows.length + [(⟨r14.1,r15.1,r16.1⟩ : zC)].length ≤ 268435456)) then (some ((⟨(r2.1.Rows ++ [(⟨r14.1,r15.1,r16.1⟩ : zC)]),r2.1.Pv⟩ : zD),(IntKind.wrap .i64 (1 + r1.1)),r16.2)) else none)))) else (bif (r3.1 == 1) then ((zY n r3.2 [0,7]).bind fun r12 => ((idx r2.1.Pv 0).bind fun v13 => (some ((⟨r2.1.Rows,(r2.1.Pv.set (((0 : Int)).toNat) r12.1)⟩ : zD),(IntKind.wrap .i64 (1 + r1.1)),r12.2)))) else (bif (r3.1 == 2) then ((zY n r3.2 [0,6,7]).bind fun r11 => (some (r2.1,r11.1,r11.2))) else (bif (r3.1 == 3) then ((YP n n 0 r2.1.Rows r2.1.Pv).bind fun o => match o with | .inl (y7,y8) => (zAs n r1 r3 y7 y8) | .inr r => some r) else (some (r2.1,(IntKind.wrap .i64 (1 + r1.1)),r3.2)))))))))
def zPY : Tab := ⟨15,[0,1,0,0,12,0,0,112,0,384,656,1024,2562,8191,16383],[0,1,0,0,12,0,0,96,0,256,656,1024,2050,0,12288],[0,1,0,0,12,0,0,124,0,508,1020,2044,4095,8191,16383]⟩
noncomputable abbrev zCh (k : Nat) := Rg Tryz.f154 k
noncomputable abbrev zPB (k : Nat) := Rd Tryz.f154 k
theorem ZE : zg (rg Tryz.f154 5) zPY = true := kr
theorem zLG (n : Nat) (r3 : Int × Src) (r14 : Int × Src) (r15 : Int × Src) (r16 : Int × Src) (r2 : zD × Src) (r1 : Int × Src) (er14 : (zY n r3.2 [0,1,9,100]) = some r14) (er15 : (zY n r14.2 [(-1),0,1,64]) = some r15) (er16 : (zF n r15.2 3) = some r16) (hg17 : (decide (r2.1.Rows.length + [(⟨r14.1,r15.1,r16.1⟩ : zC)].length ≤ 268435456)) = true) (cx : Cx) : AT Tryz.prog cx (rg Tryz.f154 5) [] 15 [] ⟨57,1,[sB 15 (r3.1 == 0),sI 14 r3.1,sA 5 5 2 0,sI 4 (wI (1 + r1.1)),sA 2 2 2 0,sA 0 0 3 0],[(0,(fR (Src.row r3.2))),(5,(zD.row r2.1)),(2,[cL 3 ([] : List zC) zC.row,cL 1 ([] : List Int) intRow])]⟩ (fun s => s = ⟨57,1,[sA 5 5 2 0,sI 4 (wI (1 + r1.1)),sA 2 2 2 0,sA 0 0 3 0],[(5,[cL 3 (r2.1.Rows ++ [(⟨r14.1,r15.1,r16.1⟩ : zC)]) zC.row,cL 1 r2.1.Pv intRow]),(0,(fR (Src.row r16.2))),(2,[cL 3 ([] : List zC) zC.row,cL 1 ([] : List Int) intRow])]⟩) := by
 refine mA ZE [(0,[]),(1,[12,14]),(2,[]),(5,[]),(8,[])] 10 [⟨[12,14],26,17,18⟩] fun cx=>mB2 tOk ZE 3 6 kr (And.intro kr ?_) (And.intro kr ?_)
 ·refine lA 1<|fA<|mB2 tOk ZE 4 6 kr (And.intro kr ?_) (And.intro kr ?_)
  ·exact vL [.lend,.rd] (zi n r3.2 [0,1,9,100] r14 er14)<|fA<|mC ZE 6<|lA 1<|fA<|mC ZE 7<|vL [.lend,.rd] (zi n r14.2 [(-1),0,1,64] r15 er15)<|fA<|mC ZE 9<|vL [.lend,.rd] (zL n r15.2 3 r16 er16)<|fA<|mC ZE 10<|lA 1<|fA<|mC ZE 11<|lA 1<|fA<|mC ZE 12<|LAt.appMU tOk (t := 26) (ty := 26) (e := 113) (x := (.tmp 18)) (y := (.tmp 28)) (d := 29) (g := none) (tI 113) zC.row r2.1.Rows [(⟨r14.1,r15.1,r16.1⟩ : zC)] kr kr kr kr kr kr kr kr kr kr hg17<|fA<|mA ZE [(13,[])] 1 [⟨[12,14],26,17,18⟩] fun cx=>mC ZE 14<|lA 1<|fA<|mE ZE [5,4,2,0] [5,0,2]
  ·exact lA 1<|fA<|mC ZE 4<|vL [.lend,.rd] (zi n r3.2 [0,1,9,100] r14 er14)<|fA<|mC ZE 7<|vL [.lend,.rd] (zi n r14.2 [(-1),0,1,64] r15 er15)<|fA<|mC ZE 9<|vL [.lend,.rd] (zL n r15.2 3 r16 er16)<|fA<|mC ZE 10<|lA 1<|fA<|mC ZE 11<|lA 1<|fA<|mC ZE 12<|LAt.appMU tOk (t := 26) (ty := 26) (e := 113) (x := (.tmp 18)) (y := (.tmp 28)) (d := 29) (g := none) (tI 113) zC.row r2.1.Rows [(⟨r14.1,r15.1,r16.1⟩ : zC)] kr kr kr kr kr kr kr kr kr kr hg17<|fA<|mA ZE [(13,[])] 1 [⟨[12,14],26,17,18⟩] fun cx=>mC ZE 14<|lA 1<|fA<|mE ZE [5,4,2,0] [5,0,2]
 ·exact lA 1<|fA<|mC ZE 3<|lA 1<|fA<|mC ZE 4<|vL [.lend,.rd] (zi n r3.2 [0,1,9,100] r14 er14)<|fA<|mC ZE 7<|vL [.lend,.rd] (zi n r14.2 [(-1),0,1,64] r15 er15)<|fA<|mC ZE 9<|vL [.lend,.rd] (zL n r15.2 3 r16 er16)<|fA<|mC ZE 10<|lA 1<|fA<|mC ZE 11<|lA 1<|fA<|mC ZE 12<|LAt.appMU tOk (t := 26) (ty := 26) (e := 113) (x := (.tmp 18)) (y := (.tmp 28)) (d := 29) (g := none) (tI 113) zC.row r2.1.Rows [(⟨r14.1,r15.1,r16.1⟩ : zC)] kr kr kr kr kr kr kr kr kr kr hg17<|fA<|mA ZE [(13,[])] 1 [⟨[12,14],26,17,18⟩] fun cx=>mC ZE 14<|lA 1<|fA<|mE ZE [5,4,2,0] [5,0,2]
theorem zNK (n : Nat) (x0 : Src) (r : zD × Int × Src) (H : zCF n x0 = some r) : zJ Tryz.prog 154 [.ptr (fR (Src.row x0))] [.val true (zD.row r.1),.val false [.lit (.int .i64 r.2.1)]] [(0,(fR (Src.row r.2.2)))] := by
 refine zJ.of_body tOk Tryz.func154 rfl (c := (.seq (zCh 0) (.seq (zCh 1) (.seq (zCh 2) (.seq (.seq (zCh 3) (.block 0 (.seq (zCh 4) (.cond (.tmp 15) (zPB 5) (.seq (zCh 6) (.cond (.tmp 31) (zPB 7) (.seq (zCh 8) (.cond (.tmp 39) (zCh 9) (.seq (zCh 10) (.cond (.tmp 44) (.seq (zCh 11) (.block 1 (.loop (.seq (.seq (zCh 12) (.cond (.tmp 47) .skip (.exit 1))) (.seq (.block 2 (zCh 14)) (zCh 13)))))) .skip)))))))))) (.seq (zCh 15) .ret)))))) kr (Nat.le_of_ble_eq_true kr) 1 (rs := [.cell 2 29,.tmp 3]) rfl [] .nil [(true,(zD.row r.1)),(false,[.lit (.int .i64 r.2.1)])] [] [(0,(fR (Src.row r.2.2)))] fun cx=>?_
 show Tr _ _ _ ⟨57,1,[sA 0 0 3 0],[(0,(fR (Src.row x0)))]⟩ _
 unfold zCF at H
 refine gA 2 5 5<|rA 1<|bE H fun r1 er1 H=> vL [.lend,.rd] (zL n x0 4 r1 er1)<|uA 2 21 5<|rA 2<|bE H fun r2 er2 H=> vL [.lend,.rd] (zIU n r1.2 (wI (1 + r1.1)) r2 er2)<|uA 2 53 37<|tS<|rA 1<|bE H fun r3 er3 H=> vL [.lend,.rd] (zL n r2.2 12 r3 er3)<|dA 16437 37<|tB<|gA 2 49205 37 ?_
 obtain ⟨h1,H⟩ | ⟨h1,H⟩ := bC H
 ·refine nA h1<|gA 2 2147500085 37 ?_
  obtain ⟨h2,H⟩ | ⟨h2,H⟩ := bC H
  ·refine nA h2<|gA 2 549755830325 37 ?_
   obtain ⟨h3,H⟩ | ⟨h3,H⟩ := bC H
   ·refine nA h3<|gA 2 17592186044469 37 ?_
    obtain ⟨h4,H⟩ | ⟨h4,H⟩ := bC H
    ·exact nA h4<|tK<|gA 4 13 5<|te<|fY [(true,(zD.row r2.1)),(false,[cI (wI (1 + r1.1))])] [(0,(fR (Src.row r3.2)))] H
    refine tA h4<|gA 1 117 37 ?_
    obtain ⟨o9,eo9,Ho9⟩ := bs H
    clear H
    refine Tr.mid (ι := (List zC) × (List Int)) (fun v => ⟨57,1,[sA 5 5 2 0,sI 4 (wI (1 + r1.1)),sA 2 2 2 0,sA 0 0 3 0],[(0,(fR (Src.row r3.2))),(5,[cL 3 v.1 zC.row,cL 1 v.2 intRow]),(2,[cL 3 ([] : List zC) zC.row,cL 1 ([] : List Int) intRow])]⟩) (fun v => zAs n r1 r3 v.1 v.2 = some r) ?_ ?_
    ·refine tB<|Tr.loop (ι := Nat × (Int × (List zC) × (List Int))) (fun v => ⟨57,1,[sI 6 v.2.1,sA 5 5 2 0,sI 4 (wI (1 + r1.1)),sA 2 2 2 0,sA 0 0 3 0],[(0,(fR (Src.row r3.2))),(5,[cL 3 v.2.2.1 zC.row,cL 1 v.2.2.2 intRow]),(2,[cL 3 ([] : List zC) zC.row,cL 1 ([] : List Int) intRow])]⟩) (fun v => YP n v.1 v.2.1 v.2.2.1 v.2.2.2 = some o9) (fun v => v.1) (n,(0,r2.1.Rows,r2.1.Pv)) eo9 (St.sub_of [6,5,4,2,0] [0,5,2] kr) ?_
     rintro ⟨mo9,y4,y5,y6⟩ H
     have H : YP n mo9 y4 y5 y6 = some o9 := H
     obtain _ | mo9 := mo9
     ·exact nN H
     rw [YP] at H
     refine tS<|gA 2 0x800000000075 37 ?_
     obtain ⟨h5,H⟩ | ⟨h5,H⟩ := bC H
     ·refine nA h5<|Tr.exit<|aJ ?_
      obtain rfl := si H
      have H := Ho9
      dsimp only at H
      exact jA (y5,y6) H [5,4,2,0] [0,5,2]
     exact tA h5<|tK<|tS<|tB<|Tr.at<|lA 4<|bE H fun r10 er10 H=> vB [.rd,.rd] [.box 5] (zJr n (⟨y5,y6⟩ : zD) (⟨(wI (10 + y4)),0,0⟩ : zC) r10 er10) (.inr (zO (zD.row_mine _) zW))<|uA 1 117 37<|eA 3 117 37<|jB mo9 ((wI (y4 + 1)),r10.Rows,r10.Pv) H [6,5,4,2,0] [0,5,2]
    rintro ⟨y7,y8⟩ H
    have H : (zAs n r1 r3 y7 y8) = some r := H
    unfold zAs at H
    exact gA 4 13 5<|te<|fY [(true,[cL 3 y7 zC.row,cL 1 y8 intRow]),(false,[cI (wI (1 + r1.1))])] [(0,(fR (Src.row r3.2)))] H
   exact tA h3<|Tr.at<|lA 2<|bE H fun r11 er11 H=> vL [.lend,.rd] (zi n r3.2 [0,6,7] r11 er11)<|uA 1 53 37<|gA 4 13 5<|te<|fY [(true,(zD.row r2.1)),(false,[cI r11.1])] [(0,(fR (Src.row r11.2)))] H
  refine tA h2<|bE H fun r12 er12 H=> bE H fun v13 ev13 H=> Tr.draw mixed 7 kr ⟨57,1,[sA 5 5 2 0,sI 4 (wI (1 + r1.1)),sA 2 2 2 0,sA 0 0 3 0],[(5,[cL 3 r2.1.Rows zC.row,cL 1 (r2.1.Pv.set (((0 : Int)).toNat) r12.1) intRow]),(0,(fR (Src.row r12.2))),(2,[cL 3 ([] : List zC) zC.row,cL 1 ([] : List Int) intRow])]⟩ (fun cx=>?_) ?_
  ·refine aA [(0,[]),(1,[6]),(2,[])] 4 [⟨[6],27,33,34⟩] fun cx=>bA 3<|lA 1<|fA<|bA 4<|vL [.lend,.rd] (zi n r3.2 [0,7] r12 er12)<|fA<|AT.indexO tOk 5 (t := 27) (ty := 0) (x := (.tmp 34)) (y := (.const (.int .i64 0))) (d := 38) (g := none) ⟨(.box 5),[(0,0)],1,true,1,(r2.1.Pv.map intRow)⟩ 0 (((0 : Int)).toNat) (intRow v13) _ kr kr kr kr kr kr rfl kr (YH ev13) rfl rfl (fun cx=>?_)
   exact bA 6<|LAt.storeB tOk (t := 3) (ty := 0) (ad := (.tmp 38)) (x := (.tmp 37)) (g := none) (tI 3) false [cI r12.1] 5 1 (((0 : Int)).toNat) 1 0 1 r2.1.Pv intRow v13 r12.1 kr kr kr kr kr kr kr kr (zN ev13).2 kr kr kr kr<|fA<|eE [5,4,2,0] [5,0,2]
  exact gA 4 13 5<|te<|fY [(true,[cL 3 r2.1.Rows zC.row,cL 1 (r2.1.Pv.set (((0 : Int)).toNat) r12.1) intRow]),(false,[cI (wI (1 + r1.1))])] [(0,(fR (Src.row r12.2)))] H
 exact tA h1<|bE H fun r14 er14 H=> bE H fun r15 er15 H=> bE H fun r16 er16 H=> gE H fun hg17 H=> sT ⟨57,1,[sB 15 (r3.1 == 0),sI 14 r3.1,sA 5 5 2 0,sI 4 (wI (1 + r1.1)),sA 2 2 2 0,sA 0 0 3 0],[(0,(fR (Src.row r3.2))),(5,(zD.row r2.1)),(2,[cL 3 ([] : List zC) zC.row,cL 1 ([] : List Int) intRow])]⟩<|Tr.draw mixed 15 kr ⟨57,1,[sA 5 5 2 0,sI 4 (wI (1 + r1.1)),sA 2 2 2 0,sA 0 0 3 0],[(5,[cL 3 (r2.1.Rows ++ [(⟨r14.1,r15.1,r16.1⟩ : zC)]) zC.row,cL 1 r2.1.Pv intRow]),(0,(fR (Src.row r16.2))),(2,[cL 3 ([] : List zC) zC.row,cL 1 ([] : List Int) intRow])]⟩ (zLG n r3 r14 r15 r16 r2 r1 er14 er15 er16 hg17)<|gA 4 13 5<|te<|fY [(true,[cL 3 (r2.1.Rows ++ [(⟨r14.1,r15.1,r16.1⟩ : zC)]) zC.row,cL 1 r2.1.Pv intRow]),(false,[cI (wI (1 + r1.1))])] [(0,(fR (Src.row r16.2)))] H
def zBZ (n : Nat) (x0 : Src) : Option (zA × Src) :=
  ((zAn n x0).bind fun r1 => ((zF n r1.2 16).bind fun r2 => (bif (r2.1 == 0) then ((zY n r2.2 [0,99,100]).bind fun r8 => (some ((⟨r8.1,r1.1.Name,r1.1.Ps,r1.1.F,r1.1.V,r1.1.Tk,r1.1.Pa,r1.1.Wo,r1.1.Dr,r1.1.Ve⟩ : zA),r8.2))) else (bif (r2.1 == 1) then ((Y4 n r2.2 [(⟨#[116,101,110,45,98,121,116,101,115,45]⟩ : ByteArray),(⟨#[101,108,101,118,101,110,45,98,121,116,101]⟩ : ByteArray)]).bind fun r7 => (some ((⟨r1.1.Id,r7.1,r1.1.Ps,r1.1.F,r1.1.V,r1.1.Tk,r1.1.Pa,r1.1.Wo,r1.1.Dr,r1.1.Ve⟩ : zA),r7.2))) else (bif (r2.1 == 2) then ((zBX n r2.2).bind fun r6 => (some ((⟨r1.1.Id,r1.1.Name,r6.1,r1.1.F,r1.1.V,r1.1.Tk,r1.1.Pa,r1.1.Wo,r1.1.Dr,r1.1.Ve⟩ : zA),r6.2))) else (bif (r2.1 == 3) then ((zCE n r2.2).bind fun r5 => (some ((⟨r1.1.Id,r1.1.Name,r1.1.Ps,r5.1,r1.1.V,r1.1.Tk,r1.1.Pa,r1.1.Wo,r1.1.Dr,r1.1.Ve⟩ : zA),r5.2))) else (bif (r2.1 == 4) then ((zCF n r2.2).bind fun r4 => (some ((⟨r1.1.Id,r1.1.Name,r1.1.Ps,r1.1.F,r4.1,r1.1.Tk,r1.1.Pa,r1.1.Wo,r1.1.Dr,r1.1.Ve⟩ : zA),r4.2.2))) else (bif (r2.1 == 5) then ((zY n r2.2 [(-1),1000000,1000001]).bind fun r3 => (some ((⟨r1.1.Id,r1.1.Name,r1.1.Ps,r1.1.F,r1.1.V,r1.1.Tk,r1.1.Pa,r1.1.Wo,r3.1,r1.1.Ve⟩ : zA),r3.2))) else (some (r1.1,r2.2))))))))))
noncomputable abbrev G77 (k : Nat) := Rg Tryz.f77 k
theorem zMW (n : Nat) (x0 : Src) (r : zA × Src) (H : zBZ n x0 = some r) : zJ Tryz.prog 77 [.ptr (fR (Src.row x0))] [.val true (zA.row r.1)] [(0,(fR (Src.row r.2)))] := by
 refine zJ.of_body tOk Tryz.func77 rfl (c := (.seq (G77 0) (.seq (G77 1) (.seq (.seq (G77 2) (.block 0 (.seq (G77 3) (.cond (.tmp 8) (G77 4) (.seq (G77 5) (.cond (.tmp 14) (G77 6) (.seq (G77 7) (.cond (.tmp 20) (G77 8) (.seq (G77 9) (.cond (.tmp 25) (G77 10) (.seq (G77 11) (.cond (.tmp 30) (G77 12) (.seq (G77 13) (.cond (.tmp 38) (G77 14) .skip)))))))))))))) (.seq (G77 15) .ret))))) kr (Nat.le_of_ble_eq_true kr) 1 (rs := [.cell 2 31]) rfl [] .nil [(true,(zA.row r.1))] [] [(0,(fR (Src.row r.2)))] fun cx=>?_
 show Tr _ _ _ ⟨45,1,[sA 0 0 3 0],[(0,(fR (Src.row x0)))]⟩ _
 unfold zBZ at H
 refine gA 1 5 5<|rA 1<|bE H fun r1 er1 H=> vL [.lend] (zL3 n x0 r1 er1)<|uA 2 13 13<|tS<|rA 1<|bE H fun r2 er2 H=> vL [.lend,.rd] (zL n r1.2 16 r2 er2)<|dA 141 13<|tB<|gA 2 397 13 ?_
 obtain ⟨h1,H⟩ | ⟨h1,H⟩ := bC H
 ·refine nA h1<|gA 2 16525 13 ?_
  obtain ⟨h2,H⟩ | ⟨h2,H⟩ := bC H
  ·refine nA h2<|gA 2 1048717 13 ?_
   obtain ⟨h3,H⟩ | ⟨h3,H⟩ := bC H
   ·refine nA h3<|gA 2 33554573 13 ?_
    obtain ⟨h4,H⟩ | ⟨h4,H⟩ := bC H
    ·refine nA h4<|gA 2 1073741965 13 ?_
     obtain ⟨h5,H⟩ | ⟨h5,H⟩ := bC H
     ·refine nA h5<|gA 2 274877906957 13 ?_
      obtain ⟨h6,H⟩ | ⟨h6,H⟩ := bC H
      ·exact nA h6<|tK<|gA 2 5 5<|te<|fY [(true,(zA.row r1.1))] [(0,(fR (Src.row r2.2)))] H
      exact tA h6<|Tr.at<|lA 2<|bE H fun r3 er3 H=> vL [.lend,.rd] (zi n r2.2 [(-1),1000000,1000001] r3 er3)<|uA 2 13 13<|gA 2 5 5<|te<|fY [(true,[cI r1.1.Id,cS r1.1.Name,cL 8 r1.1.Ps Pt.row,cL 5 r1.1.F zB.row,cL 3 r1.1.V.Rows zC.row,cL 1 r1.1.V.Pv intRow,cI r1.1.Tk,cI r1.1.Pa,cI r1.1.Wo,cI r3.1,cI r1.1.Ve])] [(0,(fR (Src.row r3.2)))] H
     exact tA h5<|Tr.at<|lA 1<|bE H fun r4 er4 H=> vL [.lend] (zNK n r2.2 r4 er4)<|LAt.movT tOk (ty := 153) (t := 34) (d := 32) (g := none) [(true,(zD.row r4.1)),(false,[cI r4.2.1])] _ kr (.inl rfl) kr kr kr kr rfl<|uA 4 13 13<|gA 2 5 5<|te<|fY [(true,[cI r1.1.Id,cS r1.1.Name,cL 8 r1.1.Ps Pt.row,cL 5 r1.1.F zB.row,cL 3 r4.1.Rows zC.row,cL 1 r4.1.Pv intRow,cI r1.1.Tk,cI r1.1.Pa,cI r1.1.Wo,cI r1.1.Dr,cI r1.1.Ve])] [(0,(fR (Src.row r4.2.2)))] H
    exact tA h4<|Tr.at<|lA 1<|bE H fun r5 er5 H=> vL [.lend] (zNJ n r2.2 r5 er5)<|uA 2 13 13<|gA 2 5 5<|te<|fY [(true,[cI r1.1.Id,cS r1.1.Name,cL 8 r1.1.Ps Pt.row,cL 5 r5.1 zB.row,cL 3 r1.1.V.Rows zC.row,cL 1 r1.1.V.Pv intRow,cI r1.1.Tk,cI r1.1.Pa,cI r1.1.Wo,cI r1.1.Dr,cI r1.1.Ve])] [(0,(fR (Src.row r5.2)))] H
   exact tA h3<|Tr.at<|lA 1<|bE H fun r6 er6 H=> vL [.lend] (zMV n r2.2 r6 er6)<|uA 2 13 13<|gA 2 5 5<|te<|fY [(true,[cI r1.1.Id,cS r1.1.Name,cL 8 r6.1 Pt.row,cL 5 r1.1.F zB.row,cL 3 r1.1.V.Rows zC.row,cL 1 r1.1.V.Pv intRow,cI r1.1.Tk,cI r1.1.Pa,cI r1.1.Wo,cI r1.1.Dr,cI r1.1.Ve])] [(0,(fR (Src.row r6.2)))] H
  exact tA h2<|Tr.at<|lA 2<|bE H fun r7 er7 H=> vL [.lend,.rd] (zJo n r2.2 [(⟨#[116,101,110,45,98,121,116,101,115,45]⟩ : ByteArray),(⟨#[101,108,101,118,101,110,45,98,121,116,101]⟩ : ByteArray)] r7 er7)<|uA 2 13 13<|gA 2 5 5<|te<|fY [(true,[cI r1.1.Id,cS r7.1,cL 8 r1.1.Ps Pt.row,cL 5 r1.1.F zB.row,cL 3 r1.1.V.Rows zC.row,cL 1 r1.1.V.Pv intRow,cI r1.1.Tk,cI r1.1.Pa,cI r1.1.Wo,cI r1.1.Dr,cI r1.1.Ve])] [(0,(fR (Src.row r7.2)))] H
 exact tA h1<|Tr.at<|lA 2<|bE H fun r8 er8 H=> vL [.lend,.rd] (zi n r2.2 [0,99,100] r8 er8)<|uA 2 13 13<|gA 2 5 5<|te<|fY [(true,[cI r8.1,cS r1.1.Name,cL 8 r1.1.Ps Pt.row,cL 5 r1.1.F zB.row,cL 3 r1.1.V.Rows zC.row,cL 1 r1.1.V.Pv intRow,cI r1.1.Tk,cI r1.1.Pa,cI r1.1.Wo,cI r1.1.Dr,cI r1.1.Ve])] [(0,(fR (Src.row r8.2)))] H
def JL (n : Nat) (x0 : Src) (x1 : Int) : Option (Net × Src) :=
  ((zAp n x0 x1).bind fun r1 => (bif ((r1.1.Bs.length : Int) == 0) then (some (r1.1,r1.2)) else ((zF n r1.2 (r1.1.Bs.length : Int)).bind fun r2 => ((zF n r2.2 20).bind fun r3 => (bif (r3.1 == 0) then ((zBZ n r3.2).bind fun r14 => ((idx r1.1.Bs r2.1).bind fun v15 => (some ((⟨(r1.1.Bs.set (r2.1.toNat) r14.1),r1.1.Ls,r1.1.Said⟩ : Net),r14.2)))) else (bif (r3.1 == 1) then ((zF n r3.2 3).bind fun r9 => ((zF n r9.2 3).bind fun r10 => ((zF n r10.2 7).bind fun r11 => ((zF n r11.2 7).bind fun r12 => (bif (decide (r1.1.Ls.length + [(⟨r9.1,r10.1,(IntKind.wrap .i64 (r11.1 - 1)),r12.1⟩ : Link)].length ≤ 268435456)) then (some ((⟨r1.1.Bs,(r1.1.Ls ++ [(⟨r9.1,r10.1,(IntKind.wrap .i64 (r11.1 - 1)),r12.1⟩ : Link)]),r1.1.Said⟩ : Net),r12.2)) else none))))) else (bif (r3.1 == 2) then ((zY n r3.2 [(-1),0,8,9]).bind fun r6 => ((zAy n r6.2).bind fun r7 => (bif (decide (r1.1.Said.length + [(⟨r6.1,false,r7.1⟩ : Say)].length ≤ 268435456)) then (some ((⟨r1.1.Bs,r1.1.Ls,(r1.1.Said ++ [(⟨r6.1,false,r7.1⟩ : Say)])⟩ : Net),r7.2)) else none))) else (bif (r3.1 == 3) then ((idx r1.1.Bs r2.1).bind fun v4 => ((idx v4.Ps 0).bind fun v5 => (some ((⟨(r1.1.Bs.set (r2.1.toNat) (⟨v4.Id,v4.Name,(v4.Ps.set (((0 : Int)).toNat) (⟨(!v5.Up),v5.Co,v5.Has,v5.Hd⟩ : Pt)),v4.F,v4.V,v4.Tk,v4.Pa,v4.Wo,v4.Dr,v4.Ve⟩ : zA)),r1.1.Ls,r1.1.Said⟩ : Net),r3.2)))) else (some (r1.1,r3.2))))))))))
def zOl : Tab := ⟨19,[0,1,0,6,8,16,0,64,0,384,512,1024,2048,4096,8192,16384,65535,131071,196607],[0,1,0,6,8,16,0,64,0,384,512,1024,2048,4096,8192,16384,32,65536,163840],[0,1,0,7,15,31,0,64,0,448,960,1984,4032,8128,16320,32704,65535,131071,262143]⟩
noncomputable abbrev zEv (k : Nat) := Rg Tryz.f122 k
noncomputable abbrev zMt (k : Nat) := Rd Tryz.f122 k
theorem qH : zg (rg Tryz.f122 13) zOl = true := kr
def zOj : Tab := ⟨12,[0,1,0,0,12,0,48,80,128,322,1023,2047],[0,1,0,0,12,0,32,80,128,258,0,1536],[0,1,0,0,12,0,60,124,252,511,1023,2047]⟩
theorem zAu : zg (rg Tryz.f122 11) zOj = true := kr
def zPJ : Tab := ⟨16,[0,1,0,4,0,24,0,96,128,0,640,1320,2048,5122,16383,32767],[0,1,0,4,0,16,0,64,128,0,512,1320,2048,4098,0,24576],[0,1,0,4,0,28,0,124,252,0,764,2044,4092,8191,16383,32767]⟩
theorem zAc : zg (rg Tryz.f122 9) zPJ = true := kr
theorem zKb (n : Nat) (r2 : Int × Src) (r1 : Net × Src) (v4 : zA) (v5 : Pt) (r3 : Int × Src) (ev4 : (idx r1.1.Bs r2.1) = some v4) (ev5 : (idx v4.Ps 0) = some v5) (cx : Cx) : AT Tryz.prog cx (rg Tryz.f122 13) [] 19 [] ⟨81,1,[sB 60 (r3.1 == 3),sI 6 r2.1,sA 5 5 3 0,sA 4 4 3 0,sA 0 0 3 0],[(0,(fR (Src.row r3.2))),(5,(Net.row r1.1)),(4,[cL 11 ([] : List zA) zA.row,cL 4 ([] : List Link) Link.row,cL 7 ([] : List Say) Say.row])]⟩ (fun s => s = ⟨81,1,[sA 5 5 3 0,sA 4 4 3 0,sA 0 0 3 0],[(5,[cL 11 (r1.1.Bs.set (r2.1.toNat) (⟨v4.Id,v4.Name,(v4.Ps.set (((0 : Int)).toNat) (⟨(!v5.Up),v5.Co,v5.Has,v5.Hd⟩ : Pt)),v4.F,v4.V,v4.Tk,v4.Pa,v4.Wo,v4.Dr,v4.Ve⟩ : zA)) zA.row,cL 4 r1.1.Ls Link.row,cL 7 r1.1.Said Say.row]),(0,(fR (Src.row r3.2))),(4,[cL 11 ([] : List zA) zA.row,cL 4 ([] : List Link) Link.row,cL 7 ([] : List Say) Say.row])]⟩) := by
 refine mA qH [(0,[]),(1,[18]),(2,[])] 16 [⟨[18],49,62,63⟩] fun cx=>oN qH 3 zA.row ev4 fun cx=>mA qH [(4,[]),(6,[]),(7,[18]),(8,[])] 11 [⟨[18],49,68,69⟩,⟨[18],49,62,63⟩] fun cx=>oN qH 9 zA.row ev4 fun cx=>mA qH [(10,[])] 9 [⟨[18],49,68,69⟩,⟨[18],49,62,63⟩] fun cx=>mB2 tOk qH 5 11 kr (And.intro kr ?_) (And.intro kr ?_)
 ·refine dE (tI 24) (.box 5) [(0,0),(0,(r2.1.toNat))] 11 2 [.sl true 3 [(Net.row r1.1)]] (zA.row v4) (zX rfl (zN ev4).2)<|fA<|mC qH 11<|dE (tI 24) (.box 5) [(0,0),(0,(r2.1.toNat))] 11 2 [.sl true 3 [(Net.row r1.1)]] (zA.row v4) (zX rfl (zN ev4).2)<|fA<|mC qH 12<|LAt.indexD tOk (t := 24) (ty := 0) (et := 100) (x := (.tmp 73)) (y := (.const (.int .i64 0))) (d := 74) (g := none) (tI 100) ⟨(.box 5),[(0,0),(0,(r2.1.toNat))],2,true,8,(v4.Ps.map Pt.row)⟩ .i64 0 (((0 : Int)).toNat) (Pt.row v5) kr kr kr kr kr kr kr (zBU (row := [.sl true 3 [(Net.row r1.1)]]) (e := zA.row v4) kr kr (zX rfl (zN ev4).2) rfl rfl) rfl kr (YH ev5) rfl<|fA<|mA qH [(13,[])] 5 [⟨[18],49,68,69⟩,⟨[18],49,62,63⟩] fun cx=>mC qH 14<|dE (tI 4) (.box 5) [(0,0),(0,(r2.1.toNat)),(2,(((0 : Int)).toNat))] 8 0 [.sl true 3 [(Net.row r1.1)]] (Pt.row v5) (zBI rfl (zN ev4).2 rfl (zN ev5).2)<|fA<|mA qH [(15,[])] 3 [⟨[18],49,68,69⟩,⟨[18],49,62,63⟩] fun cx=>mC qH 16<|LAt.indexD tOk (t := 24) (ty := 0) (et := 100) (x := (.tmp 67)) (y := (.const (.int .i64 0))) (d := 78) (g := none) (tI 100) ⟨(.box 5),[(0,0),(0,(r2.1.toNat))],2,true,8,(v4.Ps.map Pt.row)⟩ .i64 0 (((0 : Int)).toNat) (Pt.row v5) kr kr kr kr kr kr kr (zBU (row := [.sl true 3 [(Net.row r1.1)]]) (e := zA.row v4) kr kr (zX rfl (zN ev4).2) rfl rfl) rfl kr (YH ev5) rfl<|fA<|mA qH [(17,[])] 1 [⟨[18],49,68,69⟩,⟨[18],49,62,63⟩] fun cx=>?_
  exact sA_ 0xa030c000000000000031 49 ⟨81,1,[(79,.adr (.box 5) [(0,0),(0,(r2.1.toNat)),(2,(((0 : Int)).toNat))] 8 0),sB 77 (!v5.Up),sR 69 5 3 0 1 false,sA 68 5 3 0,sR 63 5 3 0 1 false,sA 62 5 3 0,sA 5 5 3 0,sA 4 4 3 0,sA 0 0 3 0],[(0,(fR (Src.row r3.2))),(5,(Net.row r1.1)),(4,[cL 11 ([] : List zA) zA.row,cL 4 ([] : List Link) Link.row,cL 7 ([] : List Say) Say.row])]⟩<|mC qH 18<|LAt.storeK tOk (t := 4) (ty := 0) (ad := (.tmp 79)) (x := (.tmp 77)) (g := none) (tI 4) false [cB (!v5.Up)] (.box 5) [(0,0),(0,(r2.1.toNat)),(2,(((0 : Int)).toNat))] [(0,(r2.1.toNat)),(2,(((0 : Int)).toNat))] 8 0 [.sl true 3 [(Net.row r1.1)]] (Pt.row v5) (Net.row r1.1) [cL 11 (r1.1.Bs.set (r2.1.toNat) (⟨v4.Id,v4.Name,(v4.Ps.set (((0 : Int)).toNat) (⟨(!v5.Up),v5.Co,v5.Has,v5.Hd⟩ : Pt)),v4.F,v4.V,v4.Tk,v4.Pa,v4.Wo,v4.Dr,v4.Ve⟩ : zA)) zA.row,cL 4 r1.1.Ls Link.row,cL 7 r1.1.Said Say.row] kr kr kr kr kr kr (zBI rfl (zN ev4).2 rfl (zN ev5).2) rfl (by intro h; cases h) kr kr rfl (zGf (new := (⟨v4.Id,v4.Name,(v4.Ps.set (((0 : Int)).toNat) (⟨(!v5.Up),v5.Co,v5.Has,v5.Hd⟩ : Pt)),v4.F,v4.V,v4.Tk,v4.Pa,v4.Wo,v4.Dr,v4.Ve⟩ : zA)) (new2 := (⟨(!v5.Up),v5.Co,v5.Has,v5.Hd⟩ : Pt)) rfl (zN ev4).2 rfl (zN ev5).2 kr kr) kr<|fA<|mE qH [5,4,0] [5,0,4]
 ·refine dE (tI 24) (.box 5) [(0,0),(0,(r2.1.toNat))] 11 2 [.sl true 3 [(Net.row r1.1)]] (zA.row v4) (zX rfl (zN ev4).2)<|fA<|mB2 tOk qH 5 12 kr (And.intro kr ?_) (And.intro kr ?_)
  ·refine dE (tI 24) (.box 5) [(0,0),(0,(r2.1.toNat))] 11 2 [.sl true 3 [(Net.row r1.1)]] (zA.row v4) (zX rfl (zN ev4).2)<|fA<|mC qH 12<|LAt.indexD tOk (t := 24) (ty := 0) (et := 100) (x := (.tmp 73)) (y := (.const (.int .i64 0))) (d := 74) (g := none) (tI 100) ⟨(.box 5),[(0,0),(0,(r2.1.toNat))],2,true,8,(v4.Ps.map Pt.row)⟩ .i64 0 (((0 : Int)).toNat) (Pt.row v5) kr kr kr kr kr kr kr (zBU (row := [.sl true 3 [(Net.row r1.1)]]) (e := zA.row v4) kr kr (zX rfl (zN ev4).2) rfl rfl) rfl kr (YH ev5) rfl<|fA<|mA qH [(13,[])] 5 [⟨[18],49,68,69⟩,⟨[18],49,62,63⟩] fun cx=>mC qH 14<|dE (tI 4) (.box 5) [(0,0),(0,(r2.1.toNat)),(2,(((0 : Int)).toNat))] 8 0 [.sl true 3 [(Net.row r1.1)]] (Pt.row v5) (zBI rfl (zN ev4).2 rfl (zN ev5).2)<|fA<|mA qH [(15,[])] 3 [⟨[18],49,68,69⟩,⟨[18],49,62,63⟩] fun cx=>mC qH 16<|LAt.indexD tOk (t := 24) (ty := 0) (et := 100) (x := (.tmp 67)) (y := (.const (.int .i64 0))) (d := 78) (g := none) (tI 100) ⟨(.box 5),[(0,0),(0,(r2.1.toNat))],2,true,8,(v4.Ps.map Pt.row)⟩ .i64 0 (((0 : Int)).toNat) (Pt.row v5) kr kr kr kr kr kr kr (zBU (row := [.sl true 3 [(Net.row r1.1)]]) (e := zA.row v4) kr kr (zX rfl (zN ev4).2) rfl rfl) rfl kr (YH ev5) rfl<|fA<|mA qH [(17,[])] 1 [⟨[18],49,68,69⟩,⟨[18],49,62,63⟩] fun cx=>sA_ 0xa030c000000000000031 49 ⟨81,1,[(79,.adr (.box 5) [(0,0),(0,(r2.1.toNat)),(2,(((0 : Int)).toNat))] 8 0),sB 77 (!v5.Up),sR 69 5 3 0 1 false,sA 68 5 3 0,sR 63 5 3 0 1 false,sA 62 5 3 0,sA 5 5 3 0,sA 4 4 3 0,sA 0 0 3 0],[(0,(fR (Src.row r3.2))),(5,(Net.row r1.1)),(4,[cL 11 ([] : List zA) zA.row,cL 4 ([] : List Link) Link.row,cL 7 ([] : List Say) Say.row])]⟩ ?_
   exact mC qH 18<|LAt.storeK tOk (t := 4) (ty := 0) (ad := (.tmp 79)) (x := (.tmp 77)) (g := none) (tI 4) false [cB (!v5.Up)] (.box 5) [(0,0),(0,(r2.1.toNat)),(2,(((0 : Int)).toNat))] [(0,(r2.1.toNat)),(2,(((0 : Int)).toNat))] 8 0 [.sl true 3 [(Net.row r1.1)]] (Pt.row v5) (Net.row r1.1) [cL 11 (r1.1.Bs.set (r2.1.toNat) (⟨v4.Id,v4.Name,(v4.Ps.set (((0 : Int)).toNat) (⟨(!v5.Up),v5.Co,v5.Has,v5.Hd⟩ : Pt)),v4.F,v4.V,v4.Tk,v4.Pa,v4.Wo,v4.Dr,v4.Ve⟩ : zA)) zA.row,cL 4 r1.1.Ls Link.row,cL 7 r1.1.Said Say.row] kr kr kr kr kr kr (zBI rfl (zN ev4).2 rfl (zN ev5).2) rfl (by intro h; cases h) kr kr rfl (zGf (new := (⟨v4.Id,v4.Name,(v4.Ps.set (((0 : Int)).toNat) (⟨(!v5.Up),v5.Co,v5.Has,v5.Hd⟩ : Pt)),v4.F,v4.V,v4.Tk,v4.Pa,v4.Wo,v4.Dr,v4.Ve⟩ : zA)) (new2 := (⟨(!v5.Up),v5.Co,v5.Has,v5.Hd⟩ : Pt)) rfl (zN ev4).2 rfl (zN ev5).2 kr kr) kr<|fA<|mE qH [5,4,0] [5,0,4]
  ·refine LAt.indexD tOk (t := 24) (ty := 0) (et := 100) (x := (.tmp 73)) (y := (.const (.int .i64 0))) (d := 74) (g := none) (tI 100) ⟨(.box 5),[(0,0),(0,(r2.1.toNat))],2,true,8,(v4.Ps.map Pt.row)⟩ .i64 0 (((0 : Int)).toNat) (Pt.row v5) kr kr kr kr kr kr kr (zBU (row := [.sl true 3 [(Net.row r1.1)]]) (e := zA.row v4) kr kr (zX rfl (zN ev4).2) rfl rfl) rfl kr (YH ev5) rfl<|fA<|mA qH [(13,[])] 6 [⟨[18],49,68,69⟩,⟨[18],49,62,63⟩] fun cx=>mB2 tOk qH 5 14 kr (And.intro kr ?_) (And.intro kr ?_)
   ·refine dE (tI 24) (.box 5) [(0,0),(0,(r2.1.toNat))] 11 2 [.sl true 3 [(Net.row r1.1)]] (zA.row v4) (zX rfl (zN ev4).2)<|fA<|mC qH 14<|dE (tI 4) (.box 5) [(0,0),(0,(r2.1.toNat)),(2,(((0 : Int)).toNat))] 8 0 [.sl true 3 [(Net.row r1.1)]] (Pt.row v5) (zBI rfl (zN ev4).2 rfl (zN ev5).2)<|fA<|mA qH [(15,[])] 3 [⟨[18],49,68,69⟩,⟨[18],49,62,63⟩] fun cx=>mC qH 16<|LAt.indexD tOk (t := 24) (ty := 0) (et := 100) (x := (.tmp 67)) (y := (.const (.int .i64 0))) (d := 78) (g := none) (tI 100) ⟨(.box 5),[(0,0),(0,(r2.1.toNat))],2,true,8,(v4.Ps.map Pt.row)⟩ .i64 0 (((0 : Int)).toNat) (Pt.row v5) kr kr kr kr kr kr kr (zBU (row := [.sl true 3 [(Net.row r1.1)]]) (e := zA.row v4) kr kr (zX rfl (zN ev4).2) rfl rfl) rfl kr (YH ev5) rfl<|fA<|mA qH [(17,[])] 1 [⟨[18],49,68,69⟩,⟨[18],49,62,63⟩] fun cx=>sA_ 0xa030c000000000000031 49 ⟨81,1,[(79,.adr (.box 5) [(0,0),(0,(r2.1.toNat)),(2,(((0 : Int)).toNat))] 8 0),sB 77 (!v5.Up),sR 69 5 3 0 1 false,sA 68 5 3 0,sR 63 5 3 0 1 false,sA 62 5 3 0,sA 5 5 3 0,sA 4 4 3 0,sA 0 0 3 0],[(0,(fR (Src.row r3.2))),(5,(Net.row r1.1)),(4,[cL 11 ([] : List zA) zA.row,cL 4 ([] : List Link) Link.row,cL 7 ([] : List Say) Say.row])]⟩<|mC qH 18<|LAt.storeK tOk (t := 4) (ty := 0) (ad := (.tmp 79)) (x := (.tmp 77)) (g := none) (tI 4) false [cB (!v5.Up)] (.box 5) [(0,0),(0,(r2.1.toNat)),(2,(((0 : Int)).toNat))] [(0,(r2.1.toNat)),(2,(((0 : Int)).toNat))] 8 0 [.sl true 3 [(Net.row r1.1)]] (Pt.row v5) (Net.row r1.1) [cL 11 (r1.1.Bs.set (r2.1.toNat) (⟨v4.Id,v4.Name,(v4.Ps.set (((0 : Int)).toNat) (⟨(!v5.Up),v5.Co,v5.Has,v5.Hd⟩ : Pt)),v4.F,v4.V,v4.Tk,v4.Pa,v4.Wo,v4.Dr,v4.Ve⟩ : zA)) zA.row,cL 4 r1.1.Ls Link.row,cL 7 r1.1.Said Say.row] kr kr kr kr kr kr (zBI rfl (zN ev4).2 rfl (zN ev5).2) rfl (by intro h; cases h) kr kr rfl (zGf (new := (⟨v4.Id,v4.Name,(v4.Ps.set (((0 : Int)).toNat) (⟨(!v5.Up),v5.Co,v5.Has,v5.Hd⟩ : Pt)),v4.F,v4.V,v4.Tk,v4.Pa,v4.Wo,v4.Dr,v4.Ve⟩ : zA)) (new2 := (⟨(!v5.Up),v5.Co,v5.Has,v5.Hd⟩ : Pt)) rfl (zN ev4).2 rfl (zN ev5).2 kr kr) kr ?_
    exact fA<|mE qH [5,4,0] [5,0,4]
   ·refine dE (tI 4) (.box 5) [(0,0),(0,(r2.1.toNat)),(2,(((0 : Int)).toNat))] 8 0 [.sl true 3 [(Net.row r1.1)]] (Pt.row v5) (zBI rfl (zN ev4).2 rfl (zN ev5).2)<|fA<|mA qH [(15,[])] 4 [⟨[18],49,68,69⟩,⟨[18],49,62,63⟩] fun cx=>mC qH 5<|dE (tI 24) (.box 5) [(0,0),(0,(r2.1.toNat))] 11 2 [.sl true 3 [(Net.row r1.1)]] (zA.row v4) (zX rfl (zN ev4).2)<|fA<|mC qH 16<|LAt.indexD tOk (t := 24) (ty := 0) (et := 100) (x := (.tmp 67)) (y := (.const (.int .i64 0))) (d := 78) (g := none) (tI 100) ⟨(.box 5),[(0,0),(0,(r2.1.toNat))],2,true,8,(v4.Ps.map Pt.row)⟩ .i64 0 (((0 : Int)).toNat) (Pt.row v5) kr kr kr kr kr kr kr (zBU (row := [.sl true 3 [(Net.row r1.1)]]) (e := zA.row v4) kr kr (zX rfl (zN ev4).2) rfl rfl) rfl kr (YH ev5) rfl<|fA<|mA qH [(17,[])] 1 [⟨[18],49,68,69⟩,⟨[18],49,62,63⟩] fun cx=>sA_ 0xa030c000000000000031 49 ⟨81,1,[(79,.adr (.box 5) [(0,0),(0,(r2.1.toNat)),(2,(((0 : Int)).toNat))] 8 0),sB 77 (!v5.Up),sR 69 5 3 0 1 false,sA 68 5 3 0,sR 63 5 3 0 1 false,sA 62 5 3 0,sA 5 5 3 0,sA 4 4 3 0,sA 0 0 3 0],[(0,(fR (Src.row r3.2))),(5,(Net.row r1.1)),(4,[cL 11 ([] : List zA) zA.row,cL 4 ([] : List Link) Link.row,cL 7 ([] : List Say) Say.row])]⟩<|mC qH 18<|LAt.storeK tOk (t := 4) (ty := 0) (ad := (.tmp 79)) (x := (.tmp 77)) (g := none) (tI 4) false [cB (!v5.Up)] (.box 5) [(0,0),(0,(r2.1.toNat)),(2,(((0 : Int)).toNat))] [(0,(r2.1.toNat)),(2,(((0 : Int)).toNat))] 8 0 [.sl true 3 [(Net.row r1.1)]] (Pt.row v5) (Net.row r1.1) [cL 11 (r1.1.Bs.set (r2.1.toNat) (⟨v4.Id,v4.Name,(v4.Ps.set (((0 : Int)).toNat) (⟨(!v5.Up),v5.Co,v5.Has,v5.Hd⟩ : Pt)),v4.F,v4.V,v4.Tk,v4.Pa,v4.Wo,v4.Dr,v4.Ve⟩ : zA)) zA.row,cL 4 r1.1.Ls Link.row,cL 7 r1.1.Said Say.row] kr kr kr kr kr kr (zBI rfl (zN ev4).2 rfl (zN ev5).2) rfl (by intro h; cases h) kr kr rfl (zGf (new := (⟨v4.Id,v4.Name,(v4.Ps.set (((0 : Int)).toNat) (⟨(!v5.Up),v5.Co,v5.Has,v5.Hd⟩ : Pt)),v4.F,v4.V,v4.Tk,v4.Pa,v4.Wo,v4.Dr,v4.Ve⟩ : zA)) (new2 := (⟨(!v5.Up),v5.Co,v5.Has,v5.Hd⟩ : Pt)) rfl (zN ev4).2 rfl (zN ev5).2 kr kr) kr ?_
    exact fA<|mE qH [5,4,0] [5,0,4]
theorem zFy (n : Nat) (x0 : Src) (x1 : Int) (r : Net × Src) (H : JL n x0 x1 = some r) : zJ Tryz.prog 122 [.ptr (fR (Src.row x0)),.val false [.lit (.int .i64 x1)]] [.val true (Net.row r.1)] [(0,(fR (Src.row r.2)))] := by
 refine zJ.of_body tOk Tryz.func122 rfl (c := (.seq (zEv 0) (.seq (zEv 1) (.seq (.seq (zEv 2) (.cond (.tmp 13) (.seq (zEv 3) .ret) .skip)) (.seq (zEv 4) (.seq (.seq (zEv 5) (.block 0 (.seq (zEv 6) (.cond (.tmp 22) (zMt 7) (.seq (zEv 8) (.cond (.tmp 30) (zMt 9) (.seq (zEv 10) (.cond (.tmp 47) (zMt 11) (.seq (zEv 12) (.cond (.tmp 60) (zMt 13) .skip)))))))))) (.seq (zEv 14) .ret))))))) kr (Nat.le_of_ble_eq_true kr) 1 (rs := [.cell 4 53]) rfl [] .nil [(true,(Net.row r.1))] [] [(0,(fR (Src.row r.2)))] fun cx=>?_
 show Tr _ _ _ ⟨81,1,[sA 0 0 3 0,sI 1 x1],[(0,(fR (Src.row x0)))]⟩ _
 unfold JL at H
 refine gA 1 19 17<|rA 2<|bE H fun r1 er1 H=> vL [.lend,.rd] (zL5 n x0 x1 r1 er1)<|uA 2 49 49<|tS<|rA 2<|kO r1.1.Bs zA.row<|uA 1 8241 49 ?_
 obtain ⟨h1,H⟩ | ⟨h1,H⟩ := bC H
 ·refine nA h1<|tK<|rA 3<|kO r1.1.Bs zA.row<|bE H fun r2 er2 H=> vL [.lend,.rd] (zL n r1.2 (r1.1.Bs.length : Int) r2 er2)<|uA 1 113 49<|tS<|rA 1<|bE H fun r3 er3 H=> vL [.lend,.rd] (zL n r2.2 20 r3 er3)<|dA 2097265 49<|tB<|gA 2 6291569 49 ?_
  obtain ⟨h2,H⟩ | ⟨h2,H⟩ := bC H
  ·refine nA h2<|gA 2 1075839089 49 ?_
   obtain ⟨h3,H⟩ | ⟨h3,H⟩ := bC H
   ·refine nA h3<|gA 2 0x800000200071 49 ?_
    obtain ⟨h4,H⟩ | ⟨h4,H⟩ := bC H
    ·refine nA h4<|gA 2 0x1000000000000071 49 ?_
     obtain ⟨h5,H⟩ | ⟨h5,H⟩ := bC H
     ·exact nA h5<|tK<|gA 2 17 17<|te<|fY [(true,(Net.row r1.1))] [(0,(fR (Src.row r3.2)))] H
     exact tA h5<|bE H fun v4 ev4 H=> bE H fun v5 ev5 H=> sT ⟨81,1,[sB 60 (r3.1 == 3),sI 6 r2.1,sA 5 5 3 0,sA 4 4 3 0,sA 0 0 3 0],[(0,(fR (Src.row r3.2))),(5,(Net.row r1.1)),(4,[cL 11 ([] : List zA) zA.row,cL 4 ([] : List Link) Link.row,cL 7 ([] : List Say) Say.row])]⟩<|Tr.draw mixed 19 kr ⟨81,1,[sA 5 5 3 0,sA 4 4 3 0,sA 0 0 3 0],[(5,[cL 11 (r1.1.Bs.set (r2.1.toNat) (⟨v4.Id,v4.Name,(v4.Ps.set (((0 : Int)).toNat) (⟨(!v5.Up),v5.Co,v5.Has,v5.Hd⟩ : Pt)),v4.F,v4.V,v4.Tk,v4.Pa,v4.Wo,v4.Dr,v4.Ve⟩ : zA)) zA.row,cL 4 r1.1.Ls Link.row,cL 7 r1.1.Said Say.row]),(0,(fR (Src.row r3.2))),(4,[cL 11 ([] : List zA) zA.row,cL 4 ([] : List Link) Link.row,cL 7 ([] : List Say) Say.row])]⟩ (zKb n r2 r1 v4 v5 r3 ev4 ev5)<|gA 2 17 17<|te<|fY [(true,[cL 11 (r1.1.Bs.set (r2.1.toNat) (⟨v4.Id,v4.Name,(v4.Ps.set (((0 : Int)).toNat) (⟨(!v5.Up),v5.Co,v5.Has,v5.Hd⟩ : Pt)),v4.F,v4.V,v4.Tk,v4.Pa,v4.Wo,v4.Dr,v4.Ve⟩ : zA)) zA.row,cL 4 r1.1.Ls Link.row,cL 7 r1.1.Said Say.row])] [(0,(fR (Src.row r3.2)))] H
    refine tA h4<|bE H fun r6 er6 H=> bE H fun r7 er7 H=> gE H fun hg8 H=> Tr.draw mixed 12 kr ⟨81,1,[sA 5 5 3 0,sA 4 4 3 0,sA 0 0 3 0],[(5,[cL 11 r1.1.Bs zA.row,cL 4 r1.1.Ls Link.row,cL 7 (r1.1.Said ++ [(⟨r6.1,false,r7.1⟩ : Say)]) Say.row]),(0,(fR (Src.row r7.2))),(4,[cL 11 ([] : List zA) zA.row,cL 4 ([] : List Link) Link.row,cL 7 ([] : List Say) Say.row])]⟩ (fun cx=>?_) ?_
    ·exact mA zAu [(0,[]),(1,[9,11]),(2,[]),(5,[])] 8 [⟨[9,11],51,49,50⟩] fun cx=>mC zAu 3<|lA 1<|fA<|mC zAu 4<|vL [.lend,.rd] (zi n r3.2 [(-1),0,8,9] r6 er6)<|fA<|mC zAu 6<|vL [.lend] (zJp n r6.2 r7 er7)<|fA<|mC zAu 7<|lA 1<|fA<|mC zAu 8<|lA 1<|fA<|mC zAu 9<|LAt.appMU tOk (t := 51) (ty := 51) (e := 127) (x := (.tmp 50)) (y := (.tmp 57)) (d := 58) (g := none) (tI 127) Say.row r1.1.Said [(⟨r6.1,false,r7.1⟩ : Say)] kr kr kr kr kr kr kr kr kr kr hg8<|fA<|mA zAu [(10,[])] 1 [⟨[9,11],51,49,50⟩] fun cx=>mC zAu 11<|lA 1<|fA<|mE zAu [5,4,0] [5,0,4]
    exact gA 2 17 17<|te<|fY [(true,[cL 11 r1.1.Bs zA.row,cL 4 r1.1.Ls Link.row,cL 7 (r1.1.Said ++ [(⟨r6.1,false,r7.1⟩ : Say)]) Say.row])] [(0,(fR (Src.row r7.2)))] H
   refine tA h3<|bE H fun r9 er9 H=> bE H fun r10 er10 H=> bE H fun r11 er11 H=> bE H fun r12 er12 H=> gE H fun hg13 H=> Tr.draw mixed 16 kr ⟨81,1,[sA 5 5 3 0,sA 4 4 3 0,sA 0 0 3 0],[(5,[cL 11 r1.1.Bs zA.row,cL 4 (r1.1.Ls ++ [(⟨r9.1,r10.1,(wI (r11.1 - 1)),r12.1⟩ : Link)]) Link.row,cL 7 r1.1.Said Say.row]),(0,(fR (Src.row r12.2))),(4,[cL 11 ([] : List zA) zA.row,cL 4 ([] : List Link) Link.row,cL 7 ([] : List Say) Say.row])]⟩ (fun cx=>?_) ?_
   ·exact mA zAc [(0,[]),(1,[13,15]),(2,[]),(4,[]),(6,[]),(9,[])] 10 [⟨[13,15],50,32,33⟩] fun cx=>mC zAc 3<|vL [.lend,.rd] (zL n r3.2 3 r9 er9)<|fA<|mC zAc 5<|vL [.lend,.rd] (zL n r9.2 3 r10 er10)<|fA<|mC zAc 7<|vL [.lend,.rd] (zL n r10.2 7 r11 er11)<|fA<|mA zAc [(8,[])] 6 [⟨[13,15],50,32,33⟩] fun cx=>mC zAc 10<|vL [.lend,.rd] (zL n r11.2 7 r12 er12)<|fA<|mC zAc 11<|lA 1<|fA<|mC zAc 12<|lA 1<|fA<|mC zAc 13<|LAt.appMU tOk (t := 50) (ty := 50) (e := 78) (x := (.tmp 33)) (y := (.tmp 44)) (d := 45) (g := none) (tI 78) Link.row r1.1.Ls [(⟨r9.1,r10.1,(wI (r11.1 - 1)),r12.1⟩ : Link)] kr kr kr kr kr kr kr kr kr kr hg13<|fA<|mA zAc [(14,[])] 1 [⟨[13,15],50,32,33⟩] fun cx=>mC zAc 15<|lA 1<|fA<|mE zAc [5,4,0] [5,0,4]
   exact gA 2 17 17<|te<|fY [(true,[cL 11 r1.1.Bs zA.row,cL 4 (r1.1.Ls ++ [(⟨r9.1,r10.1,(wI (r11.1 - 1)),r12.1⟩ : Link)]) Link.row,cL 7 r1.1.Said Say.row])] [(0,(fR (Src.row r12.2)))] H
  refine tA h2<|bE H fun r14 er14 H=> bE H fun v15 ev15 H=> Tr.draw mixed 7 kr ⟨81,1,[sA 5 5 3 0,sA 4 4 3 0,sA 0 0 3 0],[(5,[cL 11 (r1.1.Bs.set (r2.1.toNat) r14.1) zA.row,cL 4 r1.1.Ls Link.row,cL 7 r1.1.Said Say.row]),(0,(fR (Src.row r14.2))),(4,[cL 11 ([] : List zA) zA.row,cL 4 ([] : List Link) Link.row,cL 7 ([] : List Say) Say.row])]⟩ (fun cx=>?_) ?_
  ·refine aA [(0,[]),(1,[6]),(2,[]),(3,[])] 3 [⟨[6],49,24,25⟩] fun cx=>bA 4<|vL [.lend] (zMW n r3.2 r14 er14)<|fA<|aO tOk 5 49 0 25 26 29 none ⟨(.box 5),[(0,0)],0,true,11,(r1.1.Bs.map zA.row)⟩ r2.1 (r2.1.toNat) (zA.row v15) _ kr kr kr kr kr kr rfl kr (YH ev15) rfl rfl (fun cx=>?_)
   exact bA 6<|LAt.storeB tOk (t := 31) (ty := 0) (ad := (.tmp 29)) (x := (.tmp 28)) (g := none) (tI 31) true (zA.row r14.1) 5 0 (r2.1.toNat) 11 0 11 r1.1.Bs zA.row v15 r14.1 kr kr kr kr kr kr kr kr (zN ev15).2 kr kr kr kr<|fA<|eE [5,4,0] [5,0,4]
  exact gA 2 17 17<|te<|fY [(true,[cL 11 (r1.1.Bs.set (r2.1.toNat) r14.1) zA.row,cL 4 r1.1.Ls Link.row,cL 7 r1.1.Said Say.row])] [(0,(fR (Src.row r14.2)))] H
 exact tA h1<|gA 2 17 17<|te<|fY [(true,(Net.row r1.1))] [(0,(fR (Src.row r1.2)))] H
def Jl (n : Nat) (x0 : (List Int)) : Option (Net) :=
  ((Y3 n x0).bind fun r1 => ((zAK n x0 10).bind fun r2 => ((JL n r1 r2).bind fun r3 => (some r3.1))))
theorem zKU (n : Nat) (x0 : (List Int)) (r : Net) (H : Jl n x0 = some r) : zJ Tryz.prog 40 [.val false [.sl false 1 (CV.frzEs (x0.map zd))]] [.val true (Net.row r)] [] := by
 refine cW Tryz.func40 (fun g d => sl [g 0,g 1,g 2] .ret) [.cell 2 53] fun cx=>?_
 unfold Jl at H
 exact gA 1 5 4<|rA 1<|bE H fun r1 er1 H=> vA [.rd] (zEq n x0 r1 er1)<|uA 1 13 36<|rA 2<|bE H fun r2 er2 H=> vA [.rd,.rd] (zIS n x0 10 r2 er2)<|bE H fun r3 er3 H=> vL [.lend,.rd] (zFy n r1 r2 r3 er3)<|uA 1 4 4<|te (fJ [(true,(Net.row r3.1))] H)
def JF (n : Nat) (x0 : (List Int)) : Option (Net × Int × Int) :=
  ((Y3 n x0).bind fun r1 => ((JL n r1 2).bind fun r2 => ((zY n r2.2 [0,1,2,3,(-1)]).bind fun r3 => ((zF n r3.2 4).bind fun r4 => (some (r2.1,r3.1,r4.1))))))
theorem zJZ (n : Nat) (x0 : (List Int)) (r : Net × Int × Int) (H : JF n x0 = some r) : zJ Tryz.prog 41 [.val false [.sl false 1 (CV.frzEs (x0.map zd))]] [.val true (Net.row r.1),.val false [.lit (.int .i64 r.2.1)],.val false [.lit (.int .i64 r.2.2)]] [] := by
 refine cW Tryz.func41 (fun g d => sl [g 0,g 1,g 2] .ret) [.cell 2 53,.tmp 3,.tmp 4] fun cx=>?_
 unfold JF at H
 exact gA 3 5 4<|rA 1<|bE H fun r1 er1 H=> vA [.rd] (zEq n x0 r1 er1)<|uA 1 36 132<|rA 1<|bE H fun r2 er2 H=> vL [.lend,.rd] (zFy n r1 2 r2 er2)<|lA 2<|bE H fun r3 er3 H=> vL [.lend,.rd] (zi n r2.2 [0,1,2,3,(-1)] r3 er3)<|lA 1<|bE H fun r4 er4 H=> vL [.lend,.rd] (zL n r3.2 4 r4 er4)<|uA 3 28 4<|te (fJ [(true,(Net.row r2.1)),(false,[cI r3.1]),(false,[cI r4.1])] H)
def zBg (n : Nat) : Option (Int × Int × Bool) :=
  (some ((-1),(-1),false))
def Qu (n : Nat) (k : (Int → Option ((Unit) ⊕ (Int × Int × Bool)))) (v3 : Link) (x1 : Int) (x2 : Int) (y1 : Int) : Option ((Unit) ⊕ (Int × Int × Bool)) :=
  (bif (v3.B == x1) then (bif (v3.Q == x2) then (some (Sum.inr (v3.A,v3.P,true))) else (k (IntKind.wrap .i64 (y1 + 1)))) else (k (IntKind.wrap .i64 (y1 + 1))))
def qn (n : Nat) : Nat → Net → Int → Int → Int → Option ((Unit) ⊕ (Int × Int × Bool))
  | 0,_,_,_,_ => none
  | mo2 + 1,x0,x1,x2,y1 => (bif (decide (y1 < (x0.Ls.length : Int))) then ((idx x0.Ls y1).bind fun v3 => (bif (v3.A == x1) then (bif (v3.P == x2) then (some (Sum.inr (v3.B,v3.Q,true))) else (Qu n (fun v => qn n mo2 x0 x1 x2 v) v3 x1 x2 y1)) else (Qu n (fun v => qn n mo2 x0 x1 x2 v) v3 x1 x2 y1))) else (some (Sum.inl ())))
def Q8 (n : Nat) (x0 : Net) (x1 : Int) (x2 : Int) : Option (Int × Int × Bool) :=
  ((qn n n x0 x1 x2 0).bind fun o => match o with | .inl _ => (zBg n) | .inr r => some r)
theorem zFr (n : Nat) (x0 : Net) (x1 : Int) (x2 : Int) (r : Int × Int × Bool) (H : Q8 n x0 x1 x2 = some r) : zJ Tryz.prog 42 [.val true (fR (Net.row x0)),.val false [.lit (.int .i64 x1)],.val false [.lit (.int .i64 x2)]] [.val false [.lit (.int .i64 r.1)],.val false [.lit (.int .i64 r.2.1)],.val false [.lit (.bool r.2.2)]] [] := by
 refine cW Tryz.func42 (fun g d => sl [g 0,sl [g 1] (.block 0 (.loop (sl [g 2,cn 15 .skip (.exit 0),.block 1 (sl [g 3,sl [g 4] (cn 27 (sl [d 5] .ret) .skip),g 6] (cn 41 (sl [d 7] .ret) .skip))] (g 8)))),g 9] .ret) [.tmp 6,.tmp 7,.tmp 8] fun cx=>?_
 unfold Q8 at H
 refine gA 4 14 8<|tS<|rA 2<|kF x0.Ls Link.row<|uA 1 28678 0 ?_
 obtain ⟨o2,eo2,Ho2⟩ := bs H
 clear H
 refine Tr.mid (ι := Unit) (fun v => ⟨47,0,[],[]⟩) (fun v => zBg n = some r) ?_ ?_
 ·refine tB<|Tr.loop (ι := Nat × (Int)) (fun v => ⟨47,0,[sI 14 v.2,sI 13 (x0.Ls.length : Int),sC 12 (cF 4 x0.Ls Link.row),sI 1 x1,sI 2 x2],[]⟩) (fun v => qn n v.1 x0 x1 x2 v.2 = some o2) (fun v => v.1) (n,0) eo2 (St.sub_of [14,13,12,1,2] [] kr) ?_
  rintro ⟨mo2,y1⟩ H
  have H : qn n mo2 x0 x1 x2 y1 = some o2 := H
  obtain _ | mo2 := mo2
  ·exact nN H
  rw [qn] at H
  refine gA 1 61446 0<|tS ?_
  obtain ⟨h1,H⟩ | ⟨h1,H⟩ := bC H
  ·refine nA h1<|Tr.exit<|aJ ?_
   obtain rfl := si H
   have H := Ho2
   dsimp only at H
   exact jA () H [] []
  refine tA h1<|tK<|tS<|tB<|tR<|bE H fun v3 ev3 H=> iA Link.row ev3<|uA 3 29702 1024<|tS<|Tr.mid (ι := Unit) (fun v => ⟨47,0,[sA 10 10 4 0,sI 14 y1,sI 13 (x0.Ls.length : Int),sC 12 (cF 4 x0.Ls Link.row),sI 1 x1,sI 2 x2],[(10,(Link.row v3))]⟩) (fun v => Qu n (fun v => qn n mo2 x0 x1 x2 v) v3 x1 x2 y1 = some o2) ?_ ?_
  ·refine rA 5 ?_
   obtain ⟨h4,H⟩ | ⟨h4,H⟩ := bC H
   ·exact qL 4224006 1024 [22] h4<|uA 5 134247430 1024<|nB_<|tK<|jA () H [10,14,13,12,1,2] [10]
   refine qL 4224006 1024 [22] h4<|uA 5 134247430 1024 ?_
   obtain ⟨h5,H⟩ | ⟨h5,H⟩ := bC H
   ·exact nA h5<|tK<|jA () H [10,14,13,12,1,2] [10]
   refine tA h5<|Tr.draws mixed 7 kr ⟨47,0,[sB 8 true,sI 7 v3.Q,sI 6 v3.B],[]⟩ (fun cx=>?_) ?_
   ·exact aA [(0,[]),(1,[]),(2,[]),(3,[]),(4,[]),(5,[]),(6,[])] 0 [⟨[],3,30,31⟩,⟨[],3,28,29⟩] fun cx=>eE [8,7,6] []
   refine te ?_
   obtain rfl := si H
   have H := Ho2
   dsimp only at H
   exact fJ [(false,[cI v3.B]),(false,[cI v3.Q]),(false,[cB true])] H
  rintro _ H
  have H : (Qu n (fun v => qn n mo2 x0 x1 x2 v) v3 x1 x2 y1) = some o2 := H
  unfold Qu at H
  refine rA 5 ?_
  obtain ⟨h2,H⟩ | ⟨h2,H⟩ := bC H
  ·exact qL 68719506438 1024 [36] h2<|uA 5 2199023285254 1024<|nB_<|tK<|eA 2 28678 0<|jB mo2 (wI (y1 + 1)) H [14,13,12,1,2] []
  refine qL 68719506438 1024 [36] h2<|uA 5 2199023285254 1024 ?_
  obtain ⟨h3,H⟩ | ⟨h3,H⟩ := bC H
  ·exact nA h3<|tK<|eA 2 28678 0<|jB mo2 (wI (y1 + 1)) H [14,13,12,1,2] []
  refine tA h3<|Tr.draws mixed 7 kr ⟨47,0,[sB 8 true,sI 7 v3.P,sI 6 v3.A],[]⟩ (fun cx=>?_) ?_
  ·exact aA [(0,[]),(1,[]),(2,[]),(3,[]),(4,[]),(5,[]),(6,[])] 0 [⟨[],3,44,45⟩,⟨[],3,42,43⟩] fun cx=>eE [8,7,6] []
  refine te ?_
  obtain rfl := si H
  have H := Ho2
  dsimp only at H
  exact fJ [(false,[cI v3.A]),(false,[cI v3.P]),(false,[cB true])] H
 rintro _ H
 have H : (zBg n) = some r := H
 unfold zBg at H
 exact gA 3 448 0<|te (fJ [(false,[cI (-1)]),(false,[cI (-1)]),(false,[cB false])] H)
def zBo (n : Nat) : Option (Int × Int × Bool) :=
  (some ((-1),(-1),false))
def YW (n : Nat) (k : (Int → Option ((Unit) ⊕ (Int × Int × Bool)))) (v3 : Link) (x1 : Int) (x2 : Int) (y1 : Int) : Option ((Unit) ⊕ (Int × Int × Bool)) :=
  (bif (v3.B == x1) then (bif (v3.Q == x2) then (some (Sum.inr (v3.A,v3.P,true))) else (k (IntKind.wrap .i64 (y1 + 1)))) else (k (IntKind.wrap .i64 (y1 + 1))))
def q9 (n : Nat) : Nat → Net → Int → Int → Int → Option ((Unit) ⊕ (Int × Int × Bool))
  | 0,_,_,_,_ => none
  | mo2 + 1,x0,x1,x2,y1 => (bif (decide (y1 < (x0.Ls.length : Int))) then ((idx x0.Ls y1).bind fun v3 => (bif (v3.A == x1) then (bif (v3.P == x2) then (some (Sum.inr (v3.B,v3.Q,true))) else (YW n (fun v => q9 n mo2 x0 x1 x2 v) v3 x1 x2 y1)) else (YW n (fun v => q9 n mo2 x0 x1 x2 v) v3 x1 x2 y1))) else (some (Sum.inl ())))
def zBV (n : Nat) (x0 : Net) (x1 : Int) (x2 : Int) : Option (Int × Int × Bool) :=
  ((q9 n n x0 x1 x2 0).bind fun o => match o with | .inl _ => (zBo n) | .inr r => some r)
theorem zMS (n : Nat) (x0 : Net) (x1 : Int) (x2 : Int) (r : Int × Int × Bool) (H : zBV n x0 x1 x2 = some r) : zJ Tryz.prog 43 [.val true (fR (Net.row x0)),.val false [.lit (.int .i64 x1)],.val false [.lit (.int .i64 x2)]] [.val false [.lit (.int .i64 r.1)],.val false [.lit (.int .i64 r.2.1)],.val false [.lit (.bool r.2.2)]] [] := by
 refine cW Tryz.func43 (fun g d => sl [g 0,sl [g 1] (.block 0 (.loop (sl [sl [g 2] (cn 15 .skip (.exit 0)),.block 1 (sl [g 4,sl [g 5] (cn 32 (sl [d 6] .ret) .skip),g 7] (cn 46 (sl [d 8] .ret) .skip))] (g 3)))),g 9] .ret) [.tmp 6,.tmp 7,.tmp 8] fun cx=>?_
 unfold zBV at H
 refine gA 4 14 8<|tS<|gA 1 526 8 ?_
 obtain ⟨o2,eo2,Ho2⟩ := bs H
 clear H
 refine Tr.mid (ι := Unit) (fun v => ⟨51,0,[],[]⟩) (fun v => zBo n = some r) ?_ ?_
 ·refine tB<|Tr.loop (ι := Nat × (Int)) (fun v => ⟨51,0,[sI 9 v.2,sA 3 3 3 0,sI 1 x1,sI 2 x2],[(3,(fR (Net.row x0)))]⟩) (fun v => q9 n v.1 x0 x1 x2 v.2 = some o2) (fun v => v.1) (n,0) eo2 (St.sub_of [9,3,1,2] [3] kr) ?_
  rintro ⟨mo2,y1⟩ H
  have H : q9 n mo2 x0 x1 x2 y1 = some o2 := H
  obtain _ | mo2 := mo2
  ·exact nN H
  rw [q9] at H
  refine tS<|rA 3<|kF x0.Ls Link.row<|uA 1 33294 8 ?_
  obtain ⟨h1,H⟩ | ⟨h1,H⟩ := bC H
  ·refine nA h1<|Tr.exit<|aJ ?_
   obtain rfl := si H
   have H := Ho2
   dsimp only at H
   exact jA () H [] []
  refine tA h1<|tK<|tS<|tB<|rA 3<|bE H fun v3 ev3 H=> iA Link.row ev3<|uA 3 1550 1032<|tS<|Tr.mid (ι := Unit) (fun v => ⟨51,0,[sA 10 10 4 0,sI 9 y1,sA 3 3 3 0,sI 1 x1,sI 2 x2],[(10,(Link.row v3)),(3,(fR (Net.row x0)))]⟩) (fun v => YW n (fun v => q9 n mo2 x0 x1 x2 v) v3 x1 x2 y1 = some o2) ?_ ?_
  ·refine rA 5 ?_
   obtain ⟨h4,H⟩ | ⟨h4,H⟩ := bC H
   ·exact qL 134219278 1032 [27] h4<|uA 5 4294968846 1032<|nB_<|tK<|jA () H [10,9,3,1,2] [10,3]
   refine qL 134219278 1032 [27] h4<|uA 5 4294968846 1032 ?_
   obtain ⟨h5,H⟩ | ⟨h5,H⟩ := bC H
   ·exact nA h5<|tK<|jA () H [10,9,3,1,2] [10,3]
   refine tA h5<|Tr.draws mixed 7 kr ⟨51,0,[sB 8 true,sI 7 v3.Q,sI 6 v3.B],[]⟩ (fun cx=>?_) ?_
   ·exact aA [(0,[]),(1,[]),(2,[]),(3,[]),(4,[]),(5,[]),(6,[])] 0 [⟨[],3,35,36⟩,⟨[],3,33,34⟩] fun cx=>eE [8,7,6] []
   refine te ?_
   obtain rfl := si H
   have H := Ho2
   dsimp only at H
   exact fJ [(false,[cI v3.B]),(false,[cI v3.Q]),(false,[cB true])] H
  rintro _ H
  have H : (YW n (fun v => q9 n mo2 x0 x1 x2 v) v3 x1 x2 y1) = some o2 := H
  unfold YW at H
  refine rA 5 ?_
  obtain ⟨h2,H⟩ | ⟨h2,H⟩ := bC H
  ·exact qL 2199023257102 1032 [41] h2<|uA 5 70368744179214 1032<|nB_<|tK<|eA 3 526 8<|jB mo2 (wI (y1 + 1)) H [9,3,1,2] [3]
  refine qL 2199023257102 1032 [41] h2<|uA 5 70368744179214 1032 ?_
  obtain ⟨h3,H⟩ | ⟨h3,H⟩ := bC H
  ·exact nA h3<|tK<|eA 3 526 8<|jB mo2 (wI (y1 + 1)) H [9,3,1,2] [3]
  refine tA h3<|Tr.draws mixed 7 kr ⟨51,0,[sB 8 true,sI 7 v3.P,sI 6 v3.A],[]⟩ (fun cx=>?_) ?_
  ·exact aA [(0,[]),(1,[]),(2,[]),(3,[]),(4,[]),(5,[]),(6,[])] 0 [⟨[],3,49,50⟩,⟨[],3,47,48⟩] fun cx=>eE [8,7,6] []
  refine te ?_
  obtain rfl := si H
  have H := Ho2
  dsimp only at H
  exact fJ [(false,[cI v3.A]),(false,[cI v3.P]),(false,[cB true])] H
 rintro _ H
 have H : (zBo n) = some r := H
 unfold zBo at H
 exact gA 3 448 0<|te (fJ [(false,[cI (-1)]),(false,[cI (-1)]),(false,[cB false])] H)
def JG (n : Nat) (x0 : (List Int)) : Option (Net × Int) :=
  ((Y3 n x0).bind fun r1 => ((zAK n x0 8).bind fun r2 => ((JL n r1 r2).bind fun r3 => ((zY n r3.2 [0,1,2,3,(-1),9]).bind fun r4 => (some (r3.1,r4.1))))))
theorem zJa (n : Nat) (x0 : (List Int)) (r : Net × Int) (H : JG n x0 = some r) : zJ Tryz.prog 44 [.val false [.sl false 1 (CV.frzEs (x0.map zd))]] [.val true (Net.row r.1),.val false [.lit (.int .i64 r.2)]] [] := by
 refine cW Tryz.func44 (fun g d => sl [g 0,g 1,g 2] .ret) [.cell 2 53,.tmp 3] fun cx=>?_
 unfold JG at H
 exact gA 2 5 4<|rA 1<|bE H fun r1 er1 H=> vA [.rd] (zEq n x0 r1 er1)<|uA 1 21 68<|rA 2<|bE H fun r2 er2 H=> vA [.rd,.rd] (zIS n x0 8 r2 er2)<|bE H fun r3 er3 H=> vL [.lend,.rd] (zFy n r1 r2 r3 er3)<|lA 2<|bE H fun r4 er4 H=> vL [.lend,.rd] (zi n r3.2 [0,1,2,3,(-1),9] r4 er4)<|uA 2 12 4<|te (fJ [(true,(Net.row r3.1)),(false,[cI r4.1])] H)
def zAW (n : Nat) : Option (Bool) :=
  (some true)
def Zj (n : Nat) : Nat → (List zC) → (List zC) → Int → Option ((Unit) ⊕ (Bool))
  | 0,_,_,_ => none
  | mo2 + 1,x0,x1,y1 => (bif (decide (y1 < (x0.length : Int))) then ((idx x0 y1).bind fun v3 => ((idx x1 y1).bind fun v4 => (bif (!((v3.Id == v4.Id) && ((v3.Members == v4.Members) && ((v3.Bare == v4.Bare) && true)))) then (some (Sum.inr false)) else (Zj n mo2 x0 x1 (IntKind.wrap .i64 (y1 + 1)))))) else (some (Sum.inl ())))
def zAB (n : Nat) (x0 : (List zC)) (x1 : (List zC)) : Option (Bool) :=
  (bif ((x0.length : Int) != (x1.length : Int)) then (some false) else ((Zj n n x0 x1 0).bind fun o => match o with | .inl _ => (zAW n) | .inr r => some r))
theorem zLA (n : Nat) (x0 : (List zC)) (x1 : (List zC)) (r : Bool) (H : zAB n x0 x1 = some r) : zJ Tryz.prog 84 [.val false [.sl false 3 (CV.frzEs (x0.map zC.row))],.val false [.sl false 3 (CV.frzEs (x1.map zC.row))]] [.val false [.lit (.bool r)]] [] := by
 refine cW Tryz.func84 (fun g d => sl [g 0,sl [g 1] (cn 10 (sl [g 2] .ret) .skip),sl [g 3] (.block 0 (.loop (sl [g 4,cn 14 .skip (.exit 0),.block 1 (sl [g 5,d 6] (cn 24 (sl [g 7] .ret) .skip))] (g 8)))),g 9] .ret) [.tmp 4] fun cx=>?_
 unfold zAB at H
 refine gA 1 3 0<|tS<|rA 1<|kF x0 zC.row<|lA 1<|kF x1 zC.row<|uA 1 1027 0 ?_
 obtain ⟨h1,H⟩ | ⟨h1,H⟩ := bC H
 ·refine nA h1<|tK<|tS<|rA 1<|kF x0 zC.row<|uA 1 12291 0 ?_
  obtain ⟨o2,eo2,Ho2⟩ := bs H
  clear H
  refine Tr.mid (ι := Unit) (fun v => ⟨26,0,[],[]⟩) (fun v => zAW n = some r) ?_ ?_
  ·refine tB<|Tr.loop (ι := Nat × (Int)) (fun v => ⟨26,0,[sI 13 v.2,sI 12 (x0.length : Int),sC 0 (cF 3 x0 zC.row),sC 1 (cF 3 x1 zC.row)],[]⟩) (fun v => Zj n v.1 x0 x1 v.2 = some o2) (fun v => v.1) (n,0) eo2 (St.sub_of [13,12,0,1] [] kr) ?_
   rintro ⟨mo2,y1⟩ H
   have H : Zj n mo2 x0 x1 y1 = some o2 := H
   obtain _ | mo2 := mo2
   ·exact nN H
   rw [Zj] at H
   refine gA 1 28675 0<|tS ?_
   obtain ⟨h2,H⟩ | ⟨h2,H⟩ := bC H
   ·refine nA h2<|Tr.exit<|aJ ?_
    obtain rfl := si H
    have H := Ho2
    dsimp only at H
    exact jA () H [] []
   refine tA h2<|tK<|tS<|tB<|gA 2 12323 0<|bE H fun v3 ev3 H=> bE H fun v4 ev4 H=> Tr.draws mixed 9 kr ⟨26,0,[sB 24 (!((v3.Id == v4.Id) && ((v3.Members == v4.Members) && ((v3.Bare == v4.Bare) && true)))),sI 13 y1,sI 12 (x0.length : Int),sC 0 (cF 3 x0 zC.row),sC 1 (cF 3 x1 zC.row)],[]⟩ (fun cx=>?_) ?_
   ·refine aA [(0,[]),(1,[])] 7 [] fun cx=>aI tOk 2 26 0 16 17 18 none ⟨(.slot 16),[],0,false,3,(CV.frzEs (x0.map zC.row))⟩ y1 (zC.row v3) _ kr kr kr kr kr kr rfl (Qt ev3) rfl (fun cx=>?_)
    refine aA [(3,[]),(4,[]),(5,[])] 3 [] fun cx=>aI tOk 6 26 0 20 21 22 none ⟨(.slot 20),[],0,false,3,(CV.frzEs (x1.map zC.row))⟩ y1 (zC.row v4) _ kr kr kr kr kr kr rfl (Qt ev4) rfl (fun cx=>?_)
    exact aA [(7,[])] 1 [] fun cx=>bA 8<|LAt.eqSG true (t := 113) (ty := 113) (ty' := 4) (x := (.tmp 19)) (y := (.tmp 23)) (d := 24) (g := none) ((v3.Id == v4.Id) && ((v3.Members == v4.Members) && ((v3.Bare == v4.Bare) && true))) _ kr kr kr kr rfl<|fA<|eE [24,13,12,0,1] []
   obtain ⟨h3,H⟩ | ⟨h3,H⟩ := bC H
   ·exact qT [24] h3<|nB_<|tK<|eA 2 12291 0<|jB mo2 (wI (y1 + 1)) H [13,12,0,1] []
   refine qT [24] h3<|tB_<|gA 1 16 0<|te ?_
   obtain rfl := si H
   have H := Ho2
   dsimp only at H
   exact fF H
  rintro _ H
  have H : (zAW n) = some r := H
  unfold zAW at H
  exact gA 1 16 0<|te (fT H)
 exact tA h1<|gA 1 16 0<|te (fF H)
def zA5 (n : Nat) : Option (Bool) :=
  (some true)
def Zz (n : Nat) : Nat → (List Int) → (List Int) → Int → Option ((Unit) ⊕ (Bool))
  | 0,_,_,_ => none
  | mo2 + 1,x0,x1,y1 => (bif (decide (y1 < (x0.length : Int))) then ((idx x0 y1).bind fun v3 => ((idx x1 y1).bind fun v4 => (bif (v3 != v4) then (some (Sum.inr false)) else (Zz n mo2 x0 x1 (IntKind.wrap .i64 (y1 + 1)))))) else (some (Sum.inl ())))
def zAi (n : Nat) (x0 : (List Int)) (x1 : (List Int)) : Option (Bool) :=
  (bif ((x0.length : Int) != (x1.length : Int)) then (some false) else ((Zz n n x0 x1 0).bind fun o => match o with | .inl _ => (zA5 n) | .inr r => some r))
theorem zLa (n : Nat) (x0 : (List Int)) (x1 : (List Int)) (r : Bool) (H : zAi n x0 x1 = some r) : zJ Tryz.prog 85 [.val false [.sl false 1 (CV.frzEs (x0.map intRow))],.val false [.sl false 1 (CV.frzEs (x1.map intRow))]] [.val false [.lit (.bool r)]] [] := by
 refine cW Tryz.func85 (fun g d => sl [g 0,sl [g 1] (cn 10 (sl [g 2] .ret) .skip),sl [g 3] (.block 0 (.loop (sl [g 4,cn 14 .skip (.exit 0),.block 1 (sl [g 5,d 6] (cn 24 (sl [g 7] .ret) .skip))] (g 8)))),g 9] .ret) [.tmp 4] fun cx=>?_
 unfold zAi at H
 refine gA 1 3 0<|tS<|rA 1<|kF x0 intRow<|lA 1<|kF x1 intRow<|uA 1 1027 0 ?_
 obtain ⟨h1,H⟩ | ⟨h1,H⟩ := bC H
 ·refine nA h1<|tK<|tS<|rA 1<|kF x0 intRow<|uA 1 12291 0 ?_
  obtain ⟨o2,eo2,Ho2⟩ := bs H
  clear H
  refine Tr.mid (ι := Unit) (fun v => ⟨26,0,[],[]⟩) (fun v => zA5 n = some r) ?_ ?_
  ·refine tB<|Tr.loop (ι := Nat × (Int)) (fun v => ⟨26,0,[sI 13 v.2,sI 12 (x0.length : Int),sC 0 (cF 1 x0 intRow),sC 1 (cF 1 x1 intRow)],[]⟩) (fun v => Zz n v.1 x0 x1 v.2 = some o2) (fun v => v.1) (n,0) eo2 (St.sub_of [13,12,0,1] [] kr) ?_
   rintro ⟨mo2,y1⟩ H
   have H : Zz n mo2 x0 x1 y1 = some o2 := H
   obtain _ | mo2 := mo2
   ·exact nN H
   rw [Zz] at H
   refine gA 1 28675 0<|tS ?_
   obtain ⟨h2,H⟩ | ⟨h2,H⟩ := bC H
   ·refine nA h2<|Tr.exit<|aJ ?_
    obtain rfl := si H
    have H := Ho2
    dsimp only at H
    exact jA () H [] []
   refine tA h2<|tK<|tS<|tB<|gA 2 12323 0<|bE H fun v3 ev3 H=> bE H fun v4 ev4 H=> Tr.draws mixed 9 kr ⟨26,0,[sB 24 (v3 != v4),sI 13 y1,sI 12 (x0.length : Int),sC 0 (cF 1 x0 intRow),sC 1 (cF 1 x1 intRow)],[]⟩ (fun cx=>?_) ?_
   ·refine aA [(0,[]),(1,[])] 7 [] fun cx=>aI tOk 2 27 0 16 17 18 none ⟨(.slot 16),[],0,false,1,(CV.frzEs (x0.map intRow))⟩ y1 [cI v3] _ kr kr kr kr kr kr rfl (Qt ev3) rfl (fun cx=>?_)
    refine aA [(3,[]),(4,[]),(5,[])] 3 [] fun cx=>aI tOk 6 27 0 20 21 22 none ⟨(.slot 20),[],0,false,1,(CV.frzEs (x1.map intRow))⟩ y1 [cI v4] _ kr kr kr kr kr kr rfl (Qt ev4) rfl (fun cx=>?_)
    exact aA [(7,[]),(8,[])] 0 [] fun cx=>eE [24,13,12,0,1] []
   obtain ⟨h3,H⟩ | ⟨h3,H⟩ := bC H
   ·exact qT [24] h3<|nB_<|tK<|eA 2 12291 0<|jB mo2 (wI (y1 + 1)) H [13,12,0,1] []
   refine qT [24] h3<|tB_<|gA 1 16 0<|te ?_
   obtain rfl := si H
   have H := Ho2
   dsimp only at H
   exact fF H
  rintro _ H
  have H : (zA5 n) = some r := H
  unfold zA5 at H
  exact gA 1 16 0<|te (fT H)
 exact tA h1<|gA 1 16 0<|te (fF H)
def Ye (n : Nat) (x0 : zA) (x1 : zA) : Option (Bool) :=
  (bif (x0.Tk == x1.Tk) then (bif (x0.Pa == x1.Pa) then (bif (x0.Wo == x1.Wo) then (bif (x0.Dr == x1.Dr) then (some (x0.Ve == x1.Ve)) else (some false)) else (some false)) else (some false)) else (some false))
def ZO (n : Nat) : Nat → zA → zA → Int → Option ((Unit) ⊕ (Bool))
  | 0,_,_,_ => none
  | mo5 + 1,x0,x1,y4 => (bif (decide (y4 < (x0.F.length : Int))) then ((idx x0.F y4).bind fun v6 => ((idx x1.F y4).bind fun v7 => (bif (!((v6.Tag == v7.Tag) && ((v6.Mac == v7.Mac) && ((v6.Port == v7.Port) && ((v6.Age == v7.Age) && ((v6.Sc == v7.Sc) && true)))))) then (some (Sum.inr false)) else (ZO n mo5 x0 x1 (IntKind.wrap .i64 (y4 + 1)))))) else (some (Sum.inl ())))
def Yd (n : Nat) (x0 : zA) (x1 : zA) : Option (Bool) :=
  ((ZO n n x0 x1 0).bind fun o => match o with | .inl _ => (Ye n x0 x1) | .inr r => some r)
def ZP (n : Nat) : Nat → zA → zA → Int → Option ((Unit) ⊕ (Bool))
  | 0,_,_,_ => none
  | mo8 + 1,x0,x1,y3 => (bif (decide (y3 < (x0.Ps.length : Int))) then ((idx x0.Ps y3).bind fun v9 => ((idx x1.Ps y3).bind fun v10 => (bif (!((v9.Up == v10.Up) && ((v9.Co == v10.Co) && ((v9.Has == v10.Has) && (((v9.Hd.Root == v10.Hd.Root) && ((v9.Hd.Co == v10.Hd.Co) && ((v9.Hd.Hops == v10.Hd.Hops) && ((v9.Hd.Bridge == v10.Hd.Bridge) && ((v9.Hd.Port == v10.Hd.Port) && true))))) && true))))) then (some (Sum.inr false)) else (ZP n mo8 x0 x1 (IntKind.wrap .i64 (y3 + 1)))))) else (some (Sum.inl ())))
def JE (n : Nat) (x0 : zA) (x1 : zA) : Option (Bool) :=
  (bif (x0.Id != x1.Id) then (some false) else (bif (!(x0.Name.toList == x1.Name.toList)) then (some false) else (bif ((x0.Ps.length : Int) != (x1.Ps.length : Int)) then (some false) else (bif ((x0.F.length : Int) != (x1.F.length : Int)) then (some false) else ((zAB n x0.V.Rows x1.V.Rows).bind fun r1 => (bif (!r1) then (some false) else ((zAi n x0.V.Pv x1.V.Pv).bind fun r2 => (bif (!r2) then (some false) else ((ZP n n x0 x1 0).bind fun o => match o with | .inl _ => (Yd n x0 x1) | .inr r => some r)))))))))
theorem zJG (n : Nat) (x0 : zA) (x1 : zA) (r : Bool) (H : JE n x0 x1 = some r) : zJ Tryz.prog 16 [.val true (fR (zA.row x0)),.val true (fR (zA.row x1))] [.val false [.lit (.bool r)]] [] := by
 refine cW Tryz.func16 (fun g d => sl [g 0,sl [g 1] (cn 56 (sl [g 2] .ret) .skip),sl [g 3] (.block 0 (.loop (sl [g 4,cn 61 .skip (.exit 0),.block 1 (sl [g 5,d 6] (cn 73 (sl [g 7] .ret) .skip))] (g 8)))),sl [g 9] (.block 2 (.loop (sl [g 10,cn 79 .skip (.exit 2),.block 3 (sl [g 11,d 12] (cn 91 (sl [g 13] .ret) .skip))] (g 14)))),g 15] .ret) [.tmp 4] fun cx=>?_
 unfold JE at H
 refine gA 3 12 12<|tS<|rA 6 ?_
 obtain ⟨h1,H⟩ | ⟨h1,H⟩ := bC H
 ·refine qL 4108 12 [12] h1<|lA 7 ?_
  obtain ⟨h2,H⟩ | ⟨h2,H⟩ := bC H
  ·refine qL 524300 12 [19] h2<|lA 2<|kF x0.Ps Pt.row<|lA 2<|kF x1.Ps Pt.row<|lA 3 ?_
   obtain ⟨h3,H⟩ | ⟨h3,H⟩ := bC H
   ·refine qL 268435468 12 [28] h3<|lA 2<|kF x0.F zB.row<|lA 2<|kF x1.F zB.row<|lA 3 ?_
    obtain ⟨h4,H⟩ | ⟨h4,H⟩ := bC H
    ·refine qL 137438953484 12 [37] h4<|lA 6<|bE H fun r1 er1 H=> vA [.rd,.rd] (zLA n x0.V.Rows x1.V.Rows r1 er1)<|lA 3 ?_
     obtain ⟨h5,H⟩ | ⟨h5,H⟩ := bC H
     ·refine qL 0x80000000000c 12 [47] h5<|lA 6<|bE H fun r2 er2 H=> vA [.rd,.rd] (zLa n x0.V.Pv x1.V.Pv r2 er2)<|uA 2 72057594037927948 12 ?_
      obtain ⟨h6,H⟩ | ⟨h6,H⟩ := bC H
      ·refine nA h6<|tK<|tS<|rA 2<|kF x0.Ps Pt.row<|uA 1 0x180000000000000c 12 ?_
       obtain ⟨o8,eo8,Ho8⟩ := bs H
       clear H
       refine Tr.mid (ι := Unit) (fun v => ⟨126,0,[sA 3 3 11 0,sA 2 2 11 0],[(3,(fR (zA.row x1))),(2,(fR (zA.row x0)))]⟩) (fun v => Yd n x0 x1 = some r) ?_ ?_
       ·refine tB<|Tr.loop (ι := Nat × (Int)) (fun v => ⟨126,0,[sI 60 v.2,sI 59 (x0.Ps.length : Int),sA 3 3 11 0,sA 2 2 11 0],[(3,(fR (zA.row x1))),(2,(fR (zA.row x0)))]⟩) (fun v => ZP n v.1 x0 x1 v.2 = some o8) (fun v => v.1) (n,0) eo8 (St.sub_of [60,59,3,2] [3,2] kr) ?_
        rintro ⟨mo8,y3⟩ H
        have H : ZP n mo8 x0 x1 y3 = some o8 := H
        obtain _ | mo8 := mo8
        ·exact nN H
        rw [ZP] at H
        refine gA 1 0x380000000000000c 12<|tS ?_
        obtain ⟨h13,H⟩ | ⟨h13,H⟩ := bC H
        ·refine nA h13<|Tr.exit<|aJ ?_
         obtain rfl := si H
         have H := Ho8
         dsimp only at H
         exact jA () H [3,2] [3,2]
        refine tA h13<|tK<|tS<|tB<|gA 2 0x180000000000002c 12<|bE H fun v9 ev9 H=> bE H fun v10 ev10 H=> Tr.draws mixed 11 kr ⟨126,0,[sB 73 (!((v9.Up == v10.Up) && ((v9.Co == v10.Co) && ((v9.Has == v10.Has) && (((v9.Hd.Root == v10.Hd.Root) && ((v9.Hd.Co == v10.Hd.Co) && ((v9.Hd.Hops == v10.Hd.Hops) && ((v9.Hd.Bridge == v10.Hd.Bridge) && ((v9.Hd.Port == v10.Hd.Port) && true))))) && true))))),sI 60 y3,sI 59 (x0.Ps.length : Int),sA 3 3 11 0,sA 2 2 11 0],[(3,(fR (zA.row x1))),(2,(fR (zA.row x0)))]⟩ (fun cx=>?_) ?_
        ·refine aA [(0,[]),(1,[10]),(2,[])] 8 [⟨[10],24,63,64⟩] fun cx=>aI tOk 3 24 0 64 65 66 none ⟨(.box 2),[(0,0)],2,false,8,(CV.frzEs (x0.Ps.map Pt.row))⟩ y3 (Pt.row v9) _ kr kr kr kr kr kr rfl (Qt ev9) rfl (fun cx=>?_)
         refine aA [(4,[]),(5,[]),(6,[10]),(7,[])] 3 [⟨[10],24,68,69⟩,⟨[10],24,63,64⟩] fun cx=>aI tOk 8 24 0 69 70 71 none ⟨(.box 3),[(0,0)],2,false,8,(CV.frzEs (x1.Ps.map Pt.row))⟩ y3 (Pt.row v10) _ kr kr kr kr kr kr rfl (Qt ev10) rfl (fun cx=>?_)
         exact aA [(9,[])] 1 [⟨[10],24,68,69⟩,⟨[10],24,63,64⟩] fun cx=>bA 10<|LAt.eqSG true (t := 100) (ty := 100) (ty' := 4) (x := (.tmp 67)) (y := (.tmp 72)) (d := 73) (g := none) ((v9.Up == v10.Up) && ((v9.Co == v10.Co) && ((v9.Has == v10.Has) && (((v9.Hd.Root == v10.Hd.Root) && ((v9.Hd.Co == v10.Hd.Co) && ((v9.Hd.Hops == v10.Hd.Hops) && ((v9.Hd.Bridge == v10.Hd.Bridge) && ((v9.Hd.Port == v10.Hd.Port) && true))))) && true)))) _ kr kr kr kr rfl<|fA<|eE [73,60,59,3,2] [3,2]
        obtain ⟨h14,H⟩ | ⟨h14,H⟩ := bC H
        ·exact qT [73] h14<|nB_<|tK<|eA 2 0x180000000000000c 12<|jB mo8 (wI (y3 + 1)) H [60,59,3,2] [3,2]
        refine qT [73] h14<|tB_<|gA 1 16 0<|te ?_
        obtain rfl := si H
        have H := Ho8
        dsimp only at H
        exact fF H
       rintro _ H
       have H : (Yd n x0 x1) = some r := H
       unfold Yd at H
       refine tS<|rA 2<|kF x0.F zB.row<|uA 1 0x6000000000000000000c 12 ?_
       obtain ⟨o5,eo5,Ho5⟩ := bs H
       clear H
       refine Tr.mid (ι := Unit) (fun v => ⟨126,0,[sA 3 3 11 0,sA 2 2 11 0],[(3,(fR (zA.row x1))),(2,(fR (zA.row x0)))]⟩) (fun v => Ye n x0 x1 = some r) ?_ ?_
       ·refine tB<|Tr.loop (ι := Nat × (Int)) (fun v => ⟨126,0,[sI 78 v.2,sI 77 (x0.F.length : Int),sA 3 3 11 0,sA 2 2 11 0],[(3,(fR (zA.row x1))),(2,(fR (zA.row x0)))]⟩) (fun v => ZO n v.1 x0 x1 v.2 = some o5) (fun v => v.1) (n,0) eo5 (St.sub_of [78,77,3,2] [3,2] kr) ?_
        rintro ⟨mo5,y4⟩ H
        have H : ZO n mo5 x0 x1 y4 = some o5 := H
        obtain _ | mo5 := mo5
        ·exact nN H
        rw [ZO] at H
        refine gA 1 0xe000000000000000000c 12<|tS ?_
        obtain ⟨h11,H⟩ | ⟨h11,H⟩ := bC H
        ·refine nA h11<|Tr.exit<|aJ ?_
         obtain rfl := si H
         have H := Ho5
         dsimp only at H
         exact jA () H [3,2] [3,2]
        refine tA h11<|tK<|tS<|tB<|gA 2 0x6000000000000000004c 12<|bE H fun v6 ev6 H=> bE H fun v7 ev7 H=> Tr.draws mixed 11 kr ⟨126,0,[sB 91 (!((v6.Tag == v7.Tag) && ((v6.Mac == v7.Mac) && ((v6.Port == v7.Port) && ((v6.Age == v7.Age) && ((v6.Sc == v7.Sc) && true)))))),sI 78 y4,sI 77 (x0.F.length : Int),sA 3 3 11 0,sA 2 2 11 0],[(3,(fR (zA.row x1))),(2,(fR (zA.row x0)))]⟩ (fun cx=>?_) ?_
        ·refine aA [(0,[]),(1,[10]),(2,[])] 8 [⟨[10],25,81,82⟩] fun cx=>aI tOk 3 25 0 82 83 84 none ⟨(.box 2),[(0,0)],3,false,5,(CV.frzEs (x0.F.map zB.row))⟩ y4 (zB.row v6) _ kr kr kr kr kr kr rfl (Qt ev6) rfl (fun cx=>?_)
         refine aA [(4,[]),(5,[]),(6,[10]),(7,[])] 3 [⟨[10],25,86,87⟩,⟨[10],25,81,82⟩] fun cx=>aI tOk 8 25 0 87 88 89 none ⟨(.box 3),[(0,0)],3,false,5,(CV.frzEs (x1.F.map zB.row))⟩ y4 (zB.row v7) _ kr kr kr kr kr kr rfl (Qt ev7) rfl (fun cx=>?_)
         exact aA [(9,[])] 1 [⟨[10],25,86,87⟩,⟨[10],25,81,82⟩] fun cx=>bA 10<|LAt.eqSG true (t := 103) (ty := 103) (ty' := 4) (x := (.tmp 85)) (y := (.tmp 90)) (d := 91) (g := none) ((v6.Tag == v7.Tag) && ((v6.Mac == v7.Mac) && ((v6.Port == v7.Port) && ((v6.Age == v7.Age) && ((v6.Sc == v7.Sc) && true))))) _ kr kr kr kr rfl<|fA<|eE [91,78,77,3,2] [3,2]
        obtain ⟨h12,H⟩ | ⟨h12,H⟩ := bC H
        ·exact qT [91] h12<|nB_<|tK<|eA 2 0x6000000000000000000c 12<|jB mo5 (wI (y4 + 1)) H [78,77,3,2] [3,2]
        refine qT [91] h12<|tB_<|gA 1 16 0<|te ?_
        obtain rfl := si H
        have H := Ho5
        dsimp only at H
        exact fF H
       rintro _ H
       have H : (Ye n x0 x1) = some r := H
       unfold Ye at H
       refine rA 6 ?_
       obtain ⟨h7,H⟩ | ⟨h7,H⟩ := bC H
       ·exact qL 0x400000000000000000000000c 12 [98] h7<|uA 28 16 0<|te (fF H)
       refine qL 0x400000000000000000000000c 12 [98] h7<|lA 7 ?_
       obtain ⟨h8,H⟩ | ⟨h8,H⟩ := bC H
       ·exact qL 0x20000000000000000000000000c 12 [105] h8<|uA 21 16 0<|te (fF H)
       refine qL 0x20000000000000000000000000c 12 [105] h8<|lA 7 ?_
       obtain ⟨h9,H⟩ | ⟨h9,H⟩ := bC H
       ·exact qL 0x1000000000000000000000000000c 12 [112] h9<|uA 14 16 0<|te (fF H)
       refine qL 0x1000000000000000000000000000c 12 [112] h9<|lA 7 ?_
       obtain ⟨h10,H⟩ | ⟨h10,H⟩ := bC H
       ·exact qL 0x80000000000000000000000000000c 12 [119] h10<|uA 7 16 0<|te (fF H)
       exact qL 0x80000000000000000000000000000c 12 [119] h10<|uA 7 16 0<|te (fJ [(false,[cB (x0.Ve == x1.Ve)])] H)
      exact tA h6<|gA 1 16 0<|te (fF H)
     exact qL 0x80000000000c 12 [47] h5<|uA 9 72057594037927948 12<|tB_<|gA 1 16 0<|te (fF H)
    exact qL 137438953484 12 [37] h4<|uA 19 72057594037927948 12<|tB_<|gA 1 16 0<|te (fF H)
   exact qL 268435468 12 [28] h3<|uA 28 72057594037927948 12<|tB_<|gA 1 16 0<|te (fF H)
  exact qL 524300 12 [19] h2<|uA 37 72057594037927948 12<|tB_<|gA 1 16 0<|te (fF H)
 exact qL 4108 12 [12] h1<|uA 44 72057594037927948 12<|tB_<|gA 1 16 0<|te (fF H)
def zA8 (n : Nat) : Option (Bool) :=
  (some true)
def Z3 (n : Nat) : Nat → Net → Net → Int → Option ((Unit) ⊕ (Bool))
  | 0,_,_,_ => none
  | mo4 + 1,x0,x1,y3 => (bif (decide (y3 < (x0.Said.length : Int))) then ((idx x0.Said y3).bind fun v5 => ((idx x1.Said y3).bind fun v6 => (bif (!((v5.Link == v6.Link) && ((v5.Back == v6.Back) && (((v5.V.Root == v6.V.Root) && ((v5.V.Co == v6.V.Co) && ((v5.V.Hops == v6.V.Hops) && ((v5.V.Bridge == v6.V.Bridge) && ((v5.V.Port == v6.V.Port) && true))))) && true)))) then (some (Sum.inr false)) else (Z3 n mo4 x0 x1 (IntKind.wrap .i64 (y3 + 1)))))) else (some (Sum.inl ())))
def Ji (n : Nat) (x0 : Net) (x1 : Net) : Option (Bool) :=
  ((Z3 n n x0 x1 0).bind fun o => match o with | .inl _ => (zA8 n) | .inr r => some r)
def Z4 (n : Nat) : Nat → Net → Net → Int → Option ((Unit) ⊕ (Bool))
  | 0,_,_,_ => none
  | mo7 + 1,x0,x1,y2 => (bif (decide (y2 < (x0.Ls.length : Int))) then ((idx x0.Ls y2).bind fun v8 => ((idx x1.Ls y2).bind fun v9 => (bif (!((v8.A == v9.A) && ((v8.P == v9.P) && ((v8.B == v9.B) && ((v8.Q == v9.Q) && true))))) then (some (Sum.inr false)) else (Z4 n mo7 x0 x1 (IntKind.wrap .i64 (y2 + 1)))))) else (some (Sum.inl ())))
def Jh (n : Nat) (x0 : Net) (x1 : Net) : Option (Bool) :=
  ((Z4 n n x0 x1 0).bind fun o => match o with | .inl _ => (Ji n x0 x1) | .inr r => some r)
def Z5 (n : Nat) : Nat → Net → Net → Int → Option ((Unit) ⊕ (Bool))
  | 0,_,_,_ => none
  | mo10 + 1,x0,x1,y1 => (bif (decide (y1 < (x0.Bs.length : Int))) then ((idx x0.Bs y1).bind fun v11 => ((idx x1.Bs y1).bind fun v12 => ((JE n v11 v12).bind fun r13 => (bif (!r13) then (some (Sum.inr false)) else (Z5 n mo10 x0 x1 (IntKind.wrap .i64 (y1 + 1))))))) else (some (Sum.inl ())))
def Zm (n : Nat) (x0 : Net) (x1 : Net) : Option (Bool) :=
  (bif ((x0.Bs.length : Int) != (x1.Bs.length : Int)) then (some false) else (bif ((x0.Ls.length : Int) != (x1.Ls.length : Int)) then (some false) else (bif ((x0.Said.length : Int) != (x1.Said.length : Int)) then (some false) else ((Z5 n n x0 x1 0).bind fun o => match o with | .inl _ => (Jh n x0 x1) | .inr r => some r))))
def zP3 : Tab := ⟨12,[0,1,0,6,8,0,32,0,192,256,528,1024],[0,1,0,6,8,0,32,0,192,256,528,1024],[0,1,0,7,15,0,32,0,224,480,1023,2047]⟩
theorem zFP : zg (rg Tryz.f45 6) zP3 = true := kr
theorem zAC (n : Nat) (x0 : Net) (x1 : Net) (r : Bool) (H : Zm n x0 x1 = some r) : zJ Tryz.prog 45 [.val true (fR (Net.row x0)),.val true (fR (Net.row x1))] [.val false [.lit (.bool r)]] [] := by
 refine cW Tryz.func45 (fun g d => sl [g 0,sl [g 1] (cn 32 (sl [g 2] .ret) .skip),sl [g 3] (.block 0 (.loop (sl [sl [g 4] (cn 37 .skip (.exit 0)),.block 1 (sl [d 6] (cn 51 (sl [g 7] .ret) .skip))] (g 5)))),sl [g 8] (.block 2 (.loop (sl [sl [g 9] (cn 56 .skip (.exit 2)),.block 3 (sl [d 11] (cn 69 (sl [g 12] .ret) .skip))] (g 10)))),sl [g 13] (.block 4 (.loop (sl [sl [g 14] (cn 74 .skip (.exit 4)),.block 5 (sl [d 16] (cn 87 (sl [g 17] .ret) .skip))] (g 15)))),g 18] .ret) [.tmp 4] fun cx=>?_
 unfold Zm at H
 refine gA 3 12 12<|tS<|rA 2<|kF x0.Bs zA.row<|lA 2<|kF x1.Bs zA.row<|lA 2 ?_
 obtain ⟨h1,H⟩ | ⟨h1,H⟩ := bC H
 ·refine qL 32780 12 [15] h1<|lA 2<|kF x0.Ls Link.row<|lA 2<|kF x1.Ls Link.row<|lA 3 ?_
  obtain ⟨h2,H⟩ | ⟨h2,H⟩ := bC H
  ·refine qL 16777228 12 [24] h2<|lA 2<|kF x0.Said Say.row<|lA 2<|kF x1.Said Say.row<|uA 2 4294967308 12 ?_
   obtain ⟨h3,H⟩ | ⟨h3,H⟩ := bC H
   ·refine nA h3<|tK<|tS<|gA 1 44 12 ?_
    obtain ⟨o10,eo10,Ho10⟩ := bs H
    clear H
    refine Tr.mid (ι := Unit) (fun v => ⟨88,0,[sA 3 3 3 0,sA 2 2 3 0],[(3,(fR (Net.row x1))),(2,(fR (Net.row x0)))]⟩) (fun v => Jh n x0 x1 = some r) ?_ ?_
    ·refine tB<|Tr.loop (ι := Nat × (Int)) (fun v => ⟨88,0,[sI 5 v.2,sA 3 3 3 0,sA 2 2 3 0],[(3,(fR (Net.row x1))),(2,(fR (Net.row x0)))]⟩) (fun v => Z5 n v.1 x0 x1 v.2 = some o10) (fun v => v.1) (n,0) eo10 (St.sub_of [5,3,2] [3,2] kr) ?_
     rintro ⟨mo10,y1⟩ H
     have H : Z5 n mo10 x0 x1 y1 = some o10 := H
     obtain _ | mo10 := mo10
     ·exact nN H
     rw [Z5] at H
     refine tS<|rA 3<|kF x0.Bs zA.row<|uA 1 137438953516 12 ?_
     obtain ⟨h8,H⟩ | ⟨h8,H⟩ := bC H
     ·refine nA h8<|Tr.exit<|aJ ?_
      obtain rfl := si H
      have H := Ho10
      dsimp only at H
      exact jA () H [3,2] [3,2]
     refine tA h8<|tK<|tS<|tB<|bE H fun v11 ev11 H=> bE H fun v12 ev12 H=> bE H fun r13 er13 H=> Tr.draws mixed 12 kr ⟨88,0,[sB 51 (!r13),sI 5 y1,sA 3 3 3 0,sA 2 2 3 0],[(3,(fR (Net.row x1))),(2,(fR (Net.row x0)))]⟩ (fun cx=>?_) ?_
     ·exact mA zFP [(0,[]),(1,[10]),(2,[])] 9 [⟨[10],49,40,41⟩] fun cx=>iN zFP 3 zA.row ev11 fun cx=>mA zFP [(4,[]),(5,[]),(6,[10]),(7,[])] 4 [⟨[10],49,45,46⟩,⟨[10],49,40,41⟩] fun cx=>iN zFP 8 zA.row ev12 fun cx=>mA zFP [(9,[])] 2 [⟨[10],49,45,46⟩,⟨[10],49,40,41⟩] fun cx=>mC zFP 10<|vA [.rd,.rd] (zJG n v11 v12 r13 er13)<|fA<|mA zFP [(11,[])] 0 [⟨[10],49,45,46⟩,⟨[10],49,40,41⟩] fun cx=>mE zFP [51,5,3,2] [3,2]
     obtain ⟨h9,H⟩ | ⟨h9,H⟩ := bC H
     ·exact qT [51] h9<|nB_<|tK<|eA 3 44 12<|jB mo10 (wI (y1 + 1)) H [5,3,2] [3,2]
     refine qT [51] h9<|tB_<|gA 1 16 0<|te ?_
     obtain rfl := si H
     have H := Ho10
     dsimp only at H
     exact fF H
    rintro _ H
    have H : (Jh n x0 x1) = some r := H
    unfold Jh at H
    refine tS<|gA 1 76 12 ?_
    obtain ⟨o7,eo7,Ho7⟩ := bs H
    clear H
    refine Tr.mid (ι := Unit) (fun v => ⟨88,0,[sA 3 3 3 0,sA 2 2 3 0],[(3,(fR (Net.row x1))),(2,(fR (Net.row x0)))]⟩) (fun v => Ji n x0 x1 = some r) ?_ ?_
    ·refine tB<|Tr.loop (ι := Nat × (Int)) (fun v => ⟨88,0,[sI 6 v.2,sA 3 3 3 0,sA 2 2 3 0],[(3,(fR (Net.row x1))),(2,(fR (Net.row x0)))]⟩) (fun v => Z4 n v.1 x0 x1 v.2 = some o7) (fun v => v.1) (n,0) eo7 (St.sub_of [6,3,2] [3,2] kr) ?_
     rintro ⟨mo7,y2⟩ H
     have H : Z4 n mo7 x0 x1 y2 = some o7 := H
     obtain _ | mo7 := mo7
     ·exact nN H
     rw [Z4] at H
     refine tS<|rA 3<|kF x0.Ls Link.row<|uA 1 72057594037928012 12 ?_
     obtain ⟨h6,H⟩ | ⟨h6,H⟩ := bC H
     ·refine nA h6<|Tr.exit<|aJ ?_
      obtain rfl := si H
      have H := Ho7
      dsimp only at H
      exact jA () H [3,2] [3,2]
     refine tA h6<|tK<|tS<|tB<|bE H fun v8 ev8 H=> bE H fun v9 ev9 H=> Tr.draws mixed 11 kr ⟨88,0,[sB 69 (!((v8.A == v9.A) && ((v8.P == v9.P) && ((v8.B == v9.B) && ((v8.Q == v9.Q) && true))))),sI 6 y2,sA 3 3 3 0,sA 2 2 3 0],[(3,(fR (Net.row x1))),(2,(fR (Net.row x0)))]⟩ (fun cx=>?_) ?_
     ·refine aA [(0,[]),(1,[10]),(2,[])] 8 [⟨[10],50,59,60⟩] fun cx=>aI tOk 3 50 0 60 61 62 none ⟨(.box 2),[(0,0)],1,false,4,(CV.frzEs (x0.Ls.map Link.row))⟩ y2 (Link.row v8) _ kr kr kr kr kr kr rfl (Qt ev8) rfl (fun cx=>?_)
      refine aA [(4,[]),(5,[]),(6,[10]),(7,[])] 3 [⟨[10],50,64,65⟩,⟨[10],50,59,60⟩] fun cx=>aI tOk 8 50 0 65 66 67 none ⟨(.box 3),[(0,0)],1,false,4,(CV.frzEs (x1.Ls.map Link.row))⟩ y2 (Link.row v9) _ kr kr kr kr kr kr rfl (Qt ev9) rfl (fun cx=>?_)
      exact aA [(9,[])] 1 [⟨[10],50,64,65⟩,⟨[10],50,59,60⟩] fun cx=>bA 10<|LAt.eqSG true (t := 78) (ty := 78) (ty' := 4) (x := (.tmp 63)) (y := (.tmp 68)) (d := 69) (g := none) ((v8.A == v9.A) && ((v8.P == v9.P) && ((v8.B == v9.B) && ((v8.Q == v9.Q) && true)))) _ kr kr kr kr rfl<|fA<|eE [69,6,3,2] [3,2]
     obtain ⟨h7,H⟩ | ⟨h7,H⟩ := bC H
     ·exact qT [69] h7<|nB_<|tK<|eA 3 76 12<|jB mo7 (wI (y2 + 1)) H [6,3,2] [3,2]
     refine qT [69] h7<|tB_<|gA 1 16 0<|te ?_
     obtain rfl := si H
     have H := Ho7
     dsimp only at H
     exact fF H
    rintro _ H
    have H : (Ji n x0 x1) = some r := H
    unfold Ji at H
    refine tS<|gA 1 140 12 ?_
    obtain ⟨o4,eo4,Ho4⟩ := bs H
    clear H
    refine Tr.mid (ι := Unit) (fun v => ⟨88,0,[],[]⟩) (fun v => zA8 n = some r) ?_ ?_
    ·refine tB<|Tr.loop (ι := Nat × (Int)) (fun v => ⟨88,0,[sI 7 v.2,sA 3 3 3 0,sA 2 2 3 0],[(3,(fR (Net.row x1))),(2,(fR (Net.row x0)))]⟩) (fun v => Z3 n v.1 x0 x1 v.2 = some o4) (fun v => v.1) (n,0) eo4 (St.sub_of [7,3,2] [3,2] kr) ?_
     rintro ⟨mo4,y3⟩ H
     have H : Z3 n mo4 x0 x1 y3 = some o4 := H
     obtain _ | mo4 := mo4
     ·exact nN H
     rw [Z3] at H
     refine tS<|rA 3<|kF x0.Said Say.row<|uA 1 0x400000000000000008c 12 ?_
     obtain ⟨h4,H⟩ | ⟨h4,H⟩ := bC H
     ·refine nA h4<|Tr.exit<|aJ ?_
      obtain rfl := si H
      have H := Ho4
      dsimp only at H
      exact jA () H [] []
     refine tA h4<|tK<|tS<|tB<|bE H fun v5 ev5 H=> bE H fun v6 ev6 H=> Tr.draws mixed 11 kr ⟨88,0,[sB 87 (!((v5.Link == v6.Link) && ((v5.Back == v6.Back) && (((v5.V.Root == v6.V.Root) && ((v5.V.Co == v6.V.Co) && ((v5.V.Hops == v6.V.Hops) && ((v5.V.Bridge == v6.V.Bridge) && ((v5.V.Port == v6.V.Port) && true))))) && true)))),sI 7 y3,sA 3 3 3 0,sA 2 2 3 0],[(3,(fR (Net.row x1))),(2,(fR (Net.row x0)))]⟩ (fun cx=>?_) ?_
     ·refine aA [(0,[]),(1,[10]),(2,[])] 8 [⟨[10],51,77,78⟩] fun cx=>aI tOk 3 51 0 78 79 80 none ⟨(.box 2),[(0,0)],2,false,7,(CV.frzEs (x0.Said.map Say.row))⟩ y3 (Say.row v5) _ kr kr kr kr kr kr rfl (Qt ev5) rfl (fun cx=>?_)
      refine aA [(4,[]),(5,[]),(6,[10]),(7,[])] 3 [⟨[10],51,82,83⟩,⟨[10],51,77,78⟩] fun cx=>aI tOk 8 51 0 83 84 85 none ⟨(.box 3),[(0,0)],2,false,7,(CV.frzEs (x1.Said.map Say.row))⟩ y3 (Say.row v6) _ kr kr kr kr kr kr rfl (Qt ev6) rfl (fun cx=>?_)
      exact aA [(9,[])] 1 [⟨[10],51,82,83⟩,⟨[10],51,77,78⟩] fun cx=>bA 10<|LAt.eqSG true (t := 127) (ty := 127) (ty' := 4) (x := (.tmp 81)) (y := (.tmp 86)) (d := 87) (g := none) ((v5.Link == v6.Link) && ((v5.Back == v6.Back) && (((v5.V.Root == v6.V.Root) && ((v5.V.Co == v6.V.Co) && ((v5.V.Hops == v6.V.Hops) && ((v5.V.Bridge == v6.V.Bridge) && ((v5.V.Port == v6.V.Port) && true))))) && true))) _ kr kr kr kr rfl<|fA<|eE [87,7,3,2] [3,2]
     obtain ⟨h5,H⟩ | ⟨h5,H⟩ := bC H
     ·exact qT [87] h5<|nB_<|tK<|eA 3 140 12<|jB mo4 (wI (y3 + 1)) H [7,3,2] [3,2]
     refine qT [87] h5<|tB_<|gA 1 16 0<|te ?_
     obtain rfl := si H
     have H := Ho4
     dsimp only at H
     exact fF H
    rintro _ H
    have H : (zA8 n) = some r := H
    unfold zA8 at H
    exact gA 1 16 0<|te (fT H)
   exact tA h3<|gA 1 16 0<|te (fF H)
  exact qL 16777228 12 [24] h2<|uA 8 4294967308 12<|tB_<|gA 1 16 0<|te (fF H)
 exact qL 32780 12 [15] h1<|uA 17 4294967308 12<|tB_<|gA 1 16 0<|te (fF H)
def ZF (n : Nat) (x0 : Net) (x1 : Int) : Option (Bool) :=
  ((qE n x1 0 (IntKind.wrap .i64 ((x0.Ls.length : Int) - 1))).bind fun r1 => (bif (!r1) then (some false) else ((idx x0.Ls x1).bind fun v2 => ((idx x0.Ls x1).bind fun v3 => ((QZ n x0 v2.A v3.P).bind fun r4 => ((idx x0.Ls x1).bind fun v5 => ((idx x0.Ls x1).bind fun v6 => ((QZ n x0 v5.B v6.Q).bind fun r7 => (bif r4.2 then (bif r7.2 then (bif r4.1.Up then (some r7.1.Up) else (some false)) else (some false)) else (some false))))))))))
def zP6 : Tab := ⟨20,[0,0,2,0,12,16,32,0,128,0,768,1024,2048,4161,8192,16384,16384,0,196607,524287],[0,0,2,0,12,16,32,0,128,0,768,1024,2048,4161,8192,16384,16384,0,163840,65536],[0,0,2,0,14,30,62,0,128,0,896,1920,3968,8191,16383,32767,32767,0,196607,524287]⟩
theorem Yn : zg (rg Tryz.f49 3) zP6 = true := kr
def zP7 : Tab := ⟨20,[0,0,2,0,12,16,32,0,128,0,768,1024,2048,4161,8192,16384,16384,0,196607,524287],[0,0,2,0,12,16,32,0,128,0,768,1024,2048,4161,8192,16384,16384,0,163840,65536],[0,0,2,0,14,30,62,0,128,0,896,1920,3968,8191,16383,32767,32767,0,196607,524287]⟩
theorem Yo : zg (rg Tryz.f49 4) zP7 = true := kr
theorem zIE (n : Nat) (x0 : Net) (x1 : Int) (r : Bool) (H : ZF n x0 x1 = some r) : zJ Tryz.prog 49 [.val true (fR (Net.row x0)),.val false [.lit (.int .i64 x1)]] [.val false [.lit (.bool r)]] [] := by
 refine cW Tryz.func49 (fun g d => sl [g 0,sl [g 1] (cn 15 (sl [g 2] .ret) .skip),d 3,d 4,g 5] .ret) [.tmp 4] fun cx=>?_
 unfold ZF at H
 refine gA 2 6 4<|tS<|rA 3<|kF x0.Ls Link.row<|lA 1<|bE H fun r1 er1 H=> vA [.rd,.rd,.rd] (qU n x1 0 (wI ((x0.Ls.length : Int) - 1)) r1 er1)<|uA 1 32774 4 ?_
 obtain ⟨h1,H⟩ | ⟨h1,H⟩ := bC H
 ·refine nA h1<|tK<|bE H fun v2 ev2 H=> bE H fun v3 ev3 H=> bE H fun r4 er4 H=> Tr.draws mixed 20 kr ⟨62,0,[sB 6 r4.2,sA 5 5 8 0,sA 2 2 3 0,sI 1 x1],[(5,(Pt.row r4.1)),(2,(fR (Net.row x0)))]⟩ (fun cx=>?_) ?_
  ·refine mA Yn [(0,[13,18]),(1,[]),(2,[13,18]),(3,[])] 16 [⟨[13,18],50,18,19⟩,⟨[13,18],53,2,17⟩] fun cx=>iN Yn 4 Link.row ev2 fun cx=>mA Yn [(5,[]),(6,[]),(7,[]),(8,[13,18]),(9,[])] 10 [⟨[13,18],50,24,25⟩,⟨[13,18],50,18,19⟩,⟨[13,18],53,2,17⟩] fun cx=>iN Yn 10 Link.row ev3 fun cx=>mA Yn [(11,[]),(12,[])] 7 [⟨[13,18],50,24,25⟩,⟨[13,18],50,18,19⟩,⟨[13,18],53,2,17⟩] fun cx=>mB2 tOk Yn 13 17 kr (And.intro kr ?_) (And.intro kr ?_)
   ·refine vA [.rd,.rd,.rd] (zAv n x0 v2.A v3.P r4 er4)<|fA<|AT.movT tOk 14 (ty := 129) (t := 30) (d := 16) (g := none) [(true,(Pt.row r4.1)),(false,[cB r4.2])] _ kr (oM Yn kr) (dM Yn kr) (.inl rfl) kr kr kr kr rfl (fun cx=>?_)
    exact mA Yn [(15,[]),(16,[])] 3 [⟨[13,18],50,24,25⟩,⟨[13,18],50,18,19⟩,⟨[13,18],53,2,17⟩] fun cx=>mC Yn 17<|lA 1<|fA<|mC Yn 18<|lA 1<|fA<|mA Yn [(19,[])] 0 [⟨[13,18],50,24,25⟩,⟨[13,18],50,18,19⟩,⟨[13,18],53,2,17⟩] fun cx=>mE Yn [6,5,2,1] [5,2]
   ·refine lA 1<|fA<|mC Yn 13<|vA [.rd,.rd,.rd] (zAv n x0 v2.A v3.P r4 er4)<|fA<|AT.movT tOk 14 (ty := 129) (t := 30) (d := 16) (g := none) [(true,(Pt.row r4.1)),(false,[cB r4.2])] _ kr (oM Yn kr) (dM Yn kr) (.inl rfl) kr kr kr kr rfl (fun cx=>?_)
    exact mA Yn [(15,[]),(16,[])] 2 [⟨[13,18],50,24,25⟩,⟨[13,18],50,18,19⟩,⟨[13,18],53,2,17⟩] fun cx=>mC Yn 18<|lA 1<|fA<|mA Yn [(19,[])] 0 [⟨[13,18],50,24,25⟩,⟨[13,18],50,18,19⟩,⟨[13,18],53,2,17⟩] fun cx=>mE Yn [6,5,2,1] [5,2]
  refine bE H fun v5 ev5 H=> bE H fun v6 ev6 H=> bE H fun r7 er7 H=> Tr.draws mixed 20 kr ⟨62,0,[sB 8 r7.2,sA 7 7 8 0,sB 6 r4.2,sA 5 5 8 0],[(7,(Pt.row r7.1)),(5,(Pt.row r4.1))]⟩ (fun cx=>?_) ?_
  ·refine mA Yo [(0,[13,18]),(1,[]),(2,[13,18]),(3,[])] 16 [⟨[13,18],50,35,36⟩,⟨[13,18],53,2,34⟩] fun cx=>iN Yo 4 Link.row ev5 fun cx=>mA Yo [(5,[]),(6,[]),(7,[]),(8,[13,18]),(9,[])] 10 [⟨[13,18],50,41,42⟩,⟨[13,18],50,35,36⟩,⟨[13,18],53,2,34⟩] fun cx=>iN Yo 10 Link.row ev6 fun cx=>mA Yo [(11,[]),(12,[])] 7 [⟨[13,18],50,41,42⟩,⟨[13,18],50,35,36⟩,⟨[13,18],53,2,34⟩] fun cx=>mB2 tOk Yo 13 17 kr (And.intro kr ?_) (And.intro kr ?_)
   ·refine vA [.rd,.rd,.rd] (zAv n x0 v5.B v6.Q r7 er7)<|fA<|AT.movT tOk 14 (ty := 129) (t := 47) (d := 33) (g := none) [(true,(Pt.row r7.1)),(false,[cB r7.2])] _ kr (oM Yo kr) (dM Yo kr) (.inl rfl) kr kr kr kr rfl (fun cx=>?_)
    exact mA Yo [(15,[]),(16,[])] 3 [⟨[13,18],50,41,42⟩,⟨[13,18],50,35,36⟩,⟨[13,18],53,2,34⟩] fun cx=>mC Yo 17<|lA 1<|fA<|mC Yo 18<|lA 1<|fA<|mA Yo [(19,[])] 0 [⟨[13,18],50,41,42⟩,⟨[13,18],50,35,36⟩,⟨[13,18],53,2,34⟩] fun cx=>mE Yo [8,7,6,5] [7,5]
   ·refine lA 1<|fA<|mC Yo 13<|vA [.rd,.rd,.rd] (zAv n x0 v5.B v6.Q r7 er7)<|fA<|AT.movT tOk 14 (ty := 129) (t := 47) (d := 33) (g := none) [(true,(Pt.row r7.1)),(false,[cB r7.2])] _ kr (oM Yo kr) (dM Yo kr) (.inl rfl) kr kr kr kr rfl (fun cx=>?_)
    exact mA Yo [(15,[]),(16,[])] 2 [⟨[13,18],50,41,42⟩,⟨[13,18],50,35,36⟩,⟨[13,18],53,2,34⟩] fun cx=>mC Yo 18<|lA 1<|fA<|mA Yo [(19,[])] 0 [⟨[13,18],50,41,42⟩,⟨[13,18],50,35,36⟩,⟨[13,18],53,2,34⟩] fun cx=>mE Yo [8,7,6,5] [7,5]
  refine rA 2 ?_
  obtain ⟨h2,H⟩ | ⟨h2,H⟩ := bC H
  ·exact qL 0x80000000001a0 160 [51] h2<|uA 11 16 0<|te (fF H)
  refine qL 0x80000000001a0 160 [51] h2<|lA 3 ?_
  obtain ⟨h3,H⟩ | ⟨h3,H⟩ := bC H
  ·exact qL 0x400000000000a0 160 [54] h3<|uA 8 16 0<|te (fF H)
  refine qL 0x400000000000a0 160 [54] h3<|lA 4 ?_
  obtain ⟨h4,H⟩ | ⟨h4,H⟩ := bC H
  ·exact qL 0x400000000000080 128 [58] h4<|uA 4 16 0<|te (fF H)
  exact qL 0x400000000000080 128 [58] h4<|uA 4 16 0<|te (fJ [(false,[cB r7.1.Up])] H)
 exact tA h1<|gA 1 16 0<|te (fF H)
def Qz (n : Nat) (r3 : Net) : Option (Bool) :=
  ((ZT n r3).bind fun r16 => (some (r16 == (decide ((r3.Bs.length : Int) > 0)))))
def Zt (n : Nat) : Nat → Net → Int → Option ((Unit) ⊕ (Bool))
  | 0,_,_ => none
  | mo17 + 1,r3,y15 => (bif (decide (y15 < (r3.Ls.length : Int))) then ((idx r3.Ls y15).bind fun v18 => ((Q8 n r3 v18.A v18.P).bind fun r19 => (bif (!r19.2.2) then (some (Sum.inr false)) else (bif (r19.1 != v18.B) then (some (Sum.inr false)) else (bif (r19.2.1 != v18.Q) then (some (Sum.inr false)) else ((ZF n r3 y15).bind fun r20 => (bif (!r20) then (some (Sum.inr false)) else (Zt n mo17 r3 (IntKind.wrap .i64 (y15 + 1)))))))))) else (some (Sum.inl ())))
def zCu (n : Nat) (x0 : (List Int)) : Option (Bool) :=
  ((zFZ n x0).bind fun r1 => (bif r1 then (some true) else ((JH n x0).bind fun r2 => ((zBJ n r2.1 r2.2.1 r2.2.2).bind fun r3 => ((Jl n x0).bind fun r4 => ((JF n x0).bind fun r5 => ((Q8 n r5.1 r5.2.1 r5.2.2).bind fun r6 => ((zBV n r5.1 r5.2.1 r5.2.2).bind fun r7 => ((JG n x0).bind fun r8 => ((ZR n r2.1 r2.2.1 r2.2.2).bind fun r9 => ((Zm n r3 r9).bind fun r10 => (bif (!r10) then (some false) else (bif (!(r6.2.2 == r7.2.2)) then (some false) else (bif (r6.1 != r7.1) then (some false) else (bif (r6.2.1 != r7.2.1) then (some false) else ((ZT n r4).bind fun r11 => ((ZV n r4).bind fun r12 => (bif (!(r11 == r12)) then (some false) else ((ZF n r8.1 r8.2).bind fun r13 => ((qf n r8.1 r8.2).bind fun r14 => (bif (!(r13 == r14)) then (some false) else ((Zt n n r3 0).bind fun o => match o with | .inl _ => (Qz n r3) | .inr r => some r))))))))))))))))))))))
def zP8 : Tab := ⟨38,[0,0,0,0,14,17,32,96,128,128,896,1152,2176,4096,4096,28672,36864,69632,131072,131072,917504,1179648,2228224,4194304,12582912,4194304,54525952,88080384,138412032,335544320,536870912,536870912,3758096384,536870912,536870912,30601641984,39191576576,69256347648],[0,0,0,0,14,17,32,64,128,128,896,1152,2048,4096,4096,28672,36864,65536,131072,131072,917504,1179648,2097152,4194304,12582912,4194304,37748736,88080384,138412032,268435456,536870912,536870912,3758096384,536870912,536870912,26306674688,39191576576,69256347648],[0,0,0,0,14,31,63,127,255,255,1023,2047,4095,8191,8191,32767,65535,131071,262143,262143,1048575,2097151,4194303,8388607,16777215,8388607,67108863,134217727,268435455,536870911,1073741823,1073741823,4294967295,1073741823,1073741823,34359738367,68719476735,137438953471]⟩
theorem qC : zg (rg Tryz.f5 10) zP8 = true := kr
def zP9 : Tab := ⟨21,[0,0,2,0,12,16,32,0,128,0,768,1024,2048,4161,8192,16384,16384,16384,65535,393215,1048575],[0,0,2,0,12,16,32,0,128,0,768,1024,2048,4161,8192,16384,16384,16384,32768,65536,131072],[0,0,2,0,14,30,62,0,128,0,896,1920,3968,8191,16383,32767,32767,32767,65535,393215,1048575]⟩
theorem JP : zg (rg Tryz.f5 15) zP9 = true := kr
theorem zKB (n : Nat) (r6 : Int × Int × Bool) (r7 : Int × Int × Bool) (r8 : Net × Int) (r4 : Net) (r3 : Net) (r11 : Bool) (r12 : Bool) (r13 : Bool) (r14 : Bool) (er11 : (ZT n r4) = some r11) (er12 : (ZV n r4) = some r12) (er13 : (ZF n r8.1 r8.2) = some r13) (er14 : (qf n r8.1 r8.2) = some r14) (h5 : (r6.2.1 != r7.2.1) = false) (h6 : (!(r11 == r12)) = false) (cx : Cx) : AT Tryz.prog cx (rg Tryz.f5 10) [⟨[5,24,26,32,35],53,6,64⟩] 20 [17,16,15,14,13,12,11,10,9,8,7,6,5,4,3,2,1,0] ⟨162,0,[sB 81 false,sR 64 6 3 0 3 true,sI 18 r8.2,sA 17 17 3 0,sI 15 r7.2.1,sI 12 r6.2.1,sA 7 7 3 0,sA 6 6 3 0],[(17,(Net.row r8.1)),(7,(Net.row r4)),(6,(Net.row r3))]⟩ (fun s => s = ⟨162,0,[sB 101 (!(r13 == r14)),sA 6 6 3 0],[(6,(Net.row r3))]⟩) := by
 exact mA qC [(18,[]),(19,[]),(20,[]),(21,[]),(22,[])] 15 [⟨[5,24,26,32,35],53,6,64⟩] fun cx=>qA 0x40000100000000000600c0 131264 [86] h5<|mA qC [(23,[24,26,32,35]),(25,[26,32,35])] 13 [⟨[26,32,35],53,7,89⟩,⟨[24,26,32,35],53,7,87⟩,⟨[5,24,26,32,35],53,6,64⟩] fun cx=>mC qC 24<|vB [.rd] [.box 7] (zEh n r4 r11 er11) (.inr (zO (zE zM zS) zW))<|fA<|mC qC 26<|vB [.rd] [.box 7] (zEp n r4 r12 er12) (.inr (zO (zE zM zS) zW))<|fA<|mA qC [(27,[]),(28,[]),(29,[])] 8 [⟨[26,32,35],53,7,89⟩,⟨[24,26,32,35],53,7,87⟩,⟨[5,24,26,32,35],53,6,64⟩] fun cx=>qA 0x2280000100000000000600c0 131264 [93] h6<|mA qC [(30,[32,35]),(31,[]),(33,[35]),(34,[])] 4 [⟨[35],53,17,97⟩,⟨[32,35],53,17,94⟩,⟨[26,32,35],53,7,89⟩,⟨[24,26,32,35],53,7,87⟩,⟨[5,24,26,32,35],53,6,64⟩] fun cx=>mC qC 32<|vB [.rd,.rd] [.box 17] (zIE n r8.1 r8.2 r13 er13) (.inr (zO (zE zM zS) zW))<|fA<|mC qC 35<|vB [.rd,.rd] [.box 17] (zDh n r8.1 r8.2 r14 er14) (.inr (zO (zE zM zS) zW))<|fA<|mA qC [(36,[]),(37,[])] 0 [⟨[35],53,17,97⟩,⟨[32,35],53,17,94⟩,⟨[26,32,35],53,7,89⟩,⟨[24,26,32,35],53,7,87⟩,⟨[5,24,26,32,35],53,6,64⟩] fun cx=>mE qC [101,6] [6]
theorem zKC (n : Nat) (r2 : (List Int) × Int × (List Link)) (r9 : Net) (r3 : Net) (r10 : Bool) (r8 : Net × Int) (r7 : Int × Int × Bool) (r6 : Int × Int × Bool) (r4 : Net) (r11 : Bool) (r12 : Bool) (r13 : Bool) (r14 : Bool) (er9 : (ZR n r2.1 r2.2.1 r2.2.2) = some r9) (er10 : (Zm n r3 r9) = some r10) (er11 : (ZT n r4) = some r11) (er12 : (ZV n r4) = some r12) (er13 : (ZF n r8.1 r8.2) = some r13) (er14 : (qf n r8.1 r8.2) = some r14) (h2 : (!r10) = false) (h3 : (!(r6.2.2 == r7.2.2)) = false) (h4 : (r6.1 != r7.1) = false) (h5 : (r6.2.1 != r7.2.1) = false) (h6 : (!(r11 == r12)) = false) (cx : Cx) : AT Tryz.prog cx (rg Tryz.f5 10) [] 38 [] ⟨162,0,[sI 18 r8.2,sA 17 17 3 0,sB 16 r7.2.2,sI 15 r7.2.1,sI 14 r7.1,sB 13 r6.2.2,sI 12 r6.2.1,sI 11 r6.1,sA 7 7 3 0,sA 6 6 3 0,sC 5 (cL 4 r2.2.2 Link.row),sI 4 r2.2.1,sC 3 (cL 1 r2.1 intRow)],[(17,(Net.row r8.1)),(7,(Net.row r4)),(6,(Net.row r3))]⟩ (fun s => s = ⟨162,0,[sB 101 (!(r13 == r14)),sA 6 6 3 0],[(6,(Net.row r3))]⟩) := by
 refine mA qC [(0,[5,24,26,32,35]),(1,[]),(2,[]),(3,[])] 34 [⟨[5,24,26,32,35],53,6,64⟩] fun cx=>mC qC 4<|vB [.rd,.rd,.rd] [.slot 3,.slot 5] (Jv n r2.1 r2.2.1 r2.2.2 r9 er9) (.inr (zO (Net.row_mine _) zW))<|fA<|mC qC 5<|vB [.rd,.rd] [.box 6] (zAC n r3 r9 r10 er10) (.inr (zO (zE zM zS) zW))<|fA<|mA qC [(6,[]),(7,[])] 30 [⟨[5,24,26,32,35],53,6,64⟩] fun cx=>qA 0x81000000000007f8c0 131264 [71] h2<|mA qC [(8,[]),(9,[]),(10,[]),(11,[]),(12,[])] 25 [⟨[5,24,26,32,35],53,6,64⟩] fun cx=>qA 0x1001000000000006d8c0 131264 [76] h3<|mA qC [(13,[]),(14,[]),(15,[]),(16,[]),(17,[])] 20 [⟨[5,24,26,32,35],53,6,64⟩] fun cx=>sA_ 0x2000100000000000690c0 131264 ⟨162,0,[sB 81 (r6.1 != r7.1),sR 64 6 3 0 3 true,sI 18 r8.2,sA 17 17 3 0,sI 15 r7.2.1,sI 12 r6.2.1,sA 7 7 3 0,sA 6 6 3 0],[(17,(Net.row r8.1)),(7,(Net.row r4)),(6,(Net.row r3))]⟩ ?_
 rw [h4]
 exact zKB n r6 r7 r8 r4 r3 r11 r12 r13 r14 er11 er12 er13 er14 h5 h6 cx
theorem zKD (n : Nat) (y15 : Int) (r3 : Net) (v18 : Link) (r19 : Int × Int × Bool) (ev18 : (idx r3.Ls y15) = some v18) (er19 : (Q8 n r3 v18.A v18.P) = some r19) (cx : Cx) : AT Tryz.prog cx (rg Tryz.f5 15) [] 21 [] ⟨162,0,[sB 106 (decide (y15 < (r3.Ls.length : Int))),sI 19 y15,sA 6 6 3 0],[(6,(Net.row r3))]⟩ (fun s => s = ⟨162,0,[sB 22 r19.2.2,sI 21 r19.2.1,sI 20 r19.1,sI 19 y15,sA 6 6 3 0],[(6,(Net.row r3))]⟩) := by
 refine mA JP [(0,[13]),(1,[]),(2,[13]),(3,[])] 17 [⟨[13],50,111,112⟩,⟨[13],53,6,110⟩] fun cx=>oN JP 4 Link.row ev18 fun cx=>mA JP [(5,[]),(7,[]),(8,[13]),(9,[])] 12 [⟨[13],50,117,118⟩,⟨[13],50,111,112⟩,⟨[13],53,6,110⟩] fun cx=>oN JP 10 Link.row ev18 fun cx=>mA JP [(11,[])] 10 [⟨[13],50,117,118⟩,⟨[13],50,111,112⟩,⟨[13],53,6,110⟩] fun cx=>mB2 tOk JP 6 12 kr (And.intro kr ?_) (And.intro kr ?_)
 ·refine dE (tI 3) (.box 6) [(0,0),(1,(y15.toNat))] 4 0 [.sl true 3 [(Net.row r3)]] (Link.row v18) (zX rfl (zN ev18).2)<|fA<|mC JP 12<|dE (tI 3) (.box 6) [(0,0),(1,(y15.toNat))] 4 1 [.sl true 3 [(Net.row r3)]] (Link.row v18) (zX rfl (zN ev18).2)<|fA<|mC JP 13<|vB [.rd,.rd,.rd] [.box 6] (zFr n r3 v18.A v18.P r19 er19) (.inr (zO (zE zM zS) (zO (zE zM zS) (zO (zE zM zS) zW))))<|fA<|AT.movT tOk 14 (ty := 71) (t := 123) (d := 109) (g := none) [(false,[cI r19.1]),(false,[cI r19.2.1]),(false,[cB r19.2.2])] _ kr (oM JP kr) (dM JP kr) (.inl rfl) kr kr kr kr rfl (fun cx=>?_)
  exact mA JP [(15,[]),(16,[]),(17,[]),(18,[]),(19,[]),(20,[])] 0 [⟨[13],50,117,118⟩,⟨[13],50,111,112⟩,⟨[13],53,6,110⟩] fun cx=>mE JP [22,21,20,19,6] [6]
 ·refine dE (tI 3) (.box 6) [(0,0),(1,(y15.toNat))] 4 1 [.sl true 3 [(Net.row r3)]] (Link.row v18) (zX rfl (zN ev18).2)<|fA<|mC JP 6<|dE (tI 3) (.box 6) [(0,0),(1,(y15.toNat))] 4 0 [.sl true 3 [(Net.row r3)]] (Link.row v18) (zX rfl (zN ev18).2)<|fA<|mC JP 13<|vB [.rd,.rd,.rd] [.box 6] (zFr n r3 v18.A v18.P r19 er19) (.inr (zO (zE zM zS) (zO (zE zM zS) (zO (zE zM zS) zW))))<|fA<|AT.movT tOk 14 (ty := 71) (t := 123) (d := 109) (g := none) [(false,[cI r19.1]),(false,[cI r19.2.1]),(false,[cB r19.2.2])] _ kr (oM JP kr) (dM JP kr) (.inl rfl) kr kr kr kr rfl (fun cx=>?_)
  exact mA JP [(15,[]),(16,[]),(17,[]),(18,[]),(19,[]),(20,[])] 0 [⟨[13],50,117,118⟩,⟨[13],50,111,112⟩,⟨[13],53,6,110⟩] fun cx=>mE JP [22,21,20,19,6] [6]
theorem zKE (n : Nat) (r6 : Int × Int × Bool) (r7 : Int × Int × Bool) (r8 : Net × Int) (r4 : Net) (r3 : Net) (r11 : Bool) (r12 : Bool) (er11 : (ZT n r4) = some r11) (er12 : (ZV n r4) = some r12) (h5 : (r6.2.1 != r7.2.1) = false) (h6 : (!(r11 == r12)) = true) (cx : Cx) : AT Tryz.prog cx (rg Tryz.f5 10) [⟨[5,24,26],53,6,64⟩] 20 [17,16,15,14,13,12,11,10,9,8,7,6,5,4,3,2,1,0] ⟨162,0,[sB 81 false,sR 64 6 3 0 3 true,sI 18 r8.2,sA 17 17 3 0,sI 15 r7.2.1,sI 12 r6.2.1,sA 7 7 3 0,sA 6 6 3 0],[(17,(Net.row r8.1)),(7,(Net.row r4)),(6,(Net.row r3))]⟩ (fun s => s = ⟨162,0,[sB 101 true,sA 6 6 3 0],[(6,(Net.row r3))]⟩) := by
 exact mA qC [(18,[]),(19,[]),(20,[]),(21,[]),(22,[])] 15 [⟨[5,24,26],53,6,64⟩] fun cx=>qA 0x40000100000000000600c0 131264 [86] h5<|mA qC [(23,[24,26]),(25,[26])] 13 [⟨[26],53,7,89⟩,⟨[24,26],53,7,87⟩,⟨[5,24,26],53,6,64⟩] fun cx=>mC qC 24<|vB [.rd] [.box 7] (zEh n r4 r11 er11) (.inr (zO (zE zM zS) zW))<|fA<|mC qC 26<|vB [.rd] [.box 7] (zEp n r4 r12 er12) (.inr (zO (zE zM zS) zW))<|fA<|mA qC [(27,[]),(28,[]),(29,[])] 8 [⟨[26],53,7,89⟩,⟨[24,26],53,7,87⟩,⟨[5,24,26],53,6,64⟩] fun cx=>qA 0x2280000100000000000600c0 131264 [93] h6<|mA qC [(30,[]),(31,[]),(32,[]),(33,[]),(34,[]),(35,[]),(36,[]),(37,[])] 0 [⟨[26],53,7,89⟩,⟨[24,26],53,7,87⟩,⟨[5,24,26],53,6,64⟩] fun cx=>mE qC [101,6] [6]
theorem zKF (n : Nat) (r2 : (List Int) × Int × (List Link)) (r9 : Net) (r3 : Net) (r10 : Bool) (r8 : Net × Int) (r7 : Int × Int × Bool) (r6 : Int × Int × Bool) (r4 : Net) (r11 : Bool) (r12 : Bool) (er9 : (ZR n r2.1 r2.2.1 r2.2.2) = some r9) (er10 : (Zm n r3 r9) = some r10) (er11 : (ZT n r4) = some r11) (er12 : (ZV n r4) = some r12) (h2 : (!r10) = false) (h3 : (!(r6.2.2 == r7.2.2)) = false) (h4 : (r6.1 != r7.1) = false) (h5 : (r6.2.1 != r7.2.1) = false) (h6 : (!(r11 == r12)) = true) (cx : Cx) : AT Tryz.prog cx (rg Tryz.f5 10) [] 38 [] ⟨162,0,[sI 18 r8.2,sA 17 17 3 0,sB 16 r7.2.2,sI 15 r7.2.1,sI 14 r7.1,sB 13 r6.2.2,sI 12 r6.2.1,sI 11 r6.1,sA 7 7 3 0,sA 6 6 3 0,sC 5 (cL 4 r2.2.2 Link.row),sI 4 r2.2.1,sC 3 (cL 1 r2.1 intRow)],[(17,(Net.row r8.1)),(7,(Net.row r4)),(6,(Net.row r3))]⟩ (fun s => s = ⟨162,0,[sB 101 true,sA 6 6 3 0],[(6,(Net.row r3))]⟩) := by
 refine mA qC [(0,[5,24,26]),(1,[]),(2,[]),(3,[])] 34 [⟨[5,24,26],53,6,64⟩] fun cx=>mC qC 4<|vB [.rd,.rd,.rd] [.slot 3,.slot 5] (Jv n r2.1 r2.2.1 r2.2.2 r9 er9) (.inr (zO (Net.row_mine _) zW))<|fA<|mC qC 5<|vB [.rd,.rd] [.box 6] (zAC n r3 r9 r10 er10) (.inr (zO (zE zM zS) zW))<|fA<|mA qC [(6,[]),(7,[])] 30 [⟨[5,24,26],53,6,64⟩] fun cx=>qA 0x81000000000007f8c0 131264 [71] h2<|mA qC [(8,[]),(9,[]),(10,[]),(11,[]),(12,[])] 25 [⟨[5,24,26],53,6,64⟩] fun cx=>qA 0x1001000000000006d8c0 131264 [76] h3<|mA qC [(13,[]),(14,[]),(15,[]),(16,[]),(17,[])] 20 [⟨[5,24,26],53,6,64⟩] fun cx=>sA_ 0x2000100000000000690c0 131264 ⟨162,0,[sB 81 (r6.1 != r7.1),sR 64 6 3 0 3 true,sI 18 r8.2,sA 17 17 3 0,sI 15 r7.2.1,sI 12 r6.2.1,sA 7 7 3 0,sA 6 6 3 0],[(17,(Net.row r8.1)),(7,(Net.row r4)),(6,(Net.row r3))]⟩ ?_
 rw [h4]
 exact zKE n r6 r7 r8 r4 r3 r11 r12 er11 er12 h5 h6 cx
theorem zKG (n : Nat) (r6 : Int × Int × Bool) (r7 : Int × Int × Bool) (r8 : Net × Int) (r4 : Net) (r3 : Net) (h5 : (r6.2.1 != r7.2.1) = true) (cx : Cx) : AT Tryz.prog cx (rg Tryz.f5 10) [⟨[5],53,6,64⟩] 20 [17,16,15,14,13,12,11,10,9,8,7,6,5,4,3,2,1,0] ⟨162,0,[sB 81 false,sR 64 6 3 0 3 true,sI 18 r8.2,sA 17 17 3 0,sI 15 r7.2.1,sI 12 r6.2.1,sA 7 7 3 0,sA 6 6 3 0],[(17,(Net.row r8.1)),(7,(Net.row r4)),(6,(Net.row r3))]⟩ (fun s => s = ⟨162,0,[sB 101 true,sA 6 6 3 0],[(6,(Net.row r3))]⟩) := by
 exact mA qC [(18,[]),(19,[]),(20,[]),(21,[]),(22,[])] 15 [⟨[5],53,6,64⟩] fun cx=>qA 0x40000100000000000600c0 131264 [86] h5<|mA qC [(23,[]),(24,[]),(25,[]),(26,[]),(27,[]),(28,[]),(29,[]),(30,[]),(31,[]),(32,[]),(33,[]),(34,[]),(35,[]),(36,[]),(37,[])] 0 [⟨[5],53,6,64⟩] fun cx=>mE qC [101,6] [6]
theorem zKH (n : Nat) (r2 : (List Int) × Int × (List Link)) (r9 : Net) (r3 : Net) (r10 : Bool) (r8 : Net × Int) (r7 : Int × Int × Bool) (r6 : Int × Int × Bool) (r4 : Net) (er9 : (ZR n r2.1 r2.2.1 r2.2.2) = some r9) (er10 : (Zm n r3 r9) = some r10) (h2 : (!r10) = false) (h3 : (!(r6.2.2 == r7.2.2)) = false) (h4 : (r6.1 != r7.1) = false) (h5 : (r6.2.1 != r7.2.1) = true) (cx : Cx) : AT Tryz.prog cx (rg Tryz.f5 10) [] 38 [] ⟨162,0,[sI 18 r8.2,sA 17 17 3 0,sB 16 r7.2.2,sI 15 r7.2.1,sI 14 r7.1,sB 13 r6.2.2,sI 12 r6.2.1,sI 11 r6.1,sA 7 7 3 0,sA 6 6 3 0,sC 5 (cL 4 r2.2.2 Link.row),sI 4 r2.2.1,sC 3 (cL 1 r2.1 intRow)],[(17,(Net.row r8.1)),(7,(Net.row r4)),(6,(Net.row r3))]⟩ (fun s => s = ⟨162,0,[sB 101 true,sA 6 6 3 0],[(6,(Net.row r3))]⟩) := by
 refine mA qC [(0,[5]),(1,[]),(2,[]),(3,[])] 34 [⟨[5],53,6,64⟩] fun cx=>mC qC 4<|vB [.rd,.rd,.rd] [.slot 3,.slot 5] (Jv n r2.1 r2.2.1 r2.2.2 r9 er9) (.inr (zO (Net.row_mine _) zW))<|fA<|mC qC 5<|vB [.rd,.rd] [.box 6] (zAC n r3 r9 r10 er10) (.inr (zO (zE zM zS) zW))<|fA<|mA qC [(6,[]),(7,[])] 30 [⟨[5],53,6,64⟩] fun cx=>qA 0x81000000000007f8c0 131264 [71] h2<|mA qC [(8,[]),(9,[]),(10,[]),(11,[]),(12,[])] 25 [⟨[5],53,6,64⟩] fun cx=>qA 0x1001000000000006d8c0 131264 [76] h3<|mA qC [(13,[]),(14,[]),(15,[]),(16,[]),(17,[])] 20 [⟨[5],53,6,64⟩] fun cx=>sA_ 0x2000100000000000690c0 131264 ⟨162,0,[sB 81 (r6.1 != r7.1),sR 64 6 3 0 3 true,sI 18 r8.2,sA 17 17 3 0,sI 15 r7.2.1,sI 12 r6.2.1,sA 7 7 3 0,sA 6 6 3 0],[(17,(Net.row r8.1)),(7,(Net.row r4)),(6,(Net.row r3))]⟩ ?_
 rw [h4]
 exact zKG n r6 r7 r8 r4 r3 h5 cx
theorem zKI (n : Nat) (r8 : Net × Int) (r7 : Int × Int × Bool) (r6 : Int × Int × Bool) (r4 : Net) (r3 : Net) (cx : Cx) : AT Tryz.prog cx (rg Tryz.f5 10) [⟨[5],53,6,64⟩] 20 [17,16,15,14,13,12,11,10,9,8,7,6,5,4,3,2,1,0] ⟨162,0,[sB 81 true,sR 64 6 3 0 3 true,sI 18 r8.2,sA 17 17 3 0,sI 15 r7.2.1,sI 12 r6.2.1,sA 7 7 3 0,sA 6 6 3 0],[(17,(Net.row r8.1)),(7,(Net.row r4)),(6,(Net.row r3))]⟩ (fun s => s = ⟨162,0,[sB 101 true,sA 6 6 3 0],[(6,(Net.row r3))]⟩) := by
 exact mA qC [(18,[]),(19,[]),(20,[]),(21,[]),(22,[]),(23,[]),(24,[]),(25,[]),(26,[]),(27,[]),(28,[]),(29,[]),(30,[]),(31,[]),(32,[]),(33,[]),(34,[]),(35,[]),(36,[]),(37,[])] 0 [⟨[5],53,6,64⟩] fun cx=>mE qC [101,6] [6]
theorem zKJ (n : Nat) (r2 : (List Int) × Int × (List Link)) (r9 : Net) (r3 : Net) (r10 : Bool) (r8 : Net × Int) (r7 : Int × Int × Bool) (r6 : Int × Int × Bool) (r4 : Net) (er9 : (ZR n r2.1 r2.2.1 r2.2.2) = some r9) (er10 : (Zm n r3 r9) = some r10) (h2 : (!r10) = false) (h3 : (!(r6.2.2 == r7.2.2)) = false) (h4 : (r6.1 != r7.1) = true) (cx : Cx) : AT Tryz.prog cx (rg Tryz.f5 10) [] 38 [] ⟨162,0,[sI 18 r8.2,sA 17 17 3 0,sB 16 r7.2.2,sI 15 r7.2.1,sI 14 r7.1,sB 13 r6.2.2,sI 12 r6.2.1,sI 11 r6.1,sA 7 7 3 0,sA 6 6 3 0,sC 5 (cL 4 r2.2.2 Link.row),sI 4 r2.2.1,sC 3 (cL 1 r2.1 intRow)],[(17,(Net.row r8.1)),(7,(Net.row r4)),(6,(Net.row r3))]⟩ (fun s => s = ⟨162,0,[sB 101 true,sA 6 6 3 0],[(6,(Net.row r3))]⟩) := by
 refine mA qC [(0,[5]),(1,[]),(2,[]),(3,[])] 34 [⟨[5],53,6,64⟩] fun cx=>mC qC 4<|vB [.rd,.rd,.rd] [.slot 3,.slot 5] (Jv n r2.1 r2.2.1 r2.2.2 r9 er9) (.inr (zO (Net.row_mine _) zW))<|fA<|mC qC 5<|vB [.rd,.rd] [.box 6] (zAC n r3 r9 r10 er10) (.inr (zO (zE zM zS) zW))<|fA<|mA qC [(6,[]),(7,[])] 30 [⟨[5],53,6,64⟩] fun cx=>qA 0x81000000000007f8c0 131264 [71] h2<|mA qC [(8,[]),(9,[]),(10,[]),(11,[]),(12,[])] 25 [⟨[5],53,6,64⟩] fun cx=>qA 0x1001000000000006d8c0 131264 [76] h3<|mA qC [(13,[]),(14,[]),(15,[]),(16,[]),(17,[])] 20 [⟨[5],53,6,64⟩] fun cx=>sA_ 0x2000100000000000690c0 131264 ⟨162,0,[sB 81 (r6.1 != r7.1),sR 64 6 3 0 3 true,sI 18 r8.2,sA 17 17 3 0,sI 15 r7.2.1,sI 12 r6.2.1,sA 7 7 3 0,sA 6 6 3 0],[(17,(Net.row r8.1)),(7,(Net.row r4)),(6,(Net.row r3))]⟩ ?_
 rw [h4]
 exact zKI n r8 r7 r6 r4 r3 cx
theorem zJO (n : Nat) (r2 : (List Int) × Int × (List Link)) (r9 : Net) (r3 : Net) (r10 : Bool) (r8 : Net × Int) (r7 : Int × Int × Bool) (r6 : Int × Int × Bool) (r4 : Net) (er9 : (ZR n r2.1 r2.2.1 r2.2.2) = some r9) (er10 : (Zm n r3 r9) = some r10) (h2 : (!r10) = false) (h3 : (!(r6.2.2 == r7.2.2)) = true) (cx : Cx) : AT Tryz.prog cx (rg Tryz.f5 10) [] 38 [] ⟨162,0,[sI 18 r8.2,sA 17 17 3 0,sB 16 r7.2.2,sI 15 r7.2.1,sI 14 r7.1,sB 13 r6.2.2,sI 12 r6.2.1,sI 11 r6.1,sA 7 7 3 0,sA 6 6 3 0,sC 5 (cL 4 r2.2.2 Link.row),sI 4 r2.2.1,sC 3 (cL 1 r2.1 intRow)],[(17,(Net.row r8.1)),(7,(Net.row r4)),(6,(Net.row r3))]⟩ (fun s => s = ⟨162,0,[sB 101 true,sA 6 6 3 0],[(6,(Net.row r3))]⟩) := by
 exact mA qC [(0,[5]),(1,[]),(2,[]),(3,[])] 34 [⟨[5],53,6,64⟩] fun cx=>mC qC 4<|vB [.rd,.rd,.rd] [.slot 3,.slot 5] (Jv n r2.1 r2.2.1 r2.2.2 r9 er9) (.inr (zO (Net.row_mine _) zW))<|fA<|mC qC 5<|vB [.rd,.rd] [.box 6] (zAC n r3 r9 r10 er10) (.inr (zO (zE zM zS) zW))<|fA<|mA qC [(6,[]),(7,[])] 30 [⟨[5],53,6,64⟩] fun cx=>qA 0x81000000000007f8c0 131264 [71] h2<|mA qC [(8,[]),(9,[]),(10,[]),(11,[]),(12,[])] 25 [⟨[5],53,6,64⟩] fun cx=>qA 0x1001000000000006d8c0 131264 [76] h3<|mA qC [(13,[]),(14,[]),(15,[]),(16,[]),(17,[]),(18,[]),(19,[]),(20,[]),(21,[]),(22,[]),(23,[]),(24,[]),(25,[]),(26,[]),(27,[]),(28,[]),(29,[]),(30,[]),(31,[]),(32,[]),(33,[]),(34,[]),(35,[]),(36,[]),(37,[])] 0 [⟨[5],53,6,64⟩] fun cx=>mE qC [101,6] [6]
theorem zJP (n : Nat) (r2 : (List Int) × Int × (List Link)) (r9 : Net) (r3 : Net) (r10 : Bool) (r8 : Net × Int) (r7 : Int × Int × Bool) (r6 : Int × Int × Bool) (r4 : Net) (er9 : (ZR n r2.1 r2.2.1 r2.2.2) = some r9) (er10 : (Zm n r3 r9) = some r10) (h2 : (!r10) = true) (cx : Cx) : AT Tryz.prog cx (rg Tryz.f5 10) [] 38 [] ⟨162,0,[sI 18 r8.2,sA 17 17 3 0,sB 16 r7.2.2,sI 15 r7.2.1,sI 14 r7.1,sB 13 r6.2.2,sI 12 r6.2.1,sI 11 r6.1,sA 7 7 3 0,sA 6 6 3 0,sC 5 (cL 4 r2.2.2 Link.row),sI 4 r2.2.1,sC 3 (cL 1 r2.1 intRow)],[(17,(Net.row r8.1)),(7,(Net.row r4)),(6,(Net.row r3))]⟩ (fun s => s = ⟨162,0,[sB 101 true,sA 6 6 3 0],[(6,(Net.row r3))]⟩) := by
 exact mA qC [(0,[5]),(1,[]),(2,[]),(3,[])] 34 [⟨[5],53,6,64⟩] fun cx=>mC qC 4<|vB [.rd,.rd,.rd] [.slot 3,.slot 5] (Jv n r2.1 r2.2.1 r2.2.2 r9 er9) (.inr (zO (Net.row_mine _) zW))<|fA<|mC qC 5<|vB [.rd,.rd] [.box 6] (zAC n r3 r9 r10 er10) (.inr (zO (zE zM zS) zW))<|fA<|mA qC [(6,[]),(7,[])] 30 [⟨[5],53,6,64⟩] fun cx=>qA 0x81000000000007f8c0 131264 [71] h2<|mA qC [(8,[]),(9,[]),(10,[]),(11,[]),(12,[]),(13,[]),(14,[]),(15,[]),(16,[]),(17,[]),(18,[]),(19,[]),(20,[]),(21,[]),(22,[]),(23,[]),(24,[]),(25,[]),(26,[]),(27,[]),(28,[]),(29,[]),(30,[]),(31,[]),(32,[]),(33,[]),(34,[]),(35,[]),(36,[]),(37,[])] 0 [⟨[5],53,6,64⟩] fun cx=>mE qC [101,6] [6]
theorem zML (n : Nat) (x0 : (List Int)) (r : Bool) (H : zCu n x0 = some r) : zJ Tryz.prog 5 [.val false [.sl false 1 (CV.frzEs (x0.map zd))]] [.val false [.lit (.bool r)]] [] := by
 refine cW Tryz.func5 (fun g d => sl [g 0,sl [g 1] (cn 24 (sl [g 2] .ret) .skip),g 3,g 4,g 5,g 6,g 7,g 8,g 9,sl [d 10] (cn 101 (sl [g 11] .ret) .skip),sl [g 12] (.block 0 (.loop (sl [sl [g 13] (cn 106 .skip (.exit 0)),.block 1 (sl [d 15,g 16] (cn 154 (sl [g 17] .ret) .skip))] (g 14)))),d 18] .ret) [.tmp 2] fun cx=>?_
 unfold zCu at H
 refine gA 1 1 0<|tS<|rA 1<|bE H fun r1 er1 H=> vA [.rd] (zOH n x0 r1 er1)<|dA 16777217 0 ?_
 cases h1 : r1
 ·have H := q3 h1 H
  refine nB_<|tK<|rA 1<|bE H fun r2 er2 H=> vA [.rd] (zJb n x0 r2 er2)<|LAt.movT tOk (ty := 65) (t := 27) (d := 25) (g := none) [(false,[cL 1 r2.1 intRow]),(false,[cI r2.2.1]),(false,[cL 4 r2.2.2 Link.row])] _ kr (.inl rfl) kr kr kr kr rfl<|lA 3<|LAt.moveU (T := lk tab) (ty := 27) (x := (.tmp 28)) (d := 3) (g := none) false [cL 1 r2.1 intRow] kr kr kr kr kr<|lA 1<|LAt.moveU (T := lk tab) (ty := 50) (x := (.tmp 30)) (d := 5) (g := none) false [cL 4 r2.2.2 Link.row] kr kr kr kr kr<|dA 57 0<|rA 3<|bE H fun r3 er3 H=> vB [.rd,.rd,.rd] [.slot 3,.slot 5] (zME n r2.1 r2.2.1 r2.2.2 r3 er3) (.inr (zO (Net.row_mine _) zW))<|uA 2 121 64<|rA 1<|bE H fun r4 er4 H=> vA [.rd] (zKU n x0 r4 er4)<|uA 2 249 192<|rA 1<|bE H fun r5 er5 H=> vA [.rd] (zJZ n x0 r5 er5)<|LAt.movT tOk (ty := 69) (t := 39) (d := 37) (g := none) [(true,(Net.row r5.1)),(false,[cI r5.2.1]),(false,[cI r5.2.2])] _ kr (.inl rfl) kr kr kr kr rfl<|uA 7 2041 448<|rA 3<|bE H fun r6 er6 H=> vB [.rd,.rd,.rd] [.box 8] (zFr n r5.1 r5.2.1 r5.2.2 r6 er6) (.inr (zO (zE zM zS) (zO (zE zM zS) (zO (zE zM zS) zW))))<|LAt.movT tOk (ty := 71) (t := 47) (d := 43) (g := none) [(false,[cI r6.1]),(false,[cI r6.2.1]),(false,[cB r6.2.2])] _ kr (.inl rfl) kr kr kr kr rfl<|uA 6 16377 448<|rA 3<|bE H fun r7 er7 H=> vB [.rd,.rd,.rd] [.box 8] (zMS n r5.1 r5.2.1 r5.2.2 r7 er7) (.inr (zO (zE zM zS) (zO (zE zM zS) (zO (zE zM zS) zW)))) ?_
  refine LAt.movT tOk (ty := 71) (t := 55) (d := 51) (g := none) [(false,[cI r7.1]),(false,[cI r7.2.1]),(false,[cB r7.2.2])] _ kr (.inl rfl) kr kr kr kr rfl<|uA 6 129273 192<|rA 1<|bE H fun r8 er8 H=> vA [.rd] (zJa n x0 r8 er8)<|LAt.movT tOk (ty := 73) (t := 61) (d := 59) (g := none) [(true,(Net.row r8.1)),(false,[cI r8.2])] _ kr (.inl rfl) kr kr kr kr rfl<|uA 5 522488 131264<|tS<|bE H fun r9 er9 H=> bE H fun r10 er10 H=> sT ⟨162,0,[sI 18 r8.2,sA 17 17 3 0,sB 16 r7.2.2,sI 15 r7.2.1,sI 14 r7.1,sB 13 r6.2.2,sI 12 r6.2.1,sI 11 r6.1,sA 7 7 3 0,sA 6 6 3 0,sC 5 (cL 4 r2.2.2 Link.row),sI 4 r2.2.1,sC 3 (cL 1 r2.1 intRow)],[(17,(Net.row r8.1)),(7,(Net.row r4)),(6,(Net.row r3))]⟩ ?_
  cases h2 : (!r10)
  ·have H := q3 h2 H
   refine sT ⟨162,0,[sI 18 r8.2,sA 17 17 3 0,sB 16 r7.2.2,sI 15 r7.2.1,sI 14 r7.1,sB 13 r6.2.2,sI 12 r6.2.1,sI 11 r6.1,sA 7 7 3 0,sA 6 6 3 0,sC 5 (cL 4 r2.2.2 Link.row),sI 4 r2.2.1,sC 3 (cL 1 r2.1 intRow)],[(17,(Net.row r8.1)),(7,(Net.row r4)),(6,(Net.row r3))]⟩ ?_
   cases h3 : (!(r6.2.2 == r7.2.2))
   ·have H := q3 h3 H
    refine sT ⟨162,0,[sI 18 r8.2,sA 17 17 3 0,sB 16 r7.2.2,sI 15 r7.2.1,sI 14 r7.1,sB 13 r6.2.2,sI 12 r6.2.1,sI 11 r6.1,sA 7 7 3 0,sA 6 6 3 0,sC 5 (cL 4 r2.2.2 Link.row),sI 4 r2.2.1,sC 3 (cL 1 r2.1 intRow)],[(17,(Net.row r8.1)),(7,(Net.row r4)),(6,(Net.row r3))]⟩ ?_
    cases h4 : (r6.1 != r7.1)
    ·have H := q3 h4 H
     refine sT ⟨162,0,[sI 18 r8.2,sA 17 17 3 0,sB 16 r7.2.2,sI 15 r7.2.1,sI 14 r7.1,sB 13 r6.2.2,sI 12 r6.2.1,sI 11 r6.1,sA 7 7 3 0,sA 6 6 3 0,sC 5 (cL 4 r2.2.2 Link.row),sI 4 r2.2.1,sC 3 (cL 1 r2.1 intRow)],[(17,(Net.row r8.1)),(7,(Net.row r4)),(6,(Net.row r3))]⟩ ?_
     cases h5 : (r6.2.1 != r7.2.1)
     ·have H := q3 h5 H
      refine bE H fun r11 er11 H=> bE H fun r12 er12 H=> sT ⟨162,0,[sI 18 r8.2,sA 17 17 3 0,sB 16 r7.2.2,sI 15 r7.2.1,sI 14 r7.1,sB 13 r6.2.2,sI 12 r6.2.1,sI 11 r6.1,sA 7 7 3 0,sA 6 6 3 0,sC 5 (cL 4 r2.2.2 Link.row),sI 4 r2.2.1,sC 3 (cL 1 r2.1 intRow)],[(17,(Net.row r8.1)),(7,(Net.row r4)),(6,(Net.row r3))]⟩ ?_
      cases h6 : (!(r11 == r12))
      ·have H := q3 h6 H
       refine bE H fun r13 er13 H=> bE H fun r14 er14 H=> sT ⟨162,0,[sI 18 r8.2,sA 17 17 3 0,sB 16 r7.2.2,sI 15 r7.2.1,sI 14 r7.1,sB 13 r6.2.2,sI 12 r6.2.1,sI 11 r6.1,sA 7 7 3 0,sA 6 6 3 0,sC 5 (cL 4 r2.2.2 Link.row),sI 4 r2.2.1,sC 3 (cL 1 r2.1 intRow)],[(17,(Net.row r8.1)),(7,(Net.row r4)),(6,(Net.row r3))]⟩<|Tr.draws mixed 38 kr ⟨162,0,[sB 101 (!(r13 == r14)),sA 6 6 3 0],[(6,(Net.row r3))]⟩ (zKC n r2 r9 r3 r10 r8 r7 r6 r4 r11 r12 r13 r14 er9 er10 er11 er12 er13 er14 h2 h3 h4 h5 h6) ?_
       obtain ⟨h7,H⟩ | ⟨h7,H⟩ := bC H
       ·refine qT [101] h7<|nB_<|tK<|tS<|gA 1 524352 64 ?_
        obtain ⟨o17,eo17,Ho17⟩ := bs H
        clear H
        refine Tr.mid (ι := Unit) (fun v => ⟨162,0,[sA 6 6 3 0],[(6,(Net.row r3))]⟩) (fun v => Qz n r3 = some r) ?_ ?_
        ·refine tB<|Tr.loop (ι := Nat × (Int)) (fun v => ⟨162,0,[sI 19 v.2,sA 6 6 3 0],[(6,(Net.row r3))]⟩) (fun v => Zt n v.1 r3 v.2 = some o17) (fun v => v.1) (n,0) eo17 (St.sub_of [19,6] [6] kr) ?_
         rintro ⟨mo17,y15⟩ H
         have H : Zt n mo17 r3 y15 = some o17 := H
         obtain _ | mo17 := mo17
         ·exact nN H
         rw [Zt] at H
         refine tS<|rA 3<|kO r3.Ls Link.row<|uA 1 0x400000000000000000000080040 64 ?_
         obtain ⟨h8,H⟩ | ⟨h8,H⟩ := bC H
         ·refine nA h8<|Tr.exit<|aJ ?_
          obtain rfl := si H
          have H := Ho17
          dsimp only at H
          exact jA () H [6] [6]
         refine tA h8<|tK<|tS<|tB<|bE H fun v18 ev18 H=> bE H fun r19 er19 H=> sT ⟨162,0,[sB 106 (decide (y15 < (r3.Ls.length : Int))),sI 19 y15,sA 6 6 3 0],[(6,(Net.row r3))]⟩<|Tr.draws mixed 21 kr ⟨162,0,[sB 22 r19.2.2,sI 21 r19.2.1,sI 20 r19.1,sI 19 y15,sA 6 6 3 0],[(6,(Net.row r3))]⟩ (zKD n y15 r3 v18 r19 ev18 er19)<|rA 3 ?_
         obtain ⟨h9,H⟩ | ⟨h9,H⟩ := bC H
         ·refine qL 0x200000000000000000000000000380040 64 [129] h9<|lA 4<|oA Link.row ev18<|lA 1<|dE (tI 3) (.box 6) [(0,0),(1,(y15.toNat))] 4 2 [.sl true 3 [(Net.row r3)]] (Link.row v18) (zX rfl (zN ev18).2)<|lA 3 ?_
          obtain ⟨h10,H⟩ | ⟨h10,H⟩ := bC H
          ·refine qL 0x80000000000000000000000000000280040 64 [139] h10<|lA 4<|oA Link.row ev18<|lA 1<|dE (tI 3) (.box 6) [(0,0),(1,(y15.toNat))] 4 3 [.sl true 3 [(Net.row r3)]] (Link.row v18) (zX rfl (zN ev18).2)<|lA 3 ?_
           obtain ⟨h11,H⟩ | ⟨h11,H⟩ := bC H
           ·refine qL 0x20000000000000000000000000000000080040 64 [149] h11<|lA 2<|bE H fun r20 er20 H=> vB [.rd,.rd] [.box 6] (zIE n r3 y15 r20 er20) (.inr (zO (zE zM zS) zW))<|uA 2 0x400000000000000000000000000000000080040 64 ?_
            obtain ⟨h12,H⟩ | ⟨h12,H⟩ := bC H
            ·exact nA h12<|tK<|eA 3 524352 64<|jB mo17 (wI (y15 + 1)) H [19,6] [6]
            refine tA h12<|gA 1 4 0<|te ?_
            obtain rfl := si H
            have H := Ho17
            dsimp only at H
            exact fF H
           refine qL 0x20000000000000000000000000000000080040 64 [149] h11<|uA 5 0x400000000000000000000000000000000080040 64<|tB_<|gA 1 4 0<|te ?_
           obtain rfl := si H
           have H := Ho17
           dsimp only at H
           exact fF H
          refine qL 0x80000000000000000000000000000280040 64 [139] h10<|uA 15 0x400000000000000000000000000000000080040 64<|tB_<|gA 1 4 0<|te ?_
          obtain rfl := si H
          have H := Ho17
          dsimp only at H
          exact fF H
         refine qL 0x200000000000000000000000000380040 64 [129] h9<|uA 25 0x400000000000000000000000000000000080040 64<|tB_<|gA 1 4 0<|te ?_
         obtain rfl := si H
         have H := Ho17
         dsimp only at H
         exact fF H
        rintro _ H
        have H : (Qz n r3) = some r := H
        unfold Qz at H
        refine bE H fun r16 er16 H=> Tr.draws mixed 8 kr ⟨162,0,[sB 2 (r16 == (decide ((r3.Bs.length : Int) > 0)))],[]⟩ (fun cx=>?_) ?_
        ·refine aA [(0,[1]),(2,[]),(3,[])] 5 [⟨[],49,157,158⟩,⟨[1],53,6,155⟩] fun cx=>aL tOk 4 49 3 31 158 159 none ⟨(.box 6),[(0,0)],0,true,11,(r3.Bs.map zA.row)⟩ (r3.Bs).length _ kr kr kr kr kr kr kr (zKK _ _) rfl (fun cx=>?_)
         exact aA [(5,[])] 3 [⟨[],49,157,158⟩,⟨[1],53,6,155⟩] fun cx=>bA 1<|vB [.rd] [.box 6] (zEh n r3 r16 er16) (.inr (zO (zE zM zS) zW))<|fA<|aA [(6,[]),(7,[])] 0 [⟨[],49,157,158⟩,⟨[1],53,6,155⟩] fun cx=>eE [2] []
        exact te (fJ [(false,[cB (r16 == (decide ((r3.Bs.length : Int) > 0)))])] H)
       exact qT [101] h7<|tB_<|gA 1 4 0<|te (fF H)
      have H := q7 h6 H
      exact sT ⟨162,0,[sI 18 r8.2,sA 17 17 3 0,sB 16 r7.2.2,sI 15 r7.2.1,sI 14 r7.1,sB 13 r6.2.2,sI 12 r6.2.1,sI 11 r6.1,sA 7 7 3 0,sA 6 6 3 0,sC 5 (cL 4 r2.2.2 Link.row),sI 4 r2.2.1,sC 3 (cL 1 r2.1 intRow)],[(17,(Net.row r8.1)),(7,(Net.row r4)),(6,(Net.row r3))]⟩<|Tr.draws mixed 38 kr ⟨162,0,[sB 101 true,sA 6 6 3 0],[(6,(Net.row r3))]⟩ (zKF n r2 r9 r3 r10 r8 r7 r6 r4 r11 r12 er9 er10 er11 er12 h2 h3 h4 h5 h6)<|tB_<|gA 1 4 0<|te (fF H)
     have H := q7 h5 H
     exact sT ⟨162,0,[sI 18 r8.2,sA 17 17 3 0,sB 16 r7.2.2,sI 15 r7.2.1,sI 14 r7.1,sB 13 r6.2.2,sI 12 r6.2.1,sI 11 r6.1,sA 7 7 3 0,sA 6 6 3 0,sC 5 (cL 4 r2.2.2 Link.row),sI 4 r2.2.1,sC 3 (cL 1 r2.1 intRow)],[(17,(Net.row r8.1)),(7,(Net.row r4)),(6,(Net.row r3))]⟩<|Tr.draws mixed 38 kr ⟨162,0,[sB 101 true,sA 6 6 3 0],[(6,(Net.row r3))]⟩ (zKH n r2 r9 r3 r10 r8 r7 r6 r4 er9 er10 h2 h3 h4 h5)<|tB_<|gA 1 4 0<|te (fF H)
    have H := q7 h4 H
    exact sT ⟨162,0,[sI 18 r8.2,sA 17 17 3 0,sB 16 r7.2.2,sI 15 r7.2.1,sI 14 r7.1,sB 13 r6.2.2,sI 12 r6.2.1,sI 11 r6.1,sA 7 7 3 0,sA 6 6 3 0,sC 5 (cL 4 r2.2.2 Link.row),sI 4 r2.2.1,sC 3 (cL 1 r2.1 intRow)],[(17,(Net.row r8.1)),(7,(Net.row r4)),(6,(Net.row r3))]⟩<|Tr.draws mixed 38 kr ⟨162,0,[sB 101 true,sA 6 6 3 0],[(6,(Net.row r3))]⟩ (zKJ n r2 r9 r3 r10 r8 r7 r6 r4 er9 er10 h2 h3 h4)<|tB_<|gA 1 4 0<|te (fF H)
   have H := q7 h3 H
   exact sT ⟨162,0,[sI 18 r8.2,sA 17 17 3 0,sB 16 r7.2.2,sI 15 r7.2.1,sI 14 r7.1,sB 13 r6.2.2,sI 12 r6.2.1,sI 11 r6.1,sA 7 7 3 0,sA 6 6 3 0,sC 5 (cL 4 r2.2.2 Link.row),sI 4 r2.2.1,sC 3 (cL 1 r2.1 intRow)],[(17,(Net.row r8.1)),(7,(Net.row r4)),(6,(Net.row r3))]⟩<|Tr.draws mixed 38 kr ⟨162,0,[sB 101 true,sA 6 6 3 0],[(6,(Net.row r3))]⟩ (zJO n r2 r9 r3 r10 r8 r7 r6 r4 er9 er10 h2 h3)<|tB_<|gA 1 4 0<|te (fF H)
  have H := q7 h2 H
  exact sT ⟨162,0,[sI 18 r8.2,sA 17 17 3 0,sB 16 r7.2.2,sI 15 r7.2.1,sI 14 r7.1,sB 13 r6.2.2,sI 12 r6.2.1,sI 11 r6.1,sA 7 7 3 0,sA 6 6 3 0,sC 5 (cL 4 r2.2.2 Link.row),sI 4 r2.2.1,sC 3 (cL 1 r2.1 intRow)],[(17,(Net.row r8.1)),(7,(Net.row r4)),(6,(Net.row r3))]⟩<|Tr.draws mixed 38 kr ⟨162,0,[sB 101 true,sA 6 6 3 0],[(6,(Net.row r3))]⟩ (zJP n r2 r9 r3 r10 r8 r7 r6 r4 er9 er10 h2)<|tB_<|gA 1 4 0<|te (fF H)
 have H := q7 h1 H
 exact tB_<|gA 1 4 0<|te (fT H)
def zH6 (n : Nat) (y7 : (List Event)) (y8 : (List Int)) (y9 : Int) (y10 : Int) : Option ((List Event) × Src) :=
  (some (y7,(⟨y8,y9,y10⟩ : Src)))
def zEW (n : Nat) : Nat → Int → (List Event) → (List Int) → Int → Int → Option (((List Event) × (List Int) × Int × Int) ⊕ ((List Event) × Src))
  | 0,_,_,_,_,_ => none
  | mo11 + 1,y2,y3,y4,y5,y6 => (bif (decide (y2 > 0)) then ((zY n (⟨y4,y5,y6⟩ : Src) [1,1,1,2,2,2,2,3,4,5,6]).bind fun r12 => ((zF n r12.2 4).bind fun r13 => (bif (decide (y3.length + [(⟨r12.1,r13.1⟩ : Event)].length ≤ 268435456)) then (zEW n mo11 (IntKind.wrap .i64 (y2 - 1)) (y3 ++ [(⟨r12.1,r13.1⟩ : Event)]) r13.2.b r13.2.i r13.2.h) else none))) else (some (Sum.inl (y3,y4,y5,y6))))
def zOf (n : Nat) (x0 : Src) (x1 : Int) : Option ((List Event) × Src) :=
  ((zF n x0 x1).bind fun r1 => ((zEW n n r1.1 ([] : List Event) r1.2.b r1.2.i r1.2.h).bind fun o => match o with | .inl (y7,y8,y9,y10) => (zH6 n y7 y8 y9 y10) | .inr r => some r))
def zJK (n : Nat) (x0 : Net) (y5 : (List zA)) : Option (Net) :=
  (some (⟨y5,(([] : List Link) ++ x0.Ls),(([] : List Say) ++ x0.Said)⟩ : Net))
def Jg (n : Nat) : Nat → Net → Int → (List zA) → Option (((List zA)) ⊕ (Net))
  | 0,_,_,_ => none
  | mo6 + 1,x0,y3,y4 => (bif (decide (y3 < (x0.Bs.length : Int))) then ((idx x0.Bs y3).bind fun v7 => ((Zi n v7).bind fun r8 => (bif (decide (y4.length + [r8].length ≤ 268435456)) then (Jg n mo6 x0 (IntKind.wrap .i64 (y3 + 1)) (y4 ++ [r8])) else none))) else (some (Sum.inl y4)))
def zEK (n : Nat) (x0 : Net) : Option (Net) :=
  (bif (decide (([] : List Link).length + x0.Ls.length ≤ 268435456)) then (bif (decide (([] : List Say).length + x0.Said.length ≤ 268435456)) then ((Jg n n x0 0 ([] : List zA)).bind fun o => match o with | .inl y5 => (zJK n x0 y5) | .inr r => some r) else none) else none)
def zEk (n : Nat) (x0 : Net) (x1 : Int) (x2 : Int) : Option (Vec) :=
  ((idx x0.Bs x1).bind fun v1 => ((idx x0.Bs x1).bind fun v2 => ((J7 n v1.Id v2.Ps x2).bind fun r3 => (some r3))))
def zA4 (n : Nat) (r1 : zA) (x1 : Int) (x2 : Vec) (y2 : Bool) : Option (zA) :=
  (bif y2 then ((idx r1.Ps x1).bind fun v3 => ((idx (r1.Ps.set (x1.toNat) (⟨v3.Up,v3.Co,true,v3.Hd⟩ : Pt)) x1).bind fun v4 => ((ZH n (⟨r1.Id,r1.Name,((r1.Ps.set (x1.toNat) (⟨v3.Up,v3.Co,true,v3.Hd⟩ : Pt)).set (x1.toNat) (⟨v4.Up,v4.Co,v4.Has,x2⟩ : Pt)),r1.F,r1.V,r1.Tk,r1.Pa,r1.Wo,r1.Dr,r1.Ve⟩ : zA)).bind fun r5 => (some r5)))) else (some r1))
def JW (n : Nat) (x0 : zA) (x1 : Int) (x2 : Vec) : Option (zA) :=
  ((Zi n x0).bind fun r1 => ((zAA n x0 x1).bind fun r6 => (bif r6 then ((idx x0.Ps x1).bind fun v7 => (bif v7.Up then ((Y1 n x2).bind fun r8 => (zA4 n r1 x1 x2 r8)) else (zA4 n r1 x1 x2 false))) else (zA4 n r1 x1 x2 false))))
def YV (n : Nat) (x0 : Net) (x1 : Int) (x2 : Int) (x3 : Vec) : Option (Net) :=
  ((idx x0.Bs x1).bind fun v1 => ((JW n v1 x2 x3).bind fun r2 => (some (⟨(x0.Bs.set (x1.toNat) r2),x0.Ls,x0.Said⟩ : Net))))
def zHv (n : Nat) (x0 : Net) (y3 : (List Say)) : Option (Net) :=
  (some (⟨x0.Bs,x0.Ls,y3⟩ : Net))
def ZX (n : Nat) : Nat → Net → Int → Int → (List Say) → Option (((List Say)) ⊕ (Net))
  | 0,_,_,_,_ => none
  | mo4 + 1,x0,x1,y1,y2 => (bif (decide (y1 < (x0.Ls.length : Int))) then ((idx x0.Ls y1).bind fun v5 => ((ZF n (⟨x0.Bs,x0.Ls,y2⟩ : Net) y1).bind fun r6 => (bif (!r6) then (ZX n mo4 x0 x1 (IntKind.wrap .i64 (y1 + 1)) y2) else (bif (decide ((y2.length : Int) ≥ 40)) then (ZX n mo4 x0 x1 (IntKind.wrap .i64 (y1 + 1)) y2) else (bif (v5.A == x1) then ((zEk n (⟨x0.Bs,x0.Ls,y2⟩ : Net) x1 v5.P).bind fun r9 => (bif (decide (y2.length + [(⟨y1,false,r9⟩ : Say)].length ≤ 268435456)) then (ZX n mo4 x0 x1 (IntKind.wrap .i64 (y1 + 1)) (y2 ++ [(⟨y1,false,r9⟩ : Say)])) else none)) else (bif (v5.B == x1) then ((zEk n (⟨x0.Bs,x0.Ls,y2⟩ : Net) x1 v5.Q).bind fun r7 => (bif (decide (y2.length + [(⟨y1,true,r7⟩ : Say)].length ≤ 268435456)) then (ZX n mo4 x0 x1 (IntKind.wrap .i64 (y1 + 1)) (y2 ++ [(⟨y1,true,r7⟩ : Say)])) else none)) else (ZX n mo4 x0 x1 (IntKind.wrap .i64 (y1 + 1)) y2))))))) else (some (Sum.inl y2)))
def zCp (n : Nat) (x0 : Net) (x1 : Int) : Option (Net) :=
  ((ZX n n x0 x1 0 x0.Said).bind fun o => match o with | .inl y3 => (zHv n x0 y3) | .inr r => some r)
def zJ4 (n : Nat) (y3 : (List zB)) : Option ((List zB)) :=
  (some y3)
def YU (n : Nat) : Nat → (List zB) → Int → (List zB) → Option (((List zB)) ⊕ ((List zB)))
  | 0,_,_,_ => none
  | mo4 + 1,x0,y1,y2 => (bif (decide (y1 < (x0.length : Int))) then ((idx x0 y1).bind fun v5 => (bif (!v5.Sc) then (bif (decide (v5.Age ≥ 4)) then (YU n mo4 x0 (IntKind.wrap .i64 (y1 + 1)) y2) else (bif (decide (y2.length + [(⟨v5.Tag,v5.Mac,v5.Port,(IntKind.wrap .i64 (v5.Age + 1)),v5.Sc⟩ : zB)].length ≤ 268435456)) then (YU n mo4 x0 (IntKind.wrap .i64 (y1 + 1)) (y2 ++ [(⟨v5.Tag,v5.Mac,v5.Port,(IntKind.wrap .i64 (v5.Age + 1)),v5.Sc⟩ : zB)])) else none)) else (bif (decide (y2.length + [v5].length ≤ 268435456)) then (YU n mo4 x0 (IntKind.wrap .i64 (y1 + 1)) (y2 ++ [v5])) else none))) else (some (Sum.inl y2)))
def zE4 (n : Nat) (x0 : (List zB)) : Option ((List zB)) :=
  ((YU n n x0 0 ([] : List zB)).bind fun o => match o with | .inl y3 => (zJ4 n y3) | .inr r => some r)
def zEi (n : Nat) (x0 : zA) : Option (zA) :=
  ((Zi n x0).bind fun r1 => ((Qv n x0).bind fun r2 => (bif r2 then ((zBj n x0.Tk).bind fun r3 => ((zE4 n x0.F).bind fun r4 => ((ZH n (⟨r1.Id,r1.Name,r1.Ps,r4,r1.V,r3,r1.Pa,r1.Wo,r1.Dr,r1.Ve⟩ : zA)).bind fun r5 => (some r5)))) else (some r1))))
def zAU (n : Nat) (x0 : Net) (x1 : Int) (x2 : Bool) : Option (Net) :=
  ((idx x0.Said x1).bind fun v1 => (bif (decide ((0 : Int) ≤ 0) && (decide ((0 : Int) ≤ x1) && decide ((x1 : Int) ≤ (x0.Said.length : Int)))) then (bif (decide (([] : List Say).length + ((x0.Said.drop ((0 : Int)).toNat).take (((x1 : Int)).toNat - ((0 : Int)).toNat)).length ≤ 268435456)) then (bif (decide ((0 : Int) ≤ (IntKind.wrap .i64 (x1 + 1))) && (decide (((IntKind.wrap .i64 (x1 + 1)) : Int) ≤ (x0.Said.length : Int)) && decide (((x0.Said.length : Int) : Int) ≤ (x0.Said.length : Int)))) then (bif (decide ((([] : List Say) ++ ((x0.Said.drop ((0 : Int)).toNat).take (((x1 : Int)).toNat - ((0 : Int)).toNat))).length + ((x0.Said.drop (((IntKind.wrap .i64 (x1 + 1)) : Int)).toNat).take ((((x0.Said.length : Int) : Int)).toNat - (((IntKind.wrap .i64 (x1 + 1)) : Int)).toNat)).length ≤ 268435456)) then (bif (!x2) then (some (⟨x0.Bs,x0.Ls,((([] : List Say) ++ ((x0.Said.drop ((0 : Int)).toNat).take (((x1 : Int)).toNat - ((0 : Int)).toNat))) ++ ((x0.Said.drop (((IntKind.wrap .i64 (x1 + 1)) : Int)).toNat).take ((((x0.Said.length : Int) : Int)).toNat - (((IntKind.wrap .i64 (x1 + 1)) : Int)).toNat)))⟩ : Net)) else ((ZF n (⟨x0.Bs,x0.Ls,((([] : List Say) ++ ((x0.Said.drop ((0 : Int)).toNat).take (((x1 : Int)).toNat - ((0 : Int)).toNat))) ++ ((x0.Said.drop (((IntKind.wrap .i64 (x1 + 1)) : Int)).toNat).take ((((x0.Said.length : Int) : Int)).toNat - (((IntKind.wrap .i64 (x1 + 1)) : Int)).toNat)))⟩ : Net) v1.Link).bind fun r6 => (bif (!r6) then (some (⟨x0.Bs,x0.Ls,((([] : List Say) ++ ((x0.Said.drop ((0 : Int)).toNat).take (((x1 : Int)).toNat - ((0 : Int)).toNat))) ++ ((x0.Said.drop (((IntKind.wrap .i64 (x1 + 1)) : Int)).toNat).take ((((x0.Said.length : Int) : Int)).toNat - (((IntKind.wrap .i64 (x1 + 1)) : Int)).toNat)))⟩ : Net)) else ((idx x0.Ls v1.Link).bind fun v7 => (bif v1.Back then ((YV n (⟨x0.Bs,x0.Ls,((([] : List Say) ++ ((x0.Said.drop ((0 : Int)).toNat).take (((x1 : Int)).toNat - ((0 : Int)).toNat))) ++ ((x0.Said.drop (((IntKind.wrap .i64 (x1 + 1)) : Int)).toNat).take ((((x0.Said.length : Int) : Int)).toNat - (((IntKind.wrap .i64 (x1 + 1)) : Int)).toNat)))⟩ : Net) v7.A v7.P v1.V).bind fun r9 => (some r9)) else ((YV n (⟨x0.Bs,x0.Ls,((([] : List Say) ++ ((x0.Said.drop ((0 : Int)).toNat).take (((x1 : Int)).toNat - ((0 : Int)).toNat))) ++ ((x0.Said.drop (((IntKind.wrap .i64 (x1 + 1)) : Int)).toNat).take ((((x0.Said.length : Int) : Int)).toNat - (((IntKind.wrap .i64 (x1 + 1)) : Int)).toNat)))⟩ : Net) v7.B v7.Q v1.V).bind fun r8 => (some r8))))))) else none) else none) else none) else none))
def zDR (n : Nat) (x0 : Net) (x1 : Int) (x2 : Bool) : Option (Net) :=
  ((ZF n x0 x1).bind fun r1 => (bif (r1 == x2) then (some x0) else ((idx x0.Ls x1).bind fun v2 => ((idx x0.Bs v2.A).bind fun v3 => ((QE n v3 v2.P x2).bind fun r4 => ((idx (x0.Bs.set (v2.A.toNat) r4) v2.B).bind fun v5 => ((QE n v5 v2.Q x2).bind fun r6 => (some (⟨((x0.Bs.set (v2.A.toNat) r4).set (v2.B.toNat) r6),x0.Ls,x0.Said⟩ : Net)))))))))
def zCr (n : Nat) (r1 : Net) (x1 : Event) (y5 : Bool) : Option (Net × Bool) :=
  (bif y5 then ((zAU n r1 x1.At (x1.Ki == 2)).bind fun r7 => (some (r7,true))) else ((zDR n r1 x1.At (x1.Ki == 5)).bind fun r6 => (some (r6,true))))
def Z8 (n : Nat) (r1 : Net) (x0 : Net) (x1 : Event) (y3 : Int) : Option (Net × Bool) :=
  ((qE n x1.At 0 (IntKind.wrap .i64 (y3 - 1))).bind fun r4 => (bif (!r4) then (some (r1,false)) else (bif (x1.Ki == 1) then ((zCp n r1 x1.At).bind fun r11 => (some (r11,true))) else (bif (x1.Ki == 6) then ((idx x0.Bs x1.At).bind fun v8 => ((zEi n v8).bind fun r9 => ((idx r1.Bs x1.At).bind fun v10 => (some ((⟨(r1.Bs.set (x1.At.toNat) r9),r1.Ls,r1.Said⟩ : Net),true))))) else (bif (x1.Ki == 2) then (zCr n r1 x1 true) else (zCr n r1 x1 (x1.Ki == 3)))))))
def zBL (n : Nat) (r1 : Net) (x0 : Net) (x1 : Event) (y13 : Bool) : Option (Net × Bool) :=
  (bif y13 then (Z8 n r1 x0 x1 (x0.Said.length : Int)) else (bif (x1.Ki == 4) then (Z8 n r1 x0 x1 (x0.Ls.length : Int)) else (bif (x1.Ki == 5) then (Z8 n r1 x0 x1 (x0.Ls.length : Int)) else (Z8 n r1 x0 x1 0))))
def YA (n : Nat) (r1 : Net) (x0 : Net) (x1 : Event) (y12 : Bool) : Option (Net × Bool) :=
  (bif y12 then (Z8 n r1 x0 x1 (x0.Bs.length : Int)) else (bif (x1.Ki == 2) then (zBL n r1 x0 x1 true) else (zBL n r1 x0 x1 (x1.Ki == 3))))
def zJH (n : Nat) (x0 : Net) (x1 : Event) : Option (Net × Bool) :=
  ((zEK n x0).bind fun r1 => ((ZT n x0).bind fun r2 => (bif (!r2) then (some (r1,false)) else (bif (x1.Ki == 1) then (YA n r1 x0 x1 true) else (YA n r1 x0 x1 (x1.Ki == 6))))))
end Go.Proofs.YtajadnlejdpceaaGreat.Tw
