import Derived.Test.YtcegokjpmppdbaaGreatProg
import Derived.Test.YtcegokjpmppdbaaGreatTlRule
import Derived.Test.YtcegokjpmppdbaaGreatTlU12
import Derived.Test.YtcegokjpmppdbaaGreatTwSS1
import Derived.WalkKit
set_option linter.unusedVariables false
set_option linter.unusedSimpArgs false
set_option maxRecDepth 100000
set_option maxHeartbeats 1000000
namespace Go.Proofs.YtcegokjpmppdbaaGreat.Tw
open Go Go.TL Go.Proofs
def JB (n : Nat) (x0 : Net) (y3 : (List Say)) : Option (Net) :=
  (some (⟨x0.Bs,x0.Ls,y3⟩ : Net))
def qE (n : Nat) : Nat → Net → Int → Int → (List Say) → Option (((List Say)) ⊕ (Net))
  | 0,_,_,_,_ => none
  | mo4 + 1,x0,x1,y1,y2 => (bif (decide (y1 < (x0.Ls.length : Int))) then ((idx x0.Ls y1).bind fun v5 => ((Zt n (⟨x0.Bs,x0.Ls,y2⟩ : Net) y1).bind fun r6 => (bif (!r6) then (qE n mo4 x0 x1 (IntKind.wrap .i64 (y1 + 1)) y2) else (bif (decide ((y2.length : Int) ≥ 40)) then (qE n mo4 x0 x1 (IntKind.wrap .i64 (y1 + 1)) y2) else (bif (v5.A == x1) then ((zBC n (⟨x0.Bs,x0.Ls,y2⟩ : Net) x1 v5.P).bind fun r9 => (bif (decide (y2.length + [(⟨y1,false,r9⟩ : Say)].length ≤ 268435456)) then (qE n mo4 x0 x1 (IntKind.wrap .i64 (y1 + 1)) (y2 ++ [(⟨y1,false,r9⟩ : Say)])) else none)) else (bif (v5.B == x1) then ((zBC n (⟨x0.Bs,x0.Ls,y2⟩ : Net) x1 v5.Q).bind fun r7 => (bif (decide (y2.length + [(⟨y1,true,r7⟩ : Say)].length ≤ 268435456)) then (qE n mo4 x0 x1 (IntKind.wrap .i64 (y1 + 1)) (y2 ++ [(⟨y1,true,r7⟩ : Say)])) else none)) else (qE n mo4 x0 x1 (IntKind.wrap .i64 (y1 + 1)) y2))))))) else (some (Sum.inl y2)))
def Yp (n : Nat) (x0 : Net) (x1 : Int) : Option (Net) :=
  ((qE n n x0 x1 0 x0.Said).bind fun o => match o with | .inl y3 => (JB n x0 y3) | .inr r => some r)
def zOO : Tab := ⟨19,[0,0,2,4,8,0,0,64,128,0,0,1024,2816,4128,8192,20496,65535,131071,196607],[0,0,2,4,8,0,0,64,128,0,0,1024,2816,4128,8192,16400,1,65536,163840],[0,0,2,6,14,0,0,64,192,0,0,1024,4032,8160,16352,32766,65535,131071,262143]⟩
noncomputable abbrev zHK (k : Nat) := Rg Tryz.f117 k
noncomputable abbrev zOA (k : Nat) := Rd Tryz.f117 k
theorem zC2 : zf (rg Tryz.f117 7) zOO = true := kr
def zON : Tab := ⟨19,[0,0,2,4,8,0,0,64,128,0,0,1024,2816,4128,8192,20496,65535,131071,196607],[0,0,2,4,8,0,0,64,128,0,0,1024,2816,4128,8192,16400,1,65536,163840],[0,0,2,6,14,0,0,64,192,0,0,1024,4032,8160,16352,32766,65535,131071,262143]⟩
theorem zC1 : zf (rg Tryz.f117 5) zON = true := kr
theorem zIt (n : Nat) (x0 : Net) (x1 : Int) (r : Net) (H : Yp n x0 x1 = some r) : zD Tryz.prog 117 [.ptr (Net.row x0),.val false [.lit (.int .i64 x1)]] [] [(0,(Net.row r))] := by
 refine zD.of_body tOk Tryz.func117 rfl (c := (.seq (zHK 0) (.block 0 (.loop (.seq (zHK 1) (.seq (.cond (.tmp 12) .skip (.exit 0)) (.seq (.block 1 (.seq (zHK 2) (.seq (.seq (zHK 3) (.cond (.tmp 29) (.exit 1) .skip)) (.seq (zHK 4) (.cond (.tmp 33) (zOA 5) (.seq (zHK 6) (.cond (.tmp 55) (zOA 7) .skip))))))) (zHK 8)))))))) kr (Nat.le_of_ble_eq_true kr) 1 (rs := []) rfl [] .nil [] [] [(0,(Net.row r))] fun cx => ?_
 show Tr _ _ _ ⟨75,1,[sA 0 0 3 0,sI 1 x1],[(0,(Net.row x0))]⟩ _
 unfold Yp at H
 refine rA 4 ?_
 refine kO x0.Ls Link.row ?_
 refine uA 1 3587 1 ?_
 obtain ⟨o4,eo4,Ho4⟩ := bs H
 clear H
 refine Tr.mid (ι := (List Say)) (fun v => ⟨75,1,[sA 0 0 3 0],[(0,[cL 11 x0.Bs zA.row,cL 4 x0.Ls Link.row,cL 7 v Say.row])]⟩) (fun v => JB n x0 v = some r) ?_ ?_
 ·refine tB ?_
  refine Tr.loop (ι := Nat × (Int × (List Say))) (fun v => ⟨75,1,[sI 11 v.2.1,sI 10 (x0.Ls.length : Int),sR 9 0 3 1 1 false,sA 0 0 3 0,sI 1 x1],[(0,[cL 11 x0.Bs zA.row,cL 4 x0.Ls Link.row,cL 7 v.2.2 Say.row])]⟩) (fun v => qE n v.1 x0 x1 v.2.1 v.2.2 = some o4) (fun v => v.1) (n,(0,x0.Said)) eo4 (St.sub_of [11,10,9,0,1] [0] kr) ?_
  rintro ⟨mo4,y1,y2⟩ H
  have H : qE n mo4 x0 x1 y1 y2 = some o4 := H
  obtain _ | mo4 := mo4
  ·exact nN H
  rw [qE] at H
  refine gA 1 7683 1 ?_
  refine tS ?_
  obtain ⟨h1,H⟩ | ⟨h1,H⟩ := bC H
  ·refine nA h1 ?_
   refine Tr.exit ?_
   refine aJ ?_
   obtain rfl := si H
   have H := Ho4
   dsimp only at H
   exact jA y2 H [0] [0]
  refine tA h1 ?_
  refine tK ?_
  refine tS ?_
  refine tB ?_
  refine rA 1 ?_
  obtain ⟨v5,ev5,H⟩ := bs H
  refine oA Link.row ev5 ?_
  refine dE (tI 114) (.box 0) [(0,0),(1,(y1.toNat))] 4 0 [.sl true 3 [[cL 11 x0.Bs zA.row,cL 4 x0.Ls Link.row,cL 7 y2 Say.row]]] (Link.row v5) (zt rfl (zI ev5).2) ?_
  refine uA 3 3635 33 ?_
  refine tS ?_
  refine rA 4 ?_
  obtain ⟨r6,er6,H⟩ := bs H
  refine vB [.rd,.rd] [.box 0] (zEc n (⟨x0.Bs,x0.Ls,y2⟩ : Net) y1 r6 er6) (.inr (zk (zJ zM zz) zy)) ?_
  refine lA 2 ?_
  refine sL 4197939 33 ⟨75,1,[sB 22 (!r6),sI 4 y1,sA 5 5 4 0,sI 11 y1,sI 10 (x0.Ls.length : Int),sR 9 0 3 1 1 false,sA 0 0 3 0,sI 1 x1],[(5,(Link.row v5)),(0,[cL 11 x0.Bs zA.row,cL 4 x0.Ls Link.row,cL 7 y2 Say.row])]⟩ ?_
  cases h2 : (!r6)
  ·have H := zG h2 H
   refine lA 4 ?_
   refine kO y2 Say.row ?_
   refine uA 2 536874547 33 ?_
   obtain ⟨h3,H⟩ | ⟨h3,H⟩ := bC H
   ·refine nA h3 ?_
    refine tK ?_
    refine gA 4 8589938227 33 ?_
    obtain ⟨h4,H⟩ | ⟨h4,H⟩ := bC H
    ·refine nA h4 ?_
     refine gA 4 0x80000000000e33 33 ?_
     obtain ⟨h5,H⟩ | ⟨h5,H⟩ := bC H
     ·refine nA h5 ?_
      refine tK ?_
      refine eA 2 3587 1 ?_
      exact jB mo4 ((IntKind.wrap .i64 (y1 + 1)),y2) H [11,10,9,0,1] [0]
     refine tA h5 ?_
     obtain ⟨r7,er7,H⟩ := bs H
     obtain ⟨hg8,H⟩ := gs H
     refine Tr.draw mixed 19 kr ⟨75,1,[sI 11 y1,sI 10 (x0.Ls.length : Int),sA 0 0 3 0,sI 1 x1,sR 9 0 3 1 1 false],[(0,[cL 11 x0.Bs zA.row,cL 4 x0.Ls Link.row,cL 7 (y2 ++ [(⟨y1,true,r7⟩ : Say)]) Say.row])]⟩ (fun cx => ?_) ?_
     ·refine mA zC2 [(0,[]),(1,[]),(2,[]),(3,[]),(4,[15,18]),(5,[]),(6,[]),(7,[]),(8,[12,13,14,15,18]),(9,[]),(10,[]),(11,[12,13,14,15,18])] 7 [⟨[12,13,14,15,18],3,66,67⟩,⟨[12,13,14,15,18],67,63,64⟩,⟨[15,18],65,59,60⟩] fun cx => ?_
      refine mC zC2 12 ?_
      refine vB [.rd,.rd,.rd] [.box 0] (zJi n (⟨x0.Bs,x0.Ls,y2⟩ : Net) x1 v5.Q r7 er7) (.inr (zk (Vec.row_mine _) zy)) ?_
      refine fA ?_
      refine mC zC2 13 ?_
      refine lA 1 ?_
      refine fA ?_
      refine mC zC2 14 ?_
      refine lA 1 ?_
      refine fA ?_
      refine mC zC2 15 ?_
      refine LAt.grab 60 kr ?_
      refine LAt.appMU tOk (t := 65) (ty := 65) (e := 180) (x := (.tmp 60)) (y := (.tmp 70)) (d := 71) (g := none) (tI 180) Say.row y2 [(⟨y1,true,r7⟩ : Say)] kr kr kr kr kr kr kr kr kr kr hg8 ?_
      refine fA ?_
      refine mA zC2 [(16,[]),(17,[])] 1 [⟨[12,13,14,15,18],3,66,67⟩,⟨[12,13,14,15,18],67,63,64⟩,⟨[15,18],65,59,60⟩] fun cx => ?_
      refine mC zC2 18 ?_
      refine LAt.storeO tOk (t := 65) (ty := 0) (ad := (.tmp 73)) (x := (.tmp 71)) (g := none) (tI 65) false [cL 7 (y2 ++ [(⟨y1,true,r7⟩ : Say)]) Say.row] 0 2 [cL 11 x0.Bs zA.row,cL 4 x0.Ls Link.row,.dead] kr kr kr kr kr kr kr kr ?_
      refine fA ?_
      exact mE zC2 [11,10,0,1,9] [0]
     refine eA 2 3587 1 ?_
     exact jB mo4 ((IntKind.wrap .i64 (y1 + 1)),(y2 ++ [(⟨y1,true,r7⟩ : Say)])) H [11,10,9,0,1] [0]
    refine tA h4 ?_
    obtain ⟨r9,er9,H⟩ := bs H
    obtain ⟨hg10,H⟩ := gs H
    refine Tr.draw mixed 19 kr ⟨75,1,[sI 11 y1,sI 10 (x0.Ls.length : Int),sA 0 0 3 0,sI 1 x1,sR 9 0 3 1 1 false],[(0,[cL 11 x0.Bs zA.row,cL 4 x0.Ls Link.row,cL 7 (y2 ++ [(⟨y1,false,r9⟩ : Say)]) Say.row])]⟩ (fun cx => ?_) ?_
    ·refine mA zC1 [(0,[]),(1,[]),(2,[]),(3,[]),(4,[15,18]),(5,[]),(6,[]),(7,[]),(8,[12,13,14,15,18]),(9,[]),(10,[]),(11,[12,13,14,15,18])] 7 [⟨[12,13,14,15,18],3,44,45⟩,⟨[12,13,14,15,18],67,41,42⟩,⟨[15,18],65,37,38⟩] fun cx => ?_
     refine mC zC1 12 ?_
     refine vB [.rd,.rd,.rd] [.box 0] (zJi n (⟨x0.Bs,x0.Ls,y2⟩ : Net) x1 v5.P r9 er9) (.inr (zk (Vec.row_mine _) zy)) ?_
     refine fA ?_
     refine mC zC1 13 ?_
     refine lA 1 ?_
     refine fA ?_
     refine mC zC1 14 ?_
     refine lA 1 ?_
     refine fA ?_
     refine mC zC1 15 ?_
     refine LAt.grab 38 kr ?_
     refine LAt.appMU tOk (t := 65) (ty := 65) (e := 180) (x := (.tmp 38)) (y := (.tmp 48)) (d := 49) (g := none) (tI 180) Say.row y2 [(⟨y1,false,r9⟩ : Say)] kr kr kr kr kr kr kr kr kr kr hg10 ?_
     refine fA ?_
     refine mA zC1 [(16,[]),(17,[])] 1 [⟨[12,13,14,15,18],3,44,45⟩,⟨[12,13,14,15,18],67,41,42⟩,⟨[15,18],65,37,38⟩] fun cx => ?_
     refine mC zC1 18 ?_
     refine LAt.storeO tOk (t := 65) (ty := 0) (ad := (.tmp 51)) (x := (.tmp 49)) (g := none) (tI 65) false [cL 7 (y2 ++ [(⟨y1,false,r9⟩ : Say)]) Say.row] 0 2 [cL 11 x0.Bs zA.row,cL 4 x0.Ls Link.row,.dead] kr kr kr kr kr kr kr kr ?_
     refine fA ?_
     exact mE zC1 [11,10,0,1,9] [0]
    refine eA 2 3587 1 ?_
    exact jB mo4 ((IntKind.wrap .i64 (y1 + 1)),(y2 ++ [(⟨y1,false,r9⟩ : Say)])) H [11,10,9,0,1] [0]
   refine tA h3 ?_
   refine Tr.exit ?_
   refine aJ ?_
   refine eA 2 3587 1 ?_
   exact jB mo4 ((IntKind.wrap .i64 (y1 + 1)),y2) H [11,10,9,0,1] [0]
  have H := zH h2 H
  refine uA 7 536874547 33 ?_
  refine tB_ ?_
  refine Tr.exit ?_
  refine aJ ?_
  refine eA 2 3587 1 ?_
  exact jB mo4 ((IntKind.wrap .i64 (y1 + 1)),y2) H [11,10,9,0,1] [0]
 rintro y3 H
 have H : (JB n x0 y3) = some r := H
 unfold JB at H
 obtain rfl := si H
 exact Fin.ofY _ [] [] _ [] _ [(0,[cL 11 x0.Bs zA.row,cL 4 x0.Ls Link.row,cL 7 y3 Say.row])] kr rfl rfl rfl kr kr kr kr rfl rfl rfl
def zBB (n : Nat) (x0 : Int) : Option (Int) :=
  (some (if 1000000 < (IntKind.wrap .i64 (x0 + 1)) then 1000000 else (IntKind.wrap .i64 (x0 + 1))))
theorem zJh (n : Nat) (x0 : Int) (r : Int) (H : zBB n x0 = some r) : zD Tryz.prog 87 [.val false [.lit (.int .i64 x0)]] [.val false [.lit (.int .i64 r)]] [] := by
 refine cW Tryz.func87 (fun g d => sl [g 0,g 1] .ret) [.tmp 2] fun cx => ?_
 unfold zBB at H
 refine gA 1 1 0 ?_
 refine gA 4 4 0 ?_
 exact te (fJ [(false,[cI (if 1000000 < (IntKind.wrap .i64 (x0 + 1)) then 1000000 else (IntKind.wrap .i64 (x0 + 1)))])] H)
def zA7 (n : Nat) (y3 : (List zB)) : Option ((List zB)) :=
  (some y3)
def ZJ (n : Nat) : Nat → (List zB) → Int → (List zB) → Option (((List zB)) ⊕ ((List zB)))
  | 0,_,_,_ => none
  | mo4 + 1,x0,y1,y2 => (bif (decide (y1 < (x0.length : Int))) then ((idx x0 y1).bind fun v5 => (bif (!v5.Sc) then (bif (decide (v5.Age ≥ 4)) then (ZJ n mo4 x0 (IntKind.wrap .i64 (y1 + 1)) y2) else (bif (decide (y2.length + [(⟨v5.Tag,v5.Mac,v5.Port,(IntKind.wrap .i64 (v5.Age + 1)),v5.Sc⟩ : zB)].length ≤ 268435456)) then (ZJ n mo4 x0 (IntKind.wrap .i64 (y1 + 1)) (y2 ++ [(⟨v5.Tag,v5.Mac,v5.Port,(IntKind.wrap .i64 (v5.Age + 1)),v5.Sc⟩ : zB)])) else none)) else (bif (decide (y2.length + [v5].length ≤ 268435456)) then (ZJ n mo4 x0 (IntKind.wrap .i64 (y1 + 1)) (y2 ++ [v5])) else none))) else (some (Sum.inl y2)))
def zAk (n : Nat) (x0 : (List zB)) : Option ((List zB)) :=
  ((ZJ n n x0 0 ([] : List zB)).bind fun o => match o with | .inl y3 => (zA7 n y3) | .inr r => some r)
theorem zLF (n : Nat) (x0 : (List zB)) (r : (List zB)) (H : zAk n x0 = some r) : zD Tryz.prog 201 [.val false [.sl false 5 (CV.frzEs (x0.map zB.row))]] [.val false [.sl true 5 (r.map zB.row)]] [] := by
 refine cW Tryz.func201 (fun g d => sl [g 0,g 1,sl [g 2] (.block 0 (.loop (sl [g 3,cn 9 .skip (.exit 0),.block 1 (sl [g 4,sl [g 5] (cn 14 (sl [sl [g 6] (cn 17 (.exit 1) .skip)] (g 7)) .skip)] (g 8))] (g 9)))),g 10] .ret) [.tmp 2] fun cx => ?_
 unfold zAk at H
 refine gA 1 1 0 ?_
 refine gA 1 9 0 ?_
 refine tS ?_
 refine rA 1 ?_
 refine kF x0 zB.row ?_
 refine uA 1 456 0 ?_
 obtain ⟨o4,eo4,Ho4⟩ := bs H
 clear H
 refine Tr.mid (ι := (List zB)) (fun v => ⟨28,0,[sC 3 (cL 5 v zB.row)],[]⟩) (fun v => zA7 n v = some r) ?_ ?_
 ·refine tB ?_
  refine Tr.loop (ι := Nat × (Int × (List zB))) (fun v => ⟨28,0,[sI 8 v.2.1,sI 7 (x0.length : Int),sC 6 (cF 5 x0 zB.row),sC 3 (cL 5 v.2.2 zB.row)],[]⟩) (fun v => ZJ n v.1 x0 v.2.1 v.2.2 = some o4) (fun v => v.1) (n,(0,([] : List zB))) eo4 (St.sub_of [8,7,6,3] [] kr) ?_
  rintro ⟨mo4,y1,y2⟩ H
  have H : ZJ n mo4 x0 y1 y2 = some o4 := H
  obtain _ | mo4 := mo4
  ·exact nN H
  rw [ZJ] at H
  refine gA 1 968 0 ?_
  refine tS ?_
  obtain ⟨h1,H⟩ | ⟨h1,H⟩ := bC H
  ·refine nA h1 ?_
   refine Tr.exit ?_
   refine aJ ?_
   obtain rfl := si H
   have H := Ho4
   dsimp only at H
   exact jA y2 H [3] []
  refine tA h1 ?_
  refine tK ?_
  refine tS ?_
  refine tB ?_
  refine tR ?_
  obtain ⟨v5,ev5,H⟩ := bs H
  refine iA zB.row ev5 ?_
  refine uA 3 488 32 ?_
  refine tS ?_
  refine gA 3 16872 32 ?_
  obtain ⟨h2,H⟩ | ⟨h2,H⟩ := bC H
  ·refine nA h2 ?_
   refine tK ?_
   refine Tr.at ?_
   refine lA 3 ?_
   obtain ⟨hg6,H⟩ := gs H
   refine LAt.appMU tOk (t := 36) (ty := 36) (e := 169) (x := (.tmp 22)) (y := (.tmp 24)) (d := 25) (g := none) (tI 169) zB.row y2 [v5] kr kr kr kr kr kr kr kr kr kr hg6 ?_
   refine LAt.moveU (T := lk tab) (ty := 36) (x := (.tmp 25)) (d := 3) (g := none) false [cL 5 (y2 ++ [v5]) zB.row] kr kr kr kr kr ?_
   refine dA 456 0 ?_
   refine eA 2 456 0 ?_
   exact jB mo4 ((IntKind.wrap .i64 (y1 + 1)),(y2 ++ [v5])) H [8,7,6,3] []
  refine tA h2 ?_
  refine tS ?_
  refine gA 3 131560 32 ?_
  obtain ⟨h3,H⟩ | ⟨h3,H⟩ := bC H
  ·refine nA h3 ?_
   refine tK ?_
   refine eA 5 488 32 ?_
   refine Tr.at ?_
   refine lA 3 ?_
   obtain ⟨hg7,H⟩ := gs H
   refine LAt.appMU tOk (t := 36) (ty := 36) (e := 169) (x := (.tmp 22)) (y := (.tmp 24)) (d := 25) (g := none) (tI 169) zB.row y2 [(⟨v5.Tag,v5.Mac,v5.Port,(IntKind.wrap .i64 (v5.Age + 1)),v5.Sc⟩ : zB)] kr kr kr kr kr kr kr kr kr kr hg7 ?_
   refine LAt.moveU (T := lk tab) (ty := 36) (x := (.tmp 25)) (d := 3) (g := none) false [cL 5 (y2 ++ [(⟨v5.Tag,v5.Mac,v5.Port,(IntKind.wrap .i64 (v5.Age + 1)),v5.Sc⟩ : zB)]) zB.row] kr kr kr kr kr ?_
   refine dA 456 0 ?_
   refine eA 2 456 0 ?_
   exact jB mo4 ((IntKind.wrap .i64 (y1 + 1)),(y2 ++ [(⟨v5.Tag,v5.Mac,v5.Port,(IntKind.wrap .i64 (v5.Age + 1)),v5.Sc⟩ : zB)])) H [8,7,6,3] []
  refine tA h3 ?_
  refine Tr.exit ?_
  refine aJ ?_
  refine eA 2 456 0 ?_
  exact jB mo4 ((IntKind.wrap .i64 (y1 + 1)),y2) H [8,7,6,3] []
 rintro y3 H
 have H : (zA7 n y3) = some r := H
 unfold zA7 at H
 refine gA 2 12 0 ?_
 exact te (fJ [(false,[cL 5 y3 zB.row])] H)
def zAl (n : Nat) (x0 : Int) (x1 : (List Pt)) (x2 : Int) : Option (Int) :=
  ((zw n x2 0 (IntKind.wrap .i64 ((x1.length : Int) - 1))).bind fun r1 => (bif (!r1) then (some 4) else ((idx x1 x2).bind fun v2 => (bif (!v2.Up) then (some 4) else ((Yb n x0 x1).bind fun r3 => (bif (r3.2 == x2) then (some 1) else ((idx x1 x2).bind fun v4 => (bif (!v4.Has) then (some 2) else ((JR n x0 x1 x2).bind fun r5 => ((idx x1 x2).bind fun v6 => ((J2 n r5 v6.Hd).bind fun r7 => (bif r7 then (some 2) else (some 3)))))))))))))
def zOU : Tab := ⟨19,[0,0,3,4,8,16,32,64,64,64,960,64,64,6208,8256,16448,33856,65600,196608],[0,0,3,4,8,16,32,64,64,64,960,64,64,6208,8256,16448,33856,65600,131072],[0,0,3,7,15,31,63,127,127,127,1023,127,127,6271,14463,30847,65535,131071,262143]⟩
theorem YI : zf (rg Tryz.f143 6) zOU = true := kr
theorem zLG (n : Nat) (x0 : Int) (x1 : (List Pt)) (x2 : Int) (r : Int) (H : zAl n x0 x1 x2 = some r) : zD Tryz.prog 143 [.val false [.lit (.int .i64 x0)],.val false [.sl false 8 (CV.frzEs (x1.map Pt.row))],.val false [.lit (.int .i64 x2)]] [.val false [.lit (.int .i64 r)]] [] := by
 refine cW Tryz.func143 (fun g d => sl [g 0,sl [g 1] (cn 22 (sl [g 2] .ret) .skip),g 3,.block 0 (sl [g 4] (cn 29 (sl [g 5] .ret) (sl [d 6] (cn 33 (sl [g 7] .ret) .skip)))),g 8] .ret) [.tmp 6] fun cx => ?_
 unfold zAl at H
 refine gA 1 7 0 ?_
 refine tS ?_
 refine rA 2 ?_
 refine kF x1 Pt.row ?_
 refine lA 1 ?_
 obtain ⟨r1,er1,H⟩ := bs H
 refine vA [.rd,.rd,.rd] (z3 n x2 0 (IntKind.wrap .i64 ((x1.length : Int) - 1)) r1 er1) ?_
 refine lA 2 ?_
 refine sL 32775 0 ⟨52,0,[sB 15 (!r1),sI 0 x0,sC 1 (cF 8 x1 Pt.row),sI 2 x2],[]⟩ ?_
 cases h1 : (!r1)
 ·have H := zG h1 H
  refine lA 2 ?_
  obtain ⟨v2,ev2,H⟩ := bs H
  refine iA Pt.row ev2 ?_
  refine uA 4 4194311 0 ?_
  obtain ⟨h2,H⟩ | ⟨h2,H⟩ := bC H
  ·refine nA h2 ?_
   refine tK ?_
   refine rA 2 ?_
   obtain ⟨r3,er3,H⟩ := bs H
   refine vA [.rd,.rd] (zFo n x0 x1 r3 er3) ?_
   refine LAt.movT tOk (ty := 233) (t := 26) (d := 23) (g := none) [(true,(Vec.row r3.1)),(false,[cI r3.2])] _ kr (.inl rfl) kr kr kr kr rfl ?_
   refine uA 5 263 0 ?_
   refine tS ?_
   refine tB ?_
   refine gA 4 536870919 0 ?_
   obtain ⟨h3,H⟩ | ⟨h3,H⟩ := bC H
   ·refine nA h3 ?_
    obtain ⟨v4,ev4,H⟩ := bs H
    refine sT ⟨52,0,[sB 29 (r3.2 == x2),sI 0 x0,sC 1 (cF 8 x1 Pt.row),sI 2 x2],[]⟩ ?_
    cases h4 : (!v4.Has)
    ·have H := zG h4 H
     obtain ⟨r5,er5,H⟩ := bs H
     obtain ⟨v6,ev6,H⟩ := bs H
     obtain ⟨r7,er7,H⟩ := bs H
     refine Tr.draws mixed 19 kr ⟨52,0,[sB 33 r7],[]⟩ (fun cx => ?_) ?_
     ·refine mA YI [(0,[]),(1,[])] 17 [] fun cx => ?_
      refine iN YI 2 Pt.row ev4 fun cx => ?_
      refine mA YI [(3,[]),(4,[]),(5,[]),(6,[])] 12 [] fun cx => ?_
      refine sA_ 1099511627783 0 ⟨52,0,[sB 40 (!v4.Has),sI 0 x0,sC 1 (cF 8 x1 Pt.row),sI 2 x2],[]⟩ ?_
      rw [h4]
      refine mA YI [(7,[]),(8,[]),(9,[]),(11,[]),(12,[])] 7 [] fun cx => ?_
      refine iN YI 13 Pt.row ev6 fun cx => ?_
      refine mA YI [(14,[]),(15,[])] 4 [] fun cx => ?_
      refine mC YI 10 ?_
      refine vA [.rd,.rd,.rd] (zG6 n x0 x1 x2 r5 er5) ?_
      refine fA ?_
      refine mC YI 16 ?_
      refine vA [.rd,.rd] (zFq n r5 v6.Hd r7 er7) ?_
      refine fA ?_
      refine mA YI [(17,[]),(18,[])] 0 [] fun cx => ?_
      exact mE YI [33] []
     cases h5 : r7
     ·have H := zG h5 H
      refine nB_ ?_
      refine tK ?_
      refine gA 1 64 0 ?_
      exact te (fJ [(false,[cI 3])] H)
     have H := zH h5 H
     refine tB_ ?_
     refine gA 1 64 0 ?_
     exact te (fJ [(false,[cI 2])] H)
    have H := zH h4 H
    refine Tr.draws mixed 19 kr ⟨52,0,[sB 33 true],[]⟩ (fun cx => ?_) ?_
    ·refine mA YI [(0,[]),(1,[])] 17 [] fun cx => ?_
     refine iN YI 2 Pt.row ev4 fun cx => ?_
     refine mA YI [(3,[]),(4,[]),(5,[]),(6,[])] 12 [] fun cx => ?_
     refine sA_ 1099511627783 0 ⟨52,0,[sB 40 (!v4.Has),sI 0 x0,sC 1 (cF 8 x1 Pt.row),sI 2 x2],[]⟩ ?_
     rw [h4]
     refine mA YI [(7,[]),(8,[]),(9,[]),(10,[]),(11,[]),(12,[]),(13,[]),(14,[]),(15,[]),(16,[]),(17,[]),(18,[])] 0 [] fun cx => ?_
     exact mE YI [33] []
    refine tB_ ?_
    refine gA 1 64 0 ?_
    exact te (fJ [(false,[cI 2])] H)
   refine tA h3 ?_
   refine gA 1 64 0 ?_
   exact te (fJ [(false,[cI 1])] H)
  refine tA h2 ?_
  refine gA 1 64 0 ?_
  exact te (fJ [(false,[cI 4])] H)
 have H := zH h1 H
 refine uA 7 4194311 0 ?_
 refine tB_ ?_
 refine gA 1 64 0 ?_
 exact te (fJ [(false,[cI 4])] H)
def zBk (n : Nat) (y3 : Int) : Option (Int) :=
  (some y3)
def ZX (n : Nat) : Nat → Int → (List Pt) → Int → Int → Option ((Int) ⊕ (Int))
  | 0,_,_,_,_ => none
  | mo4 + 1,x0,x1,y1,y2 => (bif (decide (y1 < (x1.length : Int))) then (bif (decide (y1 < 6)) then ((zAl n x0 x1 y1).bind fun r5 => (bif (r5 == 1) then (bif (decide ((0 : Int) ≤ y1)) then (ZX n mo4 x0 x1 (IntKind.wrap .i64 (y1 + 1)) (IntKind.wrap .i64 (BitVec.ofInt (IntKind.bits .i64) y2 ||| BitVec.ofInt (IntKind.bits .i64) (IntKind.wrap .i64 (1 * 2 ^ min ((y1 : Int)).toNat (IntKind.bits .i64)))).toNat)) else none) else (bif (r5 == 2) then (bif (decide ((0 : Int) ≤ y1)) then (ZX n mo4 x0 x1 (IntKind.wrap .i64 (y1 + 1)) (IntKind.wrap .i64 (BitVec.ofInt (IntKind.bits .i64) y2 ||| BitVec.ofInt (IntKind.bits .i64) (IntKind.wrap .i64 (1 * 2 ^ min ((y1 : Int)).toNat (IntKind.bits .i64)))).toNat)) else none) else (ZX n mo4 x0 x1 (IntKind.wrap .i64 (y1 + 1)) y2)))) else (some (Sum.inl y2))) else (some (Sum.inl y2)))
def zBV (n : Nat) (x0 : Int) (x1 : (List Pt)) : Option (Int) :=
  ((ZX n n x0 x1 0 0).bind fun o => match o with | .inl y3 => (zBk n y3) | .inr r => some r)
theorem zMJ (n : Nat) (x0 : Int) (x1 : (List Pt)) (r : Int) (H : zBV n x0 x1 = some r) : zD Tryz.prog 43 [.val false [.lit (.int .i64 x0)],.val false [.sl false 8 (CV.frzEs (x1.map Pt.row))]] [.val false [.lit (.int .i64 r)]] [] := by
 refine cW Tryz.func43 (fun g d => sl [g 0,g 1,sl [g 2] (.block 0 (.loop (sl [sl [g 3] (cn 15 .skip (.exit 0)),.block 1 (sl [g 5,g 6] (cn 27 (g 7) .skip))] (g 4)))),g 8] .ret) [.tmp 4] fun cx => ?_
 unfold zBV at H
 refine gA 1 3 0 ?_
 refine gA 1 35 0 ?_
 refine tS ?_
 refine gA 1 99 0 ?_
 obtain ⟨o4,eo4,Ho4⟩ := bs H
 clear H
 refine Tr.mid (ι := Int) (fun v => ⟨33,0,[sI 5 v],[]⟩) (fun v => zBk n v = some r) ?_ ?_
 ·refine tB ?_
  refine Tr.loop (ι := Nat × (Int × Int)) (fun v => ⟨33,0,[sI 6 v.2.1,sI 5 v.2.2,sI 0 x0,sC 1 (cF 8 x1 Pt.row)],[]⟩) (fun v => ZX n v.1 x0 x1 v.2.1 v.2.2 = some o4) (fun v => v.1) (n,(0,0)) eo4 (St.sub_of [6,5,0,1] [] kr) ?_
  rintro ⟨mo4,y1,y2⟩ H
  have H : ZX n mo4 x0 x1 y1 y2 = some o4 := H
  obtain _ | mo4 := mo4
  ·exact nN H
  rw [ZX] at H
  refine tS ?_
  refine rA 2 ?_
  refine kF x1 Pt.row ?_
  refine lA 2 ?_
  refine sL 4195 0 ⟨33,0,[sB 12 (decide (y1 < (x1.length : Int))),sI 6 y1,sI 5 y2,sI 0 x0,sC 1 (cF 8 x1 Pt.row)],[]⟩ ?_
  cases h1 : (decide (y1 < (x1.length : Int)))
  ·have H := zG h1 H
   refine uA 3 32867 0 ?_
   refine nB_ ?_
   refine Tr.exit ?_
   refine aJ ?_
   obtain rfl := si H
   have H := Ho4
   dsimp only at H
   exact jA y2 H [5] []
  have H := zH h1 H
  refine uA 3 32867 0 ?_
  obtain ⟨h2,H⟩ | ⟨h2,H⟩ := bC H
  ·refine nA h2 ?_
   refine Tr.exit ?_
   refine aJ ?_
   obtain rfl := si H
   have H := Ho4
   dsimp only at H
   exact jA y2 H [5] []
  refine tA h2 ?_
  refine tK ?_
  refine tS ?_
  refine tB ?_
  refine rA 3 ?_
  obtain ⟨r5,er5,H⟩ := bs H
  refine vA [.rd,.rd,.rd] (zLG n x0 x1 y1 r5 er5) ?_
  refine uA 1 227 0 ?_
  refine rA 3 ?_
  refine sL 16777443 0 ⟨33,0,[sB 24 (r5 == 1),sI 7 r5,sI 6 y1,sI 5 y2,sI 0 x0,sC 1 (cF 8 x1 Pt.row)],[]⟩ ?_
  cases h3 : (r5 == 1)
  ·have H := zG h3 H
   refine uA 3 134217827 0 ?_
   obtain ⟨h4,H⟩ | ⟨h4,H⟩ := bC H
   ·refine nA h4 ?_
    refine tK ?_
    refine eA 3 99 0 ?_
    exact jB mo4 ((IntKind.wrap .i64 (y1 + 1)),y2) H [6,5,0,1] []
   refine tA h4 ?_
   refine Tr.at ?_
   refine lA 2 ?_
   obtain ⟨hg6,H⟩ := gs H
   refine LAt.binC tOk (op := .shl) (t := 3) (ty := 3) (ty' := 3) (x := (.const (.int .i64 1))) (y := (.tmp 29)) (d := 30) (g := none) (.int .i64 1) (.int .i64 y1) (.int .i64 (IntKind.wrap .i64 (1 * 2 ^ min ((y1 : Int)).toNat (IntKind.bits .i64)))) _ kr kr kr kr kr (φ := (0 : Int) ≤ y1) kr (of_decide_eq_true hg6) rfl ?_
   refine uA 2 99 0 ?_
   refine eA 3 99 0 ?_
   exact jB mo4 ((IntKind.wrap .i64 (y1 + 1)),(IntKind.wrap .i64 (BitVec.ofInt (IntKind.bits .i64) y2 ||| BitVec.ofInt (IntKind.bits .i64) (IntKind.wrap .i64 (1 * 2 ^ min ((y1 : Int)).toNat (IntKind.bits .i64)))).toNat)) H [6,5,0,1] []
  have H := zH h3 H
  refine uA 3 134217827 0 ?_
  refine tB_ ?_
  refine Tr.at ?_
  refine lA 2 ?_
  obtain ⟨hg7,H⟩ := gs H
  refine LAt.binC tOk (op := .shl) (t := 3) (ty := 3) (ty' := 3) (x := (.const (.int .i64 1))) (y := (.tmp 29)) (d := 30) (g := none) (.int .i64 1) (.int .i64 y1) (.int .i64 (IntKind.wrap .i64 (1 * 2 ^ min ((y1 : Int)).toNat (IntKind.bits .i64)))) _ kr kr kr kr kr (φ := (0 : Int) ≤ y1) kr (of_decide_eq_true hg7) rfl ?_
  refine uA 2 99 0 ?_
  refine eA 3 99 0 ?_
  exact jB mo4 ((IntKind.wrap .i64 (y1 + 1)),(IntKind.wrap .i64 (BitVec.ofInt (IntKind.bits .i64) y2 ||| BitVec.ofInt (IntKind.bits .i64) (IntKind.wrap .i64 (1 * 2 ^ min ((y1 : Int)).toNat (IntKind.bits .i64)))).toNat)) H [6,5,0,1] []
 rintro y3 H
 have H : (zBk n y3) = some r := H
 unfold zBk at H
 refine gA 2 16 0 ?_
 exact te (fJ [(false,[cI y3])] H)
def J6 (n : Nat) (x0 : Int) (x1 : Int) : Option (Bool) :=
  ((zw n x1 0 62).bind fun r1 => (bif r1 then (bif (decide ((0 : Int) ≤ x1)) then (some ((IntKind.wrap .i64 (BitVec.ofInt (IntKind.bits .i64) (Int.fdiv x0 (2 ^ min ((x1 : Int)).toNat (IntKind.bits .i64))) &&& BitVec.ofInt (IntKind.bits .i64) 1).toNat) == 1)) else none) else (some false)))
theorem zKa (n : Nat) (x0 : Int) (x1 : Int) (r : Bool) (H : J6 n x0 x1 = some r) : zD Tryz.prog 86 [.val false [.lit (.int .i64 x0)],.val false [.lit (.int .i64 x1)]] [.val false [.lit (.bool r)]] [] := by
 refine cW Tryz.func86 (fun g d => sl [g 0,g 1] .ret) [.tmp 4] fun cx => ?_
 unfold J6 at H
 refine gA 1 3 0 ?_
 refine rA 1 ?_
 obtain ⟨r1,er1,H⟩ := bs H
 refine vA [.rd,.rd,.rd] (z3 n x1 0 62 r1 er1) ?_
 refine lA 1 ?_
 refine sL 131 0 ⟨14,0,[sB 7 r1,sI 0 x0,sI 1 x1],[]⟩ ?_
 cases h1 : r1
 ·have H := zG h1 H
  refine uA 7 16 0 ?_
  exact te (fF H)
 have H := zH h1 H
 refine lA 2 ?_
 obtain ⟨hg2,H⟩ := gs H
 refine LAt.binC tOk (op := .shr) (t := 3) (ty := 3) (ty' := 3) (x := (.tmp 8)) (y := (.tmp 9)) (d := 10) (g := (some (2,true))) (.int .i64 x0) (.int .i64 x1) (.int .i64 (Int.fdiv x0 (2 ^ min ((x1 : Int)).toNat (IntKind.bits .i64)))) _ kr kr kr kr kr (φ := (0 : Int) ≤ x1) kr (of_decide_eq_true hg2) rfl ?_
 refine uA 4 16 0 ?_
 exact te (fJ [(false,[cB ((IntKind.wrap .i64 (BitVec.ofInt (IntKind.bits .i64) (Int.fdiv x0 (2 ^ min ((x1 : Int)).toNat (IntKind.bits .i64))) &&& BitVec.ofInt (IntKind.bits .i64) 1).toNat) == 1)])] H)
def Qx (n : Nat) (y3 : (List zB)) : Option ((List zB)) :=
  (some y3)
def qN (n : Nat) : Nat → (List zB) → Int → Int → (List zB) → Option (((List zB)) ⊕ ((List zB)))
  | 0,_,_,_,_ => none
  | mo4 + 1,x0,x1,y1,y2 => (bif (decide (y1 < (x0.length : Int))) then ((idx x0 y1).bind fun v5 => (bif v5.Sc then (bif (decide (y2.length + [v5].length ≤ 268435456)) then (qN n mo4 x0 x1 (IntKind.wrap .i64 (y1 + 1)) (y2 ++ [v5])) else none) else (bif (v5.Port != x1) then (bif (decide (y2.length + [v5].length ≤ 268435456)) then (qN n mo4 x0 x1 (IntKind.wrap .i64 (y1 + 1)) (y2 ++ [v5])) else none) else (qN n mo4 x0 x1 (IntKind.wrap .i64 (y1 + 1)) y2)))) else (some (Sum.inl y2)))
def Yo (n : Nat) (x0 : (List zB)) (x1 : Int) : Option ((List zB)) :=
  ((qN n n x0 x1 0 ([] : List zB)).bind fun o => match o with | .inl y3 => (Qx n y3) | .inr r => some r)
theorem zIs (n : Nat) (x0 : (List zB)) (x1 : Int) (r : (List zB)) (H : Yo n x0 x1 = some r) : zD Tryz.prog 241 [.val false [.sl false 5 (CV.frzEs (x0.map zB.row))],.val false [.lit (.int .i64 x1)]] [.val false [.sl true 5 (r.map zB.row)]] [] := by
 refine cW Tryz.func241 (fun g d => sl [g 0,g 1,sl [g 2] (.block 0 (.loop (sl [g 3,cn 11 .skip (.exit 0),.block 1 (sl [g 4,g 5] (cn 21 (g 6) .skip))] (g 7)))),g 8] .ret) [.tmp 4] fun cx => ?_
 unfold Yo at H
 refine gA 1 3 0 ?_
 refine gA 1 35 0 ?_
 refine tS ?_
 refine rA 1 ?_
 refine kF x0 zB.row ?_
 refine uA 1 1826 0 ?_
 obtain ⟨o4,eo4,Ho4⟩ := bs H
 clear H
 refine Tr.mid (ι := (List zB)) (fun v => ⟨28,0,[sC 5 (cL 5 v zB.row)],[]⟩) (fun v => Qx n v = some r) ?_ ?_
 ·refine tB ?_
  refine Tr.loop (ι := Nat × (Int × (List zB))) (fun v => ⟨28,0,[sI 10 v.2.1,sI 9 (x0.length : Int),sC 8 (cF 5 x0 zB.row),sC 5 (cL 5 v.2.2 zB.row),sI 1 x1],[]⟩) (fun v => qN n v.1 x0 x1 v.2.1 v.2.2 = some o4) (fun v => v.1) (n,(0,([] : List zB))) eo4 (St.sub_of [10,9,8,5,1] [] kr) ?_
  rintro ⟨mo4,y1,y2⟩ H
  have H : qN n mo4 x0 x1 y1 y2 = some o4 := H
  obtain _ | mo4 := mo4
  ·exact nN H
  rw [qN] at H
  refine gA 1 3874 0 ?_
  refine tS ?_
  obtain ⟨h1,H⟩ | ⟨h1,H⟩ := bC H
  ·refine nA h1 ?_
   refine Tr.exit ?_
   refine aJ ?_
   obtain rfl := si H
   have H := Ho4
   dsimp only at H
   exact jA y2 H [5] []
  refine tA h1 ?_
  refine tK ?_
  refine tS ?_
  refine tB ?_
  refine tR ?_
  obtain ⟨v5,ev5,H⟩ := bs H
  refine iA zB.row ev5 ?_
  refine uA 3 1954 128 ?_
  refine tS ?_
  refine Tr.at ?_
  refine lA 3 ?_
  refine sL 67490 128 ⟨28,0,[sB 16 v5.Sc,sA 7 7 5 0,sI 10 y1,sI 9 (x0.length : Int),sC 8 (cF 5 x0 zB.row),sC 5 (cL 5 y2 zB.row),sI 1 x1],[(7,(zB.row v5))]⟩ ?_
  cases h2 : v5.Sc
  ·have H := zG h2 H
   refine uA 5 2099106 128 ?_
   obtain ⟨h3,H⟩ | ⟨h3,H⟩ := bC H
   ·refine nA h3 ?_
    refine tK ?_
    refine eA 2 1826 0 ?_
    exact jB mo4 ((IntKind.wrap .i64 (y1 + 1)),y2) H [10,9,8,5,1] []
   refine tA h3 ?_
   refine Tr.at ?_
   refine lA 3 ?_
   obtain ⟨hg6,H⟩ := gs H
   refine LAt.appMU tOk (t := 36) (ty := 36) (e := 169) (x := (.tmp 22)) (y := (.tmp 24)) (d := 25) (g := none) (tI 169) zB.row y2 [v5] kr kr kr kr kr kr kr kr kr kr hg6 ?_
   refine LAt.moveU (T := lk tab) (ty := 36) (x := (.tmp 25)) (d := 5) (g := none) false [cL 5 (y2 ++ [v5]) zB.row] kr kr kr kr kr ?_
   refine dA 1826 0 ?_
   refine eA 2 1826 0 ?_
   exact jB mo4 ((IntKind.wrap .i64 (y1 + 1)),(y2 ++ [v5])) H [10,9,8,5,1] []
  have H := zH h2 H
  refine uA 5 2099106 128 ?_
  refine tB_ ?_
  refine Tr.at ?_
  refine lA 3 ?_
  obtain ⟨hg7,H⟩ := gs H
  refine LAt.appMU tOk (t := 36) (ty := 36) (e := 169) (x := (.tmp 22)) (y := (.tmp 24)) (d := 25) (g := none) (tI 169) zB.row y2 [v5] kr kr kr kr kr kr kr kr kr kr hg7 ?_
  refine LAt.moveU (T := lk tab) (ty := 36) (x := (.tmp 25)) (d := 5) (g := none) false [cL 5 (y2 ++ [v5]) zB.row] kr kr kr kr kr ?_
  refine dA 1826 0 ?_
  refine eA 2 1826 0 ?_
  exact jB mo4 ((IntKind.wrap .i64 (y1 + 1)),(y2 ++ [v5])) H [10,9,8,5,1] []
 rintro y3 H
 have H : (Qx n y3) = some r := H
 unfold Qx at H
 refine gA 2 48 0 ?_
 exact te (fJ [(false,[cL 5 y3 zB.row])] H)
def YV (n : Nat) (r1 : Int) (x0 : zA) (y5 : (List zB)) : Option (zA) :=
  (some (⟨x0.Id,x0.Name,x0.Ps,y5,x0.V,x0.Tk,x0.Pa,x0.Wo,x0.Dr,r1⟩ : zA))
def qa (n : Nat) : Nat → Int → zA → Int → (List zB) → Option (((List zB)) ⊕ (zA))
  | 0,_,_,_,_ => none
  | mo6 + 1,r2,x0,y3,y4 => (bif (decide (y3 < (x0.Ps.length : Int))) then ((J6 n r2 y3).bind fun r7 => (bif (!r7) then ((Yo n y4 y3).bind fun r8 => (qa n mo6 r2 x0 (IntKind.wrap .i64 (y3 + 1)) r8)) else (qa n mo6 r2 x0 (IntKind.wrap .i64 (y3 + 1)) y4))) else (some (Sum.inl y4)))
def qr (n : Nat) (x0 : zA) : Option (zA) :=
  ((zBB n x0.Ve).bind fun r1 => ((zBV n x0.Id x0.Ps).bind fun r2 => ((qa n n r2 x0 0 x0.F).bind fun o => match o with | .inl y5 => (YV n r1 x0 y5) | .inr r => some r)))
noncomputable abbrev zHM (k : Nat) := Rg Tryz.f202 k
noncomputable abbrev D202 (k : Nat) := Rd Tryz.f202 k
theorem zB3 (n : Nat) (x0 : zA) (r : zA) (H : qr n x0 = some r) : zD Tryz.prog 202 [.ptr (zA.row x0)] [] [(0,(zA.row r))] := by
 refine zD.of_body tOk Tryz.func202 rfl (c := (.seq (zHM 0) (.seq (D202 1) (.seq (zHM 2) (.block 0 (.loop (.seq (zHM 3) (.seq (.cond (.tmp 27) .skip (.exit 0)) (.seq (.block 1 (.seq (zHM 4) (.seq (zHM 5) (.cond (.tmp 32) (zHM 6) .skip)))) (zHM 7)))))))))) kr (Nat.le_of_ble_eq_true kr) 1 (rs := []) rfl [] .nil [] [] [(0,(zA.row r))] fun cx => ?_
 show Tr _ _ _ ⟨43,1,[sA 0 0 11 0],[(0,(zA.row x0))]⟩ _
 unfold qr at H
 refine rA 5 ?_
 obtain ⟨r1,er1,H⟩ := bs H
 refine vA [.rd] (zJh n x0.Ve r1 er1) ?_
 refine uA 3 1 1 ?_
 obtain ⟨r2,er2,H⟩ := bs H
 refine Tr.draws mixed 10 kr ⟨43,1,[sI 2 r2,sA 0 0 11 0],[(0,[cI x0.Id,cS x0.Name,cL 8 x0.Ps Pt.row,cL 5 x0.F zB.row,cL 3 x0.V.Rows zC.row,cL 1 x0.V.Pv intRow,cI x0.Tk,cI x0.Pa,cI x0.Wo,cI x0.Dr,cI r1])]⟩ (fun cx => ?_) ?_
 ·refine aA [(0,[]),(1,[]),(2,[]),(3,[8]),(4,[]),(5,[]),(6,[]),(7,[8])] 2 [⟨[8],35,18,19⟩,⟨[8],3,14,15⟩] fun cx => ?_
  refine bA 8 ?_
  refine vB [.rd,.rd] [.box 0] (zMJ n x0.Id x0.Ps r2 er2) (.inr (zk (zJ zM zz) zy)) ?_
  refine fA ?_
  refine aA [(9,[])] 0 [⟨[8],35,18,19⟩,⟨[8],3,14,15⟩] fun cx => ?_
  exact eE [2,0] [0]
 refine rA 4 ?_
 refine kO x0.Ps Pt.row ?_
 refine uA 1 100663301 1 ?_
 obtain ⟨o6,eo6,Ho6⟩ := bs H
 clear H
 refine Tr.mid (ι := (List zB)) (fun v => ⟨43,1,[sA 0 0 11 0],[(0,[cI x0.Id,cS x0.Name,cL 8 x0.Ps Pt.row,cL 5 v zB.row,cL 3 x0.V.Rows zC.row,cL 1 x0.V.Pv intRow,cI x0.Tk,cI x0.Pa,cI x0.Wo,cI x0.Dr,cI r1])]⟩) (fun v => YV n r1 x0 v = some r) ?_ ?_
 ·refine tB ?_
  refine Tr.loop (ι := Nat × (Int × (List zB))) (fun v => ⟨43,1,[sI 26 v.2.1,sI 25 (x0.Ps.length : Int),sI 2 r2,sA 0 0 11 0],[(0,[cI x0.Id,cS x0.Name,cL 8 x0.Ps Pt.row,cL 5 v.2.2 zB.row,cL 3 x0.V.Rows zC.row,cL 1 x0.V.Pv intRow,cI x0.Tk,cI x0.Pa,cI x0.Wo,cI x0.Dr,cI r1])]⟩) (fun v => qa n v.1 r2 x0 v.2.1 v.2.2 = some o6) (fun v => v.1) (n,(0,x0.F)) eo6 (St.sub_of [26,25,2,0] [0] kr) ?_
  rintro ⟨mo6,y3,y4⟩ H
  have H : qa n mo6 r2 x0 y3 y4 = some o6 := H
  obtain _ | mo6 := mo6
  ·exact nN H
  rw [qa] at H
  refine gA 1 234881029 1 ?_
  refine tS ?_
  obtain ⟨h1,H⟩ | ⟨h1,H⟩ := bC H
  ·refine nA h1 ?_
   refine Tr.exit ?_
   refine aJ ?_
   obtain rfl := si H
   have H := Ho6
   dsimp only at H
   exact jA y4 H [0] [0]
  refine tA h1 ?_
  refine tK ?_
  refine tS ?_
  refine tB ?_
  refine gA 2 100663309 1 ?_
  refine rA 2 ?_
  obtain ⟨r7,er7,H⟩ := bs H
  refine vA [.rd,.rd] (zKa n r2 y3 r7 er7) ?_
  refine uA 1 4395630605 1 ?_
  obtain ⟨h2,H⟩ | ⟨h2,H⟩ := bC H
  ·refine nA h2 ?_
   refine tK ?_
   refine eA 2 100663301 1 ?_
   exact jB mo6 ((IntKind.wrap .i64 (y3 + 1)),y4) H [26,25,2,0] [0]
  refine tA h2 ?_
  refine Tr.at ?_
  refine lA 6 ?_
  obtain ⟨r8,er8,H⟩ := bs H
  refine vB [.rd,.rd] [.box 0] (zIs n y4 y3 r8 er8) (.inr (zk (zJ (Jd (Qv zB.row_mine _)) zz) zy)) ?_
  refine uA 3 100663301 1 ?_
  refine eA 2 100663301 1 ?_
  exact jB mo6 ((IntKind.wrap .i64 (y3 + 1)),r8) H [26,25,2,0] [0]
 rintro y5 H
 have H : (YV n r1 x0 y5) = some r := H
 unfold YV at H
 obtain rfl := si H
 exact Fin.ofY _ [] [] _ [] _ [(0,[cI x0.Id,cS x0.Name,cL 8 x0.Ps Pt.row,cL 5 y5 zB.row,cL 3 x0.V.Rows zC.row,cL 1 x0.V.Pv intRow,cI x0.Tk,cI x0.Pa,cI x0.Wo,cI x0.Dr,cI r1])] kr rfl rfl rfl kr kr kr kr rfl rfl rfl
def zA8 (n : Nat) (x0 : zA) : Option (zA) :=
  ((q7 n x0).bind fun r1 => ((QF n x0).bind fun r2 => (bif r2 then ((zBB n x0.Tk).bind fun r3 => ((zAk n x0.F).bind fun r4 => ((qr n (⟨r1.Id,r1.Name,r1.Ps,r4,r1.V,r3,r1.Pa,r1.Wo,r1.Dr,r1.Ve⟩ : zA)).bind fun r5 => (some r5)))) else (some r1))))
theorem zMx (n : Nat) (x0 : zA) (r : zA) (H : zA8 n x0 = some r) : zD Tryz.prog 118 [.val true (CV.frzRow (zA.row x0))] [.val true (zA.row r)] [] := by
 refine cW Tryz.func118 (fun g d => sl [g 0,g 1,sl [g 2] (cn 7 (sl [g 3,g 4] (g 5)) .skip),g 6] .ret) [.cell 2 41] fun cx => ?_
 unfold zA8 at H
 refine gA 2 6 6 ?_
 refine rA 1 ?_
 obtain ⟨r1,er1,H⟩ := bs H
 refine vA [.rd] (zAS n x0 r1 er1) ?_
 refine uA 2 14 14 ?_
 refine tS ?_
 refine rA 1 ?_
 obtain ⟨r2,er2,H⟩ := bs H
 refine vA [.rd] (zDT n x0 r2 er2) ?_
 refine dA 142 14 ?_
 cases h1 : r2
 ·have H := zG h1 H
  refine nB_ ?_
  refine tK ?_
  refine gA 2 4 4 ?_
  exact te (fJ [(true,(zA.row r1))] H)
 have H := zH h1 H
 refine tB_ ?_
 refine rA 2 ?_
 obtain ⟨r3,er3,H⟩ := bs H
 refine vA [.rd] (zJh n x0.Tk r3 er3) ?_
 refine uA 2 14 14 ?_
 refine rA 2 ?_
 obtain ⟨r4,er4,H⟩ := bs H
 refine vA [.rd] (zLF n x0.F r4 er4) ?_
 refine uA 2 12 12 ?_
 refine Tr.at ?_
 obtain ⟨r5,er5,H⟩ := bs H
 refine LAt.callL tOk [.lend] (f := 202) (av := #[.tmp 3]) (ats := #[41]) (d := (some 16)) (ty := 0) (g := none) kr kr kr [] (zB3 n (⟨r1.Id,r1.Name,r1.Ps,r4,r1.V,r3,r1.Pa,r1.Wo,r1.Dr,r1.Ve⟩ : zA) r5 er5) kr (.inl rfl) ?_
 refine dA 12 12 ?_
 refine gA 2 4 4 ?_
 exact te (fJ [(true,(zA.row r5))] H)
def JU (n : Nat) (x0 : zA) (x1 : Int) : Option (Bool) :=
  ((QF n x0).bind fun r1 => (bif r1 then ((zw n x1 0 (IntKind.wrap .i64 ((x0.Ps.length : Int) - 1))).bind fun r2 => (some r2)) else (some false)))
theorem zG7 (n : Nat) (x0 : zA) (x1 : Int) (r : Bool) (H : JU n x0 x1 = some r) : zD Tryz.prog 84 [.val true (CV.frzRow (zA.row x0)),.val false [.lit (.int .i64 x1)]] [.val false [.lit (.bool r)]] [] := by
 refine cW Tryz.func84 (fun g d => sl [g 0,g 1] .ret) [.tmp 4] fun cx => ?_
 unfold JU at H
 refine gA 2 6 4 ?_
 refine rA 1 ?_
 obtain ⟨r1,er1,H⟩ := bs H
 refine vA [.rd] (zDT n x0 r1 er1) ?_
 refine lA 1 ?_
 refine sL 134 4 ⟨15,0,[sB 7 r1,sA 2 2 11 0,sI 1 x1],[(2,(CV.frzRow (zA.row x0)))]⟩ ?_
 cases h1 : r1
 ·have H := zG h1 H
  refine uA 8 16 0 ?_
  exact te (fF H)
 have H := zH h1 H
 refine lA 3 ?_
 refine kF x0.Ps Pt.row ?_
 refine lA 1 ?_
 obtain ⟨r2,er2,H⟩ := bs H
 refine vA [.rd,.rd,.rd] (z3 n x1 0 (IntKind.wrap .i64 ((x0.Ps.length : Int) - 1)) r2 er2) ?_
 refine uA 2 16 0 ?_
 exact te (fJ [(false,[cB r2])] H)
def QL (n : Nat) (r1 : zA) (x1 : Int) (x2 : Vec) (y2 : Bool) : Option (zA) :=
  (bif y2 then ((idx r1.Ps x1).bind fun v3 => ((idx (r1.Ps.set (x1.toNat) (⟨v3.Up,v3.Co,true,v3.Hd⟩ : Pt)) x1).bind fun v4 => ((qr n (⟨r1.Id,r1.Name,((r1.Ps.set (x1.toNat) (⟨v3.Up,v3.Co,true,v3.Hd⟩ : Pt)).set (x1.toNat) (⟨v4.Up,v4.Co,v4.Has,x2⟩ : Pt)),r1.F,r1.V,r1.Tk,r1.Pa,r1.Wo,r1.Dr,r1.Ve⟩ : zA)).bind fun r5 => (some r5)))) else (some r1))
def QT (n : Nat) (x0 : zA) (x1 : Int) (x2 : Vec) : Option (zA) :=
  ((q7 n x0).bind fun r1 => ((JU n x0 x1).bind fun r6 => (bif r6 then ((idx x0.Ps x1).bind fun v7 => (bif v7.Up then ((Q5 n x2).bind fun r8 => (QL n r1 x1 x2 r8)) else (QL n r1 x1 x2 false))) else (QL n r1 x1 x2 false))))
def zOj : Tab := ⟨13,[0,1,0,0,8,0,0,23,151,279,1023,2047,3071],[0,1,0,0,8,0,0,6,128,256,48,1024,2112],[0,1,0,0,8,0,0,31,159,415,1023,2047,4095]⟩
theorem zDB : zf (rg Tryz.f242 3) zOj = true := kr
theorem zKX (n : Nat) (x0 : zA) (x1 : Int) (x2 : Vec) (r : zA) (H : QT n x0 x1 x2 = some r) : zD Tryz.prog 242 [.val true (CV.frzRow (zA.row x0)),.val false [.lit (.int .i64 x1)],.val true (CV.frzRow (Vec.row x2))] [.val true (zA.row r)] [] := by
 refine cW Tryz.func242 (fun g d => sl [g 0,g 1,sl [g 2] (cn 24 (sl [d 3] (g 4)) .skip),g 5] .ret) [.cell 6 41] fun cx => ?_
 unfold QT at H
 refine gA 3 106 104 ?_
 refine rA 1 ?_
 obtain ⟨r1,er1,H⟩ := bs H
 refine vA [.rd] (zAS n x0 r1 er1) ?_
 refine uA 2 234 232 ?_
 refine tS ?_
 refine tS ?_
 refine Tr.mid (ι := Bool) (fun v => ⟨38,0,[sB 24 v,sA 7 7 11 0,sA 6 6 11 0,sA 5 5 5 0,sI 1 x1],[(7,(zA.row r1)),(6,[cI 0,cS (⟨#[]⟩ : ByteArray),cL 8 ([] : List Pt) Pt.row,cL 5 ([] : List zB) zB.row,cL 3 ([] : List zC) zC.row,cL 1 ([] : List Int) intRow,cI 0,cI 0,cI 0,cI 0,cI 0]),(5,(Vec.row x2))]⟩) (fun v => QL n r1 x1 x2 v = some r) ?_ ?_
 ·refine Tr.at ?_
  refine lA 2 ?_
  obtain ⟨r6,er6,H⟩ := bs H
  refine vA [.rd,.rd] (zG7 n x0 x1 r6 er6) ?_
  refine lA 1 ?_
  refine sL 8426 232 ⟨38,0,[sB 13 r6,sA 7 7 11 0,sA 6 6 11 0,sA 5 5 5 0,sA 3 3 11 0,sI 1 x1],[(7,(zA.row r1)),(6,[cI 0,cS (⟨#[]⟩ : ByteArray),cL 8 ([] : List Pt) Pt.row,cL 5 ([] : List zB) zB.row,cL 3 ([] : List zC) zC.row,cL 1 ([] : List Int) intRow,cI 0,cI 0,cI 0,cI 0,cI 0]),(5,(Vec.row x2)),(3,(CV.frzRow (zA.row x0)))]⟩ ?_
  cases h2 : r6
  ·have H := zG h2 H
   refine uA 11 16777442 224 ?_
   exact jA false H [24,7,6,5,1] [7,6,5]
  have H := zH h2 H
  refine lA 3 ?_
  obtain ⟨v7,ev7,H⟩ := bs H
  refine iA Pt.row ev7 ?_
  refine lA 4 ?_
  refine sL 2097378 224 ⟨38,0,[sB 21 v7.Up,sA 7 7 11 0,sA 6 6 11 0,sA 5 5 5 0,sI 1 x1],[(7,(zA.row r1)),(6,[cI 0,cS (⟨#[]⟩ : ByteArray),cL 8 ([] : List Pt) Pt.row,cL 5 ([] : List zB) zB.row,cL 3 ([] : List zC) zC.row,cL 1 ([] : List Int) intRow,cI 0,cI 0,cI 0,cI 0,cI 0]),(5,(Vec.row x2))]⟩ ?_
  cases h3 : v7.Up
  ·have H := zG h3 H
   refine uA 3 16777442 224 ?_
   exact jA false H [24,7,6,5,1] [7,6,5]
  have H := zH h3 H
  refine lA 1 ?_
  obtain ⟨r8,er8,H⟩ := bs H
  refine vA [.rd] (zCK n x2 r8 er8) ?_
  refine uA 1 16777442 224 ?_
  exact jA r8 H [24,7,6,5,1] [7,6,5]
 rintro y2 H
 have H : (QL n r1 x1 x2 y2) = some r := H
 unfold QL at H
 cases h1 : y2
 ·have H := zG h1 H
  refine nB_ ?_
  refine tK ?_
  refine gA 2 64 64 ?_
  exact te (fJ [(true,(zA.row r1))] H)
 have H := zH h1 H
 refine tB_ ?_
 obtain ⟨v3,ev3,H⟩ := bs H
 obtain ⟨v4,ev4,H⟩ := bs H
 refine Tr.draws mixed 13 kr ⟨38,0,[sA 7 7 11 0,sA 6 6 11 0],[(7,[cI r1.Id,cS r1.Name,cL 8 ((r1.Ps.set (x1.toNat) (⟨v3.Up,v3.Co,true,v3.Hd⟩ : Pt)).set (x1.toNat) (⟨v4.Up,v4.Co,v4.Has,x2⟩ : Pt)) Pt.row,cL 5 r1.F zB.row,cL 3 r1.V.Rows zC.row,cL 1 r1.V.Pv intRow,cI r1.Tk,cI r1.Pa,cI r1.Wo,cI r1.Dr,cI r1.Ve]),(6,[cI 0,cS (⟨#[]⟩ : ByteArray),cL 8 ([] : List Pt) Pt.row,cL 5 ([] : List zB) zB.row,cL 3 ([] : List zC) zC.row,cL 1 ([] : List Int) intRow,cI 0,cI 0,cI 0,cI 0,cI 0])]⟩ (fun cx => ?_) ?_
 ·refine mA zDB [(0,[]),(1,[9,12]),(2,[]),(3,[]),(4,[9,12]),(5,[]),(6,[12])] 6 [⟨[12],165,5,31⟩,⟨[9,12],35,28,29⟩,⟨[9,12],35,25,26⟩] fun cx => ?_
  refine oN zDB 7 Pt.row ev3 fun cx => ?_
  refine mA zDB [(8,[])] 4 [⟨[12],165,5,31⟩,⟨[9,12],35,28,29⟩,⟨[9,12],35,25,26⟩] fun cx => ?_
  refine mC zDB 9 ?_
  refine LAt.storeB tOk (t := 4) (ty := 0) (ad := (.tmp 33)) (x := (.const (.bool true))) (g := none) (tI 4) false [cB true] 7 2 (x1.toNat) 8 2 8 r1.Ps Pt.row v3 (⟨v3.Up,v3.Co,true,v3.Hd⟩ : Pt) kr kr kr kr kr kr kr kr (zI ev3).2 kr kr kr kr ?_
  refine fA ?_
  refine oN zDB 10 Pt.row ev4 fun cx => ?_
  refine mA zDB [(11,[])] 1 [⟨[12],165,5,31⟩,⟨[9,12],35,28,29⟩,⟨[9,12],35,25,26⟩] fun cx => ?_
  refine mC zDB 12 ?_
  refine LAt.storeB tOk (t := 165) (ty := 0) (ad := (.tmp 35)) (x := (.tmp 31)) (g := none) (tI 165) true (Vec.row x2) 7 2 (x1.toNat) 8 3 8 (r1.Ps.set (x1.toNat) (⟨v3.Up,v3.Co,true,v3.Hd⟩ : Pt)) Pt.row v4 (⟨v4.Up,v4.Co,v4.Has,x2⟩ : Pt) kr kr kr kr kr kr kr kr (zI ev4).2 kr kr kr kr ?_
  refine fA ?_
  exact mE zDB [7,6] [7,6]
 refine Tr.at ?_
 obtain ⟨r5,er5,H⟩ := bs H
 refine LAt.callL tOk [.lend] (f := 202) (av := #[.tmp 7]) (ats := #[41]) (d := (some 36)) (ty := 0) (g := none) kr kr kr [] (zB3 n (⟨r1.Id,r1.Name,((r1.Ps.set (x1.toNat) (⟨v3.Up,v3.Co,true,v3.Hd⟩ : Pt)).set (x1.toNat) (⟨v4.Up,v4.Co,v4.Has,x2⟩ : Pt)),r1.F,r1.V,r1.Tk,r1.Pa,r1.Wo,r1.Dr,r1.Ve⟩ : zA) r5 er5) kr (.inl rfl) ?_
 refine dA 192 192 ?_
 refine gA 2 64 64 ?_
 exact te (fJ [(true,(zA.row r5))] H)
def Zf (n : Nat) (x0 : Net) (x1 : Int) (x2 : Int) (x3 : Vec) : Option (Net) :=
  ((idx x0.Bs x1).bind fun v1 => ((QT n v1 x2 x3).bind fun r2 => (some (⟨(x0.Bs.set (x1.toNat) r2),x0.Ls,x0.Said⟩ : Net))))
def zOg : Tab := ⟨17,[0,1,2,4,0,0,32,64,128,0,768,1024,0,0,14336,32767,65535],[0,1,2,4,0,0,32,64,128,0,768,1024,0,0,14336,24,49152],[0,1,3,7,0,0,32,96,224,0,992,2016,0,0,16352,32767,65535]⟩
noncomputable abbrev G203 (k : Nat) := Rg Tryz.f203 k
noncomputable abbrev D203 (k : Nat) := Rd Tryz.f203 k
theorem zDA : zf (rg Tryz.f203 1) zOg = true := kr
theorem zFT (n : Nat) (x0 : Net) (x1 : Int) (x2 : Int) (x3 : Vec) (r : Net) (H : Zf n x0 x1 x2 x3 = some r) : zD Tryz.prog 203 [.ptr (Net.row x0),.val false [.lit (.int .i64 x1)],.val false [.lit (.int .i64 x2)],.val true (CV.frzRow (Vec.row x3))] [] [(0,(Net.row r))] := by
 refine zD.of_body tOk Tryz.func203 rfl (c := (.seq (G203 0) (D203 1))) kr (Nat.le_of_ble_eq_true kr) 1 (rs := []) rfl [] .nil [] [] [(0,(Net.row r))] fun cx => ?_
 show Tr _ _ _ ⟨24,1,[sA 0 0 3 0,sI 1 x1,sI 2 x2,sV 3 (Vec.row x3)],[(0,(Net.row x0))]⟩ _
 unfold Zf at H
 refine gA 1 135 129 ?_
 obtain ⟨v1,ev1,H⟩ := bs H
 obtain ⟨r2,er2,H⟩ := bs H
 refine Tr.draw mixed 17 kr ⟨24,1,[sA 0 0 3 0],[(0,[cL 11 (x0.Bs.set (x1.toNat) r2) zA.row,cL 4 x0.Ls Link.row,cL 7 x0.Said Say.row])]⟩ (fun cx => ?_) ?_
 ·refine mA zDA [(0,[]),(1,[]),(2,[]),(3,[16]),(4,[]),(5,[]),(6,[]),(7,[]),(8,[14,16]),(9,[])] 7 [⟨[14,16],63,15,16⟩,⟨[16],63,10,11⟩] fun cx => ?_
  refine oN zDA 10 zA.row ev1 fun cx => ?_
  refine mA zDA [(12,[]),(13,[14,16])] 4 [⟨[14,16],165,7,21⟩,⟨[14,16],63,15,16⟩,⟨[16],63,10,11⟩] fun cx => ?_
  refine mC zDA 11 ?_
  refine dE (tI 41) (.box 0) [(0,0),(0,(x1.toNat))] 11 0 [.sl true 3 [(Net.row x0)]] (zA.row v1) (zt rfl (zI ev1).2) ?_
  refine fA ?_
  refine mC zDA 14 ?_
  refine LAt.callO tOk [.rd,.rd,.rd] (f := 242) (av := #[.tmp 19,.tmp 20,.tmp 21]) (ats := #[41,3,165]) (d := (some 22)) (ty := 41) (g := none) [(19,zA.row v1)] none kr kr kr [.box 0] (zKX n v1 x2 x3 r2 er2) (YQ (row := [.sl true 3 [(Net.row x0)]]) (q := [(0,0),(0,(x1.toNat))]) kr (zt rfl (zI ev1).2) Je) kr zCl (.inr (And.intro (zk (zA.row_mine _) zy) zB5)) ?_
  refine fA ?_
  refine oN zDA 15 zA.row ev1 fun cx => ?_
  refine mC zDA 16 ?_
  refine LAt.storeB tOk (t := 41) (ty := 0) (ad := (.tmp 23)) (x := (.tmp 22)) (g := none) (tI 41) true (zA.row r2) 0 0 (x1.toNat) 11 0 11 x0.Bs zA.row v1 r2 kr kr kr kr kr kr kr kr (zI ev1).2 kr kr kr kr ?_
  refine fA ?_
  exact mE zDA [0] [0]
 obtain rfl := si H
 exact Fin.ofY _ [] [] _ [] _ [(0,[cL 11 (x0.Bs.set (x1.toNat) r2) zA.row,cL 4 x0.Ls Link.row,cL 7 x0.Said Say.row])] kr rfl rfl rfl kr kr kr kr rfl rfl rfl
def Qa (n : Nat) (x0 : Net) (x1 : Int) (x2 : Bool) : Option (Net) :=
  ((idx x0.Said x1).bind fun v1 => (bif (decide ((0 : Int) ≤ 0) && (decide ((0 : Int) ≤ x1) && decide ((x1 : Int) ≤ (x0.Said.length : Int)))) then (bif (decide (([] : List Say).length + ((x0.Said.drop ((0 : Int)).toNat).take (((x1 : Int)).toNat - ((0 : Int)).toNat)).length ≤ 268435456)) then (bif (decide ((0 : Int) ≤ (IntKind.wrap .i64 (x1 + 1))) && (decide (((IntKind.wrap .i64 (x1 + 1)) : Int) ≤ (x0.Said.length : Int)) && decide (((x0.Said.length : Int) : Int) ≤ (x0.Said.length : Int)))) then (bif (decide ((([] : List Say) ++ ((x0.Said.drop ((0 : Int)).toNat).take (((x1 : Int)).toNat - ((0 : Int)).toNat))).length + ((x0.Said.drop (((IntKind.wrap .i64 (x1 + 1)) : Int)).toNat).take ((((x0.Said.length : Int) : Int)).toNat - (((IntKind.wrap .i64 (x1 + 1)) : Int)).toNat)).length ≤ 268435456)) then (bif (!x2) then (some (⟨x0.Bs,x0.Ls,((([] : List Say) ++ ((x0.Said.drop ((0 : Int)).toNat).take (((x1 : Int)).toNat - ((0 : Int)).toNat))) ++ ((x0.Said.drop (((IntKind.wrap .i64 (x1 + 1)) : Int)).toNat).take ((((x0.Said.length : Int) : Int)).toNat - (((IntKind.wrap .i64 (x1 + 1)) : Int)).toNat)))⟩ : Net)) else ((Zt n (⟨x0.Bs,x0.Ls,((([] : List Say) ++ ((x0.Said.drop ((0 : Int)).toNat).take (((x1 : Int)).toNat - ((0 : Int)).toNat))) ++ ((x0.Said.drop (((IntKind.wrap .i64 (x1 + 1)) : Int)).toNat).take ((((x0.Said.length : Int) : Int)).toNat - (((IntKind.wrap .i64 (x1 + 1)) : Int)).toNat)))⟩ : Net) v1.Link).bind fun r6 => (bif (!r6) then (some (⟨x0.Bs,x0.Ls,((([] : List Say) ++ ((x0.Said.drop ((0 : Int)).toNat).take (((x1 : Int)).toNat - ((0 : Int)).toNat))) ++ ((x0.Said.drop (((IntKind.wrap .i64 (x1 + 1)) : Int)).toNat).take ((((x0.Said.length : Int) : Int)).toNat - (((IntKind.wrap .i64 (x1 + 1)) : Int)).toNat)))⟩ : Net)) else ((idx x0.Ls v1.Link).bind fun v7 => (bif v1.Back then ((Zf n (⟨x0.Bs,x0.Ls,((([] : List Say) ++ ((x0.Said.drop ((0 : Int)).toNat).take (((x1 : Int)).toNat - ((0 : Int)).toNat))) ++ ((x0.Said.drop (((IntKind.wrap .i64 (x1 + 1)) : Int)).toNat).take ((((x0.Said.length : Int) : Int)).toNat - (((IntKind.wrap .i64 (x1 + 1)) : Int)).toNat)))⟩ : Net) v7.A v7.P v1.V).bind fun r9 => (some r9)) else ((Zf n (⟨x0.Bs,x0.Ls,((([] : List Say) ++ ((x0.Said.drop ((0 : Int)).toNat).take (((x1 : Int)).toNat - ((0 : Int)).toNat))) ++ ((x0.Said.drop (((IntKind.wrap .i64 (x1 + 1)) : Int)).toNat).take ((((x0.Said.length : Int) : Int)).toNat - (((IntKind.wrap .i64 (x1 + 1)) : Int)).toNat)))⟩ : Net) v7.B v7.Q v1.V).bind fun r8 => (some r8))))))) else none) else none) else none) else none))
def zOP : Tab := ⟨19,[0,0,2,4,8,0,48,64,0,256,512,1024,0,4096,10240,16512,65535,131071,196607],[0,0,2,4,8,0,48,64,0,256,512,1024,0,4096,10240,16512,1,65536,163840],[0,0,2,6,14,0,62,126,0,256,768,1792,0,4096,16128,32766,65535,131071,262143]⟩
noncomputable abbrev zL6 (k : Nat) := Rg Tryz.f119 k
noncomputable abbrev zNH (k : Nat) := Rd Tryz.f119 k
theorem QJ : zf (rg Tryz.f119 1) zOP = true := kr
theorem zH9 (n : Nat) (x0 : Net) (x1 : Int) (x2 : Bool) (r : Net) (H : Qa n x0 x1 x2 = some r) : zD Tryz.prog 119 [.ptr (Net.row x0),.val false [.lit (.int .i64 x1)],.val false [.lit (.bool x2)]] [] [(0,(Net.row r))] := by
 refine zD.of_body tOk Tryz.func119 rfl (c := (.seq (zL6 0) (.seq (zNH 1) (.seq (.seq (zNH 2) (.cond (.tmp 43) .ret .skip)) (.seq (zNH 3) (.seq (zL6 4) (.cond (.tmp 53) (zL6 5) (zL6 6)))))))) kr (Nat.le_of_ble_eq_true kr) 1 (rs := []) rfl [] .nil [] [] [(0,(Net.row r))] fun cx => ?_
 show Tr _ _ _ ⟨70,1,[sA 0 0 3 0,sI 1 x1,sB 2 x2],[(0,(Net.row x0))]⟩ _
 unfold Qa at H
 refine rA 5 ?_
 obtain ⟨v1,ev1,H⟩ := bs H
 refine oA Say.row ev1 ?_
 refine dE (tI 180) (.box 0) [(0,0),(2,(x1.toNat))] 7 0 [.sl true 3 [(Net.row x0)]] (Say.row v1) (zt rfl (zI ev1).2) ?_
 refine uA 2 71 65 ?_
 refine Tr.frzP 0 2 1 ?_
 obtain ⟨hg2,H⟩ := gs H
 obtain ⟨hg3,H⟩ := gs H
 obtain ⟨hg4,H⟩ := gs H
 obtain ⟨hg5,H⟩ := gs H
 refine Tr.draws mixed 19 kr ⟨70,1,[sA 6 6 7 0,sA 0 0 3 0,sB 2 x2],[(0,[cL 11 x0.Bs zA.row,cL 4 x0.Ls Link.row,cL 7 ((([] : List Say) ++ ((x0.Said.drop ((0 : Int)).toNat).take (((x1 : Int)).toNat - ((0 : Int)).toNat))) ++ ((x0.Said.drop (((IntKind.wrap .i64 (x1 + 1)) : Int)).toNat).take ((((x0.Said.length : Int) : Int)).toNat - (((IntKind.wrap .i64 (x1 + 1)) : Int)).toNat))) Say.row]),(6,(Say.row v1))]⟩ (fun cx => ?_) ?_
 ·refine mA QJ [(0,[]),(1,[]),(2,[]),(3,[]),(4,[6,7,15,18]),(5,[]),(8,[]),(9,[]),(10,[]),(11,[14,15,18]),(12,[]),(13,[])] 7 [⟨[14,15,18],65,25,26⟩,⟨[6,7,15,18],65,18,19⟩] fun cx => ?_
  refine mB2 tOk QJ 6 14 kr (And.intro kr ?_) (And.intro kr ?_)
  ·refine LAt.cutG tOk (t := 65) (ty := 65) (e := 180) (x := (.tmp 19)) (lo := none) (hi := (some (.tmp 20))) (d := 21) (g := none) (tI 180) Say.row x0.Said ⟨(.box 0),[(0,0)],2,false,7,(CV.frzEs (x0.Said.map Say.row))⟩ 0 x1 kr kr kr kr kr kr rfl kr rfl kr kr hg2 ?_
   refine fA ?_
   refine mB2 tOk QJ 7 14 kr (And.intro kr ?_) (And.intro kr ?_)
   ·refine LAt.appCU tOk (t := 65) (ty := 65) (e := 180) (x := (.const (.slice none 0 0))) (y := (.tmp 21)) (d := 22) (g := none) (tI 180) Say.row ([] : List Say) ((x0.Said.drop ((0 : Int)).toNat).take (((x1 : Int)).toNat - ((0 : Int)).toNat)) ⟨(.slot 21),[],0,false,7,(CV.frzEs (((x0.Said.drop ((0 : Int)).toNat).take (((x1 : Int)).toNat - ((0 : Int)).toNat)).map Say.row))⟩ kr kr kr kr kr kr kr kr kr kr kr (.inr rfl) (fun _ => rfl) (fun _ => rfl) hg3 ?_
    refine fA ?_
    refine mC QJ 14 ?_
    refine LAt.cutG tOk (t := 65) (ty := 65) (e := 180) (x := (.tmp 26)) (lo := (some (.tmp 28))) (hi := none) (d := 29) (g := none) (tI 180) Say.row x0.Said ⟨(.box 0),[(0,0)],2,false,7,(CV.frzEs (x0.Said.map Say.row))⟩ (IntKind.wrap .i64 (x1 + 1)) (x0.Said.length : Int) kr kr kr kr kr kr rfl kr rfl kr kr hg4 ?_
    refine fA ?_
    refine mC QJ 15 ?_
    refine pD Say.row hg5 ?_
    refine fA ?_
    refine mA QJ [(16,[]),(17,[])] 1 [⟨[14,15,18],65,25,26⟩,⟨[6,7,15,18],65,18,19⟩] fun cx => ?_
    refine mC QJ 18 ?_
    refine lA 1 ?_
    refine fA ?_
    exact mE QJ [6,0,2] [0,6]
   ·refine LAt.cutG tOk (t := 65) (ty := 65) (e := 180) (x := (.tmp 26)) (lo := (some (.tmp 28))) (hi := none) (d := 29) (g := none) (tI 180) Say.row x0.Said ⟨(.box 0),[(0,0)],2,false,7,(CV.frzEs (x0.Said.map Say.row))⟩ (IntKind.wrap .i64 (x1 + 1)) (x0.Said.length : Int) kr kr kr kr kr kr rfl kr rfl kr kr hg4 ?_
    refine fA ?_
    refine mC QJ 7 ?_
    refine LAt.appCU tOk (t := 65) (ty := 65) (e := 180) (x := (.const (.slice none 0 0))) (y := (.tmp 21)) (d := 22) (g := none) (tI 180) Say.row ([] : List Say) ((x0.Said.drop ((0 : Int)).toNat).take (((x1 : Int)).toNat - ((0 : Int)).toNat)) ⟨(.slot 21),[],0,false,7,(CV.frzEs (((x0.Said.drop ((0 : Int)).toNat).take (((x1 : Int)).toNat - ((0 : Int)).toNat)).map Say.row))⟩ kr kr kr kr kr kr kr kr kr kr kr (.inr rfl) (fun _ => rfl) (fun _ => rfl) hg3 ?_
    refine fA ?_
    refine mC QJ 15 ?_
    refine pD Say.row hg5 ?_
    refine fA ?_
    refine mA QJ [(16,[]),(17,[])] 1 [⟨[14,15,18],65,25,26⟩,⟨[6,7,15,18],65,18,19⟩] fun cx => ?_
    refine mC QJ 18 ?_
    refine lA 1 ?_
    refine fA ?_
    exact mE QJ [6,0,2] [0,6]
  ·refine LAt.cutG tOk (t := 65) (ty := 65) (e := 180) (x := (.tmp 26)) (lo := (some (.tmp 28))) (hi := none) (d := 29) (g := none) (tI 180) Say.row x0.Said ⟨(.box 0),[(0,0)],2,false,7,(CV.frzEs (x0.Said.map Say.row))⟩ (IntKind.wrap .i64 (x1 + 1)) (x0.Said.length : Int) kr kr kr kr kr kr rfl kr rfl kr kr hg4 ?_
   refine fA ?_
   refine mC QJ 6 ?_
   refine LAt.cutG tOk (t := 65) (ty := 65) (e := 180) (x := (.tmp 19)) (lo := none) (hi := (some (.tmp 20))) (d := 21) (g := none) (tI 180) Say.row x0.Said ⟨(.box 0),[(0,0)],2,false,7,(CV.frzEs (x0.Said.map Say.row))⟩ 0 x1 kr kr kr kr kr kr rfl kr rfl kr kr hg2 ?_
   refine fA ?_
   refine mC QJ 7 ?_
   refine LAt.appCU tOk (t := 65) (ty := 65) (e := 180) (x := (.const (.slice none 0 0))) (y := (.tmp 21)) (d := 22) (g := none) (tI 180) Say.row ([] : List Say) ((x0.Said.drop ((0 : Int)).toNat).take (((x1 : Int)).toNat - ((0 : Int)).toNat)) ⟨(.slot 21),[],0,false,7,(CV.frzEs (((x0.Said.drop ((0 : Int)).toNat).take (((x1 : Int)).toNat - ((0 : Int)).toNat)).map Say.row))⟩ kr kr kr kr kr kr kr kr kr kr kr (.inr rfl) (fun _ => rfl) (fun _ => rfl) hg3 ?_
   refine fA ?_
   refine mC QJ 15 ?_
   refine pD Say.row hg5 ?_
   refine fA ?_
   refine mA QJ [(16,[]),(17,[])] 1 [⟨[14,15,18],65,25,26⟩,⟨[6,7,15,18],65,18,19⟩] fun cx => ?_
   refine mC QJ 18 ?_
   refine lA 1 ?_
   refine fA ?_
   exact mE QJ [6,0,2] [0,6]
 refine tS ?_
 refine sT ⟨70,1,[sA 6 6 7 0,sA 0 0 3 0,sB 2 x2],[(0,[cL 11 x0.Bs zA.row,cL 4 x0.Ls Link.row,cL 7 ((([] : List Say) ++ ((x0.Said.drop ((0 : Int)).toNat).take (((x1 : Int)).toNat - ((0 : Int)).toNat))) ++ ((x0.Said.drop (((IntKind.wrap .i64 (x1 + 1)) : Int)).toNat).take ((((x0.Said.length : Int) : Int)).toNat - (((IntKind.wrap .i64 (x1 + 1)) : Int)).toNat))) Say.row]),(6,(Say.row v1))]⟩ ?_
 cases h1 : (!x2)
 ·have H := zG h1 H
  obtain ⟨r6,er6,H⟩ := bs H
  refine Tr.draws mixed 11 kr ⟨70,1,[sB 43 (!r6),sA 6 6 7 0,sA 0 0 3 0],[(0,[cL 11 x0.Bs zA.row,cL 4 x0.Ls Link.row,cL 7 ((([] : List Say) ++ ((x0.Said.drop ((0 : Int)).toNat).take (((x1 : Int)).toNat - ((0 : Int)).toNat))) ++ ((x0.Said.drop (((IntKind.wrap .i64 (x1 + 1)) : Int)).toNat).take ((((x0.Said.length : Int) : Int)).toNat - (((IntKind.wrap .i64 (x1 + 1)) : Int)).toNat))) Say.row]),(6,(Say.row v1))]⟩ (fun cx => ?_) ?_
  ·refine aA [(0,[]),(1,[]),(2,[])] 8 [] fun cx => ?_
   refine sA_ 34359738433 65 ⟨70,1,[sB 35 (!x2),sA 6 6 7 0,sA 0 0 3 0],[(0,[cL 11 x0.Bs zA.row,cL 4 x0.Ls Link.row,cL 7 ((([] : List Say) ++ ((x0.Said.drop ((0 : Int)).toNat).take (((x1 : Int)).toNat - ((0 : Int)).toNat))) ++ ((x0.Said.drop (((IntKind.wrap .i64 (x1 + 1)) : Int)).toNat).take ((((x0.Said.length : Int) : Int)).toNat - (((IntKind.wrap .i64 (x1 + 1)) : Int)).toNat))) Say.row]),(6,(Say.row v1))]⟩ ?_
   rw [h1]
   refine aA [(3,[]),(4,[]),(5,[8]),(6,[]),(7,[8])] 3 [⟨[8],3,39,40⟩,⟨[8],67,37,38⟩] fun cx => ?_
   refine bA 8 ?_
   refine vB [.rd,.rd] [.box 0] (zEc n (⟨x0.Bs,x0.Ls,((([] : List Say) ++ ((x0.Said.drop ((0 : Int)).toNat).take (((x1 : Int)).toNat - ((0 : Int)).toNat))) ++ ((x0.Said.drop (((IntKind.wrap .i64 (x1 + 1)) : Int)).toNat).take ((((x0.Said.length : Int) : Int)).toNat - (((IntKind.wrap .i64 (x1 + 1)) : Int)).toNat)))⟩ : Net) v1.Link r6 er6) (.inr (zk (zJ zM zz) zy)) ?_
   refine fA ?_
   refine aA [(9,[]),(10,[])] 0 [⟨[8],3,39,40⟩,⟨[8],67,37,38⟩] fun cx => ?_
   exact eE [43,6,0] [0,6]
  refine sT ⟨70,1,[sB 43 (!r6),sA 6 6 7 0,sA 0 0 3 0],[(0,[cL 11 x0.Bs zA.row,cL 4 x0.Ls Link.row,cL 7 ((([] : List Say) ++ ((x0.Said.drop ((0 : Int)).toNat).take (((x1 : Int)).toNat - ((0 : Int)).toNat))) ++ ((x0.Said.drop (((IntKind.wrap .i64 (x1 + 1)) : Int)).toNat).take ((((x0.Said.length : Int) : Int)).toNat - (((IntKind.wrap .i64 (x1 + 1)) : Int)).toNat))) Say.row]),(6,(Say.row v1))]⟩ ?_
  cases h2 : (!r6)
  ·have H := zG h2 H
   refine nB_ ?_
   refine tK ?_
   obtain ⟨v7,ev7,H⟩ := bs H
   refine Tr.draws mixed 10 kr ⟨70,1,[sA 7 7 4 0,sA 6 6 7 0,sA 0 0 3 0],[(7,(Link.row v7)),(0,[cL 11 x0.Bs zA.row,cL 4 x0.Ls Link.row,cL 7 ((([] : List Say) ++ ((x0.Said.drop ((0 : Int)).toNat).take (((x1 : Int)).toNat - ((0 : Int)).toNat))) ++ ((x0.Said.drop (((IntKind.wrap .i64 (x1 + 1)) : Int)).toNat).take ((((x0.Said.length : Int) : Int)).toNat - (((IntKind.wrap .i64 (x1 + 1)) : Int)).toNat))) Say.row]),(6,(Say.row v1))]⟩ (fun cx => ?_) ?_
   ·refine aA [(0,[]),(1,[]),(2,[]),(3,[9]),(4,[]),(5,[9])] 4 [⟨[9],3,48,49⟩,⟨[9],64,46,47⟩] fun cx => ?_
    refine aO tOk 6 64 0 47 49 50 none ⟨(.box 0),[(0,0)],1,true,4,(x0.Ls.map Link.row)⟩ v1.Link (v1.Link.toNat) (Link.row v7) _ kr kr kr kr kr kr rfl kr (zEr ev7) rfl rfl (fun cx => ?_)
    refine AT.big2 tOk 7 8 kr (And.intro kr ?_) (And.intro kr ?_)
    ·refine dE (tI 114) (.box 0) [(0,0),(1,(v1.Link.toNat))] 4 0 [.sl true 3 [[cL 11 x0.Bs zA.row,cL 4 x0.Ls Link.row,cL 7 ((([] : List Say) ++ ((x0.Said.drop ((0 : Int)).toNat).take (((x1 : Int)).toNat - ((0 : Int)).toNat))) ++ ((x0.Said.drop (((IntKind.wrap .i64 (x1 + 1)) : Int)).toNat).take ((((x0.Said.length : Int) : Int)).toNat - (((IntKind.wrap .i64 (x1 + 1)) : Int)).toNat))) Say.row]]] (Link.row v7) (zt rfl (zI ev7).2) ?_
     refine fA ?_
     refine bA 8 ?_
     refine lA 1 ?_
     refine fA ?_
     refine bA 9 ?_
     refine lA 1 ?_
     refine fA ?_
     exact eE [7,6,0] [7,0,6]
    ·refine lA 1 ?_
     refine fA ?_
     refine bA 7 ?_
     refine dE (tI 114) (.box 0) [(0,0),(1,(v1.Link.toNat))] 4 0 [.sl true 3 [[cL 11 x0.Bs zA.row,cL 4 x0.Ls Link.row,cL 7 ((([] : List Say) ++ ((x0.Said.drop ((0 : Int)).toNat).take (((x1 : Int)).toNat - ((0 : Int)).toNat))) ++ ((x0.Said.drop (((IntKind.wrap .i64 (x1 + 1)) : Int)).toNat).take ((((x0.Said.length : Int) : Int)).toNat - (((IntKind.wrap .i64 (x1 + 1)) : Int)).toNat))) Say.row]]] (Link.row v7) (zt rfl (zI ev7).2) ?_
     refine fA ?_
     refine bA 9 ?_
     refine lA 1 ?_
     refine fA ?_
     exact eE [7,6,0] [7,0,6]
   refine gA 2 9007199254741185 193 ?_
   refine sT ⟨70,1,[sB 53 v1.Back,sA 7 7 4 0,sA 6 6 7 0,sA 0 0 3 0],[(7,(Link.row v7)),(0,[cL 11 x0.Bs zA.row,cL 4 x0.Ls Link.row,cL 7 ((([] : List Say) ++ ((x0.Said.drop ((0 : Int)).toNat).take (((x1 : Int)).toNat - ((0 : Int)).toNat))) ++ ((x0.Said.drop (((IntKind.wrap .i64 (x1 + 1)) : Int)).toNat).take ((((x0.Said.length : Int) : Int)).toNat - (((IntKind.wrap .i64 (x1 + 1)) : Int)).toNat))) Say.row]),(6,(Say.row v1))]⟩ ?_
   cases h3 : v1.Back
   ·have H := zG h3 H
    refine nB_ ?_
    refine Tr.at ?_
    refine lA 7 ?_
    obtain ⟨r8,er8,H⟩ := bs H
    refine LAt.callL tOk [.lend,.rd,.rd,.rd] (f := 203) (av := #[.tmp 62,.tmp 64,.tmp 66,.tmp 68]) (ats := #[142,3,3,165]) (d := (some 69)) (ty := 0) (g := none) kr kr kr [] (zFT n (⟨x0.Bs,x0.Ls,((([] : List Say) ++ ((x0.Said.drop ((0 : Int)).toNat).take (((x1 : Int)).toNat - ((0 : Int)).toNat))) ++ ((x0.Said.drop (((IntKind.wrap .i64 (x1 + 1)) : Int)).toNat).take ((((x0.Said.length : Int) : Int)).toNat - (((IntKind.wrap .i64 (x1 + 1)) : Int)).toNat)))⟩ : Net) v7.B v7.Q v1.V r8 er8) kr (.inl rfl) ?_
    refine dA 1 1 ?_
    obtain rfl := si H
    exact Fin.ofY _ [] [] _ [] _ [(0,(Net.row r8))] kr rfl rfl rfl kr kr kr kr rfl rfl rfl
   have H := zH h3 H
   refine tB_ ?_
   refine Tr.at ?_
   refine lA 7 ?_
   obtain ⟨r9,er9,H⟩ := bs H
   refine LAt.callL tOk [.lend,.rd,.rd,.rd] (f := 203) (av := #[.tmp 54,.tmp 56,.tmp 58,.tmp 60]) (ats := #[142,3,3,165]) (d := (some 61)) (ty := 0) (g := none) kr kr kr [] (zFT n (⟨x0.Bs,x0.Ls,((([] : List Say) ++ ((x0.Said.drop ((0 : Int)).toNat).take (((x1 : Int)).toNat - ((0 : Int)).toNat))) ++ ((x0.Said.drop (((IntKind.wrap .i64 (x1 + 1)) : Int)).toNat).take ((((x0.Said.length : Int) : Int)).toNat - (((IntKind.wrap .i64 (x1 + 1)) : Int)).toNat)))⟩ : Net) v7.A v7.P v1.V r9 er9) kr (.inl rfl) ?_
   refine dA 1 1 ?_
   obtain rfl := si H
   exact Fin.ofY _ [] [] _ [] _ [(0,(Net.row r9))] kr rfl rfl rfl kr kr kr kr rfl rfl rfl
  have H := zH h2 H
  refine tB_ ?_
  refine te ?_
  obtain rfl := si H
  exact Fin.ofY _ [] [] _ [] _ [(0,[cL 11 x0.Bs zA.row,cL 4 x0.Ls Link.row,cL 7 ((([] : List Say) ++ ((x0.Said.drop ((0 : Int)).toNat).take (((x1 : Int)).toNat - ((0 : Int)).toNat))) ++ ((x0.Said.drop (((IntKind.wrap .i64 (x1 + 1)) : Int)).toNat).take ((((x0.Said.length : Int) : Int)).toNat - (((IntKind.wrap .i64 (x1 + 1)) : Int)).toNat))) Say.row])] kr rfl rfl rfl kr kr kr kr rfl rfl rfl
 have H := zH h1 H
 refine Tr.draws mixed 11 kr ⟨70,1,[sB 43 true,sA 6 6 7 0,sA 0 0 3 0],[(0,[cL 11 x0.Bs zA.row,cL 4 x0.Ls Link.row,cL 7 ((([] : List Say) ++ ((x0.Said.drop ((0 : Int)).toNat).take (((x1 : Int)).toNat - ((0 : Int)).toNat))) ++ ((x0.Said.drop (((IntKind.wrap .i64 (x1 + 1)) : Int)).toNat).take ((((x0.Said.length : Int) : Int)).toNat - (((IntKind.wrap .i64 (x1 + 1)) : Int)).toNat))) Say.row]),(6,(Say.row v1))]⟩ (fun cx => ?_) ?_
 ·refine aA [(0,[]),(1,[]),(2,[])] 8 [] fun cx => ?_
  refine sA_ 34359738433 65 ⟨70,1,[sB 35 (!x2),sA 6 6 7 0,sA 0 0 3 0],[(0,[cL 11 x0.Bs zA.row,cL 4 x0.Ls Link.row,cL 7 ((([] : List Say) ++ ((x0.Said.drop ((0 : Int)).toNat).take (((x1 : Int)).toNat - ((0 : Int)).toNat))) ++ ((x0.Said.drop (((IntKind.wrap .i64 (x1 + 1)) : Int)).toNat).take ((((x0.Said.length : Int) : Int)).toNat - (((IntKind.wrap .i64 (x1 + 1)) : Int)).toNat))) Say.row]),(6,(Say.row v1))]⟩ ?_
  rw [h1]
  refine aA [(3,[]),(4,[]),(5,[]),(6,[]),(7,[]),(8,[]),(9,[]),(10,[])] 0 [] fun cx => ?_
  exact eE [43,6,0] [0,6]
 refine tB_ ?_
 refine te ?_
 obtain rfl := si H
 exact Fin.ofY _ [] [] _ [] _ [(0,[cL 11 x0.Bs zA.row,cL 4 x0.Ls Link.row,cL 7 ((([] : List Say) ++ ((x0.Said.drop ((0 : Int)).toNat).take (((x1 : Int)).toNat - ((0 : Int)).toNat))) ++ ((x0.Said.drop (((IntKind.wrap .i64 (x1 + 1)) : Int)).toNat).take ((((x0.Said.length : Int) : Int)).toNat - (((IntKind.wrap .i64 (x1 + 1)) : Int)).toNat))) Say.row])] kr rfl rfl rfl kr kr kr kr rfl rfl rfl
def Yc (n : Nat) (x0 : zA) (x1 : Int) (x2 : Bool) : Option (zA) :=
  ((q7 n x0).bind fun r1 => ((JU n x0 x1).bind fun r2 => (bif r2 then ((idx x0.Ps x1).bind fun v3 => ((idx r1.Ps x1).bind fun v4 => ((qr n (⟨r1.Id,r1.Name,(r1.Ps.set (x1.toNat) (⟨x2,v3.Co,false,(⟨0,0,0,0,0⟩ : Vec)⟩ : Pt)),r1.F,r1.V,r1.Tk,r1.Pa,r1.Wo,r1.Dr,r1.Ve⟩ : zA)).bind fun r5 => (some r5)))) else (some r1))))
def zOW : Tab := ⟨13,[0,1,0,0,0,16,0,96,128,256,520,2047,4095],[0,1,0,0,0,16,0,96,128,256,520,6,3072],[0,1,0,0,0,16,0,112,240,496,1016,2047,4095]⟩
theorem zDs : zf (rg Tryz.f155 3) zOW = true := kr
theorem zFr (n : Nat) (x0 : zA) (x1 : Int) (x2 : Bool) (r : zA) (H : Yc n x0 x1 x2 = some r) : zD Tryz.prog 155 [.val true (CV.frzRow (zA.row x0)),.val false [.lit (.int .i64 x1)],.val false [.lit (.bool x2)]] [.val true (zA.row r)] [] := by
 refine cW Tryz.func155 (fun g d => sl [g 0,g 1,sl [g 2] (cn 12 (sl [d 3] (g 4)) .skip),g 5] .ret) [.cell 6 41] fun cx => ?_
 unfold Yc at H
 refine gA 2 78 72 ?_
 refine rA 1 ?_
 obtain ⟨r1,er1,H⟩ := bs H
 refine vA [.rd] (zAS n x0 r1 er1) ?_
 refine uA 2 206 200 ?_
 refine tS ?_
 refine rA 2 ?_
 obtain ⟨r2,er2,H⟩ := bs H
 refine vA [.rd,.rd] (zG7 n x0 x1 r2 er2) ?_
 refine dA 4302 200 ?_
 cases h1 : r2
 ·have H := zG h1 H
  refine nB_ ?_
  refine tK ?_
  refine gA 2 64 64 ?_
  exact te (fJ [(true,(zA.row r1))] H)
 have H := zH h1 H
 refine tB_ ?_
 obtain ⟨v3,ev3,H⟩ := bs H
 obtain ⟨v4,ev4,H⟩ := bs H
 refine Tr.draws mixed 13 kr ⟨27,0,[sA 7 7 11 0,sA 6 6 11 0],[(7,[cI r1.Id,cS r1.Name,cL 8 (r1.Ps.set (x1.toNat) (⟨x2,v3.Co,false,(⟨0,0,0,0,0⟩ : Vec)⟩ : Pt)) Pt.row,cL 5 r1.F zB.row,cL 3 r1.V.Rows zC.row,cL 1 r1.V.Pv intRow,cI r1.Tk,cI r1.Pa,cI r1.Wo,cI r1.Dr,cI r1.Ve]),(6,[cI 0,cS (⟨#[]⟩ : ByteArray),cL 8 ([] : List Pt) Pt.row,cL 5 ([] : List zB) zB.row,cL 3 ([] : List zC) zC.row,cL 1 ([] : List Int) intRow,cI 0,cI 0,cI 0,cI 0,cI 0])]⟩ (fun cx => ?_) ?_
 ·refine mA zDs [(0,[]),(1,[12]),(2,[]),(3,[]),(4,[]),(5,[10,12]),(6,[])] 6 [⟨[10,12],35,17,18⟩,⟨[12],35,13,14⟩] fun cx => ?_
  refine iN zDs 7 Pt.row ev3 fun cx => ?_
  refine mA zDs [(8,[]),(9,[])] 3 [⟨[10,12],35,17,18⟩,⟨[12],35,13,14⟩] fun cx => ?_
  refine mC zDs 10 ?_
  refine lA 1 ?_
  refine fA ?_
  refine oN zDs 11 Pt.row ev4 fun cx => ?_
  refine mC zDs 12 ?_
  refine LAt.storeB tOk (t := 167) (ty := 0) (ad := (.tmp 24)) (x := (.tmp 23)) (g := none) (tI 167) true [cB x2,cI v3.Co,cB false,cI 0,cI 0,cI 0,cI 0,cI 0] 7 2 (x1.toNat) 8 0 8 r1.Ps Pt.row v4 (⟨x2,v3.Co,false,(⟨0,0,0,0,0⟩ : Vec)⟩ : Pt) kr kr kr kr kr kr kr kr (zI ev4).2 kr kr kr kr ?_
  refine fA ?_
  exact mE zDs [7,6] [7,6]
 refine Tr.at ?_
 obtain ⟨r5,er5,H⟩ := bs H
 refine LAt.callL tOk [.lend] (f := 202) (av := #[.tmp 7]) (ats := #[41]) (d := (some 25)) (ty := 0) (g := none) kr kr kr [] (zB3 n (⟨r1.Id,r1.Name,(r1.Ps.set (x1.toNat) (⟨x2,v3.Co,false,(⟨0,0,0,0,0⟩ : Vec)⟩ : Pt)),r1.F,r1.V,r1.Tk,r1.Pa,r1.Wo,r1.Dr,r1.Ve⟩ : zA) r5 er5) kr (.inl rfl) ?_
 refine dA 192 192 ?_
 refine gA 2 64 64 ?_
 exact te (fJ [(true,(zA.row r5))] H)
def JQ (n : Nat) (x0 : Net) (x1 : Int) (x2 : Bool) : Option (Net) :=
  ((Zt n x0 x1).bind fun r1 => (bif (r1 == x2) then (some x0) else ((idx x0.Ls x1).bind fun v2 => ((idx x0.Bs v2.A).bind fun v3 => ((Yc n v3 v2.P x2).bind fun r4 => ((idx (x0.Bs.set (v2.A.toNat) r4) v2.B).bind fun v5 => ((Yc n v5 v2.Q x2).bind fun r6 => (some (⟨((x0.Bs.set (v2.A.toNat) r4).set (v2.B.toNat) r6),x0.Ls,x0.Said⟩ : Net)))))))))
def zOQ : Tab := ⟨20,[0,1,2,4,0,16,0,64,128,256,0,1024,2560,4096,0,16384,0,106496,262143,524287],[0,1,2,4,0,16,0,64,128,256,0,1024,2560,4096,0,16384,0,106496,40,393216],[0,1,3,7,0,16,0,64,192,448,0,1024,4032,8128,0,16384,0,131008,262143,524287]⟩
noncomputable abbrev zOF (k : Nat) := Rg Tryz.f120 k
noncomputable abbrev zOB (k : Nat) := Rd Tryz.f120 k
theorem zC3 : zf (rg Tryz.f120 2) zOQ = true := kr
def zOR : Tab := ⟨20,[0,1,2,4,0,16,0,64,128,256,0,1024,2560,4096,0,16384,0,106496,262143,524287],[0,1,2,4,0,16,0,64,128,256,0,1024,2560,4096,0,16384,0,106496,40,393216],[0,1,3,7,0,16,0,64,192,448,0,1024,4032,8128,0,16384,0,131008,262143,524287]⟩
theorem zC4 : zf (rg Tryz.f120 3) zOR = true := kr
theorem zJt (n : Nat) (x0 : Net) (x1 : Int) (x2 : Bool) (r : Net) (H : JQ n x0 x1 x2 = some r) : zD Tryz.prog 120 [.ptr (Net.row x0),.val false [.lit (.int .i64 x1)],.val false [.lit (.bool x2)]] [] [(0,(Net.row r))] := by
 refine zD.of_body tOk Tryz.func120 rfl (c := (.seq (.seq (zOF 0) (.cond (.tmp 13) .ret .skip)) (.seq (zOF 1) (.seq (zOB 2) (zOB 3))))) kr (Nat.le_of_ble_eq_true kr) 1 (rs := []) rfl [] .nil [] [] [(0,(Net.row r))] fun cx => ?_
 show Tr _ _ _ ⟨59,1,[sA 0 0 3 0,sI 1 x1,sB 2 x2],[(0,(Net.row x0))]⟩ _
 unfold JQ at H
 refine tS ?_
 refine rA 4 ?_
 obtain ⟨r1,er1,H⟩ := bs H
 refine vB [.rd,.rd] [.box 0] (zEc n x0 x1 r1 er1) (.inr (zk (zJ zM zz) zy)) ?_
 refine uA 2 8199 1 ?_
 obtain ⟨h1,H⟩ | ⟨h1,H⟩ := bC H
 ·refine nA h1 ?_
  refine tK ?_
  refine rA 5 ?_
  obtain ⟨v2,ev2,H⟩ := bs H
  refine oA Link.row ev2 ?_
  refine dE (tI 114) (.box 0) [(0,0),(1,(x1.toNat))] 4 0 [.sl true 3 [(Net.row x0)]] (Link.row v2) (zt rfl (zI ev2).2) ?_
  refine uA 2 69 65 ?_
  obtain ⟨v3,ev3,H⟩ := bs H
  obtain ⟨r4,er4,H⟩ := bs H
  refine Tr.draws mixed 20 kr ⟨59,1,[sA 6 6 4 0,sA 0 0 3 0,sB 2 x2],[(0,[cL 11 (x0.Bs.set (v2.A.toNat) r4) zA.row,cL 4 x0.Ls Link.row,cL 7 x0.Said Say.row]),(6,(Link.row v2))]⟩ (fun cx => ?_) ?_
  ·refine mA zC3 [(0,[]),(1,[]),(2,[]),(3,[19]),(4,[]),(5,[19]),(6,[]),(7,[]),(8,[]),(9,[17,19]),(10,[]),(11,[17,19])] 8 [⟨[17,19],3,31,32⟩,⟨[17,19],63,29,30⟩,⟨[19],3,25,26⟩,⟨[19],63,23,24⟩] fun cx => ?_
   refine oN zC3 12 zA.row ev3 fun cx => ?_
   refine mA zC3 [(14,[]),(15,[17,19]),(16,[])] 4 [⟨[17,19],3,35,36⟩,⟨[17,19],3,31,32⟩,⟨[17,19],63,29,30⟩,⟨[19],3,25,26⟩,⟨[19],63,23,24⟩] fun cx => ?_
   refine mC zC3 13 ?_
   refine dE (tI 41) (.box 0) [(0,0),(0,(v2.A.toNat))] 11 0 [.sl true 3 [(Net.row x0)]] (zA.row v3) (zt rfl (zI ev3).2) ?_
   refine fA ?_
   refine mC zC3 17 ?_
   refine LAt.callO tOk [.rd,.rd,.rd] (f := 155) (av := #[.tmp 34,.tmp 36,.tmp 37]) (ats := #[41,3,4]) (d := (some 38)) (ty := 41) (g := none) [(34,zA.row v3)] none kr kr kr [.box 0] (zFr n v3 v2.P x2 r4 er4) (YQ (row := [.sl true 3 [(Net.row x0)]]) (q := [(0,0),(0,(v2.A.toNat))]) kr (zt rfl (zI ev3).2) Je) kr zCl (.inr (And.intro (zk (zA.row_mine _) zy) zB5)) ?_
   refine fA ?_
   refine oN zC3 18 zA.row ev3 fun cx => ?_
   refine mC zC3 19 ?_
   refine LAt.storeB tOk (t := 41) (ty := 0) (ad := (.tmp 39)) (x := (.tmp 38)) (g := none) (tI 41) true (zA.row r4) 0 0 (v2.A.toNat) 11 0 11 x0.Bs zA.row v3 r4 kr kr kr kr kr kr kr kr (zI ev3).2 kr kr kr kr ?_
   refine fA ?_
   exact mE zC3 [6,0,2] [0,6]
  obtain ⟨v5,ev5,H⟩ := bs H
  obtain ⟨r6,er6,H⟩ := bs H
  refine Tr.draw mixed 20 kr ⟨59,1,[sA 0 0 3 0],[(0,[cL 11 ((x0.Bs.set (v2.A.toNat) r4).set (v2.B.toNat) r6) zA.row,cL 4 x0.Ls Link.row,cL 7 x0.Said Say.row])]⟩ (fun cx => ?_) ?_
  ·refine mA zC4 [(0,[]),(1,[]),(2,[]),(3,[19]),(4,[]),(5,[19]),(6,[]),(7,[]),(8,[]),(9,[17,19]),(10,[]),(11,[17,19])] 8 [⟨[17,19],3,50,51⟩,⟨[17,19],63,48,49⟩,⟨[19],3,44,45⟩,⟨[19],63,42,43⟩] fun cx => ?_
   refine oN zC4 12 zA.row ev5 fun cx => ?_
   refine mA zC4 [(14,[]),(15,[17,19]),(16,[])] 4 [⟨[17,19],3,54,55⟩,⟨[17,19],3,50,51⟩,⟨[17,19],63,48,49⟩,⟨[19],3,44,45⟩,⟨[19],63,42,43⟩] fun cx => ?_
   refine mC zC4 13 ?_
   refine dE (tI 41) (.box 0) [(0,0),(0,(v2.B.toNat))] 11 0 [.sl true 3 [[cL 11 (x0.Bs.set (v2.A.toNat) r4) zA.row,cL 4 x0.Ls Link.row,cL 7 x0.Said Say.row]]] (zA.row v5) (zt rfl (zI ev5).2) ?_
   refine fA ?_
   refine mC zC4 17 ?_
   refine LAt.callO tOk [.rd,.rd,.rd] (f := 155) (av := #[.tmp 53,.tmp 55,.tmp 56]) (ats := #[41,3,4]) (d := (some 57)) (ty := 41) (g := none) [(53,zA.row v5)] none kr kr kr [.box 0] (zFr n v5 v2.Q x2 r6 er6) (YQ (row := [.sl true 3 [[cL 11 (x0.Bs.set (v2.A.toNat) r4) zA.row,cL 4 x0.Ls Link.row,cL 7 x0.Said Say.row]]]) (q := [(0,0),(0,(v2.B.toNat))]) kr (zt rfl (zI ev5).2) Je) kr zCl (.inr (And.intro (zk (zA.row_mine _) zy) zB5)) ?_
   refine fA ?_
   refine oN zC4 18 zA.row ev5 fun cx => ?_
   refine mC zC4 19 ?_
   refine LAt.storeB tOk (t := 41) (ty := 0) (ad := (.tmp 58)) (x := (.tmp 57)) (g := none) (tI 41) true (zA.row r6) 0 0 (v2.B.toNat) 11 0 11 (x0.Bs.set (v2.A.toNat) r4) zA.row v5 r6 kr kr kr kr kr kr kr kr (zI ev5).2 kr kr kr kr ?_
   refine fA ?_
   exact mE zC4 [0] [0]
  obtain rfl := si H
  exact Fin.ofY _ [] [] _ [] _ [(0,[cL 11 ((x0.Bs.set (v2.A.toNat) r4).set (v2.B.toNat) r6) zA.row,cL 4 x0.Ls Link.row,cL 7 x0.Said Say.row])] kr rfl rfl rfl kr kr kr kr rfl rfl rfl
 refine tA h1 ?_
 refine te ?_
 obtain rfl := si H
 exact Fin.ofY _ [] [] _ [] _ [(0,(Net.row x0))] kr rfl rfl rfl kr kr kr kr rfl rfl rfl
def YM (n : Nat) (r1 : Net) (x1 : Event) (y5 : Bool) : Option (Net × Bool) :=
  (bif y5 then ((Qa n r1 x1.At (x1.Ki == 2)).bind fun r7 => (some (r7,true))) else ((JQ n r1 x1.At (x1.Ki == 5)).bind fun r6 => (some (r6,true))))
def qj (n : Nat) (r1 : Net) (x0 : Net) (x1 : Event) (y3 : Int) : Option (Net × Bool) :=
  ((zw n x1.At 0 (IntKind.wrap .i64 (y3 - 1))).bind fun r4 => (bif (!r4) then (some (r1,false)) else (bif (x1.Ki == 1) then ((Yp n r1 x1.At).bind fun r11 => (some (r11,true))) else (bif (x1.Ki == 6) then ((idx x0.Bs x1.At).bind fun v8 => ((zA8 n v8).bind fun r9 => ((idx r1.Bs x1.At).bind fun v10 => (some ((⟨(r1.Bs.set (x1.At.toNat) r9),r1.Ls,r1.Said⟩ : Net),true))))) else (bif (x1.Ki == 2) then (YM n r1 x1 true) else (YM n r1 x1 (x1.Ki == 3)))))))
def Qg (n : Nat) (r1 : Net) (x0 : Net) (x1 : Event) (y13 : Bool) : Option (Net × Bool) :=
  (bif y13 then (qj n r1 x0 x1 (x0.Said.length : Int)) else (bif (x1.Ki == 4) then (qj n r1 x0 x1 (x0.Ls.length : Int)) else (bif (x1.Ki == 5) then (qj n r1 x0 x1 (x0.Ls.length : Int)) else (qj n r1 x0 x1 0))))
def ZE (n : Nat) (r1 : Net) (x0 : Net) (x1 : Event) (y12 : Bool) : Option (Net × Bool) :=
  (bif y12 then (qj n r1 x0 x1 (x0.Bs.length : Int)) else (bif (x1.Ki == 2) then (Qg n r1 x0 x1 true) else (Qg n r1 x0 x1 (x1.Ki == 3))))
def Yq (n : Nat) (x0 : Net) (x1 : Event) : Option (Net × Bool) :=
  ((Ye n x0).bind fun r1 => ((Y9 n x0).bind fun r2 => (bif (!r2) then (some (r1,false)) else (bif (x1.Ki == 1) then (ZE n r1 x0 x1 true) else (ZE n r1 x0 x1 (x1.Ki == 6))))))
def zOm : Tab := ⟨13,[0,1,0,4,0,16,0,64,160,256,512,2047,4095],[0,1,0,4,0,16,0,64,160,256,512,10,3072],[0,1,0,4,0,16,0,64,240,496,1008,2047,4095]⟩
theorem zDv : zf (rg Tryz.f27 22) zOm = true := kr
theorem zMw (n : Nat) (x0 : Net) (x1 : Event) (r : Net × Bool) (H : Yq n x0 x1 = some r) : zD Tryz.prog 27 [.val true (CV.frzRow (Net.row x0)),.val true (CV.frzRow (Event.row x1))] [.val true (Net.row r.1),.val false [.lit (.bool r.2)]] [] := by
 refine cW Tryz.func27 (fun g d => sl [g 0,g 1,sl [g 2] (cn 12 (sl [g 3] .ret) .skip),g 4,sl [g 5] (.block 0 (sl [sl [g 6] (cn 16 .skip (g 7))] (cn 16 (g 8) (sl [sl [g 9] (cn 22 .skip (g 10))] (cn 22 (g 11) (sl [sl [g 12] (cn 28 .skip (g 13))] (cn 28 (g 14) .skip))))))),sl [g 15] (cn 39 (sl [g 16] .ret) .skip),sl [g 17] (.block 1 (sl [g 19] (cn 49 (g 20) (sl [g 21] (cn 54 (d 22) (sl [sl [g 23] (cn 68 .skip (g 24))] (cn 68 (g 25) (g 18)))))))),g 26] .ret) [.cell 4 67,.tmp 5] fun cx => ?_
 unfold Yq at H
 refine gA 4 28 28 ?_
 refine rA 1 ?_
 obtain ⟨r1,er1,H⟩ := bs H
 refine vA [.rd] (zFs n x0 r1 er1) ?_
 refine uA 2 92 92 ?_
 refine tS ?_
 refine rA 1 ?_
 obtain ⟨r2,er2,H⟩ := bs H
 refine vA [.rd] (zMH n x0 r2 er2) ?_
 refine uA 1 4188 92 ?_
 obtain ⟨h1,H⟩ | ⟨h1,H⟩ := bC H
 ·refine nA h1 ?_
  refine tK ?_
  refine gA 1 220 92 ?_
  refine tS ?_
  refine Tr.mid (ι := Int) (fun v => ⟨78,0,[sI 7 v,sA 6 6 3 0,sA 4 4 3 0,sA 3 3 2 0,sA 2 2 3 0],[(6,(Net.row r1)),(4,[cL 11 ([] : List zA) zA.row,cL 4 ([] : List Link) Link.row,cL 7 ([] : List Say) Say.row]),(3,(Event.row x1)),(2,(CV.frzRow (Net.row x0)))]⟩) (fun v => qj n r1 x0 x1 v = some r) ?_ ?_
  ·refine gA 2 32988 92 ?_
   refine tB ?_
   refine tS ?_
   refine Tr.mid (ι := Bool) (fun v => ⟨78,0,[sB 16 v,sI 15 x1.Ki,sI 7 0,sA 6 6 3 0,sA 4 4 3 0,sA 3 3 2 0,sA 2 2 3 0],[(6,(Net.row r1)),(4,[cL 11 ([] : List zA) zA.row,cL 4 ([] : List Link) Link.row,cL 7 ([] : List Say) Say.row]),(3,(Event.row x1)),(2,(CV.frzRow (Net.row x0)))]⟩) (fun v => ZE n r1 x0 x1 v = some r) ?_ ?_
   ·refine gA 2 98524 92 ?_
    refine sT ⟨78,0,[sB 16 (x1.Ki == 1),sI 15 x1.Ki,sI 7 0,sA 6 6 3 0,sA 4 4 3 0,sA 3 3 2 0,sA 2 2 3 0],[(6,(Net.row r1)),(4,[cL 11 ([] : List zA) zA.row,cL 4 ([] : List Link) Link.row,cL 7 ([] : List Say) Say.row]),(3,(Event.row x1)),(2,(CV.frzRow (Net.row x0)))]⟩ ?_
    cases h12 : (x1.Ki == 1)
    ·have H := zG h12 H
     refine nB_ ?_
     refine eA 2 98524 92 ?_
     exact jA (x1.Ki == 6) H [16,15,7,6,4,3,2] [6,4,3,2]
    have H := zH h12 H
    refine tB_ ?_
    refine tK ?_
    exact jA true H [16,15,7,6,4,3,2] [6,4,3,2]
   rintro y12 H
   have H : (ZE n r1 x0 x1 y12) = some r := H
   unfold ZE at H
   cases h7 : y12
   ·have H := zG h7 H
    refine nB_ ?_
    refine tS ?_
    refine Tr.mid (ι := Bool) (fun v => ⟨78,0,[sB 22 v,sI 15 x1.Ki,sI 7 0,sA 6 6 3 0,sA 4 4 3 0,sA 3 3 2 0,sA 2 2 3 0],[(6,(Net.row r1)),(4,[cL 11 ([] : List zA) zA.row,cL 4 ([] : List Link) Link.row,cL 7 ([] : List Say) Say.row]),(3,(Event.row x1)),(2,(CV.frzRow (Net.row x0)))]⟩) (fun v => Qg n r1 x0 x1 v = some r) ?_ ?_
    ·refine gA 2 4227292 92 ?_
     refine sT ⟨78,0,[sB 22 (x1.Ki == 2),sI 15 x1.Ki,sI 7 0,sA 6 6 3 0,sA 4 4 3 0,sA 3 3 2 0,sA 2 2 3 0],[(6,(Net.row r1)),(4,[cL 11 ([] : List zA) zA.row,cL 4 ([] : List Link) Link.row,cL 7 ([] : List Say) Say.row]),(3,(Event.row x1)),(2,(CV.frzRow (Net.row x0)))]⟩ ?_
     cases h11 : (x1.Ki == 2)
     ·have H := zG h11 H
      refine nB_ ?_
      refine eA 2 4227292 92 ?_
      exact jA (x1.Ki == 3) H [22,15,7,6,4,3,2] [6,4,3,2]
     have H := zH h11 H
     refine tB_ ?_
     refine tK ?_
     exact jA true H [22,15,7,6,4,3,2] [6,4,3,2]
    rintro y13 H
    have H : (Qg n r1 x0 x1 y13) = some r := H
    unfold Qg at H
    cases h8 : y13
    ·have H := zG h8 H
     refine nB_ ?_
     refine tS ?_
     refine gA 2 268468444 92 ?_
     refine sT ⟨78,0,[sB 28 (x1.Ki == 4),sI 15 x1.Ki,sI 7 0,sA 6 6 3 0,sA 4 4 3 0,sA 3 3 2 0,sA 2 2 3 0],[(6,(Net.row r1)),(4,[cL 11 ([] : List zA) zA.row,cL 4 ([] : List Link) Link.row,cL 7 ([] : List Say) Say.row]),(3,(Event.row x1)),(2,(CV.frzRow (Net.row x0)))]⟩ ?_
     cases h9 : (x1.Ki == 4)
     ·have H := zG h9 H
      refine nB_ ?_
      refine eA 2 268435676 92 ?_
      obtain ⟨h10,H⟩ | ⟨h10,H⟩ := bC H
      ·refine nA h10 ?_
       refine tK ?_
       exact jA 0 H [7,6,4,3,2] [6,4,3,2]
      refine tA h10 ?_
      refine Tr.at ?_
      refine lA 2 ?_
      refine kF x0.Ls Link.row ?_
      refine uA 1 220 92 ?_
      exact jA (x0.Ls.length : Int) H [7,6,4,3,2] [6,4,3,2]
     have H := zH h9 H
     refine tB_ ?_
     refine tK ?_
     refine tB_ ?_
     refine Tr.at ?_
     refine lA 2 ?_
     refine kF x0.Ls Link.row ?_
     refine uA 1 220 92 ?_
     exact jA (x0.Ls.length : Int) H [7,6,4,3,2] [6,4,3,2]
    have H := zH h8 H
    refine tB_ ?_
    refine Tr.at ?_
    refine lA 2 ?_
    refine kF x0.Said Say.row ?_
    refine uA 1 220 92 ?_
    exact jA (x0.Said.length : Int) H [7,6,4,3,2] [6,4,3,2]
   have H := zH h7 H
   refine tB_ ?_
   refine Tr.at ?_
   refine lA 2 ?_
   refine kF x0.Bs zA.row ?_
   refine uA 1 220 92 ?_
   exact jA (x0.Bs.length : Int) H [7,6,4,3,2] [6,4,3,2]
  rintro y3 H
  have H : (qj n r1 x0 x1 y3) = some r := H
  unfold qj at H
  refine tS ?_
  refine rA 4 ?_
  obtain ⟨r4,er4,H⟩ := bs H
  refine vA [.rd,.rd,.rd] (z3 n x1.At 0 (IntKind.wrap .i64 (y3 - 1)) r4 er4) ?_
  refine uA 1 549755813980 92 ?_
  obtain ⟨h2,H⟩ | ⟨h2,H⟩ := bC H
  ·refine nA h2 ?_
   refine tK ?_
   refine tS ?_
   refine gA 2 4398046511196 92 ?_
   refine tB ?_
   refine gA 2 567347999932508 92 ?_
   obtain ⟨h3,H⟩ | ⟨h3,H⟩ := bC H
   ·refine nA h3 ?_
    refine gA 2 0x4004000000005c 92 ?_
    obtain ⟨h4,H⟩ | ⟨h4,H⟩ := bC H
    ·refine nA h4 ?_
     refine tS ?_
     refine Tr.mid (ι := Bool) (fun v => ⟨78,0,[sB 68 v,sA 6 6 3 0,sA 4 4 3 0,sA 3 3 2 0],[(6,(Net.row r1)),(4,[cL 11 ([] : List zA) zA.row,cL 4 ([] : List Link) Link.row,cL 7 ([] : List Say) Say.row]),(3,(Event.row x1))]⟩) (fun v => YM n r1 x1 v = some r) ?_ ?_
     ·refine gA 2 0x100000040000000058 88 ?_
      refine sT ⟨78,0,[sB 68 (x1.Ki == 2),sI 42 x1.Ki,sA 6 6 3 0,sA 4 4 3 0,sA 3 3 2 0],[(6,(Net.row r1)),(4,[cL 11 ([] : List zA) zA.row,cL 4 ([] : List Link) Link.row,cL 7 ([] : List Say) Say.row]),(3,(Event.row x1))]⟩ ?_
      cases h6 : (x1.Ki == 2)
      ·have H := zG h6 H
       refine nB_ ?_
       refine eA 2 0x100000000000000058 88 ?_
       exact jA (x1.Ki == 3) H [68,6,4,3] [6,4,3]
      have H := zH h6 H
      refine tB_ ?_
      refine tK ?_
      exact jA true H [68,6,4,3] [6,4,3]
     rintro y5 H
     have H : (YM n r1 x1 y5) = some r := H
     unfold YM at H
     cases h5 : y5
     ·have H := zG h5 H
      refine nB_ ?_
      refine Tr.at ?_
      refine lA 5 ?_
      obtain ⟨r6,er6,H⟩ := bs H
      refine LAt.callL tOk [.lend,.rd,.rd] (f := 120) (av := #[.tmp 6,.tmp 44,.tmp 47]) (ats := #[67,3,4]) (d := (some 48)) (ty := 0) (g := none) kr kr kr [] (zJt n r1 x1.At (x1.Ki == 5) r6 er6) kr (.inl rfl) ?_
      refine dA 80 80 ?_
      refine gA 3 48 16 ?_
      exact te (fJ [(true,(Net.row r6)),(false,[cB true])] H)
     have H := zH h5 H
     refine tB_ ?_
     refine Tr.at ?_
     refine lA 5 ?_
     obtain ⟨r7,er7,H⟩ := bs H
     refine LAt.callL tOk [.lend,.rd,.rd] (f := 119) (av := #[.tmp 6,.tmp 72,.tmp 75]) (ats := #[67,3,4]) (d := (some 76)) (ty := 0) (g := none) kr kr kr [] (zH9 n r1 x1.At (x1.Ki == 2) r7 er7) kr (.inl rfl) ?_
     refine dA 80 80 ?_
     refine gA 3 48 16 ?_
     exact te (fJ [(true,(Net.row r7)),(false,[cB true])] H)
    refine tA h4 ?_
    obtain ⟨v8,ev8,H⟩ := bs H
    obtain ⟨r9,er9,H⟩ := bs H
    obtain ⟨v10,ev10,H⟩ := bs H
    refine Tr.draw mixed 13 kr ⟨78,0,[sA 6 6 3 0,sA 4 4 3 0],[(6,[cL 11 (r1.Bs.set (x1.At.toNat) r9) zA.row,cL 4 r1.Ls Link.row,cL 7 r1.Said Say.row]),(4,[cL 11 ([] : List zA) zA.row,cL 4 ([] : List Link) Link.row,cL 7 ([] : List Say) Say.row])]⟩ (fun cx => ?_) ?_
    ·refine mA zDv [(0,[]),(1,[12]),(2,[]),(3,[12]),(4,[]),(5,[10,12]),(6,[]),(7,[10,12])] 5 [⟨[10,12],3,62,63⟩,⟨[10,12],63,60,61⟩,⟨[12],3,58,59⟩,⟨[12],63,56,57⟩] fun cx => ?_
     refine iN zDv 8 zA.row ev8 fun cx => ?_
     refine mA zDv [(9,[])] 3 [⟨[10,12],3,62,63⟩,⟨[10,12],63,60,61⟩,⟨[12],3,58,59⟩,⟨[12],63,56,57⟩] fun cx => ?_
     refine mC zDv 10 ?_
     refine vA [.rd] (zMx n v8 r9 er9) ?_
     refine fA ?_
     refine oN zDv 11 zA.row ev10 fun cx => ?_
     refine mC zDv 12 ?_
     refine LAt.storeB tOk (t := 41) (ty := 0) (ad := (.tmp 67)) (x := (.tmp 66)) (g := none) (tI 41) true (zA.row r9) 6 0 (x1.At.toNat) 11 0 11 r1.Bs zA.row v10 r9 kr kr kr kr kr kr kr kr (zI ev10).2 kr kr kr kr ?_
     refine fA ?_
     exact mE zDv [6,4] [6,4]
    refine gA 3 48 16 ?_
    exact te (fJ [(true,[cL 11 (r1.Bs.set (x1.At.toNat) r9) zA.row,cL 4 r1.Ls Link.row,cL 7 r1.Said Say.row]),(false,[cB true])] H)
   refine tA h3 ?_
   refine Tr.at ?_
   refine lA 2 ?_
   obtain ⟨r11,er11,H⟩ := bs H
   refine LAt.callL tOk [.lend,.rd] (f := 117) (av := #[.tmp 6,.tmp 52]) (ats := #[67,3]) (d := (some 53)) (ty := 0) (g := none) kr kr kr [] (zIt n r1 x1.At r11 er11) kr (.inl rfl) ?_
   refine dA 80 80 ?_
   refine gA 3 48 16 ?_
   exact te (fJ [(true,(Net.row r11)),(false,[cB true])] H)
  refine tA h2 ?_
  refine gA 3 48 16 ?_
  exact te (fJ [(true,(Net.row r1)),(false,[cB false])] H)
 refine tA h1 ?_
 refine gA 3 48 16 ?_
 exact te (fJ [(true,(Net.row r1)),(false,[cB false])] H)
def zBm (n : Nat) (y6 : (List zA)) (y7 : (List Link)) (y8 : (List Say)) : Option (Net) :=
  (some (⟨y6,y7,y8⟩ : Net))
def ZF (n : Nat) : Nat → (List Event) → Int → (List zA) → (List Link) → (List Say) → Option (((List zA) × (List Link) × (List Say)) ⊕ (Net))
  | 0,_,_,_,_,_ => none
  | mo9 + 1,x1,y2,y3,y4,y5 => (bif (decide (y2 < (x1.length : Int))) then ((idx x1 y2).bind fun v10 => (bif (decide (y2 < 60)) then ((Yq n (⟨y3,y4,y5⟩ : Net) v10).bind fun r11 => (ZF n mo9 x1 (IntKind.wrap .i64 (y2 + 1)) r11.1.Bs r11.1.Ls r11.1.Said)) else (ZF n mo9 x1 (IntKind.wrap .i64 (y2 + 1)) y3 y4 y5))) else (some (Sum.inl (y3,y4,y5))))
def zAJ (n : Nat) (x0 : Net) (x1 : (List Event)) : Option (Net) :=
  ((Ye n x0).bind fun r1 => ((ZF n n x1 0 r1.Bs r1.Ls r1.Said).bind fun o => match o with | .inl (y6,y7,y8) => (zBm n y6 y7 y8) | .inr r => some r))
theorem zIB (n : Nat) (x0 : Net) (x1 : (List Event)) (r : Net) (H : zAJ n x0 x1 = some r) : zD Tryz.prog 34 [.val true (CV.frzRow (Net.row x0)),.val false [.sl false 2 (CV.frzEs (x1.map Event.row))]] [.val true (Net.row r)] [] := by
 refine cW Tryz.func34 (fun g d => sl [g 0,g 1,sl [g 2] (.block 0 (.loop (sl [g 3,cn 13 .skip (.exit 0),.block 1 (sl [g 4,g 5] (cn 18 (g 6) .skip))] (g 7)))),g 8] .ret) [.cell 4 67] fun cx => ?_
 unfold zAJ at H
 refine gA 2 22 20 ?_
 refine rA 1 ?_
 obtain ⟨r1,er1,H⟩ := bs H
 refine vA [.rd] (zFs n x0 r1 er1) ?_
 refine uA 2 50 48 ?_
 refine tS ?_
 refine rA 1 ?_
 refine kF x1 Event.row ?_
 refine uA 1 7216 48 ?_
 obtain ⟨o9,eo9,Ho9⟩ := bs H
 clear H
 refine Tr.mid (ι := (List zA) × (List Link) × (List Say)) (fun v => ⟨27,0,[sA 5 5 3 0,sA 4 4 3 0],[(5,[cL 11 v.1 zA.row,cL 4 v.2.1 Link.row,cL 7 v.2.2 Say.row]),(4,[cL 11 ([] : List zA) zA.row,cL 4 ([] : List Link) Link.row,cL 7 ([] : List Say) Say.row])]⟩) (fun v => zBm n v.1 v.2.1 v.2.2 = some r) ?_ ?_
 ·refine tB ?_
  refine Tr.loop (ι := Nat × (Int × (List zA) × (List Link) × (List Say))) (fun v => ⟨27,0,[sI 12 v.2.1,sI 11 (x1.length : Int),sC 10 (cF 2 x1 Event.row),sA 5 5 3 0,sA 4 4 3 0],[(5,[cL 11 v.2.2.1 zA.row,cL 4 v.2.2.2.1 Link.row,cL 7 v.2.2.2.2 Say.row]),(4,[cL 11 ([] : List zA) zA.row,cL 4 ([] : List Link) Link.row,cL 7 ([] : List Say) Say.row])]⟩) (fun v => ZF n v.1 x1 v.2.1 v.2.2.1 v.2.2.2.1 v.2.2.2.2 = some o9) (fun v => v.1) (n,(0,r1.Bs,r1.Ls,r1.Said)) eo9 (St.sub_of [12,11,10,5,4] [5,4] kr) ?_
  rintro ⟨mo9,y2,y3,y4,y5⟩ H
  have H : ZF n mo9 x1 y2 y3 y4 y5 = some o9 := H
  obtain _ | mo9 := mo9
  ·exact nN H
  rw [ZF] at H
  refine gA 1 15408 48 ?_
  refine tS ?_
  obtain ⟨h1,H⟩ | ⟨h1,H⟩ := bC H
  ·refine nA h1 ?_
   refine Tr.exit ?_
   refine aJ ?_
   obtain rfl := si H
   have H := Ho9
   dsimp only at H
   exact jA (y3,y4,y5) H [5,4] [5,4]
  refine tA h1 ?_
  refine tK ?_
  refine tS ?_
  refine tB ?_
  refine rA 1 ?_
  obtain ⟨v10,ev10,H⟩ := bs H
  refine iA Event.row ev10 ?_
  refine uA 4 7408 176 ?_
  refine gA 2 269488 176 ?_
  obtain ⟨h2,H⟩ | ⟨h2,H⟩ := bC H
  ·refine nA h2 ?_
   refine tK ?_
   refine eA 2 7216 48 ?_
   exact jB mo9 ((IntKind.wrap .i64 (y2 + 1)),y3,y4,y5) H [12,11,10,5,4] [5,4]
  refine tA h2 ?_
  refine Tr.at ?_
  refine lA 2 ?_
  obtain ⟨r11,er11,H⟩ := bs H
  refine vB [.rd,.rd] [.box 5] (zMw n (⟨y3,y4,y5⟩ : Net) v10 r11 er11) (.inr (zk (Net.row_mine _) (zk (zJ zM zz) zy))) ?_
  refine LAt.movT tOk (ty := 68) (t := 22) (d := 19) (g := none) [(true,(Net.row r11.1)),(false,[cB r11.2])] _ kr (.inl rfl) kr kr kr kr rfl ?_
  refine uA 3 7216 48 ?_
  refine eA 2 7216 48 ?_
  exact jB mo9 ((IntKind.wrap .i64 (y2 + 1)),r11.1.Bs,r11.1.Ls,r11.1.Said) H [12,11,10,5,4] [5,4]
 rintro ⟨y6,y7,y8⟩ H
 have H : (zBm n y6 y7 y8) = some r := H
 unfold zBm at H
 refine gA 2 16 16 ?_
 exact te (fJ [(true,[cL 11 y6 zA.row,cL 4 y7 Link.row,cL 7 y8 Say.row])] H)
def zAN (n : Nat) (x0 : Vec) (x1 : Vec) : Option (Bool) :=
  (bif (x0.Root != x1.Root) then (some false) else (bif (x0.Co != x1.Co) then (some false) else (bif (x0.Hops != x1.Hops) then (some false) else (bif (x0.Bridge != x1.Bridge) then (some false) else (bif (x0.Port != x1.Port) then (some false) else (some true))))))
theorem zIG (n : Nat) (x0 : Vec) (x1 : Vec) (r : Bool) (H : zAN n x0 x1 = some r) : zD Tryz.prog 237 [.val true (CV.frzRow (Vec.row x0)),.val true (CV.frzRow (Vec.row x1))] [.val false [.lit (.bool r)]] [] := by
 refine cW Tryz.func237 (fun g d => sl [g 0,sl [g 1] (cn 9 (sl [g 2] .ret) .skip),sl [g 3] (cn 14 (sl [g 4] .ret) .skip),sl [g 5] (cn 19 (sl [g 6] .ret) .skip),sl [g 7] (cn 24 (sl [g 8] .ret) .skip),sl [g 9] (cn 29 (sl [g 10] .ret) .skip),g 11] .ret) [.tmp 4] fun cx => ?_
 unfold zAN at H
 refine gA 3 12 12 ?_
 refine tS ?_
 refine gA 5 524 12 ?_
 obtain ⟨h1,H⟩ | ⟨h1,H⟩ := bC H
 ·refine nA h1 ?_
  refine tK ?_
  refine tS ?_
  refine gA 5 16396 12 ?_
  obtain ⟨h2,H⟩ | ⟨h2,H⟩ := bC H
  ·refine nA h2 ?_
   refine tK ?_
   refine tS ?_
   refine gA 5 524300 12 ?_
   obtain ⟨h3,H⟩ | ⟨h3,H⟩ := bC H
   ·refine nA h3 ?_
    refine tK ?_
    refine tS ?_
    refine gA 5 16777228 12 ?_
    obtain ⟨h4,H⟩ | ⟨h4,H⟩ := bC H
    ·refine nA h4 ?_
     refine tK ?_
     refine tS ?_
     refine gA 5 536870912 0 ?_
     obtain ⟨h5,H⟩ | ⟨h5,H⟩ := bC H
     ·refine nA h5 ?_
      refine tK ?_
      refine gA 1 16 0 ?_
      exact te (fT H)
     refine tA h5 ?_
     refine gA 1 16 0 ?_
     exact te (fF H)
    refine tA h4 ?_
    refine gA 1 16 0 ?_
    exact te (fF H)
   refine tA h3 ?_
   refine gA 1 16 0 ?_
   exact te (fF H)
  refine tA h2 ?_
  refine gA 1 16 0 ?_
  exact te (fF H)
 refine tA h1 ?_
 refine gA 1 16 0 ?_
 exact te (fF H)
def zBE (n : Nat) (x0 : Pt) (x1 : Pt) : Option (Bool) :=
  (bif (!(x0.Up == x1.Up)) then (some false) else (bif (x0.Co != x1.Co) then (some false) else (bif (!(x0.Has == x1.Has)) then (some false) else ((zAN n x0.Hd x1.Hd).bind fun r1 => (bif (!r1) then (some false) else (some true))))))
theorem zM0 (n : Nat) (x0 : Pt) (x1 : Pt) (r : Bool) (H : zBE n x0 x1 = some r) : zD Tryz.prog 186 [.val true (CV.frzRow (Pt.row x0)),.val true (CV.frzRow (Pt.row x1))] [.val false [.lit (.bool r)]] [] := by
 refine cW Tryz.func186 (fun g d => sl [g 0,sl [g 1] (cn 9 (sl [g 2] .ret) .skip),sl [g 3] (cn 14 (sl [g 4] .ret) .skip),sl [g 5] (cn 19 (sl [g 6] .ret) .skip),sl [g 7] (cn 25 (sl [g 8] .ret) .skip),g 9] .ret) [.tmp 4] fun cx => ?_
 unfold zBE at H
 refine gA 3 12 12 ?_
 refine tS ?_
 refine gA 5 524 12 ?_
 obtain ⟨h1,H⟩ | ⟨h1,H⟩ := bC H
 ·refine nA h1 ?_
  refine tK ?_
  refine tS ?_
  refine gA 5 16396 12 ?_
  obtain ⟨h2,H⟩ | ⟨h2,H⟩ := bC H
  ·refine nA h2 ?_
   refine tK ?_
   refine tS ?_
   refine gA 5 524300 12 ?_
   obtain ⟨h3,H⟩ | ⟨h3,H⟩ := bC H
   ·refine nA h3 ?_
    refine tK ?_
    refine tS ?_
    refine rA 4 ?_
    obtain ⟨r1,er1,H⟩ := bs H
    refine vA [.rd,.rd] (zIG n x0.Hd x1.Hd r1 er1) ?_
    refine uA 1 33554432 0 ?_
    obtain ⟨h4,H⟩ | ⟨h4,H⟩ := bC H
    ·refine nA h4 ?_
     refine tK ?_
     refine gA 1 16 0 ?_
     exact te (fT H)
    refine tA h4 ?_
    refine gA 1 16 0 ?_
    exact te (fF H)
   refine tA h3 ?_
   refine gA 1 16 0 ?_
   exact te (fF H)
  refine tA h2 ?_
  refine gA 1 16 0 ?_
  exact te (fF H)
 refine tA h1 ?_
 refine gA 1 16 0 ?_
 exact te (fF H)
def zBp (n : Nat) : Option (Bool) :=
  (some true)
def Qt (n : Nat) : Nat → (List Pt) → (List Pt) → Int → Option ((Unit) ⊕ (Bool))
  | 0,_,_,_ => none
  | mo2 + 1,x0,x1,y1 => (bif (decide (y1 < (x0.length : Int))) then ((idx x0 y1).bind fun v3 => ((idx x1 y1).bind fun v4 => ((zBE n v3 v4).bind fun r5 => (bif (!r5) then (some (Sum.inr false)) else (Qt n mo2 x0 x1 (IntKind.wrap .i64 (y1 + 1))))))) else (some (Sum.inl ())))
def zBX (n : Nat) (x0 : (List Pt)) (x1 : (List Pt)) : Option (Bool) :=
  (bif ((x0.length : Int) != (x1.length : Int)) then (some false) else ((Qt n n x0 x1 0).bind fun o => match o with | .inl _ => (zBp n) | .inr r => some r))
theorem zML (n : Nat) (x0 : (List Pt)) (x1 : (List Pt)) (r : Bool) (H : zBX n x0 x1 = some r) : zD Tryz.prog 90 [.val false [.sl false 8 (CV.frzEs (x0.map Pt.row))],.val false [.sl false 8 (CV.frzEs (x1.map Pt.row))]] [.val false [.lit (.bool r)]] [] := by
 refine cW Tryz.func90 (fun g d => sl [g 0,sl [g 1] (cn 10 (sl [g 2] .ret) .skip),sl [g 3] (.block 0 (.loop (sl [sl [g 4] (cn 14 .skip (.exit 0)),.block 1 (sl [d 6] (cn 26 (sl [g 7] .ret) .skip))] (g 5)))),g 8] .ret) [.tmp 4] fun cx => ?_
 unfold zBX at H
 refine gA 1 3 0 ?_
 refine tS ?_
 refine rA 1 ?_
 refine kF x0 Pt.row ?_
 refine lA 1 ?_
 refine kF x1 Pt.row ?_
 refine uA 1 1027 0 ?_
 obtain ⟨h1,H⟩ | ⟨h1,H⟩ := bC H
 ·refine nA h1 ?_
  refine tK ?_
  refine tS ?_
  refine gA 1 35 0 ?_
  obtain ⟨o2,eo2,Ho2⟩ := bs H
  clear H
  refine Tr.mid (ι := Unit) (fun v => ⟨27,0,[],[]⟩) (fun v => zBp n = some r) ?_ ?_
  ·refine tB ?_
   refine Tr.loop (ι := Nat × (Int)) (fun v => ⟨27,0,[sI 5 v.2,sC 0 (cF 8 x0 Pt.row),sC 1 (cF 8 x1 Pt.row)],[]⟩) (fun v => Qt n v.1 x0 x1 v.2 = some o2) (fun v => v.1) (n,0) eo2 (St.sub_of [5,0,1] [] kr) ?_
   rintro ⟨mo2,y1⟩ H
   have H : Qt n mo2 x0 x1 y1 = some o2 := H
   obtain _ | mo2 := mo2
   ·exact nN H
   rw [Qt] at H
   refine tS ?_
   refine rA 2 ?_
   refine kF x0 Pt.row ?_
   refine uA 1 16419 0 ?_
   obtain ⟨h2,H⟩ | ⟨h2,H⟩ := bC H
   ·refine nA h2 ?_
    refine Tr.exit ?_
    refine aJ ?_
    obtain rfl := si H
    have H := Ho2
    dsimp only at H
    exact jA () H [] []
   refine tA h2 ?_
   refine tK ?_
   refine tS ?_
   refine tB ?_
   obtain ⟨v3,ev3,H⟩ := bs H
   obtain ⟨v4,ev4,H⟩ := bs H
   obtain ⟨r5,er5,H⟩ := bs H
   refine Tr.draws mixed 10 kr ⟨27,0,[sB 26 (!r5),sI 5 y1,sC 0 (cF 8 x0 Pt.row),sC 1 (cF 8 x1 Pt.row)],[]⟩ (fun cx => ?_) ?_
   ·refine aA [(0,[]),(1,[])] 8 [] fun cx => ?_
    refine aI tOk 2 35 0 17 18 19 none ⟨(.slot 17),[],0,false,8,(CV.frzEs (x0.map Pt.row))⟩ y1 (Pt.row v3) _ kr kr kr kr kr kr rfl (ZI ev3) rfl (fun cx => ?_)
    refine aA [(3,[]),(4,[]),(5,[])] 4 [] fun cx => ?_
    refine aI tOk 6 35 0 21 22 23 none ⟨(.slot 21),[],0,false,8,(CV.frzEs (x1.map Pt.row))⟩ y1 (Pt.row v4) _ kr kr kr kr kr kr rfl (ZI ev4) rfl (fun cx => ?_)
    refine aA [(7,[])] 2 [] fun cx => ?_
    refine bA 8 ?_
    refine vA [.rd,.rd] (zM0 n v3 v4 r5 er5) ?_
    refine fA ?_
    refine aA [(9,[])] 0 [] fun cx => ?_
    exact eE [26,5,0,1] []
   refine sT ⟨27,0,[sB 26 (!r5),sI 5 y1,sC 0 (cF 8 x0 Pt.row),sC 1 (cF 8 x1 Pt.row)],[]⟩ ?_
   cases h3 : (!r5)
   ·have H := zG h3 H
    refine nB_ ?_
    refine tK ?_
    refine eA 3 35 0 ?_
    exact jB mo2 (IntKind.wrap .i64 (y1 + 1)) H [5,0,1] []
   have H := zH h3 H
   refine tB_ ?_
   refine gA 1 16 0 ?_
   refine te ?_
   obtain rfl := si H
   have H := Ho2
   dsimp only at H
   exact fF H
  rintro _ H
  have H : (zBp n) = some r := H
  unfold zBp at H
  refine gA 1 16 0 ?_
  exact te (fT H)
 refine tA h1 ?_
 refine gA 1 16 0 ?_
 exact te (fF H)
def JW (n : Nat) (x0 : zB) (x1 : zB) : Option (Bool) :=
  (bif (x0.Tag != x1.Tag) then (some false) else (bif (x0.Mac != x1.Mac) then (some false) else (bif (x0.Port != x1.Port) then (some false) else (bif (x0.Age != x1.Age) then (some false) else (bif (!(x0.Sc == x1.Sc)) then (some false) else (some true))))))
theorem zLJ (n : Nat) (x0 : zB) (x1 : zB) (r : Bool) (H : JW n x0 x1 = some r) : zD Tryz.prog 187 [.val true (CV.frzRow (zB.row x0)),.val true (CV.frzRow (zB.row x1))] [.val false [.lit (.bool r)]] [] := by
 refine cW Tryz.func187 (fun g d => sl [g 0,sl [g 1] (cn 9 (sl [g 2] .ret) .skip),sl [g 3] (cn 14 (sl [g 4] .ret) .skip),sl [g 5] (cn 19 (sl [g 6] .ret) .skip),sl [g 7] (cn 24 (sl [g 8] .ret) .skip),sl [g 9] (cn 29 (sl [g 10] .ret) .skip),g 11] .ret) [.tmp 4] fun cx => ?_
 unfold JW at H
 refine gA 3 12 12 ?_
 refine tS ?_
 refine gA 5 524 12 ?_
 obtain ⟨h1,H⟩ | ⟨h1,H⟩ := bC H
 ·refine nA h1 ?_
  refine tK ?_
  refine tS ?_
  refine gA 5 16396 12 ?_
  obtain ⟨h2,H⟩ | ⟨h2,H⟩ := bC H
  ·refine nA h2 ?_
   refine tK ?_
   refine tS ?_
   refine gA 5 524300 12 ?_
   obtain ⟨h3,H⟩ | ⟨h3,H⟩ := bC H
   ·refine nA h3 ?_
    refine tK ?_
    refine tS ?_
    refine gA 5 16777228 12 ?_
    obtain ⟨h4,H⟩ | ⟨h4,H⟩ := bC H
    ·refine nA h4 ?_
     refine tK ?_
     refine tS ?_
     refine gA 5 536870912 0 ?_
     obtain ⟨h5,H⟩ | ⟨h5,H⟩ := bC H
     ·refine nA h5 ?_
      refine tK ?_
      refine gA 1 16 0 ?_
      exact te (fT H)
     refine tA h5 ?_
     refine gA 1 16 0 ?_
     exact te (fF H)
    refine tA h4 ?_
    refine gA 1 16 0 ?_
    exact te (fF H)
   refine tA h3 ?_
   refine gA 1 16 0 ?_
   exact te (fF H)
  refine tA h2 ?_
  refine gA 1 16 0 ?_
  exact te (fF H)
 refine tA h1 ?_
 refine gA 1 16 0 ?_
 exact te (fF H)
def zAV (n : Nat) : Option (Bool) :=
  (some true)
def QM (n : Nat) : Nat → (List zB) → (List zB) → Int → Option ((Unit) ⊕ (Bool))
  | 0,_,_,_ => none
  | mo2 + 1,x0,x1,y1 => (bif (decide (y1 < (x0.length : Int))) then ((idx x0 y1).bind fun v3 => ((idx x1 y1).bind fun v4 => ((JW n v3 v4).bind fun r5 => (bif (!r5) then (some (Sum.inr false)) else (QM n mo2 x0 x1 (IntKind.wrap .i64 (y1 + 1))))))) else (some (Sum.inl ())))
def J9 (n : Nat) (x0 : (List zB)) (x1 : (List zB)) : Option (Bool) :=
  (bif ((x0.length : Int) != (x1.length : Int)) then (some false) else ((QM n n x0 x1 0).bind fun o => match o with | .inl _ => (zAV n) | .inr r => some r))
theorem zKd (n : Nat) (x0 : (List zB)) (x1 : (List zB)) (r : Bool) (H : J9 n x0 x1 = some r) : zD Tryz.prog 91 [.val false [.sl false 5 (CV.frzEs (x0.map zB.row))],.val false [.sl false 5 (CV.frzEs (x1.map zB.row))]] [.val false [.lit (.bool r)]] [] := by
 refine cW Tryz.func91 (fun g d => sl [g 0,sl [g 1] (cn 10 (sl [g 2] .ret) .skip),sl [g 3] (.block 0 (.loop (sl [sl [g 4] (cn 14 .skip (.exit 0)),.block 1 (sl [d 6] (cn 26 (sl [g 7] .ret) .skip))] (g 5)))),g 8] .ret) [.tmp 4] fun cx => ?_
 unfold J9 at H
 refine gA 1 3 0 ?_
 refine tS ?_
 refine rA 1 ?_
 refine kF x0 zB.row ?_
 refine lA 1 ?_
 refine kF x1 zB.row ?_
 refine uA 1 1027 0 ?_
 obtain ⟨h1,H⟩ | ⟨h1,H⟩ := bC H
 ·refine nA h1 ?_
  refine tK ?_
  refine tS ?_
  refine gA 1 35 0 ?_
  obtain ⟨o2,eo2,Ho2⟩ := bs H
  clear H
  refine Tr.mid (ι := Unit) (fun v => ⟨27,0,[],[]⟩) (fun v => zAV n = some r) ?_ ?_
  ·refine tB ?_
   refine Tr.loop (ι := Nat × (Int)) (fun v => ⟨27,0,[sI 5 v.2,sC 0 (cF 5 x0 zB.row),sC 1 (cF 5 x1 zB.row)],[]⟩) (fun v => QM n v.1 x0 x1 v.2 = some o2) (fun v => v.1) (n,0) eo2 (St.sub_of [5,0,1] [] kr) ?_
   rintro ⟨mo2,y1⟩ H
   have H : QM n mo2 x0 x1 y1 = some o2 := H
   obtain _ | mo2 := mo2
   ·exact nN H
   rw [QM] at H
   refine tS ?_
   refine rA 2 ?_
   refine kF x0 zB.row ?_
   refine uA 1 16419 0 ?_
   obtain ⟨h2,H⟩ | ⟨h2,H⟩ := bC H
   ·refine nA h2 ?_
    refine Tr.exit ?_
    refine aJ ?_
    obtain rfl := si H
    have H := Ho2
    dsimp only at H
    exact jA () H [] []
   refine tA h2 ?_
   refine tK ?_
   refine tS ?_
   refine tB ?_
   obtain ⟨v3,ev3,H⟩ := bs H
   obtain ⟨v4,ev4,H⟩ := bs H
   obtain ⟨r5,er5,H⟩ := bs H
   refine Tr.draws mixed 10 kr ⟨27,0,[sB 26 (!r5),sI 5 y1,sC 0 (cF 5 x0 zB.row),sC 1 (cF 5 x1 zB.row)],[]⟩ (fun cx => ?_) ?_
   ·refine aA [(0,[]),(1,[])] 8 [] fun cx => ?_
    refine aI tOk 2 36 0 17 18 19 none ⟨(.slot 17),[],0,false,5,(CV.frzEs (x0.map zB.row))⟩ y1 (zB.row v3) _ kr kr kr kr kr kr rfl (ZI ev3) rfl (fun cx => ?_)
    refine aA [(3,[]),(4,[]),(5,[])] 4 [] fun cx => ?_
    refine aI tOk 6 36 0 21 22 23 none ⟨(.slot 21),[],0,false,5,(CV.frzEs (x1.map zB.row))⟩ y1 (zB.row v4) _ kr kr kr kr kr kr rfl (ZI ev4) rfl (fun cx => ?_)
    refine aA [(7,[])] 2 [] fun cx => ?_
    refine bA 8 ?_
    refine vA [.rd,.rd] (zLJ n v3 v4 r5 er5) ?_
    refine fA ?_
    refine aA [(9,[])] 0 [] fun cx => ?_
    exact eE [26,5,0,1] []
   refine sT ⟨27,0,[sB 26 (!r5),sI 5 y1,sC 0 (cF 5 x0 zB.row),sC 1 (cF 5 x1 zB.row)],[]⟩ ?_
   cases h3 : (!r5)
   ·have H := zG h3 H
    refine nB_ ?_
    refine tK ?_
    refine eA 3 35 0 ?_
    exact jB mo2 (IntKind.wrap .i64 (y1 + 1)) H [5,0,1] []
   have H := zH h3 H
   refine tB_ ?_
   refine gA 1 16 0 ?_
   refine te ?_
   obtain rfl := si H
   have H := Ho2
   dsimp only at H
   exact fF H
  rintro _ H
  have H : (zAV n) = some r := H
  unfold zAV at H
  refine gA 1 16 0 ?_
  exact te (fT H)
 refine tA h1 ?_
 refine gA 1 16 0 ?_
 exact te (fF H)
def JY (n : Nat) (x0 : zC) (x1 : zC) : Option (Bool) :=
  (bif (x0.Id != x1.Id) then (some false) else (bif (x0.Members != x1.Members) then (some false) else (bif (x0.Bare != x1.Bare) then (some false) else (some true))))
theorem zLN (n : Nat) (x0 : zC) (x1 : zC) (r : Bool) (H : JY n x0 x1 = some r) : zD Tryz.prog 238 [.val true (CV.frzRow (zC.row x0)),.val true (CV.frzRow (zC.row x1))] [.val false [.lit (.bool r)]] [] := by
 refine cW Tryz.func238 (fun g d => sl [g 0,sl [g 1] (cn 9 (sl [g 2] .ret) .skip),sl [g 3] (cn 14 (sl [g 4] .ret) .skip),sl [g 5] (cn 19 (sl [g 6] .ret) .skip),g 7] .ret) [.tmp 4] fun cx => ?_
 unfold JY at H
 refine gA 3 12 12 ?_
 refine tS ?_
 refine gA 5 524 12 ?_
 obtain ⟨h1,H⟩ | ⟨h1,H⟩ := bC H
 ·refine nA h1 ?_
  refine tK ?_
  refine tS ?_
  refine gA 5 16396 12 ?_
  obtain ⟨h2,H⟩ | ⟨h2,H⟩ := bC H
  ·refine nA h2 ?_
   refine tK ?_
   refine tS ?_
   refine gA 5 524288 0 ?_
   obtain ⟨h3,H⟩ | ⟨h3,H⟩ := bC H
   ·refine nA h3 ?_
    refine tK ?_
    refine gA 1 16 0 ?_
    exact te (fT H)
   refine tA h3 ?_
   refine gA 1 16 0 ?_
   exact te (fF H)
  refine tA h2 ?_
  refine gA 1 16 0 ?_
  exact te (fF H)
 refine tA h1 ?_
 refine gA 1 16 0 ?_
 exact te (fF H)
def zAX (n : Nat) : Option (Bool) :=
  (some true)
def QO (n : Nat) : Nat → (List zC) → (List zC) → Int → Option ((Unit) ⊕ (Bool))
  | 0,_,_,_ => none
  | mo2 + 1,x0,x1,y1 => (bif (decide (y1 < (x0.length : Int))) then ((idx x0 y1).bind fun v3 => ((idx x1 y1).bind fun v4 => ((JY n v3 v4).bind fun r5 => (bif (!r5) then (some (Sum.inr false)) else (QO n mo2 x0 x1 (IntKind.wrap .i64 (y1 + 1))))))) else (some (Sum.inl ())))
def zAB (n : Nat) (x0 : (List zC)) (x1 : (List zC)) : Option (Bool) :=
  (bif ((x0.length : Int) != (x1.length : Int)) then (some false) else ((QO n n x0 x1 0).bind fun o => match o with | .inl _ => (zAX n) | .inr r => some r))
theorem zKf (n : Nat) (x0 : (List zC)) (x1 : (List zC)) (r : Bool) (H : zAB n x0 x1 = some r) : zD Tryz.prog 188 [.val false [.sl false 3 (CV.frzEs (x0.map zC.row))],.val false [.sl false 3 (CV.frzEs (x1.map zC.row))]] [.val false [.lit (.bool r)]] [] := by
 refine cW Tryz.func188 (fun g d => sl [g 0,sl [g 1] (cn 10 (sl [g 2] .ret) .skip),sl [g 3] (.block 0 (.loop (sl [sl [g 4] (cn 14 .skip (.exit 0)),.block 1 (sl [d 6] (cn 26 (sl [g 7] .ret) .skip))] (g 5)))),g 8] .ret) [.tmp 4] fun cx => ?_
 unfold zAB at H
 refine gA 1 3 0 ?_
 refine tS ?_
 refine rA 1 ?_
 refine kF x0 zC.row ?_
 refine lA 1 ?_
 refine kF x1 zC.row ?_
 refine uA 1 1027 0 ?_
 obtain ⟨h1,H⟩ | ⟨h1,H⟩ := bC H
 ·refine nA h1 ?_
  refine tK ?_
  refine tS ?_
  refine gA 1 35 0 ?_
  obtain ⟨o2,eo2,Ho2⟩ := bs H
  clear H
  refine Tr.mid (ι := Unit) (fun v => ⟨27,0,[],[]⟩) (fun v => zAX n = some r) ?_ ?_
  ·refine tB ?_
   refine Tr.loop (ι := Nat × (Int)) (fun v => ⟨27,0,[sI 5 v.2,sC 0 (cF 3 x0 zC.row),sC 1 (cF 3 x1 zC.row)],[]⟩) (fun v => QO n v.1 x0 x1 v.2 = some o2) (fun v => v.1) (n,0) eo2 (St.sub_of [5,0,1] [] kr) ?_
   rintro ⟨mo2,y1⟩ H
   have H : QO n mo2 x0 x1 y1 = some o2 := H
   obtain _ | mo2 := mo2
   ·exact nN H
   rw [QO] at H
   refine tS ?_
   refine rA 2 ?_
   refine kF x0 zC.row ?_
   refine uA 1 16419 0 ?_
   obtain ⟨h2,H⟩ | ⟨h2,H⟩ := bC H
   ·refine nA h2 ?_
    refine Tr.exit ?_
    refine aJ ?_
    obtain rfl := si H
    have H := Ho2
    dsimp only at H
    exact jA () H [] []
   refine tA h2 ?_
   refine tK ?_
   refine tS ?_
   refine tB ?_
   obtain ⟨v3,ev3,H⟩ := bs H
   obtain ⟨v4,ev4,H⟩ := bs H
   obtain ⟨r5,er5,H⟩ := bs H
   refine Tr.draws mixed 10 kr ⟨27,0,[sB 26 (!r5),sI 5 y1,sC 0 (cF 3 x0 zC.row),sC 1 (cF 3 x1 zC.row)],[]⟩ (fun cx => ?_) ?_
   ·refine aA [(0,[]),(1,[])] 8 [] fun cx => ?_
    refine aI tOk 2 37 0 17 18 19 none ⟨(.slot 17),[],0,false,3,(CV.frzEs (x0.map zC.row))⟩ y1 (zC.row v3) _ kr kr kr kr kr kr rfl (ZI ev3) rfl (fun cx => ?_)
    refine aA [(3,[]),(4,[]),(5,[])] 4 [] fun cx => ?_
    refine aI tOk 6 37 0 21 22 23 none ⟨(.slot 21),[],0,false,3,(CV.frzEs (x1.map zC.row))⟩ y1 (zC.row v4) _ kr kr kr kr kr kr rfl (ZI ev4) rfl (fun cx => ?_)
    refine aA [(7,[])] 2 [] fun cx => ?_
    refine bA 8 ?_
    refine vA [.rd,.rd] (zLN n v3 v4 r5 er5) ?_
    refine fA ?_
    refine aA [(9,[])] 0 [] fun cx => ?_
    exact eE [26,5,0,1] []
   refine sT ⟨27,0,[sB 26 (!r5),sI 5 y1,sC 0 (cF 3 x0 zC.row),sC 1 (cF 3 x1 zC.row)],[]⟩ ?_
   cases h3 : (!r5)
   ·have H := zG h3 H
    refine nB_ ?_
    refine tK ?_
    refine eA 3 35 0 ?_
    exact jB mo2 (IntKind.wrap .i64 (y1 + 1)) H [5,0,1] []
   have H := zH h3 H
   refine tB_ ?_
   refine gA 1 16 0 ?_
   refine te ?_
   obtain rfl := si H
   have H := Ho2
   dsimp only at H
   exact fF H
  rintro _ H
  have H : (zAX n) = some r := H
  unfold zAX at H
  refine gA 1 16 0 ?_
  exact te (fT H)
 refine tA h1 ?_
 refine gA 1 16 0 ?_
 exact te (fF H)
def zBD (n : Nat) : Option (Bool) :=
  (some true)
def Qb (n : Nat) : Nat → (List Int) → (List Int) → Int → Option ((Unit) ⊕ (Bool))
  | 0,_,_,_ => none
  | mo2 + 1,x0,x1,y1 => (bif (decide (y1 < (x0.length : Int))) then ((idx x0 y1).bind fun v3 => ((idx x1 y1).bind fun v4 => (bif (v3 != v4) then (some (Sum.inr false)) else (Qb n mo2 x0 x1 (IntKind.wrap .i64 (y1 + 1)))))) else (some (Sum.inl ())))
def zAr (n : Nat) (x0 : (List Int)) (x1 : (List Int)) : Option (Bool) :=
  (bif ((x0.length : Int) != (x1.length : Int)) then (some false) else ((Qb n n x0 x1 0).bind fun o => match o with | .inl _ => (zBD n) | .inr r => some r))
theorem zLK (n : Nat) (x0 : (List Int)) (x1 : (List Int)) (r : Bool) (H : zAr n x0 x1 = some r) : zD Tryz.prog 189 [.val false [.sl false 1 (CV.frzEs (x0.map intRow))],.val false [.sl false 1 (CV.frzEs (x1.map intRow))]] [.val false [.lit (.bool r)]] [] := by
 refine cW Tryz.func189 (fun g d => sl [g 0,sl [g 1] (cn 10 (sl [g 2] .ret) .skip),sl [g 3] (.block 0 (.loop (sl [sl [g 4] (cn 14 .skip (.exit 0)),.block 1 (sl [d 6] (cn 25 (sl [g 7] .ret) .skip))] (g 5)))),g 8] .ret) [.tmp 4] fun cx => ?_
 unfold zAr at H
 refine gA 1 3 0 ?_
 refine tS ?_
 refine rA 1 ?_
 refine kF x0 intRow ?_
 refine lA 1 ?_
 refine kF x1 intRow ?_
 refine uA 1 1027 0 ?_
 obtain ⟨h1,H⟩ | ⟨h1,H⟩ := bC H
 ·refine nA h1 ?_
  refine tK ?_
  refine tS ?_
  refine gA 1 35 0 ?_
  obtain ⟨o2,eo2,Ho2⟩ := bs H
  clear H
  refine Tr.mid (ι := Unit) (fun v => ⟨26,0,[],[]⟩) (fun v => zBD n = some r) ?_ ?_
  ·refine tB ?_
   refine Tr.loop (ι := Nat × (Int)) (fun v => ⟨26,0,[sI 5 v.2,sC 0 (cF 1 x0 intRow),sC 1 (cF 1 x1 intRow)],[]⟩) (fun v => Qb n v.1 x0 x1 v.2 = some o2) (fun v => v.1) (n,0) eo2 (St.sub_of [5,0,1] [] kr) ?_
   rintro ⟨mo2,y1⟩ H
   have H : Qb n mo2 x0 x1 y1 = some o2 := H
   obtain _ | mo2 := mo2
   ·exact nN H
   rw [Qb] at H
   refine tS ?_
   refine rA 2 ?_
   refine kF x0 intRow ?_
   refine uA 1 16419 0 ?_
   obtain ⟨h2,H⟩ | ⟨h2,H⟩ := bC H
   ·refine nA h2 ?_
    refine Tr.exit ?_
    refine aJ ?_
    obtain rfl := si H
    have H := Ho2
    dsimp only at H
    exact jA () H [] []
   refine tA h2 ?_
   refine tK ?_
   refine tS ?_
   refine tB ?_
   obtain ⟨v3,ev3,H⟩ := bs H
   obtain ⟨v4,ev4,H⟩ := bs H
   refine Tr.draws mixed 9 kr ⟨26,0,[sB 25 (v3 != v4),sI 5 y1,sC 0 (cF 1 x0 intRow),sC 1 (cF 1 x1 intRow)],[]⟩ (fun cx => ?_) ?_
   ·refine aA [(0,[]),(1,[])] 7 [] fun cx => ?_
    refine aI tOk 2 25 0 17 18 19 none ⟨(.slot 17),[],0,false,1,(CV.frzEs (x0.map intRow))⟩ y1 [cI v3] _ kr kr kr kr kr kr rfl (ZI ev3) rfl (fun cx => ?_)
    refine aA [(3,[]),(4,[]),(5,[])] 3 [] fun cx => ?_
    refine aI tOk 6 25 0 21 22 23 none ⟨(.slot 21),[],0,false,1,(CV.frzEs (x1.map intRow))⟩ y1 [cI v4] _ kr kr kr kr kr kr rfl (ZI ev4) rfl (fun cx => ?_)
    refine aA [(7,[]),(8,[])] 0 [] fun cx => ?_
    exact eE [25,5,0,1] []
   refine sT ⟨26,0,[sB 25 (v3 != v4),sI 5 y1,sC 0 (cF 1 x0 intRow),sC 1 (cF 1 x1 intRow)],[]⟩ ?_
   cases h3 : (v3 != v4)
   ·have H := zG h3 H
    refine nB_ ?_
    refine tK ?_
    refine eA 3 35 0 ?_
    exact jB mo2 (IntKind.wrap .i64 (y1 + 1)) H [5,0,1] []
   have H := zH h3 H
   refine tB_ ?_
   refine gA 1 16 0 ?_
   refine te ?_
   obtain rfl := si H
   have H := Ho2
   dsimp only at H
   exact fF H
  rintro _ H
  have H : (zBD n) = some r := H
  unfold zBD at H
  refine gA 1 16 0 ?_
  exact te (fT H)
 refine tA h1 ?_
 refine gA 1 16 0 ?_
 exact te (fF H)
def zAt (n : Nat) (x0 : zF) (x1 : zF) : Option (Bool) :=
  ((zAB n x0.Rows x1.Rows).bind fun r1 => (bif (!r1) then (some false) else ((zAr n x0.Pv x1.Pv).bind fun r2 => (bif (!r2) then (some false) else (some true)))))
theorem zLO (n : Nat) (x0 : zF) (x1 : zF) (r : Bool) (H : zAt n x0 x1 = some r) : zD Tryz.prog 92 [.val true (CV.frzRow (zF.row x0)),.val true (CV.frzRow (zF.row x1))] [.val false [.lit (.bool r)]] [] := by
 refine cW Tryz.func92 (fun g d => sl [g 0,sl [g 1] (cn 10 (sl [g 2] .ret) .skip),sl [g 3] (cn 16 (sl [g 4] .ret) .skip),g 5] .ret) [.tmp 4] fun cx => ?_
 unfold zAt at H
 refine gA 3 12 12 ?_
 refine tS ?_
 refine rA 4 ?_
 obtain ⟨r1,er1,H⟩ := bs H
 refine vA [.rd,.rd] (zKf n x0.Rows x1.Rows r1 er1) ?_
 refine uA 1 1036 12 ?_
 obtain ⟨h1,H⟩ | ⟨h1,H⟩ := bC H
 ·refine nA h1 ?_
  refine tK ?_
  refine tS ?_
  refine rA 4 ?_
  obtain ⟨r2,er2,H⟩ := bs H
  refine vA [.rd,.rd] (zLK n x0.Pv x1.Pv r2 er2) ?_
  refine uA 1 65536 0 ?_
  obtain ⟨h2,H⟩ | ⟨h2,H⟩ := bC H
  ·refine nA h2 ?_
   refine tK ?_
   refine gA 1 16 0 ?_
   exact te (fT H)
  refine tA h2 ?_
  refine gA 1 16 0 ?_
  exact te (fF H)
 refine tA h1 ?_
 refine gA 1 16 0 ?_
 exact te (fF H)
def YB (n : Nat) (x0 : zA) (x1 : zA) : Option (Bool) :=
  (bif (x0.Id != x1.Id) then (some false) else (bif (!(x0.Name.toList == x1.Name.toList)) then (some false) else ((zBX n x0.Ps x1.Ps).bind fun r1 => (bif (!r1) then (some false) else ((J9 n x0.F x1.F).bind fun r2 => (bif (!r2) then (some false) else ((zAt n x0.V x1.V).bind fun r3 => (bif (!r3) then (some false) else (bif (x0.Tk != x1.Tk) then (some false) else (bif (x0.Pa != x1.Pa) then (some false) else (bif (x0.Wo != x1.Wo) then (some false) else (bif (x0.Dr != x1.Dr) then (some false) else (bif (x0.Ve != x1.Ve) then (some false) else (some true))))))))))))))
theorem zJx (n : Nat) (x0 : zA) (x1 : zA) (r : Bool) (H : YB n x0 x1 = some r) : zD Tryz.prog 15 [.val true (CV.frzRow (zA.row x0)),.val true (CV.frzRow (zA.row x1))] [.val false [.lit (.bool r)]] [] := by
 refine cW Tryz.func15 (fun g d => sl [g 0,sl [g 1] (cn 9 (sl [g 2] .ret) .skip),sl [g 3] (cn 14 (sl [g 4] .ret) .skip),sl [g 5] (cn 20 (sl [g 6] .ret) .skip),sl [g 7] (cn 26 (sl [g 8] .ret) .skip),sl [g 9] (cn 32 (sl [g 10] .ret) .skip),sl [g 11] (cn 37 (sl [g 12] .ret) .skip),sl [g 13] (cn 42 (sl [g 14] .ret) .skip),sl [g 15] (cn 47 (sl [g 16] .ret) .skip),sl [g 17] (cn 52 (sl [g 18] .ret) .skip),sl [g 19] (cn 57 (sl [g 20] .ret) .skip),g 21] .ret) [.tmp 4] fun cx => ?_
 unfold YB at H
 refine gA 3 12 12 ?_
 refine tS ?_
 refine gA 5 524 12 ?_
 obtain ⟨h1,H⟩ | ⟨h1,H⟩ := bC H
 ·refine nA h1 ?_
  refine tK ?_
  refine tS ?_
  refine gA 5 16396 12 ?_
  obtain ⟨h2,H⟩ | ⟨h2,H⟩ := bC H
  ·refine nA h2 ?_
   refine tK ?_
   refine tS ?_
   refine rA 4 ?_
   obtain ⟨r1,er1,H⟩ := bs H
   refine vA [.rd,.rd] (zML n x0.Ps x1.Ps r1 er1) ?_
   refine uA 1 1048588 12 ?_
   obtain ⟨h3,H⟩ | ⟨h3,H⟩ := bC H
   ·refine nA h3 ?_
    refine tK ?_
    refine tS ?_
    refine rA 4 ?_
    obtain ⟨r2,er2,H⟩ := bs H
    refine vA [.rd,.rd] (zKd n x0.F x1.F r2 er2) ?_
    refine uA 1 67108876 12 ?_
    obtain ⟨h4,H⟩ | ⟨h4,H⟩ := bC H
    ·refine nA h4 ?_
     refine tK ?_
     refine tS ?_
     refine rA 4 ?_
     obtain ⟨r3,er3,H⟩ := bs H
     refine vA [.rd,.rd] (zLO n x0.V x1.V r3 er3) ?_
     refine uA 1 4294967308 12 ?_
     obtain ⟨h5,H⟩ | ⟨h5,H⟩ := bC H
     ·refine nA h5 ?_
      refine tK ?_
      refine tS ?_
      refine gA 5 137438953484 12 ?_
      refine sT ⟨58,0,[sB 37 (x0.Tk != x1.Tk),sA 3 3 11 0,sA 2 2 11 0],[(3,(CV.frzRow (zA.row x1))),(2,(CV.frzRow (zA.row x0)))]⟩ ?_
      cases h6 : (x0.Tk != x1.Tk)
      ·have H := zG h6 H
       refine nB_ ?_
       refine tK ?_
       refine tS ?_
       refine gA 5 4398046511116 12 ?_
       obtain ⟨h7,H⟩ | ⟨h7,H⟩ := bC H
       ·refine nA h7 ?_
        refine tK ?_
        refine tS ?_
        refine gA 5 0x80000000000c 12 ?_
        obtain ⟨h8,H⟩ | ⟨h8,H⟩ := bC H
        ·refine nA h8 ?_
         refine tK ?_
         refine tS ?_
         refine gA 5 4503599627370508 12 ?_
         obtain ⟨h9,H⟩ | ⟨h9,H⟩ := bC H
         ·refine nA h9 ?_
          refine tK ?_
          refine tS ?_
          refine gA 5 0x200000000000000 0 ?_
          obtain ⟨h10,H⟩ | ⟨h10,H⟩ := bC H
          ·refine nA h10 ?_
           refine tK ?_
           refine gA 1 16 0 ?_
           exact te (fT H)
          refine tA h10 ?_
          refine gA 1 16 0 ?_
          exact te (fF H)
         refine tA h9 ?_
         refine gA 1 16 0 ?_
         exact te (fF H)
        refine tA h8 ?_
        refine gA 1 16 0 ?_
        exact te (fF H)
       refine tA h7 ?_
       refine gA 1 16 0 ?_
       exact te (fF H)
      have H := zH h6 H
      refine tB_ ?_
      refine gA 1 16 0 ?_
      exact te (fF H)
     refine tA h5 ?_
     refine gA 1 16 0 ?_
     exact te (fF H)
    refine tA h4 ?_
    refine gA 1 16 0 ?_
    exact te (fF H)
   refine tA h3 ?_
   refine gA 1 16 0 ?_
   exact te (fF H)
  refine tA h2 ?_
  refine gA 1 16 0 ?_
  exact te (fF H)
 refine tA h1 ?_
 refine gA 1 16 0 ?_
 exact te (fF H)
def JC (n : Nat) : Option (Bool) :=
  (some true)
def Zl (n : Nat) : Nat → (List zA) → (List zA) → Int → Option ((Unit) ⊕ (Bool))
  | 0,_,_,_ => none
  | mo2 + 1,x0,x1,y1 => (bif (decide (y1 < (x0.length : Int))) then ((idx x0 y1).bind fun v3 => ((idx x1 y1).bind fun v4 => ((YB n v3 v4).bind fun r5 => (bif (!r5) then (some (Sum.inr false)) else (Zl n mo2 x0 x1 (IntKind.wrap .i64 (y1 + 1))))))) else (some (Sum.inl ())))
def Yt (n : Nat) (x0 : (List zA)) (x1 : (List zA)) : Option (Bool) :=
  (bif ((x0.length : Int) != (x1.length : Int)) then (some false) else ((Zl n n x0 x1 0).bind fun o => match o with | .inl _ => (JC n) | .inr r => some r))
theorem zIy (n : Nat) (x0 : (List zA)) (x1 : (List zA)) (r : Bool) (H : Yt n x0 x1 = some r) : zD Tryz.prog 121 [.val false [.sl false 11 (CV.frzEs (x0.map zA.row))],.val false [.sl false 11 (CV.frzEs (x1.map zA.row))]] [.val false [.lit (.bool r)]] [] := by
 refine cW Tryz.func121 (fun g d => sl [g 0,sl [g 1] (cn 10 (sl [g 2] .ret) .skip),sl [g 3] (.block 0 (.loop (sl [sl [g 4] (cn 14 .skip (.exit 0)),.block 1 (sl [d 6] (cn 26 (sl [g 7] .ret) .skip))] (g 5)))),g 8] .ret) [.tmp 4] fun cx => ?_
 unfold Yt at H
 refine gA 1 3 0 ?_
 refine tS ?_
 refine rA 1 ?_
 refine kF x0 zA.row ?_
 refine lA 1 ?_
 refine kF x1 zA.row ?_
 refine uA 1 1027 0 ?_
 obtain ⟨h1,H⟩ | ⟨h1,H⟩ := bC H
 ·refine nA h1 ?_
  refine tK ?_
  refine tS ?_
  refine gA 1 35 0 ?_
  obtain ⟨o2,eo2,Ho2⟩ := bs H
  clear H
  refine Tr.mid (ι := Unit) (fun v => ⟨27,0,[],[]⟩) (fun v => JC n = some r) ?_ ?_
  ·refine tB ?_
   refine Tr.loop (ι := Nat × (Int)) (fun v => ⟨27,0,[sI 5 v.2,sC 0 (cF 11 x0 zA.row),sC 1 (cF 11 x1 zA.row)],[]⟩) (fun v => Zl n v.1 x0 x1 v.2 = some o2) (fun v => v.1) (n,0) eo2 (St.sub_of [5,0,1] [] kr) ?_
   rintro ⟨mo2,y1⟩ H
   have H : Zl n mo2 x0 x1 y1 = some o2 := H
   obtain _ | mo2 := mo2
   ·exact nN H
   rw [Zl] at H
   refine tS ?_
   refine rA 2 ?_
   refine kF x0 zA.row ?_
   refine uA 1 16419 0 ?_
   obtain ⟨h2,H⟩ | ⟨h2,H⟩ := bC H
   ·refine nA h2 ?_
    refine Tr.exit ?_
    refine aJ ?_
    obtain rfl := si H
    have H := Ho2
    dsimp only at H
    exact jA () H [] []
   refine tA h2 ?_
   refine tK ?_
   refine tS ?_
   refine tB ?_
   obtain ⟨v3,ev3,H⟩ := bs H
   obtain ⟨v4,ev4,H⟩ := bs H
   obtain ⟨r5,er5,H⟩ := bs H
   refine Tr.draws mixed 10 kr ⟨27,0,[sB 26 (!r5),sI 5 y1,sC 0 (cF 11 x0 zA.row),sC 1 (cF 11 x1 zA.row)],[]⟩ (fun cx => ?_) ?_
   ·refine aA [(0,[]),(1,[])] 8 [] fun cx => ?_
    refine aI tOk 2 63 0 17 18 19 none ⟨(.slot 17),[],0,false,11,(CV.frzEs (x0.map zA.row))⟩ y1 (CV.frzRow (zA.row v3)) _ kr kr kr kr kr kr rfl (ZI ev3) rfl (fun cx => ?_)
    refine aA [(3,[]),(4,[]),(5,[])] 4 [] fun cx => ?_
    refine aI tOk 6 63 0 21 22 23 none ⟨(.slot 21),[],0,false,11,(CV.frzEs (x1.map zA.row))⟩ y1 (CV.frzRow (zA.row v4)) _ kr kr kr kr kr kr rfl (ZI ev4) rfl (fun cx => ?_)
    refine aA [(7,[])] 2 [] fun cx => ?_
    refine bA 8 ?_
    refine vA [.rd,.rd] (zJx n v3 v4 r5 er5) ?_
    refine fA ?_
    refine aA [(9,[])] 0 [] fun cx => ?_
    exact eE [26,5,0,1] []
   refine sT ⟨27,0,[sB 26 (!r5),sI 5 y1,sC 0 (cF 11 x0 zA.row),sC 1 (cF 11 x1 zA.row)],[]⟩ ?_
   cases h3 : (!r5)
   ·have H := zG h3 H
    refine nB_ ?_
    refine tK ?_
    refine eA 3 35 0 ?_
    exact jB mo2 (IntKind.wrap .i64 (y1 + 1)) H [5,0,1] []
   have H := zH h3 H
   refine tB_ ?_
   refine gA 1 16 0 ?_
   refine te ?_
   obtain rfl := si H
   have H := Ho2
   dsimp only at H
   exact fF H
  rintro _ H
  have H : (JC n) = some r := H
  unfold JC at H
  refine gA 1 16 0 ?_
  exact te (fT H)
 refine tA h1 ?_
 refine gA 1 16 0 ?_
 exact te (fF H)
def JX (n : Nat) (x0 : Link) (x1 : Link) : Option (Bool) :=
  (bif (x0.A != x1.A) then (some false) else (bif (x0.P != x1.P) then (some false) else (bif (x0.B != x1.B) then (some false) else (bif (x0.Q != x1.Q) then (some false) else (some true)))))
theorem zLL (n : Nat) (x0 : Link) (x1 : Link) (r : Bool) (H : JX n x0 x1 = some r) : zD Tryz.prog 204 [.val true (CV.frzRow (Link.row x0)),.val true (CV.frzRow (Link.row x1))] [.val false [.lit (.bool r)]] [] := by
 refine cW Tryz.func204 (fun g d => sl [g 0,sl [g 1] (cn 9 (sl [g 2] .ret) .skip),sl [g 3] (cn 14 (sl [g 4] .ret) .skip),sl [g 5] (cn 19 (sl [g 6] .ret) .skip),sl [g 7] (cn 24 (sl [g 8] .ret) .skip),g 9] .ret) [.tmp 4] fun cx => ?_
 unfold JX at H
 refine gA 3 12 12 ?_
 refine tS ?_
 refine gA 5 524 12 ?_
 obtain ⟨h1,H⟩ | ⟨h1,H⟩ := bC H
 ·refine nA h1 ?_
  refine tK ?_
  refine tS ?_
  refine gA 5 16396 12 ?_
  obtain ⟨h2,H⟩ | ⟨h2,H⟩ := bC H
  ·refine nA h2 ?_
   refine tK ?_
   refine tS ?_
   refine gA 5 524300 12 ?_
   obtain ⟨h3,H⟩ | ⟨h3,H⟩ := bC H
   ·refine nA h3 ?_
    refine tK ?_
    refine tS ?_
    refine gA 5 16777216 0 ?_
    obtain ⟨h4,H⟩ | ⟨h4,H⟩ := bC H
    ·refine nA h4 ?_
     refine tK ?_
     refine gA 1 16 0 ?_
     exact te (fT H)
    refine tA h4 ?_
    refine gA 1 16 0 ?_
    exact te (fF H)
   refine tA h3 ?_
   refine gA 1 16 0 ?_
   exact te (fF H)
  refine tA h2 ?_
  refine gA 1 16 0 ?_
  exact te (fF H)
 refine tA h1 ?_
 refine gA 1 16 0 ?_
 exact te (fF H)
def zAW (n : Nat) : Option (Bool) :=
  (some true)
def QN (n : Nat) : Nat → (List Link) → (List Link) → Int → Option ((Unit) ⊕ (Bool))
  | 0,_,_,_ => none
  | mo2 + 1,x0,x1,y1 => (bif (decide (y1 < (x0.length : Int))) then ((idx x0 y1).bind fun v3 => ((idx x1 y1).bind fun v4 => ((JX n v3 v4).bind fun r5 => (bif (!r5) then (some (Sum.inr false)) else (QN n mo2 x0 x1 (IntKind.wrap .i64 (y1 + 1))))))) else (some (Sum.inl ())))
def zAA (n : Nat) (x0 : (List Link)) (x1 : (List Link)) : Option (Bool) :=
  (bif ((x0.length : Int) != (x1.length : Int)) then (some false) else ((QN n n x0 x1 0).bind fun o => match o with | .inl _ => (zAW n) | .inr r => some r))
theorem zKe (n : Nat) (x0 : (List Link)) (x1 : (List Link)) (r : Bool) (H : zAA n x0 x1 = some r) : zD Tryz.prog 122 [.val false [.sl false 4 (CV.frzEs (x0.map Link.row))],.val false [.sl false 4 (CV.frzEs (x1.map Link.row))]] [.val false [.lit (.bool r)]] [] := by
 refine cW Tryz.func122 (fun g d => sl [g 0,sl [g 1] (cn 10 (sl [g 2] .ret) .skip),sl [g 3] (.block 0 (.loop (sl [sl [g 4] (cn 14 .skip (.exit 0)),.block 1 (sl [d 6] (cn 26 (sl [g 7] .ret) .skip))] (g 5)))),g 8] .ret) [.tmp 4] fun cx => ?_
 unfold zAA at H
 refine gA 1 3 0 ?_
 refine tS ?_
 refine rA 1 ?_
 refine kF x0 Link.row ?_
 refine lA 1 ?_
 refine kF x1 Link.row ?_
 refine uA 1 1027 0 ?_
 obtain ⟨h1,H⟩ | ⟨h1,H⟩ := bC H
 ·refine nA h1 ?_
  refine tK ?_
  refine tS ?_
  refine gA 1 35 0 ?_
  obtain ⟨o2,eo2,Ho2⟩ := bs H
  clear H
  refine Tr.mid (ι := Unit) (fun v => ⟨27,0,[],[]⟩) (fun v => zAW n = some r) ?_ ?_
  ·refine tB ?_
   refine Tr.loop (ι := Nat × (Int)) (fun v => ⟨27,0,[sI 5 v.2,sC 0 (cF 4 x0 Link.row),sC 1 (cF 4 x1 Link.row)],[]⟩) (fun v => QN n v.1 x0 x1 v.2 = some o2) (fun v => v.1) (n,0) eo2 (St.sub_of [5,0,1] [] kr) ?_
   rintro ⟨mo2,y1⟩ H
   have H : QN n mo2 x0 x1 y1 = some o2 := H
   obtain _ | mo2 := mo2
   ·exact nN H
   rw [QN] at H
   refine tS ?_
   refine rA 2 ?_
   refine kF x0 Link.row ?_
   refine uA 1 16419 0 ?_
   obtain ⟨h2,H⟩ | ⟨h2,H⟩ := bC H
   ·refine nA h2 ?_
    refine Tr.exit ?_
    refine aJ ?_
    obtain rfl := si H
    have H := Ho2
    dsimp only at H
    exact jA () H [] []
   refine tA h2 ?_
   refine tK ?_
   refine tS ?_
   refine tB ?_
   obtain ⟨v3,ev3,H⟩ := bs H
   obtain ⟨v4,ev4,H⟩ := bs H
   obtain ⟨r5,er5,H⟩ := bs H
   refine Tr.draws mixed 10 kr ⟨27,0,[sB 26 (!r5),sI 5 y1,sC 0 (cF 4 x0 Link.row),sC 1 (cF 4 x1 Link.row)],[]⟩ (fun cx => ?_) ?_
   ·refine aA [(0,[]),(1,[])] 8 [] fun cx => ?_
    refine aI tOk 2 64 0 17 18 19 none ⟨(.slot 17),[],0,false,4,(CV.frzEs (x0.map Link.row))⟩ y1 (Link.row v3) _ kr kr kr kr kr kr rfl (ZI ev3) rfl (fun cx => ?_)
    refine aA [(3,[]),(4,[]),(5,[])] 4 [] fun cx => ?_
    refine aI tOk 6 64 0 21 22 23 none ⟨(.slot 21),[],0,false,4,(CV.frzEs (x1.map Link.row))⟩ y1 (Link.row v4) _ kr kr kr kr kr kr rfl (ZI ev4) rfl (fun cx => ?_)
    refine aA [(7,[])] 2 [] fun cx => ?_
    refine bA 8 ?_
    refine vA [.rd,.rd] (zLL n v3 v4 r5 er5) ?_
    refine fA ?_
    refine aA [(9,[])] 0 [] fun cx => ?_
    exact eE [26,5,0,1] []
   refine sT ⟨27,0,[sB 26 (!r5),sI 5 y1,sC 0 (cF 4 x0 Link.row),sC 1 (cF 4 x1 Link.row)],[]⟩ ?_
   cases h3 : (!r5)
   ·have H := zG h3 H
    refine nB_ ?_
    refine tK ?_
    refine eA 3 35 0 ?_
    exact jB mo2 (IntKind.wrap .i64 (y1 + 1)) H [5,0,1] []
   have H := zH h3 H
   refine tB_ ?_
   refine gA 1 16 0 ?_
   refine te ?_
   obtain rfl := si H
   have H := Ho2
   dsimp only at H
   exact fF H
  rintro _ H
  have H : (zAW n) = some r := H
  unfold zAW at H
  refine gA 1 16 0 ?_
  exact te (fT H)
 refine tA h1 ?_
 refine gA 1 16 0 ?_
 exact te (fF H)
def zAM (n : Nat) (x0 : Say) (x1 : Say) : Option (Bool) :=
  (bif (x0.Link != x1.Link) then (some false) else (bif (!(x0.Back == x1.Back)) then (some false) else ((zAN n x0.V x1.V).bind fun r1 => (bif (!r1) then (some false) else (some true)))))
theorem zMM (n : Nat) (x0 : Say) (x1 : Say) (r : Bool) (H : zAM n x0 x1 = some r) : zD Tryz.prog 205 [.val true (CV.frzRow (Say.row x0)),.val true (CV.frzRow (Say.row x1))] [.val false [.lit (.bool r)]] [] := by
 refine cW Tryz.func205 (fun g d => sl [g 0,sl [g 1] (cn 9 (sl [g 2] .ret) .skip),sl [g 3] (cn 14 (sl [g 4] .ret) .skip),sl [g 5] (cn 20 (sl [g 6] .ret) .skip),g 7] .ret) [.tmp 4] fun cx => ?_
 unfold zAM at H
 refine gA 3 12 12 ?_
 refine tS ?_
 refine gA 5 524 12 ?_
 obtain ⟨h1,H⟩ | ⟨h1,H⟩ := bC H
 ·refine nA h1 ?_
  refine tK ?_
  refine tS ?_
  refine gA 5 16396 12 ?_
  obtain ⟨h2,H⟩ | ⟨h2,H⟩ := bC H
  ·refine nA h2 ?_
   refine tK ?_
   refine tS ?_
   refine rA 4 ?_
   obtain ⟨r1,er1,H⟩ := bs H
   refine vA [.rd,.rd] (zIG n x0.V x1.V r1 er1) ?_
   refine uA 1 1048576 0 ?_
   obtain ⟨h3,H⟩ | ⟨h3,H⟩ := bC H
   ·refine nA h3 ?_
    refine tK ?_
    refine gA 1 16 0 ?_
    exact te (fT H)
   refine tA h3 ?_
   refine gA 1 16 0 ?_
   exact te (fF H)
  refine tA h2 ?_
  refine gA 1 16 0 ?_
  exact te (fF H)
 refine tA h1 ?_
 refine gA 1 16 0 ?_
 exact te (fF H)
def zBF (n : Nat) : Option (Bool) :=
  (some true)
def Qc (n : Nat) : Nat → (List Say) → (List Say) → Int → Option ((Unit) ⊕ (Bool))
  | 0,_,_,_ => none
  | mo2 + 1,x0,x1,y1 => (bif (decide (y1 < (x0.length : Int))) then ((idx x0 y1).bind fun v3 => ((idx x1 y1).bind fun v4 => ((zAM n v3 v4).bind fun r5 => (bif (!r5) then (some (Sum.inr false)) else (Qc n mo2 x0 x1 (IntKind.wrap .i64 (y1 + 1))))))) else (some (Sum.inl ())))
def zAs (n : Nat) (x0 : (List Say)) (x1 : (List Say)) : Option (Bool) :=
  (bif ((x0.length : Int) != (x1.length : Int)) then (some false) else ((Qc n n x0 x1 0).bind fun o => match o with | .inl _ => (zBF n) | .inr r => some r))
theorem zLM (n : Nat) (x0 : (List Say)) (x1 : (List Say)) (r : Bool) (H : zAs n x0 x1 = some r) : zD Tryz.prog 123 [.val false [.sl false 7 (CV.frzEs (x0.map Say.row))],.val false [.sl false 7 (CV.frzEs (x1.map Say.row))]] [.val false [.lit (.bool r)]] [] := by
 refine cW Tryz.func123 (fun g d => sl [g 0,sl [g 1] (cn 10 (sl [g 2] .ret) .skip),sl [g 3] (.block 0 (.loop (sl [sl [g 4] (cn 14 .skip (.exit 0)),.block 1 (sl [d 6] (cn 26 (sl [g 7] .ret) .skip))] (g 5)))),g 8] .ret) [.tmp 4] fun cx => ?_
 unfold zAs at H
 refine gA 1 3 0 ?_
 refine tS ?_
 refine rA 1 ?_
 refine kF x0 Say.row ?_
 refine lA 1 ?_
 refine kF x1 Say.row ?_
 refine uA 1 1027 0 ?_
 obtain ⟨h1,H⟩ | ⟨h1,H⟩ := bC H
 ·refine nA h1 ?_
  refine tK ?_
  refine tS ?_
  refine gA 1 35 0 ?_
  obtain ⟨o2,eo2,Ho2⟩ := bs H
  clear H
  refine Tr.mid (ι := Unit) (fun v => ⟨27,0,[],[]⟩) (fun v => zBF n = some r) ?_ ?_
  ·refine tB ?_
   refine Tr.loop (ι := Nat × (Int)) (fun v => ⟨27,0,[sI 5 v.2,sC 0 (cF 7 x0 Say.row),sC 1 (cF 7 x1 Say.row)],[]⟩) (fun v => Qc n v.1 x0 x1 v.2 = some o2) (fun v => v.1) (n,0) eo2 (St.sub_of [5,0,1] [] kr) ?_
   rintro ⟨mo2,y1⟩ H
   have H : Qc n mo2 x0 x1 y1 = some o2 := H
   obtain _ | mo2 := mo2
   ·exact nN H
   rw [Qc] at H
   refine tS ?_
   refine rA 2 ?_
   refine kF x0 Say.row ?_
   refine uA 1 16419 0 ?_
   obtain ⟨h2,H⟩ | ⟨h2,H⟩ := bC H
   ·refine nA h2 ?_
    refine Tr.exit ?_
    refine aJ ?_
    obtain rfl := si H
    have H := Ho2
    dsimp only at H
    exact jA () H [] []
   refine tA h2 ?_
   refine tK ?_
   refine tS ?_
   refine tB ?_
   obtain ⟨v3,ev3,H⟩ := bs H
   obtain ⟨v4,ev4,H⟩ := bs H
   obtain ⟨r5,er5,H⟩ := bs H
   refine Tr.draws mixed 10 kr ⟨27,0,[sB 26 (!r5),sI 5 y1,sC 0 (cF 7 x0 Say.row),sC 1 (cF 7 x1 Say.row)],[]⟩ (fun cx => ?_) ?_
   ·refine aA [(0,[]),(1,[])] 8 [] fun cx => ?_
    refine aI tOk 2 65 0 17 18 19 none ⟨(.slot 17),[],0,false,7,(CV.frzEs (x0.map Say.row))⟩ y1 (Say.row v3) _ kr kr kr kr kr kr rfl (ZI ev3) rfl (fun cx => ?_)
    refine aA [(3,[]),(4,[]),(5,[])] 4 [] fun cx => ?_
    refine aI tOk 6 65 0 21 22 23 none ⟨(.slot 21),[],0,false,7,(CV.frzEs (x1.map Say.row))⟩ y1 (Say.row v4) _ kr kr kr kr kr kr rfl (ZI ev4) rfl (fun cx => ?_)
    refine aA [(7,[])] 2 [] fun cx => ?_
    refine bA 8 ?_
    refine vA [.rd,.rd] (zMM n v3 v4 r5 er5) ?_
    refine fA ?_
    refine aA [(9,[])] 0 [] fun cx => ?_
    exact eE [26,5,0,1] []
   refine sT ⟨27,0,[sB 26 (!r5),sI 5 y1,sC 0 (cF 7 x0 Say.row),sC 1 (cF 7 x1 Say.row)],[]⟩ ?_
   cases h3 : (!r5)
   ·have H := zG h3 H
    refine nB_ ?_
    refine tK ?_
    refine eA 3 35 0 ?_
    exact jB mo2 (IntKind.wrap .i64 (y1 + 1)) H [5,0,1] []
   have H := zH h3 H
   refine tB_ ?_
   refine gA 1 16 0 ?_
   refine te ?_
   obtain rfl := si H
   have H := Ho2
   dsimp only at H
   exact fF H
  rintro _ H
  have H : (zBF n) = some r := H
  unfold zBF at H
  refine gA 1 16 0 ?_
  exact te (fT H)
 refine tA h1 ?_
 refine gA 1 16 0 ?_
 exact te (fF H)
def Q6 (n : Nat) (x0 : Net) (x1 : Net) : Option (Bool) :=
  ((Yt n x0.Bs x1.Bs).bind fun r1 => (bif (!r1) then (some false) else ((zAA n x0.Ls x1.Ls).bind fun r2 => (bif (!r2) then (some false) else ((zAs n x0.Said x1.Said).bind fun r3 => (bif (!r3) then (some false) else (some true)))))))
theorem zDk (n : Nat) (x0 : Net) (x1 : Net) (r : Bool) (H : Q6 n x0 x1 = some r) : zD Tryz.prog 28 [.val true (CV.frzRow (Net.row x0)),.val true (CV.frzRow (Net.row x1))] [.val false [.lit (.bool r)]] [] := by
 refine cW Tryz.func28 (fun g d => sl [g 0,sl [g 1] (cn 10 (sl [g 2] .ret) .skip),sl [g 3] (cn 16 (sl [g 4] .ret) .skip),sl [g 5] (cn 22 (sl [g 6] .ret) .skip),g 7] .ret) [.tmp 4] fun cx => ?_
 unfold Q6 at H
 refine gA 3 12 12 ?_
 refine tS ?_
 refine rA 4 ?_
 obtain ⟨r1,er1,H⟩ := bs H
 refine vA [.rd,.rd] (zIy n x0.Bs x1.Bs r1 er1) ?_
 refine uA 1 1036 12 ?_
 obtain ⟨h1,H⟩ | ⟨h1,H⟩ := bC H
 ·refine nA h1 ?_
  refine tK ?_
  refine tS ?_
  refine rA 4 ?_
  obtain ⟨r2,er2,H⟩ := bs H
  refine vA [.rd,.rd] (zKe n x0.Ls x1.Ls r2 er2) ?_
  refine uA 1 65548 12 ?_
  obtain ⟨h2,H⟩ | ⟨h2,H⟩ := bC H
  ·refine nA h2 ?_
   refine tK ?_
   refine tS ?_
   refine rA 4 ?_
   obtain ⟨r3,er3,H⟩ := bs H
   refine vA [.rd,.rd] (zLM n x0.Said x1.Said r3 er3) ?_
   refine uA 1 4194304 0 ?_
   obtain ⟨h3,H⟩ | ⟨h3,H⟩ := bC H
   ·refine nA h3 ?_
    refine tK ?_
    refine gA 1 16 0 ?_
    exact te (fT H)
   refine tA h3 ?_
   refine gA 1 16 0 ?_
   exact te (fF H)
  refine tA h2 ?_
  refine gA 1 16 0 ?_
  exact te (fF H)
 refine tA h1 ?_
 refine gA 1 16 0 ?_
 exact te (fF H)
def J8 (n : Nat) (x0 : Event) (x1 : Event) : Option (Bool) :=
  (bif (x0.Ki != x1.Ki) then (some false) else (bif (x0.At != x1.At) then (some false) else (some true)))
theorem zKc (n : Nat) (x0 : Event) (x1 : Event) (r : Bool) (H : J8 n x0 x1 = some r) : zD Tryz.prog 130 [.val true (CV.frzRow (Event.row x0)),.val true (CV.frzRow (Event.row x1))] [.val false [.lit (.bool r)]] [] := by
 refine cW Tryz.func130 (fun g d => sl [g 0,sl [g 1] (cn 9 (sl [g 2] .ret) .skip),sl [g 3] (cn 14 (sl [g 4] .ret) .skip),g 5] .ret) [.tmp 4] fun cx => ?_
 unfold J8 at H
 refine gA 3 12 12 ?_
 refine tS ?_
 refine gA 5 524 12 ?_
 obtain ⟨h1,H⟩ | ⟨h1,H⟩ := bC H
 ·refine nA h1 ?_
  refine tK ?_
  refine tS ?_
  refine gA 5 16384 0 ?_
  obtain ⟨h2,H⟩ | ⟨h2,H⟩ := bC H
  ·refine nA h2 ?_
   refine tK ?_
   refine gA 1 16 0 ?_
   exact te (fT H)
  refine tA h2 ?_
  refine gA 1 16 0 ?_
  exact te (fF H)
 refine tA h1 ?_
 refine gA 1 16 0 ?_
 exact te (fF H)
def Jt (n : Nat) : Option (Bool) :=
  (some true)
def Z8 (n : Nat) : Nat → (List Event) → (List Event) → Int → Option ((Unit) ⊕ (Bool))
  | 0,_,_,_ => none
  | mo2 + 1,x0,x1,y1 => (bif (decide (y1 < (x0.length : Int))) then ((idx x0 y1).bind fun v3 => ((idx x1 y1).bind fun v4 => ((J8 n v3 v4).bind fun r5 => (bif (!r5) then (some (Sum.inr false)) else (Z8 n mo2 x0 x1 (IntKind.wrap .i64 (y1 + 1))))))) else (some (Sum.inl ())))
def JV (n : Nat) (x0 : (List Event)) (x1 : (List Event)) : Option (Bool) :=
  (bif ((x0.length : Int) != (x1.length : Int)) then (some false) else ((Z8 n n x0 x1 0).bind fun o => match o with | .inl _ => (Jt n) | .inr r => some r))
theorem zJy (n : Nat) (x0 : (List Event)) (x1 : (List Event)) (r : Bool) (H : JV n x0 x1 = some r) : zD Tryz.prog 35 [.val false [.sl false 2 (CV.frzEs (x0.map Event.row))],.val false [.sl false 2 (CV.frzEs (x1.map Event.row))]] [.val false [.lit (.bool r)]] [] := by
 refine cW Tryz.func35 (fun g d => sl [g 0,sl [g 1] (cn 10 (sl [g 2] .ret) .skip),sl [g 3] (.block 0 (.loop (sl [sl [g 4] (cn 14 .skip (.exit 0)),.block 1 (sl [d 6] (cn 26 (sl [g 7] .ret) .skip))] (g 5)))),g 8] .ret) [.tmp 4] fun cx => ?_
 unfold JV at H
 refine gA 1 3 0 ?_
 refine tS ?_
 refine rA 1 ?_
 refine kF x0 Event.row ?_
 refine lA 1 ?_
 refine kF x1 Event.row ?_
 refine uA 1 1027 0 ?_
 obtain ⟨h1,H⟩ | ⟨h1,H⟩ := bC H
 ·refine nA h1 ?_
  refine tK ?_
  refine tS ?_
  refine gA 1 35 0 ?_
  obtain ⟨o2,eo2,Ho2⟩ := bs H
  clear H
  refine Tr.mid (ι := Unit) (fun v => ⟨27,0,[],[]⟩) (fun v => Jt n = some r) ?_ ?_
  ·refine tB ?_
   refine Tr.loop (ι := Nat × (Int)) (fun v => ⟨27,0,[sI 5 v.2,sC 0 (cF 2 x0 Event.row),sC 1 (cF 2 x1 Event.row)],[]⟩) (fun v => Z8 n v.1 x0 x1 v.2 = some o2) (fun v => v.1) (n,0) eo2 (St.sub_of [5,0,1] [] kr) ?_
   rintro ⟨mo2,y1⟩ H
   have H : Z8 n mo2 x0 x1 y1 = some o2 := H
   obtain _ | mo2 := mo2
   ·exact nN H
   rw [Z8] at H
   refine tS ?_
   refine rA 2 ?_
   refine kF x0 Event.row ?_
   refine uA 1 16419 0 ?_
   obtain ⟨h2,H⟩ | ⟨h2,H⟩ := bC H
   ·refine nA h2 ?_
    refine Tr.exit ?_
    refine aJ ?_
    obtain rfl := si H
    have H := Ho2
    dsimp only at H
    exact jA () H [] []
   refine tA h2 ?_
   refine tK ?_
   refine tS ?_
   refine tB ?_
   obtain ⟨v3,ev3,H⟩ := bs H
   obtain ⟨v4,ev4,H⟩ := bs H
   obtain ⟨r5,er5,H⟩ := bs H
   refine Tr.draws mixed 10 kr ⟨27,0,[sB 26 (!r5),sI 5 y1,sC 0 (cF 2 x0 Event.row),sC 1 (cF 2 x1 Event.row)],[]⟩ (fun cx => ?_) ?_
   ·refine aA [(0,[]),(1,[])] 8 [] fun cx => ?_
    refine aI tOk 2 79 0 17 18 19 none ⟨(.slot 17),[],0,false,2,(CV.frzEs (x0.map Event.row))⟩ y1 (Event.row v3) _ kr kr kr kr kr kr rfl (ZI ev3) rfl (fun cx => ?_)
    refine aA [(3,[]),(4,[]),(5,[])] 4 [] fun cx => ?_
    refine aI tOk 6 79 0 21 22 23 none ⟨(.slot 21),[],0,false,2,(CV.frzEs (x1.map Event.row))⟩ y1 (Event.row v4) _ kr kr kr kr kr kr rfl (ZI ev4) rfl (fun cx => ?_)
    refine aA [(7,[])] 2 [] fun cx => ?_
    refine bA 8 ?_
    refine vA [.rd,.rd] (zKc n v3 v4 r5 er5) ?_
    refine fA ?_
    refine aA [(9,[])] 0 [] fun cx => ?_
    exact eE [26,5,0,1] []
   refine sT ⟨27,0,[sB 26 (!r5),sI 5 y1,sC 0 (cF 2 x0 Event.row),sC 1 (cF 2 x1 Event.row)],[]⟩ ?_
   cases h3 : (!r5)
   ·have H := zG h3 H
    refine nB_ ?_
    refine tK ?_
    refine eA 3 35 0 ?_
    exact jB mo2 (IntKind.wrap .i64 (y1 + 1)) H [5,0,1] []
   have H := zH h3 H
   refine tB_ ?_
   refine gA 1 16 0 ?_
   refine te ?_
   obtain rfl := si H
   have H := Ho2
   dsimp only at H
   exact fF H
  rintro _ H
  have H : (Jt n) = some r := H
  unfold Jt at H
  refine gA 1 16 0 ?_
  exact te (fT H)
 refine tA h1 ?_
 refine gA 1 16 0 ?_
 exact te (fF H)
def YO (n : Nat) (y3 : ByteArray) : Option (ByteArray) :=
  (bif (decide ((⟨#[109]⟩ : ByteArray).size + y3.size ≤ 268435456)) then (some ((⟨#[109]⟩ : ByteArray) ++ y3)) else none)
def Z9 (n : Nat) : Nat → ByteArray → Int → Option ((ByteArray) ⊕ (ByteArray))
  | 0,_,_ => none
  | mo5 + 1,y1,y2 => (bif (decide (y2 > 0)) then (bif (decide ((10 : Int) ≠ 0)) then (bif (decide ((strOf [(IntKind.wrap .u8 (IntKind.wrap .i64 (48 + (Int.tmod y2 10))))]).size + y1.size ≤ 268435456)) then (bif (decide ((10 : Int) ≠ 0)) then (Z9 n mo5 ((strOf [(IntKind.wrap .u8 (IntKind.wrap .i64 (48 + (Int.tmod y2 10))))]) ++ y1) (IntKind.wrap .i64 (Int.tdiv y2 10))) else none) else none) else none) else (some (Sum.inl y1)))
def YC (n : Nat) (x0 : Int) : Option (ByteArray) :=
  (bif (decide (x0 ≤ 0)) then (some (⟨#[109,48]⟩ : ByteArray)) else ((Z9 n n (⟨#[]⟩ : ByteArray) x0).bind fun o => match o with | .inl y3 => (YO n y3) | .inr r => some r))
theorem zFW (n : Nat) (x0 : Int) (r : ByteArray) (H : YC n x0 = some r) : zD Tryz.prog 206 [.val false [.lit (.int .i64 x0)]] [.val false [.lit (.string r)]] [] := by
 refine cW Tryz.func206 (fun g d => sl [g 0,sl [g 1] (cn 5 (sl [g 2] .ret) .skip),g 3,.block 0 (.loop (sl [sl [g 4] (cn 7 .skip (.exit 0))] (.block 1 (sl [g 5] (g 6))))),g 7] .ret) [.tmp 2] fun cx => ?_
 unfold YC at H
 refine gA 1 1 0 ?_
 refine tS ?_
 refine gA 2 33 0 ?_
 obtain ⟨h1,H⟩ | ⟨h1,H⟩ := bC H
 ·refine nA h1 ?_
  refine tK ?_
  refine gA 1 9 0 ?_
  refine tS ?_
  obtain ⟨o5,eo5,Ho5⟩ := bs H
  clear H
  refine Tr.mid (ι := ByteArray) (fun v => ⟨20,0,[sC 3 (cS v)],[]⟩) (fun v => YO n v = some r) ?_ ?_
  ·refine tB ?_
   refine Tr.loop (ι := Nat × (ByteArray × Int)) (fun v => ⟨20,0,[sC 3 (cS v.2.1),sI 0 v.2.2],[]⟩) (fun v => Z9 n v.1 v.2.1 v.2.2 = some o5) (fun v => v.1) (n,((⟨#[]⟩ : ByteArray),x0)) eo5 (St.sub_of [3,0] [] kr) ?_
   rintro ⟨mo5,y1,y2⟩ H
   have H : Z9 n mo5 y1 y2 = some o5 := H
   obtain _ | mo5 := mo5
   ·exact nN H
   rw [Z9] at H
   refine tS ?_
   refine gA 2 137 0 ?_
   obtain ⟨h2,H⟩ | ⟨h2,H⟩ := bC H
   ·refine nA h2 ?_
    refine Tr.exit ?_
    refine aJ ?_
    obtain rfl := si H
    have H := Ho5
    dsimp only at H
    exact jA y1 H [3] []
   refine tA h2 ?_
   refine tK ?_
   refine tB ?_
   refine rA 1 ?_
   obtain ⟨hg6,H⟩ := gs H
   refine LAt.binC tOk (op := .rem) (t := 3) (ty := 3) (ty' := 3) (x := (.tmp 8)) (y := (.const (.int .i64 10))) (d := 9) (g := none) (.int .i64 y2) (.int .i64 10) (.int .i64 (Int.tmod y2 10)) _ kr kr kr kr kr (φ := (IntKind.i64 = IntKind.i64 ∧ (10 : Int) ≠ 0)) kr (⟨rfl,of_decide_eq_true hg6⟩) rfl ?_
   refine lA 3 ?_
   refine LAt.b2s tOk (t := 30) (u := 9) (ty := 9) (x := (.tmp 12)) (d := 13) (g := none) ⟨(.slot 12),[],0,true,1,([(IntKind.wrap .u8 (IntKind.wrap .i64 (48 + (Int.tmod y2 10))))].map zIo)⟩ [(IntKind.wrap .u8 (IntKind.wrap .i64 (48 + (Int.tmod y2 10))))] kr kr kr kr kr kr kr (.inl rfl) ?_
   refine lA 1 ?_
   obtain ⟨hg7,H⟩ := gs H
   refine LAt.cat tOk (t := 9) (u := 9) (ty := 9) (x := (.tmp 13)) (y := (.tmp 14)) (d := 15) (g := none) (strOf [(IntKind.wrap .u8 (IntKind.wrap .i64 (48 + (Int.tmod y2 10))))]) y1 kr kr kr kr kr kr hg7 ?_
   refine uA 1 9 0 ?_
   refine Tr.at ?_
   refine lA 1 ?_
   obtain ⟨hg8,H⟩ := gs H
   refine LAt.binC tOk (op := .quo) (t := 3) (ty := 3) (ty' := 3) (x := (.tmp 16)) (y := (.const (.int .i64 10))) (d := 17) (g := none) (.int .i64 y2) (.int .i64 10) (.int .i64 (IntKind.wrap .i64 (Int.tdiv y2 10))) _ kr kr kr kr kr (φ := (IntKind.i64 = IntKind.i64 ∧ (10 : Int) ≠ 0)) kr (⟨rfl,of_decide_eq_true hg8⟩) rfl ?_
   refine uA 1 9 0 ?_
   exact jB mo5 (((strOf [(IntKind.wrap .u8 (IntKind.wrap .i64 (48 + (Int.tmod y2 10))))]) ++ y1),(IntKind.wrap .i64 (Int.tdiv y2 10))) H [3,0] []
  rintro y3 H
  have H : (YO n y3) = some r := H
  unfold YO at H
  refine rA 1 ?_
  obtain ⟨hg4,H⟩ := gs H
  refine LAt.cat tOk (t := 9) (u := 9) (ty := 9) (x := (.const (.string (⟨#[109]⟩ : ByteArray)))) (y := (.tmp 18)) (d := 19) (g := none) (⟨#[109]⟩ : ByteArray) y3 kr kr kr kr kr kr hg4 ?_
  refine uA 1 4 0 ?_
  exact te (fJ [(false,[cS ((⟨#[109]⟩ : ByteArray) ++ y3)])] H)
 refine tA h1 ?_
 refine gA 1 4 0 ?_
 exact te (fJ [(false,[cS (⟨#[109,48]⟩ : ByteArray)])] H)
def zAZ (n : Nat) (y4 : (List Pt)) (y5 : Int) : Option (Int × (List Pt)) :=
  (some (y5,y4))
def ZR (n : Nat) : Nat → Int → (List Pt) → Int → Option (((List Pt) × Int) ⊕ (Int × (List Pt)))
  | 0,_,_,_ => none
  | mo6 + 1,y1,y2,y3 => (bif (decide (y1 < (y2.length : Int))) then (bif (decide ((3 : Int) ≠ 0)) then ((idx y2 y1).bind fun v8 => ((idx (y2.set (y1.toNat) (⟨((Int.tmod y3 3) == 0),v8.Co,v8.Has,v8.Hd⟩ : Pt)) y1).bind fun v9 => (bif (decide ((3 : Int) ≠ 0)) then ((idx ((y2.set (y1.toNat) (⟨((Int.tmod y3 3) == 0),v8.Co,v8.Has,v8.Hd⟩ : Pt)).set (y1.toNat) (⟨v9.Up,(IntKind.wrap .i64 (y3 + 1)),v9.Has,v9.Hd⟩ : Pt)) y1).bind fun v11 => ((idx (((y2.set (y1.toNat) (⟨((Int.tmod y3 3) == 0),v8.Co,v8.Has,v8.Hd⟩ : Pt)).set (y1.toNat) (⟨v9.Up,(IntKind.wrap .i64 (y3 + 1)),v9.Has,v9.Hd⟩ : Pt)).set (y1.toNat) (⟨v11.Up,v11.Co,((Int.tmod (IntKind.wrap .i64 ((IntKind.wrap .i64 (y3 + 1)) + 1)) 3) == 0),v11.Hd⟩ : Pt)) y1).bind fun v12 => ((idx ((((y2.set (y1.toNat) (⟨((Int.tmod y3 3) == 0),v8.Co,v8.Has,v8.Hd⟩ : Pt)).set (y1.toNat) (⟨v9.Up,(IntKind.wrap .i64 (y3 + 1)),v9.Has,v9.Hd⟩ : Pt)).set (y1.toNat) (⟨v11.Up,v11.Co,((Int.tmod (IntKind.wrap .i64 ((IntKind.wrap .i64 (y3 + 1)) + 1)) 3) == 0),v11.Hd⟩ : Pt)).set (y1.toNat) (⟨v12.Up,v12.Co,v12.Has,(⟨(IntKind.wrap .i64 ((IntKind.wrap .i64 ((IntKind.wrap .i64 (y3 + 1)) + 1)) + 1)),v12.Hd.Co,v12.Hd.Hops,v12.Hd.Bridge,v12.Hd.Port⟩ : Vec)⟩ : Pt)) y1).bind fun v13 => ((idx (((((y2.set (y1.toNat) (⟨((Int.tmod y3 3) == 0),v8.Co,v8.Has,v8.Hd⟩ : Pt)).set (y1.toNat) (⟨v9.Up,(IntKind.wrap .i64 (y3 + 1)),v9.Has,v9.Hd⟩ : Pt)).set (y1.toNat) (⟨v11.Up,v11.Co,((Int.tmod (IntKind.wrap .i64 ((IntKind.wrap .i64 (y3 + 1)) + 1)) 3) == 0),v11.Hd⟩ : Pt)).set (y1.toNat) (⟨v12.Up,v12.Co,v12.Has,(⟨(IntKind.wrap .i64 ((IntKind.wrap .i64 ((IntKind.wrap .i64 (y3 + 1)) + 1)) + 1)),v12.Hd.Co,v12.Hd.Hops,v12.Hd.Bridge,v12.Hd.Port⟩ : Vec)⟩ : Pt)).set (y1.toNat) (⟨v13.Up,v13.Co,v13.Has,(⟨v13.Hd.Root,(IntKind.wrap .i64 ((IntKind.wrap .i64 ((IntKind.wrap .i64 ((IntKind.wrap .i64 (y3 + 1)) + 1)) + 1)) + 1)),v13.Hd.Hops,v13.Hd.Bridge,v13.Hd.Port⟩ : Vec)⟩ : Pt)) y1).bind fun v14 => ((idx ((((((y2.set (y1.toNat) (⟨((Int.tmod y3 3) == 0),v8.Co,v8.Has,v8.Hd⟩ : Pt)).set (y1.toNat) (⟨v9.Up,(IntKind.wrap .i64 (y3 + 1)),v9.Has,v9.Hd⟩ : Pt)).set (y1.toNat) (⟨v11.Up,v11.Co,((Int.tmod (IntKind.wrap .i64 ((IntKind.wrap .i64 (y3 + 1)) + 1)) 3) == 0),v11.Hd⟩ : Pt)).set (y1.toNat) (⟨v12.Up,v12.Co,v12.Has,(⟨(IntKind.wrap .i64 ((IntKind.wrap .i64 ((IntKind.wrap .i64 (y3 + 1)) + 1)) + 1)),v12.Hd.Co,v12.Hd.Hops,v12.Hd.Bridge,v12.Hd.Port⟩ : Vec)⟩ : Pt)).set (y1.toNat) (⟨v13.Up,v13.Co,v13.Has,(⟨v13.Hd.Root,(IntKind.wrap .i64 ((IntKind.wrap .i64 ((IntKind.wrap .i64 ((IntKind.wrap .i64 (y3 + 1)) + 1)) + 1)) + 1)),v13.Hd.Hops,v13.Hd.Bridge,v13.Hd.Port⟩ : Vec)⟩ : Pt)).set (y1.toNat) (⟨v14.Up,v14.Co,v14.Has,(⟨v14.Hd.Root,v14.Hd.Co,(IntKind.wrap .i64 ((IntKind.wrap .i64 ((IntKind.wrap .i64 ((IntKind.wrap .i64 ((IntKind.wrap .i64 (y3 + 1)) + 1)) + 1)) + 1)) + 1)),v14.Hd.Bridge,v14.Hd.Port⟩ : Vec)⟩ : Pt)) y1).bind fun v15 => ((idx (((((((y2.set (y1.toNat) (⟨((Int.tmod y3 3) == 0),v8.Co,v8.Has,v8.Hd⟩ : Pt)).set (y1.toNat) (⟨v9.Up,(IntKind.wrap .i64 (y3 + 1)),v9.Has,v9.Hd⟩ : Pt)).set (y1.toNat) (⟨v11.Up,v11.Co,((Int.tmod (IntKind.wrap .i64 ((IntKind.wrap .i64 (y3 + 1)) + 1)) 3) == 0),v11.Hd⟩ : Pt)).set (y1.toNat) (⟨v12.Up,v12.Co,v12.Has,(⟨(IntKind.wrap .i64 ((IntKind.wrap .i64 ((IntKind.wrap .i64 (y3 + 1)) + 1)) + 1)),v12.Hd.Co,v12.Hd.Hops,v12.Hd.Bridge,v12.Hd.Port⟩ : Vec)⟩ : Pt)).set (y1.toNat) (⟨v13.Up,v13.Co,v13.Has,(⟨v13.Hd.Root,(IntKind.wrap .i64 ((IntKind.wrap .i64 ((IntKind.wrap .i64 ((IntKind.wrap .i64 (y3 + 1)) + 1)) + 1)) + 1)),v13.Hd.Hops,v13.Hd.Bridge,v13.Hd.Port⟩ : Vec)⟩ : Pt)).set (y1.toNat) (⟨v14.Up,v14.Co,v14.Has,(⟨v14.Hd.Root,v14.Hd.Co,(IntKind.wrap .i64 ((IntKind.wrap .i64 ((IntKind.wrap .i64 ((IntKind.wrap .i64 ((IntKind.wrap .i64 (y3 + 1)) + 1)) + 1)) + 1)) + 1)),v14.Hd.Bridge,v14.Hd.Port⟩ : Vec)⟩ : Pt)).set (y1.toNat) (⟨v15.Up,v15.Co,v15.Has,(⟨v15.Hd.Root,v15.Hd.Co,v15.Hd.Hops,(IntKind.wrap .i64 ((IntKind.wrap .i64 ((IntKind.wrap .i64 ((IntKind.wrap .i64 ((IntKind.wrap .i64 ((IntKind.wrap .i64 (y3 + 1)) + 1)) + 1)) + 1)) + 1)) + 1)),v15.Hd.Port⟩ : Vec)⟩ : Pt)) y1).bind fun v16 => (ZR n mo6 (IntKind.wrap .i64 (y1 + 1)) ((((((((y2.set (y1.toNat) (⟨((Int.tmod y3 3) == 0),v8.Co,v8.Has,v8.Hd⟩ : Pt)).set (y1.toNat) (⟨v9.Up,(IntKind.wrap .i64 (y3 + 1)),v9.Has,v9.Hd⟩ : Pt)).set (y1.toNat) (⟨v11.Up,v11.Co,((Int.tmod (IntKind.wrap .i64 ((IntKind.wrap .i64 (y3 + 1)) + 1)) 3) == 0),v11.Hd⟩ : Pt)).set (y1.toNat) (⟨v12.Up,v12.Co,v12.Has,(⟨(IntKind.wrap .i64 ((IntKind.wrap .i64 ((IntKind.wrap .i64 (y3 + 1)) + 1)) + 1)),v12.Hd.Co,v12.Hd.Hops,v12.Hd.Bridge,v12.Hd.Port⟩ : Vec)⟩ : Pt)).set (y1.toNat) (⟨v13.Up,v13.Co,v13.Has,(⟨v13.Hd.Root,(IntKind.wrap .i64 ((IntKind.wrap .i64 ((IntKind.wrap .i64 ((IntKind.wrap .i64 (y3 + 1)) + 1)) + 1)) + 1)),v13.Hd.Hops,v13.Hd.Bridge,v13.Hd.Port⟩ : Vec)⟩ : Pt)).set (y1.toNat) (⟨v14.Up,v14.Co,v14.Has,(⟨v14.Hd.Root,v14.Hd.Co,(IntKind.wrap .i64 ((IntKind.wrap .i64 ((IntKind.wrap .i64 ((IntKind.wrap .i64 ((IntKind.wrap .i64 (y3 + 1)) + 1)) + 1)) + 1)) + 1)),v14.Hd.Bridge,v14.Hd.Port⟩ : Vec)⟩ : Pt)).set (y1.toNat) (⟨v15.Up,v15.Co,v15.Has,(⟨v15.Hd.Root,v15.Hd.Co,v15.Hd.Hops,(IntKind.wrap .i64 ((IntKind.wrap .i64 ((IntKind.wrap .i64 ((IntKind.wrap .i64 ((IntKind.wrap .i64 ((IntKind.wrap .i64 (y3 + 1)) + 1)) + 1)) + 1)) + 1)) + 1)),v15.Hd.Port⟩ : Vec)⟩ : Pt)).set (y1.toNat) (⟨v16.Up,v16.Co,v16.Has,(⟨v16.Hd.Root,v16.Hd.Co,v16.Hd.Hops,v16.Hd.Bridge,(IntKind.wrap .i64 ((IntKind.wrap .i64 ((IntKind.wrap .i64 ((IntKind.wrap .i64 ((IntKind.wrap .i64 ((IntKind.wrap .i64 ((IntKind.wrap .i64 (y3 + 1)) + 1)) + 1)) + 1)) + 1)) + 1)) + 1))⟩ : Vec)⟩ : Pt)) (IntKind.wrap .i64 ((IntKind.wrap .i64 ((IntKind.wrap .i64 ((IntKind.wrap .i64 ((IntKind.wrap .i64 ((IntKind.wrap .i64 ((IntKind.wrap .i64 ((IntKind.wrap .i64 (y3 + 1)) + 1)) + 1)) + 1)) + 1)) + 1)) + 1)) + 1))))))))) else none))) else none) else (some (Sum.inl (y2,y3))))
def zAD (n : Nat) (x0 : (List Pt)) (x1 : Int) : Option (Int × (List Pt)) :=
  ((ZR n n 0 x0 x1).bind fun o => match o with | .inl (y4,y5) => (zAZ n y4 y5) | .inr r => some r)
noncomputable abbrev G95 (k : Nat) := Rg Tryz.f95 k
theorem zKh (n : Nat) (x0 : (List Pt)) (x1 : Int) (r : Int × (List Pt)) (H : zAD n x0 x1 = some r) : zD Tryz.prog 95 [.io false [.sl true 8 (x0.map Pt.row)],.val false [.lit (.int .i64 x1)]] [.val false [.lit (.int .i64 r.1)]] [(0,[.sl true 8 (r.2.map Pt.row)])] := by
 refine zD.of_body tOk Tryz.func95 rfl (c := (.seq (G95 0) (.seq (.seq (G95 1) (.block 0 (.loop (.seq (.seq (G95 2) (.cond (.tmp 9) .skip (.exit 0))) (.seq (.block 1 (.seq (G95 4) (.seq (G95 5) (.seq (G95 6) (.seq (G95 7) (.seq (G95 8) (.seq (G95 9) (.seq (G95 10) (.seq (G95 11) (.seq (G95 12) (.seq (G95 13) (.seq (G95 14) (.seq (G95 15) (.seq (G95 16) (.seq (G95 17) (.seq (G95 18) (G95 19))))))))))))))))) (G95 3)))))) (.seq (G95 20) .ret)))) kr (Nat.le_of_ble_eq_true kr) 1 (rs := [.tmp 4]) rfl [0] (by decide) [(false,[.lit (.int .i64 r.1)])] [[.sl true 8 (r.2.map Pt.row)]] [] fun cx => ?_
 show Tr _ _ _ ⟨78,1,[sC 0 (cL 8 x0 Pt.row),sI 1 x1],[]⟩ _
 unfold zAD at H
 refine gA 1 3 0 ?_
 refine tS ?_
 refine gA 1 35 0 ?_
 obtain ⟨o6,eo6,Ho6⟩ := bs H
 clear H
 refine Tr.mid (ι := (List Pt) × Int) (fun v => ⟨78,1,[sC 0 (cL 8 v.1 Pt.row),sI 1 v.2],[]⟩) (fun v => zAZ n v.1 v.2 = some r) ?_ ?_
 ·refine tB ?_
  refine Tr.loop (ι := Nat × (Int × (List Pt) × Int)) (fun v => ⟨78,1,[sI 5 v.2.1,sC 0 (cL 8 v.2.2.1 Pt.row),sI 1 v.2.2.2],[]⟩) (fun v => ZR n v.1 v.2.1 v.2.2.1 v.2.2.2 = some o6) (fun v => v.1) (n,(0,x0,x1)) eo6 (St.sub_of [5,0,1] [] kr) ?_
  rintro ⟨mo6,y1,y2,y3⟩ H
  have H : ZR n mo6 y1 y2 y3 = some o6 := H
  obtain _ | mo6 := mo6
  ·exact nN H
  rw [ZR] at H
  refine tS ?_
  refine rA 2 ?_
  refine kO y2 Pt.row ?_
  refine uA 1 547 0 ?_
  obtain ⟨h1,H⟩ | ⟨h1,H⟩ := bC H
  ·refine nA h1 ?_
   refine Tr.exit ?_
   refine aJ ?_
   obtain rfl := si H
   have H := Ho6
   dsimp only at H
   exact jA (y2,y3) H [0,1] []
  refine tA h1 ?_
  refine tK ?_
  refine tS ?_
  refine tB ?_
  refine rA 3 ?_
  obtain ⟨hg7,H⟩ := gs H
  refine LAt.binC tOk (op := .rem) (t := 3) (ty := 3) (ty' := 3) (x := (.tmp 14)) (y := (.const (.int .i64 3))) (d := 15) (g := none) (.int .i64 y3) (.int .i64 3) (.int .i64 (Int.tmod y3 3)) _ kr kr kr kr kr (φ := (IntKind.i64 = IntKind.i64 ∧ (3 : Int) ≠ 0)) kr (⟨rfl,of_decide_eq_true hg7⟩) rfl ?_
  refine lA 1 ?_
  obtain ⟨v8,ev8,H⟩ := bs H
  refine oA Pt.row ev8 ?_
  refine lA 1 ?_
  refine sS (tI 4) false [cB ((Int.tmod y3 3) == 0)] 0 0 (y1.toNat) 8 0 8 Pt.row (⟨((Int.tmod y3 3) == 0),v8.Co,v8.Has,v8.Hd⟩ : Pt) (zI ev8).2 ?_
  refine dA 35 0 ?_
  refine gA 3 35 0 ?_
  refine rA 3 ?_
  obtain ⟨v9,ev9,H⟩ := bs H
  refine oA Pt.row ev9 ?_
  refine lA 1 ?_
  refine sS (tI 3) false [cI (IntKind.wrap .i64 (y3 + 1))] 0 0 (y1.toNat) 8 1 8 Pt.row (⟨v9.Up,(IntKind.wrap .i64 (y3 + 1)),v9.Has,v9.Hd⟩ : Pt) (zI ev9).2 ?_
  refine dA 35 0 ?_
  refine gA 3 35 0 ?_
  refine rA 3 ?_
  obtain ⟨hg10,H⟩ := gs H
  refine LAt.binC tOk (op := .rem) (t := 3) (ty := 3) (ty' := 3) (x := (.tmp 30)) (y := (.const (.int .i64 3))) (d := 31) (g := none) (.int .i64 (IntKind.wrap .i64 ((IntKind.wrap .i64 (y3 + 1)) + 1))) (.int .i64 3) (.int .i64 (Int.tmod (IntKind.wrap .i64 ((IntKind.wrap .i64 (y3 + 1)) + 1)) 3)) _ kr kr kr kr kr (φ := (IntKind.i64 = IntKind.i64 ∧ (3 : Int) ≠ 0)) kr (⟨rfl,of_decide_eq_true hg10⟩) rfl ?_
  refine lA 1 ?_
  obtain ⟨v11,ev11,H⟩ := bs H
  refine oA Pt.row ev11 ?_
  refine lA 1 ?_
  refine sS (tI 4) false [cB ((Int.tmod (IntKind.wrap .i64 ((IntKind.wrap .i64 (y3 + 1)) + 1)) 3) == 0)] 0 0 (y1.toNat) 8 2 8 Pt.row (⟨v11.Up,v11.Co,((Int.tmod (IntKind.wrap .i64 ((IntKind.wrap .i64 (y3 + 1)) + 1)) 3) == 0),v11.Hd⟩ : Pt) (zI ev11).2 ?_
  refine dA 35 0 ?_
  refine gA 3 35 0 ?_
  refine rA 3 ?_
  obtain ⟨v12,ev12,H⟩ := bs H
  refine oA Pt.row ev12 ?_
  refine lA 2 ?_
  refine sS (tI 3) false [cI (IntKind.wrap .i64 ((IntKind.wrap .i64 ((IntKind.wrap .i64 (y3 + 1)) + 1)) + 1))] 0 0 (y1.toNat) 8 3 8 Pt.row (⟨v12.Up,v12.Co,v12.Has,(⟨(IntKind.wrap .i64 ((IntKind.wrap .i64 ((IntKind.wrap .i64 (y3 + 1)) + 1)) + 1)),v12.Hd.Co,v12.Hd.Hops,v12.Hd.Bridge,v12.Hd.Port⟩ : Vec)⟩ : Pt) (zI ev12).2 ?_
  refine dA 35 0 ?_
  refine gA 3 35 0 ?_
  refine rA 3 ?_
  obtain ⟨v13,ev13,H⟩ := bs H
  refine oA Pt.row ev13 ?_
  refine lA 2 ?_
  refine sS (tI 3) false [cI (IntKind.wrap .i64 ((IntKind.wrap .i64 ((IntKind.wrap .i64 ((IntKind.wrap .i64 (y3 + 1)) + 1)) + 1)) + 1))] 0 0 (y1.toNat) 8 4 8 Pt.row (⟨v13.Up,v13.Co,v13.Has,(⟨v13.Hd.Root,(IntKind.wrap .i64 ((IntKind.wrap .i64 ((IntKind.wrap .i64 ((IntKind.wrap .i64 (y3 + 1)) + 1)) + 1)) + 1)),v13.Hd.Hops,v13.Hd.Bridge,v13.Hd.Port⟩ : Vec)⟩ : Pt) (zI ev13).2 ?_
  refine dA 35 0 ?_
  refine gA 3 35 0 ?_
  refine rA 3 ?_
  obtain ⟨v14,ev14,H⟩ := bs H
  refine oA Pt.row ev14 ?_
  refine lA 2 ?_
  refine sS (tI 3) false [cI (IntKind.wrap .i64 ((IntKind.wrap .i64 ((IntKind.wrap .i64 ((IntKind.wrap .i64 ((IntKind.wrap .i64 (y3 + 1)) + 1)) + 1)) + 1)) + 1))] 0 0 (y1.toNat) 8 5 8 Pt.row (⟨v14.Up,v14.Co,v14.Has,(⟨v14.Hd.Root,v14.Hd.Co,(IntKind.wrap .i64 ((IntKind.wrap .i64 ((IntKind.wrap .i64 ((IntKind.wrap .i64 ((IntKind.wrap .i64 (y3 + 1)) + 1)) + 1)) + 1)) + 1)),v14.Hd.Bridge,v14.Hd.Port⟩ : Vec)⟩ : Pt) (zI ev14).2 ?_
  refine dA 35 0 ?_
  refine gA 3 35 0 ?_
  refine rA 3 ?_
  obtain ⟨v15,ev15,H⟩ := bs H
  refine oA Pt.row ev15 ?_
  refine lA 2 ?_
  refine sS (tI 3) false [cI (IntKind.wrap .i64 ((IntKind.wrap .i64 ((IntKind.wrap .i64 ((IntKind.wrap .i64 ((IntKind.wrap .i64 ((IntKind.wrap .i64 (y3 + 1)) + 1)) + 1)) + 1)) + 1)) + 1))] 0 0 (y1.toNat) 8 6 8 Pt.row (⟨v15.Up,v15.Co,v15.Has,(⟨v15.Hd.Root,v15.Hd.Co,v15.Hd.Hops,(IntKind.wrap .i64 ((IntKind.wrap .i64 ((IntKind.wrap .i64 ((IntKind.wrap .i64 ((IntKind.wrap .i64 ((IntKind.wrap .i64 (y3 + 1)) + 1)) + 1)) + 1)) + 1)) + 1)),v15.Hd.Port⟩ : Vec)⟩ : Pt) (zI ev15).2 ?_
  refine dA 35 0 ?_
  refine gA 3 35 0 ?_
  refine rA 3 ?_
  obtain ⟨v16,ev16,H⟩ := bs H
  refine oA Pt.row ev16 ?_
  refine lA 2 ?_
  refine sS (tI 3) false [cI (IntKind.wrap .i64 ((IntKind.wrap .i64 ((IntKind.wrap .i64 ((IntKind.wrap .i64 ((IntKind.wrap .i64 ((IntKind.wrap .i64 ((IntKind.wrap .i64 (y3 + 1)) + 1)) + 1)) + 1)) + 1)) + 1)) + 1))] 0 0 (y1.toNat) 8 7 8 Pt.row (⟨v16.Up,v16.Co,v16.Has,(⟨v16.Hd.Root,v16.Hd.Co,v16.Hd.Hops,v16.Hd.Bridge,(IntKind.wrap .i64 ((IntKind.wrap .i64 ((IntKind.wrap .i64 ((IntKind.wrap .i64 ((IntKind.wrap .i64 ((IntKind.wrap .i64 ((IntKind.wrap .i64 (y3 + 1)) + 1)) + 1)) + 1)) + 1)) + 1)) + 1))⟩ : Vec)⟩ : Pt) (zI ev16).2 ?_
  refine dA 35 0 ?_
  refine eA 3 35 0 ?_
  refine eA 3 35 0 ?_
  exact jB mo6 ((IntKind.wrap .i64 (y1 + 1)),((((((((y2.set (y1.toNat) (⟨((Int.tmod y3 3) == 0),v8.Co,v8.Has,v8.Hd⟩ : Pt)).set (y1.toNat) (⟨v9.Up,(IntKind.wrap .i64 (y3 + 1)),v9.Has,v9.Hd⟩ : Pt)).set (y1.toNat) (⟨v11.Up,v11.Co,((Int.tmod (IntKind.wrap .i64 ((IntKind.wrap .i64 (y3 + 1)) + 1)) 3) == 0),v11.Hd⟩ : Pt)).set (y1.toNat) (⟨v12.Up,v12.Co,v12.Has,(⟨(IntKind.wrap .i64 ((IntKind.wrap .i64 ((IntKind.wrap .i64 (y3 + 1)) + 1)) + 1)),v12.Hd.Co,v12.Hd.Hops,v12.Hd.Bridge,v12.Hd.Port⟩ : Vec)⟩ : Pt)).set (y1.toNat) (⟨v13.Up,v13.Co,v13.Has,(⟨v13.Hd.Root,(IntKind.wrap .i64 ((IntKind.wrap .i64 ((IntKind.wrap .i64 ((IntKind.wrap .i64 (y3 + 1)) + 1)) + 1)) + 1)),v13.Hd.Hops,v13.Hd.Bridge,v13.Hd.Port⟩ : Vec)⟩ : Pt)).set (y1.toNat) (⟨v14.Up,v14.Co,v14.Has,(⟨v14.Hd.Root,v14.Hd.Co,(IntKind.wrap .i64 ((IntKind.wrap .i64 ((IntKind.wrap .i64 ((IntKind.wrap .i64 ((IntKind.wrap .i64 (y3 + 1)) + 1)) + 1)) + 1)) + 1)),v14.Hd.Bridge,v14.Hd.Port⟩ : Vec)⟩ : Pt)).set (y1.toNat) (⟨v15.Up,v15.Co,v15.Has,(⟨v15.Hd.Root,v15.Hd.Co,v15.Hd.Hops,(IntKind.wrap .i64 ((IntKind.wrap .i64 ((IntKind.wrap .i64 ((IntKind.wrap .i64 ((IntKind.wrap .i64 ((IntKind.wrap .i64 (y3 + 1)) + 1)) + 1)) + 1)) + 1)) + 1)),v15.Hd.Port⟩ : Vec)⟩ : Pt)).set (y1.toNat) (⟨v16.Up,v16.Co,v16.Has,(⟨v16.Hd.Root,v16.Hd.Co,v16.Hd.Hops,v16.Hd.Bridge,(IntKind.wrap .i64 ((IntKind.wrap .i64 ((IntKind.wrap .i64 ((IntKind.wrap .i64 ((IntKind.wrap .i64 ((IntKind.wrap .i64 ((IntKind.wrap .i64 (y3 + 1)) + 1)) + 1)) + 1)) + 1)) + 1)) + 1))⟩ : Vec)⟩ : Pt)),(IntKind.wrap .i64 ((IntKind.wrap .i64 ((IntKind.wrap .i64 ((IntKind.wrap .i64 ((IntKind.wrap .i64 ((IntKind.wrap .i64 ((IntKind.wrap .i64 ((IntKind.wrap .i64 (y3 + 1)) + 1)) + 1)) + 1)) + 1)) + 1)) + 1)) + 1))) H [5,0,1] []
 rintro ⟨y4,y5⟩ H
 have H : (zAZ n y4 y5) = some r := H
 unfold zAZ at H
 refine gA 2 17 0 ?_
 refine te ?_
 obtain rfl := si H
 exact Fin.ofY _ [(false,[cI y5])] [false] _ [[cL 8 y4 Pt.row]] _ [] kr rfl rfl rfl kr kr kr kr rfl rfl rfl
def JG (n : Nat) (y4 : (List zB)) (y5 : Int) : Option (Int × (List zB)) :=
  (some (y5,y4))
def qw (n : Nat) : Nat → Int → (List zB) → Int → Option (((List zB) × Int) ⊕ (Int × (List zB)))
  | 0,_,_,_ => none
  | mo6 + 1,y1,y2,y3 => (bif (decide (y1 < (y2.length : Int))) then ((idx y2 y1).bind fun v7 => ((idx (y2.set (y1.toNat) (⟨y3,v7.Mac,v7.Port,v7.Age,v7.Sc⟩ : zB)) y1).bind fun v8 => ((idx ((y2.set (y1.toNat) (⟨y3,v7.Mac,v7.Port,v7.Age,v7.Sc⟩ : zB)).set (y1.toNat) (⟨v8.Tag,(IntKind.wrap .i64 (y3 + 1)),v8.Port,v8.Age,v8.Sc⟩ : zB)) y1).bind fun v9 => ((idx (((y2.set (y1.toNat) (⟨y3,v7.Mac,v7.Port,v7.Age,v7.Sc⟩ : zB)).set (y1.toNat) (⟨v8.Tag,(IntKind.wrap .i64 (y3 + 1)),v8.Port,v8.Age,v8.Sc⟩ : zB)).set (y1.toNat) (⟨v9.Tag,v9.Mac,(IntKind.wrap .i64 ((IntKind.wrap .i64 (y3 + 1)) + 1)),v9.Age,v9.Sc⟩ : zB)) y1).bind fun v10 => (bif (decide ((3 : Int) ≠ 0)) then ((idx ((((y2.set (y1.toNat) (⟨y3,v7.Mac,v7.Port,v7.Age,v7.Sc⟩ : zB)).set (y1.toNat) (⟨v8.Tag,(IntKind.wrap .i64 (y3 + 1)),v8.Port,v8.Age,v8.Sc⟩ : zB)).set (y1.toNat) (⟨v9.Tag,v9.Mac,(IntKind.wrap .i64 ((IntKind.wrap .i64 (y3 + 1)) + 1)),v9.Age,v9.Sc⟩ : zB)).set (y1.toNat) (⟨v10.Tag,v10.Mac,v10.Port,(IntKind.wrap .i64 ((IntKind.wrap .i64 ((IntKind.wrap .i64 (y3 + 1)) + 1)) + 1)),v10.Sc⟩ : zB)) y1).bind fun v12 => (qw n mo6 (IntKind.wrap .i64 (y1 + 1)) (((((y2.set (y1.toNat) (⟨y3,v7.Mac,v7.Port,v7.Age,v7.Sc⟩ : zB)).set (y1.toNat) (⟨v8.Tag,(IntKind.wrap .i64 (y3 + 1)),v8.Port,v8.Age,v8.Sc⟩ : zB)).set (y1.toNat) (⟨v9.Tag,v9.Mac,(IntKind.wrap .i64 ((IntKind.wrap .i64 (y3 + 1)) + 1)),v9.Age,v9.Sc⟩ : zB)).set (y1.toNat) (⟨v10.Tag,v10.Mac,v10.Port,(IntKind.wrap .i64 ((IntKind.wrap .i64 ((IntKind.wrap .i64 (y3 + 1)) + 1)) + 1)),v10.Sc⟩ : zB)).set (y1.toNat) (⟨v12.Tag,v12.Mac,v12.Port,v12.Age,((Int.tmod (IntKind.wrap .i64 ((IntKind.wrap .i64 ((IntKind.wrap .i64 ((IntKind.wrap .i64 (y3 + 1)) + 1)) + 1)) + 1)) 3) == 0)⟩ : zB)) (IntKind.wrap .i64 ((IntKind.wrap .i64 ((IntKind.wrap .i64 ((IntKind.wrap .i64 ((IntKind.wrap .i64 (y3 + 1)) + 1)) + 1)) + 1)) + 1)))) else none))))) else (some (Sum.inl (y2,y3))))
def Yy (n : Nat) (x0 : (List zB)) (x1 : Int) : Option (Int × (List zB)) :=
  ((qw n n 0 x0 x1).bind fun o => match o with | .inl (y4,y5) => (JG n y4 y5) | .inr r => some r)
noncomputable abbrev G96 (k : Nat) := Rg Tryz.f96 k
theorem zI2 (n : Nat) (x0 : (List zB)) (x1 : Int) (r : Int × (List zB)) (H : Yy n x0 x1 = some r) : zD Tryz.prog 96 [.io false [.sl true 5 (x0.map zB.row)],.val false [.lit (.int .i64 x1)]] [.val false [.lit (.int .i64 r.1)]] [(0,[.sl true 5 (r.2.map zB.row)])] := by
 refine zD.of_body tOk Tryz.func96 rfl (c := (.seq (G96 0) (.seq (.seq (G96 1) (.block 0 (.loop (.seq (.seq (G96 2) (.cond (.tmp 9) .skip (.exit 0))) (.seq (.block 1 (.seq (G96 4) (.seq (G96 5) (.seq (G96 6) (.seq (G96 7) (.seq (G96 8) (.seq (G96 9) (.seq (G96 10) (.seq (G96 11) (.seq (G96 12) (G96 13))))))))))) (G96 3)))))) (.seq (G96 14) .ret)))) kr (Nat.le_of_ble_eq_true kr) 1 (rs := [.tmp 4]) rfl [0] (by decide) [(false,[.lit (.int .i64 r.1)])] [[.sl true 5 (r.2.map zB.row)]] [] fun cx => ?_
 show Tr _ _ _ ⟨50,1,[sC 0 (cL 5 x0 zB.row),sI 1 x1],[]⟩ _
 unfold Yy at H
 refine gA 1 3 0 ?_
 refine tS ?_
 refine gA 1 35 0 ?_
 obtain ⟨o6,eo6,Ho6⟩ := bs H
 clear H
 refine Tr.mid (ι := (List zB) × Int) (fun v => ⟨50,1,[sC 0 (cL 5 v.1 zB.row),sI 1 v.2],[]⟩) (fun v => JG n v.1 v.2 = some r) ?_ ?_
 ·refine tB ?_
  refine Tr.loop (ι := Nat × (Int × (List zB) × Int)) (fun v => ⟨50,1,[sI 5 v.2.1,sC 0 (cL 5 v.2.2.1 zB.row),sI 1 v.2.2.2],[]⟩) (fun v => qw n v.1 v.2.1 v.2.2.1 v.2.2.2 = some o6) (fun v => v.1) (n,(0,x0,x1)) eo6 (St.sub_of [5,0,1] [] kr) ?_
  rintro ⟨mo6,y1,y2,y3⟩ H
  have H : qw n mo6 y1 y2 y3 = some o6 := H
  obtain _ | mo6 := mo6
  ·exact nN H
  rw [qw] at H
  refine tS ?_
  refine rA 2 ?_
  refine kO y2 zB.row ?_
  refine uA 1 547 0 ?_
  obtain ⟨h1,H⟩ | ⟨h1,H⟩ := bC H
  ·refine nA h1 ?_
   refine Tr.exit ?_
   refine aJ ?_
   obtain rfl := si H
   have H := Ho6
   dsimp only at H
   exact jA (y2,y3) H [0,1] []
  refine tA h1 ?_
  refine tK ?_
  refine tS ?_
  refine tB ?_
  refine rA 3 ?_
  obtain ⟨v7,ev7,H⟩ := bs H
  refine oA zB.row ev7 ?_
  refine lA 1 ?_
  refine sS (tI 3) false [cI y3] 0 0 (y1.toNat) 5 0 5 zB.row (⟨y3,v7.Mac,v7.Port,v7.Age,v7.Sc⟩ : zB) (zI ev7).2 ?_
  refine dA 35 0 ?_
  refine gA 3 35 0 ?_
  refine rA 3 ?_
  obtain ⟨v8,ev8,H⟩ := bs H
  refine oA zB.row ev8 ?_
  refine lA 1 ?_
  refine sS (tI 3) false [cI (IntKind.wrap .i64 (y3 + 1))] 0 0 (y1.toNat) 5 1 5 zB.row (⟨v8.Tag,(IntKind.wrap .i64 (y3 + 1)),v8.Port,v8.Age,v8.Sc⟩ : zB) (zI ev8).2 ?_
  refine dA 35 0 ?_
  refine gA 3 35 0 ?_
  refine rA 3 ?_
  obtain ⟨v9,ev9,H⟩ := bs H
  refine oA zB.row ev9 ?_
  refine lA 1 ?_
  refine sS (tI 3) false [cI (IntKind.wrap .i64 ((IntKind.wrap .i64 (y3 + 1)) + 1))] 0 0 (y1.toNat) 5 2 5 zB.row (⟨v9.Tag,v9.Mac,(IntKind.wrap .i64 ((IntKind.wrap .i64 (y3 + 1)) + 1)),v9.Age,v9.Sc⟩ : zB) (zI ev9).2 ?_
  refine dA 35 0 ?_
  refine gA 3 35 0 ?_
  refine rA 3 ?_
  obtain ⟨v10,ev10,H⟩ := bs H
  refine oA zB.row ev10 ?_
  refine lA 1 ?_
  refine sS (tI 3) false [cI (IntKind.wrap .i64 ((IntKind.wrap .i64 ((IntKind.wrap .i64 (y3 + 1)) + 1)) + 1))] 0 0 (y1.toNat) 5 3 5 zB.row (⟨v10.Tag,v10.Mac,v10.Port,(IntKind.wrap .i64 ((IntKind.wrap .i64 ((IntKind.wrap .i64 (y3 + 1)) + 1)) + 1)),v10.Sc⟩ : zB) (zI ev10).2 ?_
  refine dA 35 0 ?_
  refine gA 3 35 0 ?_
  refine rA 3 ?_
  obtain ⟨hg11,H⟩ := gs H
  refine LAt.binC tOk (op := .rem) (t := 3) (ty := 3) (ty' := 3) (x := (.tmp 42)) (y := (.const (.int .i64 3))) (d := 43) (g := none) (.int .i64 (IntKind.wrap .i64 ((IntKind.wrap .i64 ((IntKind.wrap .i64 ((IntKind.wrap .i64 (y3 + 1)) + 1)) + 1)) + 1))) (.int .i64 3) (.int .i64 (Int.tmod (IntKind.wrap .i64 ((IntKind.wrap .i64 ((IntKind.wrap .i64 ((IntKind.wrap .i64 (y3 + 1)) + 1)) + 1)) + 1)) 3)) _ kr kr kr kr kr (φ := (IntKind.i64 = IntKind.i64 ∧ (3 : Int) ≠ 0)) kr (⟨rfl,of_decide_eq_true hg11⟩) rfl ?_
  refine lA 1 ?_
  obtain ⟨v12,ev12,H⟩ := bs H
  refine oA zB.row ev12 ?_
  refine lA 1 ?_
  refine sS (tI 4) false [cB ((Int.tmod (IntKind.wrap .i64 ((IntKind.wrap .i64 ((IntKind.wrap .i64 ((IntKind.wrap .i64 (y3 + 1)) + 1)) + 1)) + 1)) 3) == 0)] 0 0 (y1.toNat) 5 4 5 zB.row (⟨v12.Tag,v12.Mac,v12.Port,v12.Age,((Int.tmod (IntKind.wrap .i64 ((IntKind.wrap .i64 ((IntKind.wrap .i64 ((IntKind.wrap .i64 (y3 + 1)) + 1)) + 1)) + 1)) 3) == 0)⟩ : zB) (zI ev12).2 ?_
  refine dA 35 0 ?_
  refine eA 3 35 0 ?_
  refine eA 3 35 0 ?_
  exact jB mo6 ((IntKind.wrap .i64 (y1 + 1)),(((((y2.set (y1.toNat) (⟨y3,v7.Mac,v7.Port,v7.Age,v7.Sc⟩ : zB)).set (y1.toNat) (⟨v8.Tag,(IntKind.wrap .i64 (y3 + 1)),v8.Port,v8.Age,v8.Sc⟩ : zB)).set (y1.toNat) (⟨v9.Tag,v9.Mac,(IntKind.wrap .i64 ((IntKind.wrap .i64 (y3 + 1)) + 1)),v9.Age,v9.Sc⟩ : zB)).set (y1.toNat) (⟨v10.Tag,v10.Mac,v10.Port,(IntKind.wrap .i64 ((IntKind.wrap .i64 ((IntKind.wrap .i64 (y3 + 1)) + 1)) + 1)),v10.Sc⟩ : zB)).set (y1.toNat) (⟨v12.Tag,v12.Mac,v12.Port,v12.Age,((Int.tmod (IntKind.wrap .i64 ((IntKind.wrap .i64 ((IntKind.wrap .i64 ((IntKind.wrap .i64 (y3 + 1)) + 1)) + 1)) + 1)) 3) == 0)⟩ : zB)),(IntKind.wrap .i64 ((IntKind.wrap .i64 ((IntKind.wrap .i64 ((IntKind.wrap .i64 ((IntKind.wrap .i64 (y3 + 1)) + 1)) + 1)) + 1)) + 1))) H [5,0,1] []
 rintro ⟨y4,y5⟩ H
 have H : (JG n y4 y5) = some r := H
 unfold JG at H
 refine gA 2 17 0 ?_
 refine te ?_
 obtain rfl := si H
 exact Fin.ofY _ [(false,[cI y5])] [false] _ [[cL 5 y4 zB.row]] _ [] kr rfl rfl rfl kr kr kr kr rfl rfl rfl
def JI (n : Nat) (y4 : (List zC)) (y5 : Int) : Option (Int × (List zC)) :=
  (some (y5,y4))
def qy (n : Nat) : Nat → Int → (List zC) → Int → Option (((List zC) × Int) ⊕ (Int × (List zC)))
  | 0,_,_,_ => none
  | mo6 + 1,y1,y2,y3 => (bif (decide (y1 < (y2.length : Int))) then ((idx y2 y1).bind fun v7 => ((idx (y2.set (y1.toNat) (⟨y3,v7.Members,v7.Bare⟩ : zC)) y1).bind fun v8 => ((idx ((y2.set (y1.toNat) (⟨y3,v7.Members,v7.Bare⟩ : zC)).set (y1.toNat) (⟨v8.Id,(IntKind.wrap .i64 (y3 + 1)),v8.Bare⟩ : zC)) y1).bind fun v9 => (qy n mo6 (IntKind.wrap .i64 (y1 + 1)) (((y2.set (y1.toNat) (⟨y3,v7.Members,v7.Bare⟩ : zC)).set (y1.toNat) (⟨v8.Id,(IntKind.wrap .i64 (y3 + 1)),v8.Bare⟩ : zC)).set (y1.toNat) (⟨v9.Id,v9.Members,(IntKind.wrap .i64 ((IntKind.wrap .i64 (y3 + 1)) + 1))⟩ : zC)) (IntKind.wrap .i64 ((IntKind.wrap .i64 ((IntKind.wrap .i64 (y3 + 1)) + 1)) + 1)))))) else (some (Sum.inl (y2,y3))))
def Y0 (n : Nat) (x0 : (List zC)) (x1 : Int) : Option (Int × (List zC)) :=
  ((qy n n 0 x0 x1).bind fun o => match o with | .inl (y4,y5) => (JI n y4 y5) | .inr r => some r)
noncomputable abbrev zDr (k : Nat) := Rg Tryz.f190 k
theorem zI4 (n : Nat) (x0 : (List zC)) (x1 : Int) (r : Int × (List zC)) (H : Y0 n x0 x1 = some r) : zD Tryz.prog 190 [.io false [.sl true 3 (x0.map zC.row)],.val false [.lit (.int .i64 x1)]] [.val false [.lit (.int .i64 r.1)]] [(0,[.sl true 3 (r.2.map zC.row)])] := by
 refine zD.of_body tOk Tryz.func190 rfl (c := (.seq (zDr 0) (.seq (.seq (zDr 1) (.block 0 (.loop (.seq (.seq (zDr 2) (.cond (.tmp 9) .skip (.exit 0))) (.seq (.block 1 (.seq (zDr 4) (.seq (zDr 5) (.seq (zDr 6) (.seq (zDr 7) (.seq (zDr 8) (zDr 9))))))) (zDr 3)))))) (.seq (zDr 10) .ret)))) kr (Nat.le_of_ble_eq_true kr) 1 (rs := [.tmp 4]) rfl [0] (by decide) [(false,[.lit (.int .i64 r.1)])] [[.sl true 3 (r.2.map zC.row)]] [] fun cx => ?_
 show Tr _ _ _ ⟨34,1,[sC 0 (cL 3 x0 zC.row),sI 1 x1],[]⟩ _
 unfold Y0 at H
 refine gA 1 3 0 ?_
 refine tS ?_
 refine gA 1 35 0 ?_
 obtain ⟨o6,eo6,Ho6⟩ := bs H
 clear H
 refine Tr.mid (ι := (List zC) × Int) (fun v => ⟨34,1,[sC 0 (cL 3 v.1 zC.row),sI 1 v.2],[]⟩) (fun v => JI n v.1 v.2 = some r) ?_ ?_
 ·refine tB ?_
  refine Tr.loop (ι := Nat × (Int × (List zC) × Int)) (fun v => ⟨34,1,[sI 5 v.2.1,sC 0 (cL 3 v.2.2.1 zC.row),sI 1 v.2.2.2],[]⟩) (fun v => qy n v.1 v.2.1 v.2.2.1 v.2.2.2 = some o6) (fun v => v.1) (n,(0,x0,x1)) eo6 (St.sub_of [5,0,1] [] kr) ?_
  rintro ⟨mo6,y1,y2,y3⟩ H
  have H : qy n mo6 y1 y2 y3 = some o6 := H
  obtain _ | mo6 := mo6
  ·exact nN H
  rw [qy] at H
  refine tS ?_
  refine rA 2 ?_
  refine kO y2 zC.row ?_
  refine uA 1 547 0 ?_
  obtain ⟨h1,H⟩ | ⟨h1,H⟩ := bC H
  ·refine nA h1 ?_
   refine Tr.exit ?_
   refine aJ ?_
   obtain rfl := si H
   have H := Ho6
   dsimp only at H
   exact jA (y2,y3) H [0,1] []
  refine tA h1 ?_
  refine tK ?_
  refine tS ?_
  refine tB ?_
  refine rA 3 ?_
  obtain ⟨v7,ev7,H⟩ := bs H
  refine oA zC.row ev7 ?_
  refine lA 1 ?_
  refine sS (tI 3) false [cI y3] 0 0 (y1.toNat) 3 0 3 zC.row (⟨y3,v7.Members,v7.Bare⟩ : zC) (zI ev7).2 ?_
  refine dA 35 0 ?_
  refine gA 3 35 0 ?_
  refine rA 3 ?_
  obtain ⟨v8,ev8,H⟩ := bs H
  refine oA zC.row ev8 ?_
  refine lA 1 ?_
  refine sS (tI 3) false [cI (IntKind.wrap .i64 (y3 + 1))] 0 0 (y1.toNat) 3 1 3 zC.row (⟨v8.Id,(IntKind.wrap .i64 (y3 + 1)),v8.Bare⟩ : zC) (zI ev8).2 ?_
  refine dA 35 0 ?_
  refine gA 3 35 0 ?_
  refine rA 3 ?_
  obtain ⟨v9,ev9,H⟩ := bs H
  refine oA zC.row ev9 ?_
  refine lA 1 ?_
  refine sS (tI 3) false [cI (IntKind.wrap .i64 ((IntKind.wrap .i64 (y3 + 1)) + 1))] 0 0 (y1.toNat) 3 2 3 zC.row (⟨v9.Id,v9.Members,(IntKind.wrap .i64 ((IntKind.wrap .i64 (y3 + 1)) + 1))⟩ : zC) (zI ev9).2 ?_
  refine dA 35 0 ?_
  refine eA 3 35 0 ?_
  refine eA 3 35 0 ?_
  exact jB mo6 ((IntKind.wrap .i64 (y1 + 1)),(((y2.set (y1.toNat) (⟨y3,v7.Members,v7.Bare⟩ : zC)).set (y1.toNat) (⟨v8.Id,(IntKind.wrap .i64 (y3 + 1)),v8.Bare⟩ : zC)).set (y1.toNat) (⟨v9.Id,v9.Members,(IntKind.wrap .i64 ((IntKind.wrap .i64 (y3 + 1)) + 1))⟩ : zC)),(IntKind.wrap .i64 ((IntKind.wrap .i64 ((IntKind.wrap .i64 (y3 + 1)) + 1)) + 1))) H [5,0,1] []
 rintro ⟨y4,y5⟩ H
 have H : (JI n y4 y5) = some r := H
 unfold JI at H
 refine gA 2 17 0 ?_
 refine te ?_
 obtain rfl := si H
 exact Fin.ofY _ [(false,[cI y5])] [false] _ [[cL 3 y4 zC.row]] _ [] kr rfl rfl rfl kr kr kr kr rfl rfl rfl
def Jw (n : Nat) (y4 : (List Int)) (y5 : Int) : Option (Int × (List Int)) :=
  (some (y5,y4))
def ZA (n : Nat) : Nat → Int → (List Int) → Int → Option (((List Int) × Int) ⊕ (Int × (List Int)))
  | 0,_,_,_ => none
  | mo6 + 1,y1,y2,y3 => (bif (decide (y1 < (y2.length : Int))) then ((idx y2 y1).bind fun v7 => (ZA n mo6 (IntKind.wrap .i64 (y1 + 1)) (y2.set (y1.toNat) y3) (IntKind.wrap .i64 (y3 + 1)))) else (some (Sum.inl (y2,y3))))
def Jb (n : Nat) (x0 : (List Int)) (x1 : Int) : Option (Int × (List Int)) :=
  ((ZA n n 0 x0 x1).bind fun o => match o with | .inl (y4,y5) => (Jw n y4 y5) | .inr r => some r)
noncomputable abbrev zHL (k : Nat) := Rg Tryz.f191 k
theorem zJ1 (n : Nat) (x0 : (List Int)) (x1 : Int) (r : Int × (List Int)) (H : Jb n x0 x1 = some r) : zD Tryz.prog 191 [.io false [.sl true 1 (x0.map intRow)],.val false [.lit (.int .i64 x1)]] [.val false [.lit (.int .i64 r.1)]] [(0,[.sl true 1 (r.2.map intRow)])] := by
 refine zD.of_body tOk Tryz.func191 rfl (c := (.seq (zHL 0) (.seq (.seq (zHL 1) (.block 0 (.loop (.seq (.seq (zHL 2) (.cond (.tmp 9) .skip (.exit 0))) (.seq (.block 1 (.seq (zHL 4) (zHL 5))) (zHL 3)))))) (.seq (zHL 6) .ret)))) kr (Nat.le_of_ble_eq_true kr) 1 (rs := [.tmp 4]) rfl [0] (by decide) [(false,[.lit (.int .i64 r.1)])] [[.sl true 1 (r.2.map intRow)]] [] fun cx => ?_
 show Tr _ _ _ ⟨19,1,[sC 0 (cL 1 x0 intRow),sI 1 x1],[]⟩ _
 unfold Jb at H
 refine gA 1 3 0 ?_
 refine tS ?_
 refine gA 1 35 0 ?_
 obtain ⟨o6,eo6,Ho6⟩ := bs H
 clear H
 refine Tr.mid (ι := (List Int) × Int) (fun v => ⟨19,1,[sC 0 (cL 1 v.1 intRow),sI 1 v.2],[]⟩) (fun v => Jw n v.1 v.2 = some r) ?_ ?_
 ·refine tB ?_
  refine Tr.loop (ι := Nat × (Int × (List Int) × Int)) (fun v => ⟨19,1,[sI 5 v.2.1,sC 0 (cL 1 v.2.2.1 intRow),sI 1 v.2.2.2],[]⟩) (fun v => ZA n v.1 v.2.1 v.2.2.1 v.2.2.2 = some o6) (fun v => v.1) (n,(0,x0,x1)) eo6 (St.sub_of [5,0,1] [] kr) ?_
  rintro ⟨mo6,y1,y2,y3⟩ H
  have H : ZA n mo6 y1 y2 y3 = some o6 := H
  obtain _ | mo6 := mo6
  ·exact nN H
  rw [ZA] at H
  refine tS ?_
  refine rA 2 ?_
  refine kO y2 intRow ?_
  refine uA 1 547 0 ?_
  obtain ⟨h1,H⟩ | ⟨h1,H⟩ := bC H
  ·refine nA h1 ?_
   refine Tr.exit ?_
   refine aJ ?_
   obtain rfl := si H
   have H := Ho6
   dsimp only at H
   exact jA (y2,y3) H [0,1] []
  refine tA h1 ?_
  refine tK ?_
  refine tS ?_
  refine tB ?_
  refine rA 3 ?_
  obtain ⟨v7,ev7,H⟩ := bs H
  refine oA intRow ev7 ?_
  refine sS (tI 3) false [cI y3] 0 0 (y1.toNat) 1 0 1 intRow y3 (zI ev7).2 ?_
  refine dA 35 0 ?_
  refine eA 3 35 0 ?_
  refine eA 3 35 0 ?_
  exact jB mo6 ((IntKind.wrap .i64 (y1 + 1)),(y2.set (y1.toNat) y3),(IntKind.wrap .i64 (y3 + 1))) H [5,0,1] []
 rintro ⟨y4,y5⟩ H
 have H : (Jw n y4 y5) = some r := H
 unfold Jw at H
 refine gA 2 17 0 ?_
 refine te ?_
 obtain rfl := si H
 exact Fin.ofY _ [(false,[cI y5])] [false] _ [[cL 1 y4 intRow]] _ [] kr rfl rfl rfl kr kr kr kr rfl rfl rfl
def YY (n : Nat) (y4 : (List zA)) (y5 : Int) : Option (Int × (List zA)) :=
  (some (y5,y4))
def qc (n : Nat) : Nat → Int → (List zA) → Int → Option (((List zA) × Int) ⊕ (Int × (List zA)))
  | 0,_,_,_ => none
  | mo6 + 1,y1,y2,y3 => (bif (decide (y1 < (y2.length : Int))) then ((idx y2 y1).bind fun v7 => ((YC n (IntKind.wrap .i64 (y3 + 1))).bind fun r8 => ((idx (y2.set (y1.toNat) (⟨y3,v7.Name,v7.Ps,v7.F,v7.V,v7.Tk,v7.Pa,v7.Wo,v7.Dr,v7.Ve⟩ : zA)) y1).bind fun v9 => ((idx ((y2.set (y1.toNat) (⟨y3,v7.Name,v7.Ps,v7.F,v7.V,v7.Tk,v7.Pa,v7.Wo,v7.Dr,v7.Ve⟩ : zA)).set (y1.toNat) (⟨v9.Id,r8,v9.Ps,v9.F,v9.V,v9.Tk,v9.Pa,v9.Wo,v9.Dr,v9.Ve⟩ : zA)) y1).bind fun v10 => ((zAD n v10.Ps (IntKind.wrap .i64 ((IntKind.wrap .i64 (y3 + 1)) + 1))).bind fun r11 => ((idx (((y2.set (y1.toNat) (⟨y3,v7.Name,v7.Ps,v7.F,v7.V,v7.Tk,v7.Pa,v7.Wo,v7.Dr,v7.Ve⟩ : zA)).set (y1.toNat) (⟨v9.Id,r8,v9.Ps,v9.F,v9.V,v9.Tk,v9.Pa,v9.Wo,v9.Dr,v9.Ve⟩ : zA)).set (y1.toNat) (⟨v10.Id,v10.Name,r11.2,v10.F,v10.V,v10.Tk,v10.Pa,v10.Wo,v10.Dr,v10.Ve⟩ : zA)) y1).bind fun v12 => ((Yy n v12.F r11.1).bind fun r13 => ((idx ((((y2.set (y1.toNat) (⟨y3,v7.Name,v7.Ps,v7.F,v7.V,v7.Tk,v7.Pa,v7.Wo,v7.Dr,v7.Ve⟩ : zA)).set (y1.toNat) (⟨v9.Id,r8,v9.Ps,v9.F,v9.V,v9.Tk,v9.Pa,v9.Wo,v9.Dr,v9.Ve⟩ : zA)).set (y1.toNat) (⟨v10.Id,v10.Name,r11.2,v10.F,v10.V,v10.Tk,v10.Pa,v10.Wo,v10.Dr,v10.Ve⟩ : zA)).set (y1.toNat) (⟨v12.Id,v12.Name,v12.Ps,r13.2,v12.V,v12.Tk,v12.Pa,v12.Wo,v12.Dr,v12.Ve⟩ : zA)) y1).bind fun v14 => ((Y0 n v14.V.Rows r13.1).bind fun r15 => ((idx (((((y2.set (y1.toNat) (⟨y3,v7.Name,v7.Ps,v7.F,v7.V,v7.Tk,v7.Pa,v7.Wo,v7.Dr,v7.Ve⟩ : zA)).set (y1.toNat) (⟨v9.Id,r8,v9.Ps,v9.F,v9.V,v9.Tk,v9.Pa,v9.Wo,v9.Dr,v9.Ve⟩ : zA)).set (y1.toNat) (⟨v10.Id,v10.Name,r11.2,v10.F,v10.V,v10.Tk,v10.Pa,v10.Wo,v10.Dr,v10.Ve⟩ : zA)).set (y1.toNat) (⟨v12.Id,v12.Name,v12.Ps,r13.2,v12.V,v12.Tk,v12.Pa,v12.Wo,v12.Dr,v12.Ve⟩ : zA)).set (y1.toNat) (⟨v14.Id,v14.Name,v14.Ps,v14.F,(⟨r15.2,v14.V.Pv⟩ : zF),v14.Tk,v14.Pa,v14.Wo,v14.Dr,v14.Ve⟩ : zA)) y1).bind fun v16 => ((Jb n v16.V.Pv r15.1).bind fun r17 => ((idx ((((((y2.set (y1.toNat) (⟨y3,v7.Name,v7.Ps,v7.F,v7.V,v7.Tk,v7.Pa,v7.Wo,v7.Dr,v7.Ve⟩ : zA)).set (y1.toNat) (⟨v9.Id,r8,v9.Ps,v9.F,v9.V,v9.Tk,v9.Pa,v9.Wo,v9.Dr,v9.Ve⟩ : zA)).set (y1.toNat) (⟨v10.Id,v10.Name,r11.2,v10.F,v10.V,v10.Tk,v10.Pa,v10.Wo,v10.Dr,v10.Ve⟩ : zA)).set (y1.toNat) (⟨v12.Id,v12.Name,v12.Ps,r13.2,v12.V,v12.Tk,v12.Pa,v12.Wo,v12.Dr,v12.Ve⟩ : zA)).set (y1.toNat) (⟨v14.Id,v14.Name,v14.Ps,v14.F,(⟨r15.2,v14.V.Pv⟩ : zF),v14.Tk,v14.Pa,v14.Wo,v14.Dr,v14.Ve⟩ : zA)).set (y1.toNat) (⟨v16.Id,v16.Name,v16.Ps,v16.F,(⟨v16.V.Rows,r17.2⟩ : zF),v16.Tk,v16.Pa,v16.Wo,v16.Dr,v16.Ve⟩ : zA)) y1).bind fun v18 => ((idx (((((((y2.set (y1.toNat) (⟨y3,v7.Name,v7.Ps,v7.F,v7.V,v7.Tk,v7.Pa,v7.Wo,v7.Dr,v7.Ve⟩ : zA)).set (y1.toNat) (⟨v9.Id,r8,v9.Ps,v9.F,v9.V,v9.Tk,v9.Pa,v9.Wo,v9.Dr,v9.Ve⟩ : zA)).set (y1.toNat) (⟨v10.Id,v10.Name,r11.2,v10.F,v10.V,v10.Tk,v10.Pa,v10.Wo,v10.Dr,v10.Ve⟩ : zA)).set (y1.toNat) (⟨v12.Id,v12.Name,v12.Ps,r13.2,v12.V,v12.Tk,v12.Pa,v12.Wo,v12.Dr,v12.Ve⟩ : zA)).set (y1.toNat) (⟨v14.Id,v14.Name,v14.Ps,v14.F,(⟨r15.2,v14.V.Pv⟩ : zF),v14.Tk,v14.Pa,v14.Wo,v14.Dr,v14.Ve⟩ : zA)).set (y1.toNat) (⟨v16.Id,v16.Name,v16.Ps,v16.F,(⟨v16.V.Rows,r17.2⟩ : zF),v16.Tk,v16.Pa,v16.Wo,v16.Dr,v16.Ve⟩ : zA)).set (y1.toNat) (⟨v18.Id,v18.Name,v18.Ps,v18.F,v18.V,r17.1,v18.Pa,v18.Wo,v18.Dr,v18.Ve⟩ : zA)) y1).bind fun v19 => ((idx ((((((((y2.set (y1.toNat) (⟨y3,v7.Name,v7.Ps,v7.F,v7.V,v7.Tk,v7.Pa,v7.Wo,v7.Dr,v7.Ve⟩ : zA)).set (y1.toNat) (⟨v9.Id,r8,v9.Ps,v9.F,v9.V,v9.Tk,v9.Pa,v9.Wo,v9.Dr,v9.Ve⟩ : zA)).set (y1.toNat) (⟨v10.Id,v10.Name,r11.2,v10.F,v10.V,v10.Tk,v10.Pa,v10.Wo,v10.Dr,v10.Ve⟩ : zA)).set (y1.toNat) (⟨v12.Id,v12.Name,v12.Ps,r13.2,v12.V,v12.Tk,v12.Pa,v12.Wo,v12.Dr,v12.Ve⟩ : zA)).set (y1.toNat) (⟨v14.Id,v14.Name,v14.Ps,v14.F,(⟨r15.2,v14.V.Pv⟩ : zF),v14.Tk,v14.Pa,v14.Wo,v14.Dr,v14.Ve⟩ : zA)).set (y1.toNat) (⟨v16.Id,v16.Name,v16.Ps,v16.F,(⟨v16.V.Rows,r17.2⟩ : zF),v16.Tk,v16.Pa,v16.Wo,v16.Dr,v16.Ve⟩ : zA)).set (y1.toNat) (⟨v18.Id,v18.Name,v18.Ps,v18.F,v18.V,r17.1,v18.Pa,v18.Wo,v18.Dr,v18.Ve⟩ : zA)).set (y1.toNat) (⟨v19.Id,v19.Name,v19.Ps,v19.F,v19.V,v19.Tk,(IntKind.wrap .i64 (r17.1 + 1)),v19.Wo,v19.Dr,v19.Ve⟩ : zA)) y1).bind fun v20 => ((idx (((((((((y2.set (y1.toNat) (⟨y3,v7.Name,v7.Ps,v7.F,v7.V,v7.Tk,v7.Pa,v7.Wo,v7.Dr,v7.Ve⟩ : zA)).set (y1.toNat) (⟨v9.Id,r8,v9.Ps,v9.F,v9.V,v9.Tk,v9.Pa,v9.Wo,v9.Dr,v9.Ve⟩ : zA)).set (y1.toNat) (⟨v10.Id,v10.Name,r11.2,v10.F,v10.V,v10.Tk,v10.Pa,v10.Wo,v10.Dr,v10.Ve⟩ : zA)).set (y1.toNat) (⟨v12.Id,v12.Name,v12.Ps,r13.2,v12.V,v12.Tk,v12.Pa,v12.Wo,v12.Dr,v12.Ve⟩ : zA)).set (y1.toNat) (⟨v14.Id,v14.Name,v14.Ps,v14.F,(⟨r15.2,v14.V.Pv⟩ : zF),v14.Tk,v14.Pa,v14.Wo,v14.Dr,v14.Ve⟩ : zA)).set (y1.toNat) (⟨v16.Id,v16.Name,v16.Ps,v16.F,(⟨v16.V.Rows,r17.2⟩ : zF),v16.Tk,v16.Pa,v16.Wo,v16.Dr,v16.Ve⟩ : zA)).set (y1.toNat) (⟨v18.Id,v18.Name,v18.Ps,v18.F,v18.V,r17.1,v18.Pa,v18.Wo,v18.Dr,v18.Ve⟩ : zA)).set (y1.toNat) (⟨v19.Id,v19.Name,v19.Ps,v19.F,v19.V,v19.Tk,(IntKind.wrap .i64 (r17.1 + 1)),v19.Wo,v19.Dr,v19.Ve⟩ : zA)).set (y1.toNat) (⟨v20.Id,v20.Name,v20.Ps,v20.F,v20.V,v20.Tk,v20.Pa,(IntKind.wrap .i64 ((IntKind.wrap .i64 (r17.1 + 1)) + 1)),v20.Dr,v20.Ve⟩ : zA)) y1).bind fun v21 => ((idx ((((((((((y2.set (y1.toNat) (⟨y3,v7.Name,v7.Ps,v7.F,v7.V,v7.Tk,v7.Pa,v7.Wo,v7.Dr,v7.Ve⟩ : zA)).set (y1.toNat) (⟨v9.Id,r8,v9.Ps,v9.F,v9.V,v9.Tk,v9.Pa,v9.Wo,v9.Dr,v9.Ve⟩ : zA)).set (y1.toNat) (⟨v10.Id,v10.Name,r11.2,v10.F,v10.V,v10.Tk,v10.Pa,v10.Wo,v10.Dr,v10.Ve⟩ : zA)).set (y1.toNat) (⟨v12.Id,v12.Name,v12.Ps,r13.2,v12.V,v12.Tk,v12.Pa,v12.Wo,v12.Dr,v12.Ve⟩ : zA)).set (y1.toNat) (⟨v14.Id,v14.Name,v14.Ps,v14.F,(⟨r15.2,v14.V.Pv⟩ : zF),v14.Tk,v14.Pa,v14.Wo,v14.Dr,v14.Ve⟩ : zA)).set (y1.toNat) (⟨v16.Id,v16.Name,v16.Ps,v16.F,(⟨v16.V.Rows,r17.2⟩ : zF),v16.Tk,v16.Pa,v16.Wo,v16.Dr,v16.Ve⟩ : zA)).set (y1.toNat) (⟨v18.Id,v18.Name,v18.Ps,v18.F,v18.V,r17.1,v18.Pa,v18.Wo,v18.Dr,v18.Ve⟩ : zA)).set (y1.toNat) (⟨v19.Id,v19.Name,v19.Ps,v19.F,v19.V,v19.Tk,(IntKind.wrap .i64 (r17.1 + 1)),v19.Wo,v19.Dr,v19.Ve⟩ : zA)).set (y1.toNat) (⟨v20.Id,v20.Name,v20.Ps,v20.F,v20.V,v20.Tk,v20.Pa,(IntKind.wrap .i64 ((IntKind.wrap .i64 (r17.1 + 1)) + 1)),v20.Dr,v20.Ve⟩ : zA)).set (y1.toNat) (⟨v21.Id,v21.Name,v21.Ps,v21.F,v21.V,v21.Tk,v21.Pa,v21.Wo,(IntKind.wrap .i64 ((IntKind.wrap .i64 ((IntKind.wrap .i64 (r17.1 + 1)) + 1)) + 1)),v21.Ve⟩ : zA)) y1).bind fun v22 => (qc n mo6 (IntKind.wrap .i64 (y1 + 1)) (((((((((((y2.set (y1.toNat) (⟨y3,v7.Name,v7.Ps,v7.F,v7.V,v7.Tk,v7.Pa,v7.Wo,v7.Dr,v7.Ve⟩ : zA)).set (y1.toNat) (⟨v9.Id,r8,v9.Ps,v9.F,v9.V,v9.Tk,v9.Pa,v9.Wo,v9.Dr,v9.Ve⟩ : zA)).set (y1.toNat) (⟨v10.Id,v10.Name,r11.2,v10.F,v10.V,v10.Tk,v10.Pa,v10.Wo,v10.Dr,v10.Ve⟩ : zA)).set (y1.toNat) (⟨v12.Id,v12.Name,v12.Ps,r13.2,v12.V,v12.Tk,v12.Pa,v12.Wo,v12.Dr,v12.Ve⟩ : zA)).set (y1.toNat) (⟨v14.Id,v14.Name,v14.Ps,v14.F,(⟨r15.2,v14.V.Pv⟩ : zF),v14.Tk,v14.Pa,v14.Wo,v14.Dr,v14.Ve⟩ : zA)).set (y1.toNat) (⟨v16.Id,v16.Name,v16.Ps,v16.F,(⟨v16.V.Rows,r17.2⟩ : zF),v16.Tk,v16.Pa,v16.Wo,v16.Dr,v16.Ve⟩ : zA)).set (y1.toNat) (⟨v18.Id,v18.Name,v18.Ps,v18.F,v18.V,r17.1,v18.Pa,v18.Wo,v18.Dr,v18.Ve⟩ : zA)).set (y1.toNat) (⟨v19.Id,v19.Name,v19.Ps,v19.F,v19.V,v19.Tk,(IntKind.wrap .i64 (r17.1 + 1)),v19.Wo,v19.Dr,v19.Ve⟩ : zA)).set (y1.toNat) (⟨v20.Id,v20.Name,v20.Ps,v20.F,v20.V,v20.Tk,v20.Pa,(IntKind.wrap .i64 ((IntKind.wrap .i64 (r17.1 + 1)) + 1)),v20.Dr,v20.Ve⟩ : zA)).set (y1.toNat) (⟨v21.Id,v21.Name,v21.Ps,v21.F,v21.V,v21.Tk,v21.Pa,v21.Wo,(IntKind.wrap .i64 ((IntKind.wrap .i64 ((IntKind.wrap .i64 (r17.1 + 1)) + 1)) + 1)),v21.Ve⟩ : zA)).set (y1.toNat) (⟨v22.Id,v22.Name,v22.Ps,v22.F,v22.V,v22.Tk,v22.Pa,v22.Wo,v22.Dr,(IntKind.wrap .i64 ((IntKind.wrap .i64 ((IntKind.wrap .i64 ((IntKind.wrap .i64 (r17.1 + 1)) + 1)) + 1)) + 1))⟩ : zA)) (IntKind.wrap .i64 ((IntKind.wrap .i64 ((IntKind.wrap .i64 ((IntKind.wrap .i64 ((IntKind.wrap .i64 (r17.1 + 1)) + 1)) + 1)) + 1)) + 1))))))))))))))))))) else (some (Sum.inl (y2,y3))))
def Qz (n : Nat) (x0 : (List zA)) (x1 : Int) : Option (Int × (List zA)) :=
  ((qc n n 0 x0 x1).bind fun o => match o with | .inl (y4,y5) => (YY n y4 y5) | .inr r => some r)
noncomputable abbrev YH (k : Nat) := Rg Tryz.f124 k
theorem zHV (n : Nat) (x0 : (List zA)) (x1 : Int) (r : Int × (List zA)) (H : Qz n x0 x1 = some r) : zD Tryz.prog 124 [.io false [.sl true 11 (x0.map zA.row)],.val false [.lit (.int .i64 x1)]] [.val false [.lit (.int .i64 r.1)]] [(0,[.sl true 11 (r.2.map zA.row)])] := by
 refine zD.of_body tOk Tryz.func124 rfl (c := (.seq (YH 0) (.seq (.seq (YH 1) (.block 0 (.loop (.seq (.seq (YH 2) (.cond (.tmp 9) .skip (.exit 0))) (.seq (.block 1 (.seq (YH 4) (.seq (YH 5) (.seq (YH 6) (.seq (YH 7) (.seq (YH 8) (.seq (YH 9) (.seq (YH 10) (.seq (YH 11) (.seq (YH 12) (.seq (YH 13) (.seq (YH 14) (.seq (YH 15) (.seq (YH 16) (.seq (YH 17) (.seq (YH 18) (.seq (YH 19) (.seq (YH 20) (YH 21))))))))))))))))))) (YH 3)))))) (.seq (YH 22) .ret)))) kr (Nat.le_of_ble_eq_true kr) 1 (rs := [.tmp 4]) rfl [0] (by decide) [(false,[.lit (.int .i64 r.1)])] [[.sl true 11 (r.2.map zA.row)]] [] fun cx => ?_
 show Tr _ _ _ ⟨93,1,[sC 0 (cL 11 x0 zA.row),sI 1 x1],[]⟩ _
 unfold Qz at H
 refine gA 1 3 0 ?_
 refine tS ?_
 refine gA 1 35 0 ?_
 obtain ⟨o6,eo6,Ho6⟩ := bs H
 clear H
 refine Tr.mid (ι := (List zA) × Int) (fun v => ⟨93,1,[sC 0 (cL 11 v.1 zA.row),sI 1 v.2],[]⟩) (fun v => YY n v.1 v.2 = some r) ?_ ?_
 ·refine tB ?_
  refine Tr.loop (ι := Nat × (Int × (List zA) × Int)) (fun v => ⟨93,1,[sI 5 v.2.1,sC 0 (cL 11 v.2.2.1 zA.row),sI 1 v.2.2.2],[]⟩) (fun v => qc n v.1 v.2.1 v.2.2.1 v.2.2.2 = some o6) (fun v => v.1) (n,(0,x0,x1)) eo6 (St.sub_of [5,0,1] [] kr) ?_
  rintro ⟨mo6,y1,y2,y3⟩ H
  have H : qc n mo6 y1 y2 y3 = some o6 := H
  obtain _ | mo6 := mo6
  ·exact nN H
  rw [qc] at H
  refine tS ?_
  refine rA 2 ?_
  refine kO y2 zA.row ?_
  refine uA 1 547 0 ?_
  obtain ⟨h1,H⟩ | ⟨h1,H⟩ := bC H
  ·refine nA h1 ?_
   refine Tr.exit ?_
   refine aJ ?_
   obtain rfl := si H
   have H := Ho6
   dsimp only at H
   exact jA (y2,y3) H [0,1] []
  refine tA h1 ?_
  refine tK ?_
  refine tS ?_
  refine tB ?_
  refine rA 3 ?_
  obtain ⟨v7,ev7,H⟩ := bs H
  refine oA zA.row ev7 ?_
  refine lA 1 ?_
  refine sS (tI 3) false [cI y3] 0 0 (y1.toNat) 11 0 11 zA.row (⟨y3,v7.Name,v7.Ps,v7.F,v7.V,v7.Tk,v7.Pa,v7.Wo,v7.Dr,v7.Ve⟩ : zA) (zI ev7).2 ?_
  refine dA 35 0 ?_
  refine gA 3 35 0 ?_
  refine rA 3 ?_
  obtain ⟨r8,er8,H⟩ := bs H
  refine vA [.rd] (zFW n (IntKind.wrap .i64 (y3 + 1)) r8 er8) ?_
  obtain ⟨v9,ev9,H⟩ := bs H
  refine oA zA.row ev9 ?_
  refine lA 1 ?_
  refine sS (tI 9) false [cS r8] 0 0 (y1.toNat) 11 1 11 zA.row (⟨v9.Id,r8,v9.Ps,v9.F,v9.V,v9.Tk,v9.Pa,v9.Wo,v9.Dr,v9.Ve⟩ : zA) (zI ev9).2 ?_
  refine dA 35 0 ?_
  refine gA 3 35 0 ?_
  refine rA 2 ?_
  obtain ⟨v10,ev10,H⟩ := bs H
  refine oA zA.row ev10 ?_
  refine lA 1 ?_
  refine dE (tI 35) (.slot 0) [(0,(y1.toNat))] 11 2 [cL 11 ((y2.set (y1.toNat) (⟨y3,v7.Name,v7.Ps,v7.F,v7.V,v7.Tk,v7.Pa,v7.Wo,v7.Dr,v7.Ve⟩ : zA)).set (y1.toNat) (⟨v9.Id,r8,v9.Ps,v9.F,v9.V,v9.Tk,v9.Pa,v9.Wo,v9.Dr,v9.Ve⟩ : zA)) zA.row] (zA.row v10) (Q4 rfl (zI ev10).2) ?_
  refine lA 1 ?_
  obtain ⟨r11,er11,H⟩ := bs H
  refine LAt.callO tOk [.lend,.rd] (f := 95) (av := #[.tmp 31,.tmp 32]) (ats := #[35,3]) (d := (some 33)) (ty := 3) (g := none) [(31,zA.row v10)] (some [cL 11 (((y2.set (y1.toNat) (⟨y3,v7.Name,v7.Ps,v7.F,v7.V,v7.Tk,v7.Pa,v7.Wo,v7.Dr,v7.Ve⟩ : zA)).set (y1.toNat) (⟨v9.Id,r8,v9.Ps,v9.F,v9.V,v9.Tk,v9.Pa,v9.Wo,v9.Dr,v9.Ve⟩ : zA)).set (y1.toNat) (⟨v10.Id,v10.Name,r11.2,v10.F,v10.V,v10.Tk,v10.Pa,v10.Wo,v10.Dr,v10.Ve⟩ : zA)) zA.row]) kr kr kr [] (zKh n v10.Ps (IntKind.wrap .i64 ((IntKind.wrap .i64 (y3 + 1)) + 1)) r11 er11) (YQ (row := [cL 11 ((y2.set (y1.toNat) (⟨y3,v7.Name,v7.Ps,v7.F,v7.V,v7.Tk,v7.Pa,v7.Wo,v7.Dr,v7.Ve⟩ : zA)).set (y1.toNat) (⟨v9.Id,r8,v9.Ps,v9.F,v9.V,v9.Tk,v9.Pa,v9.Wo,v9.Dr,v9.Ve⟩ : zA)) zA.row]) (q := [(0,(y1.toNat))]) kr (Q4 rfl (zI ev10).2) Je) kr (zGX [cL 11 ((y2.set (y1.toNat) (⟨y3,v7.Name,v7.Ps,v7.F,v7.V,v7.Tk,v7.Pa,v7.Wo,v7.Dr,v7.Ve⟩ : zA)).set (y1.toNat) (⟨v9.Id,r8,v9.Ps,v9.F,v9.V,v9.Tk,v9.Pa,v9.Wo,v9.Dr,v9.Ve⟩ : zA)) zA.row] [(0,(y1.toNat))] false 2 [cL 8 r11.2 Pt.row] kr (zCB (new := (⟨v10.Id,v10.Name,r11.2,v10.F,v10.V,v10.Tk,v10.Pa,v10.Wo,v10.Dr,v10.Ve⟩ : zA)) rfl (zI ev10).2 rfl)) (.inl rfl) ?_
  refine uA 1 35 0 ?_
  refine rA 2 ?_
  obtain ⟨v12,ev12,H⟩ := bs H
  refine oA zA.row ev12 ?_
  refine lA 1 ?_
  refine dE (tI 36) (.slot 0) [(0,(y1.toNat))] 11 3 [cL 11 (((y2.set (y1.toNat) (⟨y3,v7.Name,v7.Ps,v7.F,v7.V,v7.Tk,v7.Pa,v7.Wo,v7.Dr,v7.Ve⟩ : zA)).set (y1.toNat) (⟨v9.Id,r8,v9.Ps,v9.F,v9.V,v9.Tk,v9.Pa,v9.Wo,v9.Dr,v9.Ve⟩ : zA)).set (y1.toNat) (⟨v10.Id,v10.Name,r11.2,v10.F,v10.V,v10.Tk,v10.Pa,v10.Wo,v10.Dr,v10.Ve⟩ : zA)) zA.row] (zA.row v12) (Q4 rfl (zI ev12).2) ?_
  refine lA 1 ?_
  obtain ⟨r13,er13,H⟩ := bs H
  refine LAt.callO tOk [.lend,.rd] (f := 96) (av := #[.tmp 38,.tmp 39]) (ats := #[36,3]) (d := (some 40)) (ty := 3) (g := none) [(38,zA.row v12)] (some [cL 11 ((((y2.set (y1.toNat) (⟨y3,v7.Name,v7.Ps,v7.F,v7.V,v7.Tk,v7.Pa,v7.Wo,v7.Dr,v7.Ve⟩ : zA)).set (y1.toNat) (⟨v9.Id,r8,v9.Ps,v9.F,v9.V,v9.Tk,v9.Pa,v9.Wo,v9.Dr,v9.Ve⟩ : zA)).set (y1.toNat) (⟨v10.Id,v10.Name,r11.2,v10.F,v10.V,v10.Tk,v10.Pa,v10.Wo,v10.Dr,v10.Ve⟩ : zA)).set (y1.toNat) (⟨v12.Id,v12.Name,v12.Ps,r13.2,v12.V,v12.Tk,v12.Pa,v12.Wo,v12.Dr,v12.Ve⟩ : zA)) zA.row]) kr kr kr [] (zI2 n v12.F r11.1 r13 er13) (YQ (row := [cL 11 (((y2.set (y1.toNat) (⟨y3,v7.Name,v7.Ps,v7.F,v7.V,v7.Tk,v7.Pa,v7.Wo,v7.Dr,v7.Ve⟩ : zA)).set (y1.toNat) (⟨v9.Id,r8,v9.Ps,v9.F,v9.V,v9.Tk,v9.Pa,v9.Wo,v9.Dr,v9.Ve⟩ : zA)).set (y1.toNat) (⟨v10.Id,v10.Name,r11.2,v10.F,v10.V,v10.Tk,v10.Pa,v10.Wo,v10.Dr,v10.Ve⟩ : zA)) zA.row]) (q := [(0,(y1.toNat))]) kr (Q4 rfl (zI ev12).2) Je) kr (zGX [cL 11 (((y2.set (y1.toNat) (⟨y3,v7.Name,v7.Ps,v7.F,v7.V,v7.Tk,v7.Pa,v7.Wo,v7.Dr,v7.Ve⟩ : zA)).set (y1.toNat) (⟨v9.Id,r8,v9.Ps,v9.F,v9.V,v9.Tk,v9.Pa,v9.Wo,v9.Dr,v9.Ve⟩ : zA)).set (y1.toNat) (⟨v10.Id,v10.Name,r11.2,v10.F,v10.V,v10.Tk,v10.Pa,v10.Wo,v10.Dr,v10.Ve⟩ : zA)) zA.row] [(0,(y1.toNat))] false 3 [cL 5 r13.2 zB.row] kr (zCB (new := (⟨v12.Id,v12.Name,v12.Ps,r13.2,v12.V,v12.Tk,v12.Pa,v12.Wo,v12.Dr,v12.Ve⟩ : zA)) rfl (zI ev12).2 rfl)) (.inl rfl) ?_
  refine uA 1 35 0 ?_
  refine rA 2 ?_
  obtain ⟨v14,ev14,H⟩ := bs H
  refine oA zA.row ev14 ?_
  refine lA 2 ?_
  refine dE (tI 37) (.slot 0) [(0,(y1.toNat))] 11 4 [cL 11 ((((y2.set (y1.toNat) (⟨y3,v7.Name,v7.Ps,v7.F,v7.V,v7.Tk,v7.Pa,v7.Wo,v7.Dr,v7.Ve⟩ : zA)).set (y1.toNat) (⟨v9.Id,r8,v9.Ps,v9.F,v9.V,v9.Tk,v9.Pa,v9.Wo,v9.Dr,v9.Ve⟩ : zA)).set (y1.toNat) (⟨v10.Id,v10.Name,r11.2,v10.F,v10.V,v10.Tk,v10.Pa,v10.Wo,v10.Dr,v10.Ve⟩ : zA)).set (y1.toNat) (⟨v12.Id,v12.Name,v12.Ps,r13.2,v12.V,v12.Tk,v12.Pa,v12.Wo,v12.Dr,v12.Ve⟩ : zA)) zA.row] (zA.row v14) (Q4 rfl (zI ev14).2) ?_
  refine lA 1 ?_
  obtain ⟨r15,er15,H⟩ := bs H
  refine LAt.callO tOk [.lend,.rd] (f := 190) (av := #[.tmp 46,.tmp 47]) (ats := #[37,3]) (d := (some 48)) (ty := 3) (g := none) [(46,zA.row v14)] (some [cL 11 (((((y2.set (y1.toNat) (⟨y3,v7.Name,v7.Ps,v7.F,v7.V,v7.Tk,v7.Pa,v7.Wo,v7.Dr,v7.Ve⟩ : zA)).set (y1.toNat) (⟨v9.Id,r8,v9.Ps,v9.F,v9.V,v9.Tk,v9.Pa,v9.Wo,v9.Dr,v9.Ve⟩ : zA)).set (y1.toNat) (⟨v10.Id,v10.Name,r11.2,v10.F,v10.V,v10.Tk,v10.Pa,v10.Wo,v10.Dr,v10.Ve⟩ : zA)).set (y1.toNat) (⟨v12.Id,v12.Name,v12.Ps,r13.2,v12.V,v12.Tk,v12.Pa,v12.Wo,v12.Dr,v12.Ve⟩ : zA)).set (y1.toNat) (⟨v14.Id,v14.Name,v14.Ps,v14.F,(⟨r15.2,v14.V.Pv⟩ : zF),v14.Tk,v14.Pa,v14.Wo,v14.Dr,v14.Ve⟩ : zA)) zA.row]) kr kr kr [] (zI4 n v14.V.Rows r13.1 r15 er15) (YQ (row := [cL 11 ((((y2.set (y1.toNat) (⟨y3,v7.Name,v7.Ps,v7.F,v7.V,v7.Tk,v7.Pa,v7.Wo,v7.Dr,v7.Ve⟩ : zA)).set (y1.toNat) (⟨v9.Id,r8,v9.Ps,v9.F,v9.V,v9.Tk,v9.Pa,v9.Wo,v9.Dr,v9.Ve⟩ : zA)).set (y1.toNat) (⟨v10.Id,v10.Name,r11.2,v10.F,v10.V,v10.Tk,v10.Pa,v10.Wo,v10.Dr,v10.Ve⟩ : zA)).set (y1.toNat) (⟨v12.Id,v12.Name,v12.Ps,r13.2,v12.V,v12.Tk,v12.Pa,v12.Wo,v12.Dr,v12.Ve⟩ : zA)) zA.row]) (q := [(0,(y1.toNat))]) kr (Q4 rfl (zI ev14).2) Je) kr (zGX [cL 11 ((((y2.set (y1.toNat) (⟨y3,v7.Name,v7.Ps,v7.F,v7.V,v7.Tk,v7.Pa,v7.Wo,v7.Dr,v7.Ve⟩ : zA)).set (y1.toNat) (⟨v9.Id,r8,v9.Ps,v9.F,v9.V,v9.Tk,v9.Pa,v9.Wo,v9.Dr,v9.Ve⟩ : zA)).set (y1.toNat) (⟨v10.Id,v10.Name,r11.2,v10.F,v10.V,v10.Tk,v10.Pa,v10.Wo,v10.Dr,v10.Ve⟩ : zA)).set (y1.toNat) (⟨v12.Id,v12.Name,v12.Ps,r13.2,v12.V,v12.Tk,v12.Pa,v12.Wo,v12.Dr,v12.Ve⟩ : zA)) zA.row] [(0,(y1.toNat))] false 4 [cL 3 r15.2 zC.row] kr (zCB (new := (⟨v14.Id,v14.Name,v14.Ps,v14.F,(⟨r15.2,v14.V.Pv⟩ : zF),v14.Tk,v14.Pa,v14.Wo,v14.Dr,v14.Ve⟩ : zA)) rfl (zI ev14).2 rfl)) (.inl rfl) ?_
  refine uA 1 35 0 ?_
  refine rA 2 ?_
  obtain ⟨v16,ev16,H⟩ := bs H
  refine oA zA.row ev16 ?_
  refine lA 2 ?_
  refine dE (tI 25) (.slot 0) [(0,(y1.toNat))] 11 5 [cL 11 (((((y2.set (y1.toNat) (⟨y3,v7.Name,v7.Ps,v7.F,v7.V,v7.Tk,v7.Pa,v7.Wo,v7.Dr,v7.Ve⟩ : zA)).set (y1.toNat) (⟨v9.Id,r8,v9.Ps,v9.F,v9.V,v9.Tk,v9.Pa,v9.Wo,v9.Dr,v9.Ve⟩ : zA)).set (y1.toNat) (⟨v10.Id,v10.Name,r11.2,v10.F,v10.V,v10.Tk,v10.Pa,v10.Wo,v10.Dr,v10.Ve⟩ : zA)).set (y1.toNat) (⟨v12.Id,v12.Name,v12.Ps,r13.2,v12.V,v12.Tk,v12.Pa,v12.Wo,v12.Dr,v12.Ve⟩ : zA)).set (y1.toNat) (⟨v14.Id,v14.Name,v14.Ps,v14.F,(⟨r15.2,v14.V.Pv⟩ : zF),v14.Tk,v14.Pa,v14.Wo,v14.Dr,v14.Ve⟩ : zA)) zA.row] (zA.row v16) (Q4 rfl (zI ev16).2) ?_
  refine lA 1 ?_
  obtain ⟨r17,er17,H⟩ := bs H
  refine LAt.callO tOk [.lend,.rd] (f := 191) (av := #[.tmp 54,.tmp 55]) (ats := #[25,3]) (d := (some 56)) (ty := 3) (g := none) [(54,zA.row v16)] (some [cL 11 ((((((y2.set (y1.toNat) (⟨y3,v7.Name,v7.Ps,v7.F,v7.V,v7.Tk,v7.Pa,v7.Wo,v7.Dr,v7.Ve⟩ : zA)).set (y1.toNat) (⟨v9.Id,r8,v9.Ps,v9.F,v9.V,v9.Tk,v9.Pa,v9.Wo,v9.Dr,v9.Ve⟩ : zA)).set (y1.toNat) (⟨v10.Id,v10.Name,r11.2,v10.F,v10.V,v10.Tk,v10.Pa,v10.Wo,v10.Dr,v10.Ve⟩ : zA)).set (y1.toNat) (⟨v12.Id,v12.Name,v12.Ps,r13.2,v12.V,v12.Tk,v12.Pa,v12.Wo,v12.Dr,v12.Ve⟩ : zA)).set (y1.toNat) (⟨v14.Id,v14.Name,v14.Ps,v14.F,(⟨r15.2,v14.V.Pv⟩ : zF),v14.Tk,v14.Pa,v14.Wo,v14.Dr,v14.Ve⟩ : zA)).set (y1.toNat) (⟨v16.Id,v16.Name,v16.Ps,v16.F,(⟨v16.V.Rows,r17.2⟩ : zF),v16.Tk,v16.Pa,v16.Wo,v16.Dr,v16.Ve⟩ : zA)) zA.row]) kr kr kr [] (zJ1 n v16.V.Pv r15.1 r17 er17) (YQ (row := [cL 11 (((((y2.set (y1.toNat) (⟨y3,v7.Name,v7.Ps,v7.F,v7.V,v7.Tk,v7.Pa,v7.Wo,v7.Dr,v7.Ve⟩ : zA)).set (y1.toNat) (⟨v9.Id,r8,v9.Ps,v9.F,v9.V,v9.Tk,v9.Pa,v9.Wo,v9.Dr,v9.Ve⟩ : zA)).set (y1.toNat) (⟨v10.Id,v10.Name,r11.2,v10.F,v10.V,v10.Tk,v10.Pa,v10.Wo,v10.Dr,v10.Ve⟩ : zA)).set (y1.toNat) (⟨v12.Id,v12.Name,v12.Ps,r13.2,v12.V,v12.Tk,v12.Pa,v12.Wo,v12.Dr,v12.Ve⟩ : zA)).set (y1.toNat) (⟨v14.Id,v14.Name,v14.Ps,v14.F,(⟨r15.2,v14.V.Pv⟩ : zF),v14.Tk,v14.Pa,v14.Wo,v14.Dr,v14.Ve⟩ : zA)) zA.row]) (q := [(0,(y1.toNat))]) kr (Q4 rfl (zI ev16).2) Je) kr (zGX [cL 11 (((((y2.set (y1.toNat) (⟨y3,v7.Name,v7.Ps,v7.F,v7.V,v7.Tk,v7.Pa,v7.Wo,v7.Dr,v7.Ve⟩ : zA)).set (y1.toNat) (⟨v9.Id,r8,v9.Ps,v9.F,v9.V,v9.Tk,v9.Pa,v9.Wo,v9.Dr,v9.Ve⟩ : zA)).set (y1.toNat) (⟨v10.Id,v10.Name,r11.2,v10.F,v10.V,v10.Tk,v10.Pa,v10.Wo,v10.Dr,v10.Ve⟩ : zA)).set (y1.toNat) (⟨v12.Id,v12.Name,v12.Ps,r13.2,v12.V,v12.Tk,v12.Pa,v12.Wo,v12.Dr,v12.Ve⟩ : zA)).set (y1.toNat) (⟨v14.Id,v14.Name,v14.Ps,v14.F,(⟨r15.2,v14.V.Pv⟩ : zF),v14.Tk,v14.Pa,v14.Wo,v14.Dr,v14.Ve⟩ : zA)) zA.row] [(0,(y1.toNat))] false 5 [cL 1 r17.2 intRow] kr (zCB (new := (⟨v16.Id,v16.Name,v16.Ps,v16.F,(⟨v16.V.Rows,r17.2⟩ : zF),v16.Tk,v16.Pa,v16.Wo,v16.Dr,v16.Ve⟩ : zA)) rfl (zI ev16).2 rfl)) (.inl rfl) ?_
  refine uA 1 35 0 ?_
  refine rA 3 ?_
  obtain ⟨v18,ev18,H⟩ := bs H
  refine oA zA.row ev18 ?_
  refine lA 1 ?_
  refine sS (tI 3) false [cI r17.1] 0 0 (y1.toNat) 11 6 11 zA.row (⟨v18.Id,v18.Name,v18.Ps,v18.F,v18.V,r17.1,v18.Pa,v18.Wo,v18.Dr,v18.Ve⟩ : zA) (zI ev18).2 ?_
  refine dA 35 0 ?_
  refine gA 3 35 0 ?_
  refine rA 3 ?_
  obtain ⟨v19,ev19,H⟩ := bs H
  refine oA zA.row ev19 ?_
  refine lA 1 ?_
  refine sS (tI 3) false [cI (IntKind.wrap .i64 (r17.1 + 1))] 0 0 (y1.toNat) 11 7 11 zA.row (⟨v19.Id,v19.Name,v19.Ps,v19.F,v19.V,v19.Tk,(IntKind.wrap .i64 (r17.1 + 1)),v19.Wo,v19.Dr,v19.Ve⟩ : zA) (zI ev19).2 ?_
  refine dA 35 0 ?_
  refine gA 3 35 0 ?_
  refine rA 3 ?_
  obtain ⟨v20,ev20,H⟩ := bs H
  refine oA zA.row ev20 ?_
  refine lA 1 ?_
  refine sS (tI 3) false [cI (IntKind.wrap .i64 ((IntKind.wrap .i64 (r17.1 + 1)) + 1))] 0 0 (y1.toNat) 11 8 11 zA.row (⟨v20.Id,v20.Name,v20.Ps,v20.F,v20.V,v20.Tk,v20.Pa,(IntKind.wrap .i64 ((IntKind.wrap .i64 (r17.1 + 1)) + 1)),v20.Dr,v20.Ve⟩ : zA) (zI ev20).2 ?_
  refine dA 35 0 ?_
  refine gA 3 35 0 ?_
  refine rA 3 ?_
  obtain ⟨v21,ev21,H⟩ := bs H
  refine oA zA.row ev21 ?_
  refine lA 1 ?_
  refine sS (tI 3) false [cI (IntKind.wrap .i64 ((IntKind.wrap .i64 ((IntKind.wrap .i64 (r17.1 + 1)) + 1)) + 1))] 0 0 (y1.toNat) 11 9 11 zA.row (⟨v21.Id,v21.Name,v21.Ps,v21.F,v21.V,v21.Tk,v21.Pa,v21.Wo,(IntKind.wrap .i64 ((IntKind.wrap .i64 ((IntKind.wrap .i64 (r17.1 + 1)) + 1)) + 1)),v21.Ve⟩ : zA) (zI ev21).2 ?_
  refine dA 35 0 ?_
  refine gA 3 35 0 ?_
  refine rA 3 ?_
  obtain ⟨v22,ev22,H⟩ := bs H
  refine oA zA.row ev22 ?_
  refine lA 1 ?_
  refine sS (tI 3) false [cI (IntKind.wrap .i64 ((IntKind.wrap .i64 ((IntKind.wrap .i64 ((IntKind.wrap .i64 (r17.1 + 1)) + 1)) + 1)) + 1))] 0 0 (y1.toNat) 11 10 11 zA.row (⟨v22.Id,v22.Name,v22.Ps,v22.F,v22.V,v22.Tk,v22.Pa,v22.Wo,v22.Dr,(IntKind.wrap .i64 ((IntKind.wrap .i64 ((IntKind.wrap .i64 ((IntKind.wrap .i64 (r17.1 + 1)) + 1)) + 1)) + 1))⟩ : zA) (zI ev22).2 ?_
  refine dA 35 0 ?_
  refine eA 3 35 0 ?_
  refine eA 3 35 0 ?_
  exact jB mo6 ((IntKind.wrap .i64 (y1 + 1)),(((((((((((y2.set (y1.toNat) (⟨y3,v7.Name,v7.Ps,v7.F,v7.V,v7.Tk,v7.Pa,v7.Wo,v7.Dr,v7.Ve⟩ : zA)).set (y1.toNat) (⟨v9.Id,r8,v9.Ps,v9.F,v9.V,v9.Tk,v9.Pa,v9.Wo,v9.Dr,v9.Ve⟩ : zA)).set (y1.toNat) (⟨v10.Id,v10.Name,r11.2,v10.F,v10.V,v10.Tk,v10.Pa,v10.Wo,v10.Dr,v10.Ve⟩ : zA)).set (y1.toNat) (⟨v12.Id,v12.Name,v12.Ps,r13.2,v12.V,v12.Tk,v12.Pa,v12.Wo,v12.Dr,v12.Ve⟩ : zA)).set (y1.toNat) (⟨v14.Id,v14.Name,v14.Ps,v14.F,(⟨r15.2,v14.V.Pv⟩ : zF),v14.Tk,v14.Pa,v14.Wo,v14.Dr,v14.Ve⟩ : zA)).set (y1.toNat) (⟨v16.Id,v16.Name,v16.Ps,v16.F,(⟨v16.V.Rows,r17.2⟩ : zF),v16.Tk,v16.Pa,v16.Wo,v16.Dr,v16.Ve⟩ : zA)).set (y1.toNat) (⟨v18.Id,v18.Name,v18.Ps,v18.F,v18.V,r17.1,v18.Pa,v18.Wo,v18.Dr,v18.Ve⟩ : zA)).set (y1.toNat) (⟨v19.Id,v19.Name,v19.Ps,v19.F,v19.V,v19.Tk,(IntKind.wrap .i64 (r17.1 + 1)),v19.Wo,v19.Dr,v19.Ve⟩ : zA)).set (y1.toNat) (⟨v20.Id,v20.Name,v20.Ps,v20.F,v20.V,v20.Tk,v20.Pa,(IntKind.wrap .i64 ((IntKind.wrap .i64 (r17.1 + 1)) + 1)),v20.Dr,v20.Ve⟩ : zA)).set (y1.toNat) (⟨v21.Id,v21.Name,v21.Ps,v21.F,v21.V,v21.Tk,v21.Pa,v21.Wo,(IntKind.wrap .i64 ((IntKind.wrap .i64 ((IntKind.wrap .i64 (r17.1 + 1)) + 1)) + 1)),v21.Ve⟩ : zA)).set (y1.toNat) (⟨v22.Id,v22.Name,v22.Ps,v22.F,v22.V,v22.Tk,v22.Pa,v22.Wo,v22.Dr,(IntKind.wrap .i64 ((IntKind.wrap .i64 ((IntKind.wrap .i64 ((IntKind.wrap .i64 (r17.1 + 1)) + 1)) + 1)) + 1))⟩ : zA)),(IntKind.wrap .i64 ((IntKind.wrap .i64 ((IntKind.wrap .i64 ((IntKind.wrap .i64 ((IntKind.wrap .i64 (r17.1 + 1)) + 1)) + 1)) + 1)) + 1))) H [5,0,1] []
 rintro ⟨y4,y5⟩ H
 have H : (YY n y4 y5) = some r := H
 unfold YY at H
 refine gA 2 17 0 ?_
 refine te ?_
 obtain rfl := si H
 exact Fin.ofY _ [(false,[cI y5])] [false] _ [[cL 11 y4 zA.row]] _ [] kr rfl rfl rfl kr kr kr kr rfl rfl rfl
def JH (n : Nat) (y4 : (List Link)) (y5 : Int) : Option (Int × (List Link)) :=
  (some (y5,y4))
def qx (n : Nat) : Nat → Int → (List Link) → Int → Option (((List Link) × Int) ⊕ (Int × (List Link)))
  | 0,_,_,_ => none
  | mo6 + 1,y1,y2,y3 => (bif (decide (y1 < (y2.length : Int))) then ((idx y2 y1).bind fun v7 => ((idx (y2.set (y1.toNat) (⟨y3,v7.P,v7.B,v7.Q⟩ : Link)) y1).bind fun v8 => ((idx ((y2.set (y1.toNat) (⟨y3,v7.P,v7.B,v7.Q⟩ : Link)).set (y1.toNat) (⟨v8.A,(IntKind.wrap .i64 (y3 + 1)),v8.B,v8.Q⟩ : Link)) y1).bind fun v9 => ((idx (((y2.set (y1.toNat) (⟨y3,v7.P,v7.B,v7.Q⟩ : Link)).set (y1.toNat) (⟨v8.A,(IntKind.wrap .i64 (y3 + 1)),v8.B,v8.Q⟩ : Link)).set (y1.toNat) (⟨v9.A,v9.P,(IntKind.wrap .i64 ((IntKind.wrap .i64 (y3 + 1)) + 1)),v9.Q⟩ : Link)) y1).bind fun v10 => (qx n mo6 (IntKind.wrap .i64 (y1 + 1)) ((((y2.set (y1.toNat) (⟨y3,v7.P,v7.B,v7.Q⟩ : Link)).set (y1.toNat) (⟨v8.A,(IntKind.wrap .i64 (y3 + 1)),v8.B,v8.Q⟩ : Link)).set (y1.toNat) (⟨v9.A,v9.P,(IntKind.wrap .i64 ((IntKind.wrap .i64 (y3 + 1)) + 1)),v9.Q⟩ : Link)).set (y1.toNat) (⟨v10.A,v10.P,v10.B,(IntKind.wrap .i64 ((IntKind.wrap .i64 ((IntKind.wrap .i64 (y3 + 1)) + 1)) + 1))⟩ : Link)) (IntKind.wrap .i64 ((IntKind.wrap .i64 ((IntKind.wrap .i64 ((IntKind.wrap .i64 (y3 + 1)) + 1)) + 1)) + 1))))))) else (some (Sum.inl (y2,y3))))
def Yz (n : Nat) (x0 : (List Link)) (x1 : Int) : Option (Int × (List Link)) :=
  ((qx n n 0 x0 x1).bind fun o => match o with | .inl (y4,y5) => (JH n y4 y5) | .inr r => some r)
noncomputable abbrev zCh (k : Nat) := Rg Tryz.f125 k
theorem zI3 (n : Nat) (x0 : (List Link)) (x1 : Int) (r : Int × (List Link)) (H : Yz n x0 x1 = some r) : zD Tryz.prog 125 [.io false [.sl true 4 (x0.map Link.row)],.val false [.lit (.int .i64 x1)]] [.val false [.lit (.int .i64 r.1)]] [(0,[.sl true 4 (r.2.map Link.row)])] := by
 refine zD.of_body tOk Tryz.func125 rfl (c := (.seq (zCh 0) (.seq (.seq (zCh 1) (.block 0 (.loop (.seq (.seq (zCh 2) (.cond (.tmp 9) .skip (.exit 0))) (.seq (.block 1 (.seq (zCh 4) (.seq (zCh 5) (.seq (zCh 6) (.seq (zCh 7) (.seq (zCh 8) (.seq (zCh 9) (.seq (zCh 10) (zCh 11))))))))) (zCh 3)))))) (.seq (zCh 12) .ret)))) kr (Nat.le_of_ble_eq_true kr) 1 (rs := [.tmp 4]) rfl [0] (by decide) [(false,[.lit (.int .i64 r.1)])] [[.sl true 4 (r.2.map Link.row)]] [] fun cx => ?_
 show Tr _ _ _ ⟨41,1,[sC 0 (cL 4 x0 Link.row),sI 1 x1],[]⟩ _
 unfold Yz at H
 refine gA 1 3 0 ?_
 refine tS ?_
 refine gA 1 35 0 ?_
 obtain ⟨o6,eo6,Ho6⟩ := bs H
 clear H
 refine Tr.mid (ι := (List Link) × Int) (fun v => ⟨41,1,[sC 0 (cL 4 v.1 Link.row),sI 1 v.2],[]⟩) (fun v => JH n v.1 v.2 = some r) ?_ ?_
 ·refine tB ?_
  refine Tr.loop (ι := Nat × (Int × (List Link) × Int)) (fun v => ⟨41,1,[sI 5 v.2.1,sC 0 (cL 4 v.2.2.1 Link.row),sI 1 v.2.2.2],[]⟩) (fun v => qx n v.1 v.2.1 v.2.2.1 v.2.2.2 = some o6) (fun v => v.1) (n,(0,x0,x1)) eo6 (St.sub_of [5,0,1] [] kr) ?_
  rintro ⟨mo6,y1,y2,y3⟩ H
  have H : qx n mo6 y1 y2 y3 = some o6 := H
  obtain _ | mo6 := mo6
  ·exact nN H
  rw [qx] at H
  refine tS ?_
  refine rA 2 ?_
  refine kO y2 Link.row ?_
  refine uA 1 547 0 ?_
  obtain ⟨h1,H⟩ | ⟨h1,H⟩ := bC H
  ·refine nA h1 ?_
   refine Tr.exit ?_
   refine aJ ?_
   obtain rfl := si H
   have H := Ho6
   dsimp only at H
   exact jA (y2,y3) H [0,1] []
  refine tA h1 ?_
  refine tK ?_
  refine tS ?_
  refine tB ?_
  refine rA 3 ?_
  obtain ⟨v7,ev7,H⟩ := bs H
  refine oA Link.row ev7 ?_
  refine lA 1 ?_
  refine sS (tI 3) false [cI y3] 0 0 (y1.toNat) 4 0 4 Link.row (⟨y3,v7.P,v7.B,v7.Q⟩ : Link) (zI ev7).2 ?_
  refine dA 35 0 ?_
  refine gA 3 35 0 ?_
  refine rA 3 ?_
  obtain ⟨v8,ev8,H⟩ := bs H
  refine oA Link.row ev8 ?_
  refine lA 1 ?_
  refine sS (tI 3) false [cI (IntKind.wrap .i64 (y3 + 1))] 0 0 (y1.toNat) 4 1 4 Link.row (⟨v8.A,(IntKind.wrap .i64 (y3 + 1)),v8.B,v8.Q⟩ : Link) (zI ev8).2 ?_
  refine dA 35 0 ?_
  refine gA 3 35 0 ?_
  refine rA 3 ?_
  obtain ⟨v9,ev9,H⟩ := bs H
  refine oA Link.row ev9 ?_
  refine lA 1 ?_
  refine sS (tI 3) false [cI (IntKind.wrap .i64 ((IntKind.wrap .i64 (y3 + 1)) + 1))] 0 0 (y1.toNat) 4 2 4 Link.row (⟨v9.A,v9.P,(IntKind.wrap .i64 ((IntKind.wrap .i64 (y3 + 1)) + 1)),v9.Q⟩ : Link) (zI ev9).2 ?_
  refine dA 35 0 ?_
  refine gA 3 35 0 ?_
  refine rA 3 ?_
  obtain ⟨v10,ev10,H⟩ := bs H
  refine oA Link.row ev10 ?_
  refine lA 1 ?_
  refine sS (tI 3) false [cI (IntKind.wrap .i64 ((IntKind.wrap .i64 ((IntKind.wrap .i64 (y3 + 1)) + 1)) + 1))] 0 0 (y1.toNat) 4 3 4 Link.row (⟨v10.A,v10.P,v10.B,(IntKind.wrap .i64 ((IntKind.wrap .i64 ((IntKind.wrap .i64 (y3 + 1)) + 1)) + 1))⟩ : Link) (zI ev10).2 ?_
  refine dA 35 0 ?_
  refine eA 3 35 0 ?_
  refine eA 3 35 0 ?_
  exact jB mo6 ((IntKind.wrap .i64 (y1 + 1)),((((y2.set (y1.toNat) (⟨y3,v7.P,v7.B,v7.Q⟩ : Link)).set (y1.toNat) (⟨v8.A,(IntKind.wrap .i64 (y3 + 1)),v8.B,v8.Q⟩ : Link)).set (y1.toNat) (⟨v9.A,v9.P,(IntKind.wrap .i64 ((IntKind.wrap .i64 (y3 + 1)) + 1)),v9.Q⟩ : Link)).set (y1.toNat) (⟨v10.A,v10.P,v10.B,(IntKind.wrap .i64 ((IntKind.wrap .i64 ((IntKind.wrap .i64 (y3 + 1)) + 1)) + 1))⟩ : Link)),(IntKind.wrap .i64 ((IntKind.wrap .i64 ((IntKind.wrap .i64 ((IntKind.wrap .i64 (y3 + 1)) + 1)) + 1)) + 1))) H [5,0,1] []
 rintro ⟨y4,y5⟩ H
 have H : (JH n y4 y5) = some r := H
 unfold JH at H
 refine gA 2 17 0 ?_
 refine te ?_
 obtain rfl := si H
 exact Fin.ofY _ [(false,[cI y5])] [false] _ [[cL 4 y4 Link.row]] _ [] kr rfl rfl rfl kr kr kr kr rfl rfl rfl
def Jx (n : Nat) (y4 : (List Say)) (y5 : Int) : Option (Int × (List Say)) :=
  (some (y5,y4))
def ZB (n : Nat) : Nat → Int → (List Say) → Int → Option (((List Say) × Int) ⊕ (Int × (List Say)))
  | 0,_,_,_ => none
  | mo6 + 1,y1,y2,y3 => (bif (decide (y1 < (y2.length : Int))) then ((idx y2 y1).bind fun v7 => (bif (decide ((3 : Int) ≠ 0)) then ((idx (y2.set (y1.toNat) (⟨y3,v7.Back,v7.V⟩ : Say)) y1).bind fun v9 => ((idx ((y2.set (y1.toNat) (⟨y3,v7.Back,v7.V⟩ : Say)).set (y1.toNat) (⟨v9.Link,((Int.tmod (IntKind.wrap .i64 (y3 + 1)) 3) == 0),v9.V⟩ : Say)) y1).bind fun v10 => ((idx (((y2.set (y1.toNat) (⟨y3,v7.Back,v7.V⟩ : Say)).set (y1.toNat) (⟨v9.Link,((Int.tmod (IntKind.wrap .i64 (y3 + 1)) 3) == 0),v9.V⟩ : Say)).set (y1.toNat) (⟨v10.Link,v10.Back,(⟨(IntKind.wrap .i64 ((IntKind.wrap .i64 (y3 + 1)) + 1)),v10.V.Co,v10.V.Hops,v10.V.Bridge,v10.V.Port⟩ : Vec)⟩ : Say)) y1).bind fun v11 => ((idx ((((y2.set (y1.toNat) (⟨y3,v7.Back,v7.V⟩ : Say)).set (y1.toNat) (⟨v9.Link,((Int.tmod (IntKind.wrap .i64 (y3 + 1)) 3) == 0),v9.V⟩ : Say)).set (y1.toNat) (⟨v10.Link,v10.Back,(⟨(IntKind.wrap .i64 ((IntKind.wrap .i64 (y3 + 1)) + 1)),v10.V.Co,v10.V.Hops,v10.V.Bridge,v10.V.Port⟩ : Vec)⟩ : Say)).set (y1.toNat) (⟨v11.Link,v11.Back,(⟨v11.V.Root,(IntKind.wrap .i64 ((IntKind.wrap .i64 ((IntKind.wrap .i64 (y3 + 1)) + 1)) + 1)),v11.V.Hops,v11.V.Bridge,v11.V.Port⟩ : Vec)⟩ : Say)) y1).bind fun v12 => ((idx (((((y2.set (y1.toNat) (⟨y3,v7.Back,v7.V⟩ : Say)).set (y1.toNat) (⟨v9.Link,((Int.tmod (IntKind.wrap .i64 (y3 + 1)) 3) == 0),v9.V⟩ : Say)).set (y1.toNat) (⟨v10.Link,v10.Back,(⟨(IntKind.wrap .i64 ((IntKind.wrap .i64 (y3 + 1)) + 1)),v10.V.Co,v10.V.Hops,v10.V.Bridge,v10.V.Port⟩ : Vec)⟩ : Say)).set (y1.toNat) (⟨v11.Link,v11.Back,(⟨v11.V.Root,(IntKind.wrap .i64 ((IntKind.wrap .i64 ((IntKind.wrap .i64 (y3 + 1)) + 1)) + 1)),v11.V.Hops,v11.V.Bridge,v11.V.Port⟩ : Vec)⟩ : Say)).set (y1.toNat) (⟨v12.Link,v12.Back,(⟨v12.V.Root,v12.V.Co,(IntKind.wrap .i64 ((IntKind.wrap .i64 ((IntKind.wrap .i64 ((IntKind.wrap .i64 (y3 + 1)) + 1)) + 1)) + 1)),v12.V.Bridge,v12.V.Port⟩ : Vec)⟩ : Say)) y1).bind fun v13 => ((idx ((((((y2.set (y1.toNat) (⟨y3,v7.Back,v7.V⟩ : Say)).set (y1.toNat) (⟨v9.Link,((Int.tmod (IntKind.wrap .i64 (y3 + 1)) 3) == 0),v9.V⟩ : Say)).set (y1.toNat) (⟨v10.Link,v10.Back,(⟨(IntKind.wrap .i64 ((IntKind.wrap .i64 (y3 + 1)) + 1)),v10.V.Co,v10.V.Hops,v10.V.Bridge,v10.V.Port⟩ : Vec)⟩ : Say)).set (y1.toNat) (⟨v11.Link,v11.Back,(⟨v11.V.Root,(IntKind.wrap .i64 ((IntKind.wrap .i64 ((IntKind.wrap .i64 (y3 + 1)) + 1)) + 1)),v11.V.Hops,v11.V.Bridge,v11.V.Port⟩ : Vec)⟩ : Say)).set (y1.toNat) (⟨v12.Link,v12.Back,(⟨v12.V.Root,v12.V.Co,(IntKind.wrap .i64 ((IntKind.wrap .i64 ((IntKind.wrap .i64 ((IntKind.wrap .i64 (y3 + 1)) + 1)) + 1)) + 1)),v12.V.Bridge,v12.V.Port⟩ : Vec)⟩ : Say)).set (y1.toNat) (⟨v13.Link,v13.Back,(⟨v13.V.Root,v13.V.Co,v13.V.Hops,(IntKind.wrap .i64 ((IntKind.wrap .i64 ((IntKind.wrap .i64 ((IntKind.wrap .i64 ((IntKind.wrap .i64 (y3 + 1)) + 1)) + 1)) + 1)) + 1)),v13.V.Port⟩ : Vec)⟩ : Say)) y1).bind fun v14 => (ZB n mo6 (IntKind.wrap .i64 (y1 + 1)) (((((((y2.set (y1.toNat) (⟨y3,v7.Back,v7.V⟩ : Say)).set (y1.toNat) (⟨v9.Link,((Int.tmod (IntKind.wrap .i64 (y3 + 1)) 3) == 0),v9.V⟩ : Say)).set (y1.toNat) (⟨v10.Link,v10.Back,(⟨(IntKind.wrap .i64 ((IntKind.wrap .i64 (y3 + 1)) + 1)),v10.V.Co,v10.V.Hops,v10.V.Bridge,v10.V.Port⟩ : Vec)⟩ : Say)).set (y1.toNat) (⟨v11.Link,v11.Back,(⟨v11.V.Root,(IntKind.wrap .i64 ((IntKind.wrap .i64 ((IntKind.wrap .i64 (y3 + 1)) + 1)) + 1)),v11.V.Hops,v11.V.Bridge,v11.V.Port⟩ : Vec)⟩ : Say)).set (y1.toNat) (⟨v12.Link,v12.Back,(⟨v12.V.Root,v12.V.Co,(IntKind.wrap .i64 ((IntKind.wrap .i64 ((IntKind.wrap .i64 ((IntKind.wrap .i64 (y3 + 1)) + 1)) + 1)) + 1)),v12.V.Bridge,v12.V.Port⟩ : Vec)⟩ : Say)).set (y1.toNat) (⟨v13.Link,v13.Back,(⟨v13.V.Root,v13.V.Co,v13.V.Hops,(IntKind.wrap .i64 ((IntKind.wrap .i64 ((IntKind.wrap .i64 ((IntKind.wrap .i64 ((IntKind.wrap .i64 (y3 + 1)) + 1)) + 1)) + 1)) + 1)),v13.V.Port⟩ : Vec)⟩ : Say)).set (y1.toNat) (⟨v14.Link,v14.Back,(⟨v14.V.Root,v14.V.Co,v14.V.Hops,v14.V.Bridge,(IntKind.wrap .i64 ((IntKind.wrap .i64 ((IntKind.wrap .i64 ((IntKind.wrap .i64 ((IntKind.wrap .i64 ((IntKind.wrap .i64 (y3 + 1)) + 1)) + 1)) + 1)) + 1)) + 1))⟩ : Vec)⟩ : Say)) (IntKind.wrap .i64 ((IntKind.wrap .i64 ((IntKind.wrap .i64 ((IntKind.wrap .i64 ((IntKind.wrap .i64 ((IntKind.wrap .i64 ((IntKind.wrap .i64 (y3 + 1)) + 1)) + 1)) + 1)) + 1)) + 1)) + 1))))))))) else none)) else (some (Sum.inl (y2,y3))))
def Jc (n : Nat) (x0 : (List Say)) (x1 : Int) : Option (Int × (List Say)) :=
  ((ZB n n 0 x0 x1).bind fun o => match o with | .inl (y4,y5) => (Jx n y4 y5) | .inr r => some r)
noncomputable abbrev Jn (k : Nat) := Rg Tryz.f126 k
theorem zJ2 (n : Nat) (x0 : (List Say)) (x1 : Int) (r : Int × (List Say)) (H : Jc n x0 x1 = some r) : zD Tryz.prog 126 [.io false [.sl true 7 (x0.map Say.row)],.val false [.lit (.int .i64 x1)]] [.val false [.lit (.int .i64 r.1)]] [(0,[.sl true 7 (r.2.map Say.row)])] := by
 refine zD.of_body tOk Tryz.func126 rfl (c := (.seq (Jn 0) (.seq (.seq (Jn 1) (.block 0 (.loop (.seq (.seq (Jn 2) (.cond (.tmp 9) .skip (.exit 0))) (.seq (.block 1 (.seq (Jn 4) (.seq (Jn 5) (.seq (Jn 6) (.seq (Jn 7) (.seq (Jn 8) (.seq (Jn 9) (.seq (Jn 10) (.seq (Jn 11) (.seq (Jn 12) (.seq (Jn 13) (.seq (Jn 14) (.seq (Jn 15) (.seq (Jn 16) (Jn 17))))))))))))))) (Jn 3)))))) (.seq (Jn 18) .ret)))) kr (Nat.le_of_ble_eq_true kr) 1 (rs := [.tmp 4]) rfl [0] (by decide) [(false,[.lit (.int .i64 r.1)])] [[.sl true 7 (r.2.map Say.row)]] [] fun cx => ?_
 show Tr _ _ _ ⟨69,1,[sC 0 (cL 7 x0 Say.row),sI 1 x1],[]⟩ _
 unfold Jc at H
 refine gA 1 3 0 ?_
 refine tS ?_
 refine gA 1 35 0 ?_
 obtain ⟨o6,eo6,Ho6⟩ := bs H
 clear H
 refine Tr.mid (ι := (List Say) × Int) (fun v => ⟨69,1,[sC 0 (cL 7 v.1 Say.row),sI 1 v.2],[]⟩) (fun v => Jx n v.1 v.2 = some r) ?_ ?_
 ·refine tB ?_
  refine Tr.loop (ι := Nat × (Int × (List Say) × Int)) (fun v => ⟨69,1,[sI 5 v.2.1,sC 0 (cL 7 v.2.2.1 Say.row),sI 1 v.2.2.2],[]⟩) (fun v => ZB n v.1 v.2.1 v.2.2.1 v.2.2.2 = some o6) (fun v => v.1) (n,(0,x0,x1)) eo6 (St.sub_of [5,0,1] [] kr) ?_
  rintro ⟨mo6,y1,y2,y3⟩ H
  have H : ZB n mo6 y1 y2 y3 = some o6 := H
  obtain _ | mo6 := mo6
  ·exact nN H
  rw [ZB] at H
  refine tS ?_
  refine rA 2 ?_
  refine kO y2 Say.row ?_
  refine uA 1 547 0 ?_
  obtain ⟨h1,H⟩ | ⟨h1,H⟩ := bC H
  ·refine nA h1 ?_
   refine Tr.exit ?_
   refine aJ ?_
   obtain rfl := si H
   have H := Ho6
   dsimp only at H
   exact jA (y2,y3) H [0,1] []
  refine tA h1 ?_
  refine tK ?_
  refine tS ?_
  refine tB ?_
  refine rA 3 ?_
  obtain ⟨v7,ev7,H⟩ := bs H
  refine oA Say.row ev7 ?_
  refine lA 1 ?_
  refine sS (tI 3) false [cI y3] 0 0 (y1.toNat) 7 0 7 Say.row (⟨y3,v7.Back,v7.V⟩ : Say) (zI ev7).2 ?_
  refine dA 35 0 ?_
  refine gA 3 35 0 ?_
  refine rA 3 ?_
  obtain ⟨hg8,H⟩ := gs H
  refine LAt.binC tOk (op := .rem) (t := 3) (ty := 3) (ty' := 3) (x := (.tmp 21)) (y := (.const (.int .i64 3))) (d := 22) (g := none) (.int .i64 (IntKind.wrap .i64 (y3 + 1))) (.int .i64 3) (.int .i64 (Int.tmod (IntKind.wrap .i64 (y3 + 1)) 3)) _ kr kr kr kr kr (φ := (IntKind.i64 = IntKind.i64 ∧ (3 : Int) ≠ 0)) kr (⟨rfl,of_decide_eq_true hg8⟩) rfl ?_
  refine lA 1 ?_
  obtain ⟨v9,ev9,H⟩ := bs H
  refine oA Say.row ev9 ?_
  refine lA 1 ?_
  refine sS (tI 4) false [cB ((Int.tmod (IntKind.wrap .i64 (y3 + 1)) 3) == 0)] 0 0 (y1.toNat) 7 1 7 Say.row (⟨v9.Link,((Int.tmod (IntKind.wrap .i64 (y3 + 1)) 3) == 0),v9.V⟩ : Say) (zI ev9).2 ?_
  refine dA 35 0 ?_
  refine gA 3 35 0 ?_
  refine rA 3 ?_
  obtain ⟨v10,ev10,H⟩ := bs H
  refine oA Say.row ev10 ?_
  refine lA 2 ?_
  refine sS (tI 3) false [cI (IntKind.wrap .i64 ((IntKind.wrap .i64 (y3 + 1)) + 1))] 0 0 (y1.toNat) 7 2 7 Say.row (⟨v10.Link,v10.Back,(⟨(IntKind.wrap .i64 ((IntKind.wrap .i64 (y3 + 1)) + 1)),v10.V.Co,v10.V.Hops,v10.V.Bridge,v10.V.Port⟩ : Vec)⟩ : Say) (zI ev10).2 ?_
  refine dA 35 0 ?_
  refine gA 3 35 0 ?_
  refine rA 3 ?_
  obtain ⟨v11,ev11,H⟩ := bs H
  refine oA Say.row ev11 ?_
  refine lA 2 ?_
  refine sS (tI 3) false [cI (IntKind.wrap .i64 ((IntKind.wrap .i64 ((IntKind.wrap .i64 (y3 + 1)) + 1)) + 1))] 0 0 (y1.toNat) 7 3 7 Say.row (⟨v11.Link,v11.Back,(⟨v11.V.Root,(IntKind.wrap .i64 ((IntKind.wrap .i64 ((IntKind.wrap .i64 (y3 + 1)) + 1)) + 1)),v11.V.Hops,v11.V.Bridge,v11.V.Port⟩ : Vec)⟩ : Say) (zI ev11).2 ?_
  refine dA 35 0 ?_
  refine gA 3 35 0 ?_
  refine rA 3 ?_
  obtain ⟨v12,ev12,H⟩ := bs H
  refine oA Say.row ev12 ?_
  refine lA 2 ?_
  refine sS (tI 3) false [cI (IntKind.wrap .i64 ((IntKind.wrap .i64 ((IntKind.wrap .i64 ((IntKind.wrap .i64 (y3 + 1)) + 1)) + 1)) + 1))] 0 0 (y1.toNat) 7 4 7 Say.row (⟨v12.Link,v12.Back,(⟨v12.V.Root,v12.V.Co,(IntKind.wrap .i64 ((IntKind.wrap .i64 ((IntKind.wrap .i64 ((IntKind.wrap .i64 (y3 + 1)) + 1)) + 1)) + 1)),v12.V.Bridge,v12.V.Port⟩ : Vec)⟩ : Say) (zI ev12).2 ?_
  refine dA 35 0 ?_
  refine gA 3 35 0 ?_
  refine rA 3 ?_
  obtain ⟨v13,ev13,H⟩ := bs H
  refine oA Say.row ev13 ?_
  refine lA 2 ?_
  refine sS (tI 3) false [cI (IntKind.wrap .i64 ((IntKind.wrap .i64 ((IntKind.wrap .i64 ((IntKind.wrap .i64 ((IntKind.wrap .i64 (y3 + 1)) + 1)) + 1)) + 1)) + 1))] 0 0 (y1.toNat) 7 5 7 Say.row (⟨v13.Link,v13.Back,(⟨v13.V.Root,v13.V.Co,v13.V.Hops,(IntKind.wrap .i64 ((IntKind.wrap .i64 ((IntKind.wrap .i64 ((IntKind.wrap .i64 ((IntKind.wrap .i64 (y3 + 1)) + 1)) + 1)) + 1)) + 1)),v13.V.Port⟩ : Vec)⟩ : Say) (zI ev13).2 ?_
  refine dA 35 0 ?_
  refine gA 3 35 0 ?_
  refine rA 3 ?_
  obtain ⟨v14,ev14,H⟩ := bs H
  refine oA Say.row ev14 ?_
  refine lA 2 ?_
  refine sS (tI 3) false [cI (IntKind.wrap .i64 ((IntKind.wrap .i64 ((IntKind.wrap .i64 ((IntKind.wrap .i64 ((IntKind.wrap .i64 ((IntKind.wrap .i64 (y3 + 1)) + 1)) + 1)) + 1)) + 1)) + 1))] 0 0 (y1.toNat) 7 6 7 Say.row (⟨v14.Link,v14.Back,(⟨v14.V.Root,v14.V.Co,v14.V.Hops,v14.V.Bridge,(IntKind.wrap .i64 ((IntKind.wrap .i64 ((IntKind.wrap .i64 ((IntKind.wrap .i64 ((IntKind.wrap .i64 ((IntKind.wrap .i64 (y3 + 1)) + 1)) + 1)) + 1)) + 1)) + 1))⟩ : Vec)⟩ : Say) (zI ev14).2 ?_
  refine dA 35 0 ?_
  refine eA 3 35 0 ?_
  refine eA 3 35 0 ?_
  exact jB mo6 ((IntKind.wrap .i64 (y1 + 1)),(((((((y2.set (y1.toNat) (⟨y3,v7.Back,v7.V⟩ : Say)).set (y1.toNat) (⟨v9.Link,((Int.tmod (IntKind.wrap .i64 (y3 + 1)) 3) == 0),v9.V⟩ : Say)).set (y1.toNat) (⟨v10.Link,v10.Back,(⟨(IntKind.wrap .i64 ((IntKind.wrap .i64 (y3 + 1)) + 1)),v10.V.Co,v10.V.Hops,v10.V.Bridge,v10.V.Port⟩ : Vec)⟩ : Say)).set (y1.toNat) (⟨v11.Link,v11.Back,(⟨v11.V.Root,(IntKind.wrap .i64 ((IntKind.wrap .i64 ((IntKind.wrap .i64 (y3 + 1)) + 1)) + 1)),v11.V.Hops,v11.V.Bridge,v11.V.Port⟩ : Vec)⟩ : Say)).set (y1.toNat) (⟨v12.Link,v12.Back,(⟨v12.V.Root,v12.V.Co,(IntKind.wrap .i64 ((IntKind.wrap .i64 ((IntKind.wrap .i64 ((IntKind.wrap .i64 (y3 + 1)) + 1)) + 1)) + 1)),v12.V.Bridge,v12.V.Port⟩ : Vec)⟩ : Say)).set (y1.toNat) (⟨v13.Link,v13.Back,(⟨v13.V.Root,v13.V.Co,v13.V.Hops,(IntKind.wrap .i64 ((IntKind.wrap .i64 ((IntKind.wrap .i64 ((IntKind.wrap .i64 ((IntKind.wrap .i64 (y3 + 1)) + 1)) + 1)) + 1)) + 1)),v13.V.Port⟩ : Vec)⟩ : Say)).set (y1.toNat) (⟨v14.Link,v14.Back,(⟨v14.V.Root,v14.V.Co,v14.V.Hops,v14.V.Bridge,(IntKind.wrap .i64 ((IntKind.wrap .i64 ((IntKind.wrap .i64 ((IntKind.wrap .i64 ((IntKind.wrap .i64 ((IntKind.wrap .i64 (y3 + 1)) + 1)) + 1)) + 1)) + 1)) + 1))⟩ : Vec)⟩ : Say)),(IntKind.wrap .i64 ((IntKind.wrap .i64 ((IntKind.wrap .i64 ((IntKind.wrap .i64 ((IntKind.wrap .i64 ((IntKind.wrap .i64 ((IntKind.wrap .i64 (y3 + 1)) + 1)) + 1)) + 1)) + 1)) + 1)) + 1))) H [5,0,1] []
 rintro ⟨y4,y5⟩ H
 have H : (Jx n y4 y5) = some r := H
 unfold Jx at H
 refine gA 2 17 0 ?_
 refine te ?_
 obtain rfl := si H
 exact Fin.ofY _ [(false,[cI y5])] [false] _ [[cL 7 y4 Say.row]] _ [] kr rfl rfl rfl kr kr kr kr rfl rfl rfl
def Yg (n : Nat) (x0 : Net) (x1 : Int) : Option (Int × Net) :=
  ((Qz n x0.Bs x1).bind fun r1 => ((Yz n x0.Ls r1.1).bind fun r2 => ((Jc n x0.Said r2.1).bind fun r3 => (some (r3.1,(⟨r1.2,r2.2,r3.2⟩ : Net))))))
noncomputable abbrev G29 (k : Nat) := Rg Tryz.f29 k
theorem zF4 (n : Nat) (x0 : Net) (x1 : Int) (r : Int × Net) (H : Yg n x0 x1 = some r) : zD Tryz.prog 29 [.io true (Net.row x0),.val false [.lit (.int .i64 x1)]] [.val false [.lit (.int .i64 r.1)]] [(0,(Net.row r.2))] := by
 refine zD.of_body tOk Tryz.func29 rfl (c := (.seq (G29 0) (.seq (G29 1) (.seq (G29 2) (.seq (G29 3) (.seq (G29 4) .ret)))))) kr (Nat.le_of_ble_eq_true kr) 1 (rs := [.tmp 4]) rfl [0] (by decide) [(false,[.lit (.int .i64 r.1)])] [(Net.row r.2)] [] fun cx => ?_
 show Tr _ _ _ ⟨18,1,[sV 0 (Net.row x0),sI 1 x1],[]⟩ _
 unfold Yg at H
 refine tR ?_
 refine LAt.boxK (T := lk tab) (t := 67) (ty := 0) (x := 0) (d := 2) (g := none) true (Net.row x0) kr kr kr kr kr kr ?_
 refine uA 1 7 4 ?_
 refine rA 3 ?_
 obtain ⟨r1,er1,H⟩ := bs H
 refine LAt.callL tOk [.lend,.rd] (f := 124) (av := #[.tmp 6,.tmp 7]) (ats := #[63,3]) (d := (some 8)) (ty := 3) (g := none) kr kr kr [] (zHV n x0.Bs x1 r1 er1) kr (.inl rfl) ?_
 refine uA 1 7 4 ?_
 refine rA 3 ?_
 obtain ⟨r2,er2,H⟩ := bs H
 refine LAt.callL tOk [.lend,.rd] (f := 125) (av := #[.tmp 10,.tmp 11]) (ats := #[64,3]) (d := (some 12)) (ty := 3) (g := none) kr kr kr [] (zI3 n x0.Ls r1.1 r2 er2) kr (.inl rfl) ?_
 refine uA 1 7 4 ?_
 refine rA 3 ?_
 obtain ⟨r3,er3,H⟩ := bs H
 refine LAt.callL tOk [.lend,.rd] (f := 126) (av := #[.tmp 14,.tmp 15]) (ats := #[65,3]) (d := (some 16)) (ty := 3) (g := none) kr kr kr [] (zJ2 n x0.Said r2.1 r3 er3) kr (.inl rfl) ?_
 refine uA 1 3 4 ?_
 refine gA 2 17 4 ?_
 refine te ?_
 obtain rfl := si H
 exact Fin.ofY _ [(false,[cI r3.1])] [true] _ [[cL 11 r1.2 zA.row,cL 4 r2.2 Link.row,cL 7 r3.2 Say.row]] _ [] kr rfl rfl rfl kr kr kr kr rfl rfl rfl
end Go.Proofs.YtcegokjpmppdbaaGreat.Tw
