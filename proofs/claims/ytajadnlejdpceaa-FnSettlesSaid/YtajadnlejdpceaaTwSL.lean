import Derived.Test.YtajadnlejdpceaaProg
import Derived.Test.YtajadnlejdpceaaTlRule
import Derived.Test.YtajadnlejdpceaaTlU12
import Derived.Test.YtajadnlejdpceaaTwSL1
import Derived.WalkKit
set_option linter.unusedVariables false
set_option linter.unusedSimpArgs false
set_option maxRecDepth 100000
set_option maxHeartbeats 1000000
namespace Go.Proofs.Ytajadnlejdpceaa.Tw
open Go Go.TL Go.Proofs
def Jz (n : Nat) : Option (Bool) :=
  (some true)
def qJ (n : Nat) : Nat → Net → Int → Option ((Unit) ⊕ (Bool))
  | 0,_,_ => none
  | mo2 + 1,x0,y1 => (bif (decide (y1 < (x0.Ls.length : Int))) then ((idx x0.Ls y1).bind fun v3 => ((ZG n x0 v3.A v3.P).bind fun r4 => ((ZG n x0 v3.B v3.Q).bind fun r5 => (bif (decide (y1 ≥ 9)) then (some (Sum.inr false)) else (bif (!r4.2) then (some (Sum.inr false)) else (bif (!r5.2) then (some (Sum.inr false)) else (bif (v3.A == v3.B) then (some (Sum.inr false)) else (bif (!(r4.1.Up == r5.1.Up)) then (some (Sum.inr false)) else (bif (decide ((0 : Int) ≤ 0) && (decide ((0 : Int) ≤ y1) && decide ((y1 : Int) ≤ (x0.Ls.length : Int)))) then ((Je n ((x0.Ls.drop ((0 : Int)).toNat).take (((y1 : Int)).toNat - ((0 : Int)).toNat)) v3.A v3.P).bind fun r7 => (bif r7 then (some (Sum.inr false)) else (bif (decide ((0 : Int) ≤ 0) && (decide ((0 : Int) ≤ y1) && decide ((y1 : Int) ≤ (x0.Ls.length : Int)))) then ((Je n ((x0.Ls.drop ((0 : Int)).toNat).take (((y1 : Int)).toNat - ((0 : Int)).toNat)) v3.B v3.Q).bind fun r9 => (bif r9 then (some (Sum.inr false)) else (qJ n mo2 x0 (IntKind.wrap .i64 (y1 + 1))))) else none))) else none))))))))) else (some (Sum.inl ())))
def YL (n : Nat) (x0 : Net) : Option (Bool) :=
  ((qJ n n x0 0).bind fun o => match o with | .inl _ => (Jz n) | .inr r => some r)
def zMu : Tab := ⟨20,[0,1,0,6,0,16,0,64,168,256,512,1536,512,6656,512,16896,512,66048,172544,262656],[0,1,0,6,0,16,0,64,168,256,512,1536,512,6656,512,16896,512,66048,172544,262656],[0,1,0,7,0,16,0,64,255,511,1023,2047,1023,8191,1023,17407,1023,66559,262143,524287]⟩
theorem Yb : zk (rg Try.f129 8) zMu = true := kr
theorem zJE (n : Nat) (x0 : Net) (r : Bool) (H : YL n x0 = some r) : zI Try.prog 129 [.val true (CV.frzRow (Net.row x0))] [.val false [.lit (.bool r)]] [] := by
 refine cW Try.func129 (fun g d => sl [g 0,sl [g 1] (.block 0 (.loop (sl [g 2,cn 13 .skip (.exit 0),.block 1 (sl [g 3,g 4,g 5,sl [g 6] (cn 58 (sl [g 7] .ret) .skip),d 8] (cn 78 (sl [g 9] .ret) .skip))] (g 10)))),g 11] .ret) [.tmp 2] fun cx => ?_
 unfold YL at H
 refine gA 2 2 2 ?_
 refine tS ?_
 refine rA 2 ?_
 refine kF x0.Ls Link.row ?_
 refine uA 1 7170 2 ?_
 obtain ⟨o2,eo2,Ho2⟩ := bs H
 clear H
 refine Tr.mid (ι := Unit) (fun v => ⟨80,0,[],[]⟩) (fun v => Jz n = some r) ?_ ?_
 ·refine tB ?_
  refine Tr.loop (ι := Nat × (Int)) (fun v => ⟨80,0,[sI 12 v.2,sI 11 (x0.Ls.length : Int),sC 10 (cF 4 x0.Ls Link.row),sA 1 1 3 0],[(1,(CV.frzRow (Net.row x0)))]⟩) (fun v => qJ n v.1 x0 v.2 = some o2) (fun v => v.1) (n,0) eo2 (St.sub_of [12,11,10,1] [1] kr) ?_
  rintro ⟨mo2,y1⟩ H
  have H : qJ n mo2 x0 y1 = some o2 := H
  obtain _ | mo2 := mo2
  ·exact nN H
  rw [qJ] at H
  refine gA 1 15362 2 ?_
  refine tS ?_
  obtain ⟨h1,H⟩ | ⟨h1,H⟩ := bC H
  ·refine nA h1 ?_
   refine Tr.exit ?_
   refine aJ ?_
   obtain rfl := si H
   have H := Ho2
   dsimp only at H
   exact jA () H [] []
  refine tA h1 ?_
  refine tK ?_
  refine tS ?_
  refine tB ?_
  refine rA 1 ?_
  obtain ⟨v3,ev3,H⟩ := bs H
  refine iA Link.row ev3 ?_
  refine uA 4 7194 18 ?_
  refine rA 5 ?_
  obtain ⟨r4,er4,H⟩ := bs H
  refine vA [.rd,.rd,.rd] (Y7 n x0 v3.A v3.P r4 er4) ?_
  refine LAt.movT tOk (ty := 178) (t := 23) (d := 17) (g := none) [(true,(Pt.row r4.1)),(false,[cB r4.2])] _ kr (.inl rfl) kr kr kr kr rfl ?_
  refine uA 5 7290 50 ?_
  refine rA 5 ?_
  obtain ⟨r5,er5,H⟩ := bs H
  refine vA [.rd,.rd,.rd] (Y7 n x0 v3.B v3.Q r5 er5) ?_
  refine LAt.movT tOk (ty := 178) (t := 32) (d := 26) (g := none) [(true,(Pt.row r5.1)),(false,[cB r5.2])] _ kr (.inl rfl) kr kr kr kr rfl ?_
  refine uA 5 7674 178 ?_
  refine tS ?_
  refine rA 3 ?_
  refine sL 137438961146 178 ⟨80,0,[sB 37 (decide (y1 ≥ 9)),sB 8 r5.2,sA 7 7 8 0,sB 6 r4.2,sA 5 5 8 0,sI 3 y1,sA 4 4 4 0,sI 12 y1,sI 11 (x0.Ls.length : Int),sC 10 (cF 4 x0.Ls Link.row),sA 1 1 3 0],[(7,(Pt.row r5.1)),(5,(Pt.row r4.1)),(4,(Link.row v3)),(1,(CV.frzRow (Net.row x0)))]⟩ ?_
  cases h2 : (decide (y1 ≥ 9))
  ·have H := zG h2 H
   refine lA 4 ?_
   refine sL 2199023263162 178 ⟨80,0,[sB 41 (!r4.2),sB 8 r5.2,sA 7 7 8 0,sA 5 5 8 0,sI 3 y1,sA 4 4 4 0,sI 12 y1,sI 11 (x0.Ls.length : Int),sC 10 (cF 4 x0.Ls Link.row),sA 1 1 3 0],[(7,(Pt.row r5.1)),(5,(Pt.row r4.1)),(4,(Link.row v3)),(1,(CV.frzRow (Net.row x0)))]⟩ ?_
   cases h3 : (!r4.2)
   ·have H := zG h3 H
    refine lA 4 ?_
    refine sL 35184372096186 178 ⟨80,0,[sB 45 (!r5.2),sA 7 7 8 0,sA 5 5 8 0,sI 3 y1,sA 4 4 4 0,sI 12 y1,sI 11 (x0.Ls.length : Int),sC 10 (cF 4 x0.Ls Link.row),sA 1 1 3 0],[(7,(Pt.row r5.1)),(5,(Pt.row r4.1)),(4,(Link.row v3)),(1,(CV.frzRow (Net.row x0)))]⟩ ?_
    cases h4 : (!r5.2)
    ·have H := zG h4 H
     refine lA 7 ?_
     refine sL 4503599627377850 178 ⟨80,0,[sB 52 (v3.A == v3.B),sA 7 7 8 0,sA 5 5 8 0,sI 3 y1,sA 4 4 4 0,sI 12 y1,sI 11 (x0.Ls.length : Int),sC 10 (cF 4 x0.Ls Link.row),sA 1 1 3 0],[(7,(Pt.row r5.1)),(5,(Pt.row r4.1)),(4,(Link.row v3)),(1,(CV.frzRow (Net.row x0)))]⟩ ?_
     cases h5 : (v3.A == v3.B)
     ·have H := zG h5 H
      refine uA 6 0x400000000001c1a 18 ?_
      obtain ⟨h6,H⟩ | ⟨h6,H⟩ := bC H
      ·refine nA h6 ?_
       refine tK ?_
       obtain ⟨hg6,H⟩ := gs H
       obtain ⟨r7,er7,H⟩ := bs H
       refine sT ⟨80,0,[sB 58 (!(r4.1.Up == r5.1.Up)),sI 3 y1,sA 4 4 4 0,sI 12 y1,sI 11 (x0.Ls.length : Int),sC 10 (cF 4 x0.Ls Link.row),sA 1 1 3 0],[(4,(Link.row v3)),(1,(CV.frzRow (Net.row x0)))]⟩ ?_
       cases h7 : r7
       ·have H := zG h7 H
        obtain ⟨hg8,H⟩ := gs H
        obtain ⟨r9,er9,H⟩ := bs H
        refine Tr.draws mixed 20 kr ⟨80,0,[sB 78 r9,sI 12 y1,sI 11 (x0.Ls.length : Int),sC 10 (cF 4 x0.Ls Link.row),sA 1 1 3 0],[(1,(CV.frzRow (Net.row x0)))]⟩ (fun cx => ?_) ?_
        ·refine mA Yb [(0,[]),(1,[3,8,13,18]),(2,[]),(4,[]),(5,[8,13,18]),(6,[]),(7,[8,13,18])] 13 [⟨[8,13,18],3,65,66⟩,⟨[8,13,18],3,63,64⟩,⟨[3,8,13,18],73,59,60⟩] fun cx => ?_
         refine mC Yb 3 ?_
         refine LAt.cutG tOk (t := 73) (ty := 73) (e := 119) (x := (.tmp 60)) (lo := none) (hi := (some (.tmp 61))) (d := 62) (g := none) (tI 119) Link.row x0.Ls ⟨(.box 1),[(0,0)],1,false,4,(CV.frzEs (x0.Ls.map Link.row))⟩ 0 y1 kr kr kr kr kr kr rfl kr rfl kr kr hg6 ?_
         refine fA ?_
         refine mC Yb 8 ?_
         refine vA [.rd,.rd,.rd] (zDl n ((x0.Ls.drop ((0 : Int)).toNat).take (((y1 : Int)).toNat - ((0 : Int)).toNat)) v3.A v3.P r7 er7) ?_
         refine fA ?_
         refine mA Yb [(9,[])] 10 [⟨[8,13,18],3,65,66⟩,⟨[8,13,18],3,63,64⟩,⟨[3,8,13,18],73,59,60⟩] fun cx => ?_
         refine sA_ 0x179800000000001c1a 18 ⟨80,0,[sB 68 r7,sI 66 v3.P,sA 65 4 4 1,sI 64 v3.A,sA 63 4 4 0,sR 60 1 3 1 1 false,sA 59 1 3 1,sI 3 y1,sA 4 4 4 0,sI 12 y1,sI 11 (x0.Ls.length : Int),sC 10 (cF 4 x0.Ls Link.row),sA 1 1 3 0],[(4,(Link.row v3)),(1,(CV.frzRow (Net.row x0)))]⟩ ?_
         rw [h7]
         refine mA Yb [(10,[]),(11,[13,18]),(12,[]),(14,[]),(15,[18]),(16,[]),(17,[18])] 3 [⟨[18],3,75,76⟩,⟨[18],3,73,74⟩,⟨[13,18],73,69,70⟩,⟨[8,13,18],3,65,66⟩,⟨[8,13,18],3,63,64⟩,⟨[3,8,13,18],73,59,60⟩] fun cx => ?_
         refine mC Yb 13 ?_
         refine LAt.cutG tOk (t := 73) (ty := 73) (e := 119) (x := (.tmp 70)) (lo := none) (hi := (some (.tmp 71))) (d := 72) (g := (some (9,false))) (tI 119) Link.row x0.Ls ⟨(.box 1),[(0,0)],1,false,4,(CV.frzEs (x0.Ls.map Link.row))⟩ 0 y1 kr kr kr kr kr kr rfl kr rfl kr kr hg8 ?_
         refine fA ?_
         refine mC Yb 18 ?_
         refine vA [.rd,.rd,.rd] (zDl n ((x0.Ls.drop ((0 : Int)).toNat).take (((y1 : Int)).toNat - ((0 : Int)).toNat)) v3.B v3.Q r9 er9) ?_
         refine fA ?_
         refine mA Yb [(19,[])] 0 [⟨[18],3,75,76⟩,⟨[18],3,73,74⟩,⟨[13,18],73,69,70⟩,⟨[8,13,18],3,65,66⟩,⟨[8,13,18],3,63,64⟩,⟨[3,8,13,18],73,59,60⟩] fun cx => ?_
         exact mE Yb [78,12,11,10,1] [1]
        cases h8 : r9
        ·have H := zG h8 H
         refine nB_ ?_
         refine tK ?_
         refine eA 2 7170 2 ?_
         exact jB mo2 (IntKind.wrap .i64 (y1 + 1)) H [12,11,10,1] [1]
        have H := zH h8 H
        refine tB_ ?_
        refine gA 1 4 0 ?_
        refine te ?_
        obtain rfl := si H
        have H := Ho2
        dsimp only at H
        exact fF H
       have H := zH h7 H
       refine Tr.draws mixed 20 kr ⟨80,0,[sB 78 true,sI 12 y1,sI 11 (x0.Ls.length : Int),sC 10 (cF 4 x0.Ls Link.row),sA 1 1 3 0],[(1,(CV.frzRow (Net.row x0)))]⟩ (fun cx => ?_) ?_
       ·refine mA Yb [(0,[]),(1,[3,8]),(2,[]),(4,[]),(5,[8]),(6,[]),(7,[8])] 13 [⟨[8],3,65,66⟩,⟨[8],3,63,64⟩,⟨[3,8],73,59,60⟩] fun cx => ?_
        refine mC Yb 3 ?_
        refine LAt.cutG tOk (t := 73) (ty := 73) (e := 119) (x := (.tmp 60)) (lo := none) (hi := (some (.tmp 61))) (d := 62) (g := none) (tI 119) Link.row x0.Ls ⟨(.box 1),[(0,0)],1,false,4,(CV.frzEs (x0.Ls.map Link.row))⟩ 0 y1 kr kr kr kr kr kr rfl kr rfl kr kr hg6 ?_
        refine fA ?_
        refine mC Yb 8 ?_
        refine vA [.rd,.rd,.rd] (zDl n ((x0.Ls.drop ((0 : Int)).toNat).take (((y1 : Int)).toNat - ((0 : Int)).toNat)) v3.A v3.P r7 er7) ?_
        refine fA ?_
        refine mA Yb [(9,[])] 10 [⟨[8],3,65,66⟩,⟨[8],3,63,64⟩,⟨[3,8],73,59,60⟩] fun cx => ?_
        refine sA_ 0x179800000000001c1a 18 ⟨80,0,[sB 68 r7,sI 66 v3.P,sA 65 4 4 1,sI 64 v3.A,sA 63 4 4 0,sR 60 1 3 1 1 false,sA 59 1 3 1,sI 3 y1,sA 4 4 4 0,sI 12 y1,sI 11 (x0.Ls.length : Int),sC 10 (cF 4 x0.Ls Link.row),sA 1 1 3 0],[(4,(Link.row v3)),(1,(CV.frzRow (Net.row x0)))]⟩ ?_
        rw [h7]
        refine mA Yb [(10,[]),(11,[]),(12,[]),(13,[]),(14,[]),(15,[]),(16,[]),(17,[]),(18,[]),(19,[])] 0 [⟨[8],3,65,66⟩,⟨[8],3,63,64⟩,⟨[3,8],73,59,60⟩] fun cx => ?_
        exact mE Yb [78,12,11,10,1] [1]
       refine tB_ ?_
       refine gA 1 4 0 ?_
       refine te ?_
       obtain rfl := si H
       have H := Ho2
       dsimp only at H
       exact fF H
      refine tA h6 ?_
      refine gA 1 4 0 ?_
      refine te ?_
      obtain rfl := si H
      have H := Ho2
      dsimp only at H
      exact fF H
     have H := zH h5 H
     refine uA 6 0x400000000001c1a 18 ?_
     refine tB_ ?_
     refine gA 1 4 0 ?_
     refine te ?_
     obtain rfl := si H
     have H := Ho2
     dsimp only at H
     exact fF H
    have H := zH h4 H
    refine uA 13 0x400000000001c1a 18 ?_
    refine tB_ ?_
    refine gA 1 4 0 ?_
    refine te ?_
    obtain rfl := si H
    have H := Ho2
    dsimp only at H
    exact fF H
   have H := zH h3 H
   refine uA 17 0x400000000001c1a 18 ?_
   refine tB_ ?_
   refine gA 1 4 0 ?_
   refine te ?_
   obtain rfl := si H
   have H := Ho2
   dsimp only at H
   exact fF H
  have H := zH h2 H
  refine uA 21 0x400000000001c1a 18 ?_
  refine tB_ ?_
  refine gA 1 4 0 ?_
  refine te ?_
  obtain rfl := si H
  have H := Ho2
  dsimp only at H
  exact fF H
 rintro _ H
 have H : (Jz n) = some r := H
 unfold Jz at H
 refine gA 1 4 0 ?_
 exact te (fT H)
def Yr (n : Nat) (x0 : Net) : Option (Bool) :=
  ((YL n x0).bind fun r4 => (some r4))
def qS (n : Nat) : Nat → Net → Int → Option ((Unit) ⊕ (Bool))
  | 0,_,_ => none
  | mo5 + 1,x0,y3 => (bif (decide (y3 < (x0.Said.length : Int))) then ((idx x0.Said y3).bind fun v6 => ((qO n v6.Link 0 (IntKind.wrap .i64 ((x0.Ls.length : Int) - 1))).bind fun r7 => (bif (!r7) then (some (Sum.inr false)) else ((YU n v6.V).bind fun r8 => (bif (!r8) then (some (Sum.inr false)) else (qS n mo5 x0 (IntKind.wrap .i64 (y3 + 1)))))))) else (some (Sum.inl ())))
def Qt (n : Nat) (x0 : Net) : Option (Bool) :=
  ((qS n n x0 0).bind fun o => match o with | .inl _ => (Yr n x0) | .inr r => some r)
def Jl (n : Nat) (k : (Int → Option ((Unit) ⊕ (Bool)))) (y2 : Int) (y16 : Int) : Option ((Unit) ⊕ (Bool)) :=
  (k (IntKind.wrap .i64 (y2 + 1)))
def ZQ (n : Nat) : Nat → zA → Net → Int → Int → Option ((Int) ⊕ (Bool))
  | 0,_,_,_,_ => none
  | mo17 + 1,v10,x0,y2,y15 => (bif (decide (y15 < (v10.Ps.length : Int))) then ((idx v10.Ps y15).bind fun v18 => (bif v18.Has then ((Je n x0.Ls y2 y15).bind fun r19 => (bif (!r19) then (some (Sum.inr false)) else (ZQ n mo17 v10 x0 y2 (IntKind.wrap .i64 (y15 + 1))))) else (ZQ n mo17 v10 x0 y2 (IntKind.wrap .i64 (y15 + 1))))) else (some (Sum.inl y15)))
def Jk (n : Nat) (k : (Int → Option ((Unit) ⊕ (Bool)))) (v10 : zA) (x0 : Net) (y2 : Int) (y14 : Int) : Option ((Unit) ⊕ (Bool)) :=
  ((ZQ n n v10 x0 y2 0).bind fun o => match o with | .inl y16 => (Jl n k y2 y16) | .inr r => some (Sum.inr r))
def Zo (n : Nat) : Nat → zA → Net → Int → Int → Option ((Int) ⊕ (Bool))
  | 0,_,_,_,_ => none
  | mo20 + 1,v10,x0,y2,y13 => (bif (decide (y13 < (((x0.Bs.drop ((0 : Int)).toNat).take (((y2 : Int)).toNat - ((0 : Int)).toNat)).length : Int))) then ((idx ((x0.Bs.drop ((0 : Int)).toNat).take (((y2 : Int)).toNat - ((0 : Int)).toNat)) y13).bind fun v21 => (bif (v21.Id == v10.Id) then (some (Sum.inr false)) else (Zo n mo20 v10 x0 y2 (IntKind.wrap .i64 (y13 + 1))))) else (some (Sum.inl y13)))
def zz (n : Nat) : Nat → Net → Int → Option ((Unit) ⊕ (Bool))
  | 0,_,_ => none
  | mo9 + 1,x0,y2 => (bif (decide (y2 < (x0.Bs.length : Int))) then ((idx x0.Bs y2).bind fun v10 => ((Qd n v10).bind fun r11 => (bif (!r11) then (some (Sum.inr false)) else (bif (decide ((0 : Int) ≤ 0) && (decide ((0 : Int) ≤ y2) && decide ((y2 : Int) ≤ (x0.Bs.length : Int)))) then ((Zo n n v10 x0 y2 0).bind fun o => match o with | .inl y14 => (Jk n (fun v => zz n mo9 x0 v) v10 x0 y2 y14) | .inr r => some (Sum.inr r)) else none)))) else (some (Sum.inl ())))
def QF (n : Nat) (x0 : Net) : Option (Bool) :=
  ((qO n (x0.Bs.length : Int) 1 6).bind fun r1 => (bif (!r1) then (some false) else (bif (decide ((x0.Said.length : Int) > 40)) then (some false) else ((zz n n x0 0).bind fun o => match o with | .inl _ => (Qt n x0) | .inr r => some r))))
theorem zKg (n : Nat) (x0 : Net) (r : Bool) (H : QF n x0 = some r) : zI Try.prog 76 [.val true (CV.frzRow (Net.row x0))] [.val false [.lit (.bool r)]] [] := by
 refine cW Try.func76 (fun g d => sl [g 0,sl [g 1] (cn 21 (sl [g 2] .ret) .skip),sl [g 3] (.block 0 (.loop (sl [g 4,cn 26 .skip (.exit 0),.block 1 (sl [g 5,sl [g 6] (cn 32 (sl [g 7] .ret) .skip),sl [g 8] (.block 2 (.loop (sl [g 9,cn 39 .skip (.exit 2),.block 3 (sl [g 10,g 11] (cn 46 (sl [g 12] .ret) .skip))] (g 13)))),g 14] (.block 4 (.loop (sl [g 15,cn 52 .skip (.exit 4),.block 5 (sl [g 16,g 17] (cn 65 (sl [g 18] .ret) .skip))] (g 19)))))] (g 20)))),sl [g 21] (.block 6 (.loop (sl [g 22,cn 72 .skip (.exit 6),.block 7 (sl [g 23,g 24] (cn 88 (sl [g 25] .ret) .skip))] (g 26)))),g 27] .ret) [.tmp 2] fun cx => ?_
 unfold QF at H
 refine gA 2 6 2 ?_
 refine tS ?_
 refine rA 2 ?_
 refine kF x0.Bs zA.row ?_
 obtain ⟨r1,er1,H⟩ := bs H
 refine vA [.rd,.rd,.rd] (qY n (x0.Bs.length : Int) 1 6 r1 er1) ?_
 refine lA 2 ?_
 refine sL 65542 2 ⟨92,0,[sB 16 (!r1),sB 2 false,sA 1 1 3 0],[(1,(CV.frzRow (Net.row x0)))]⟩ ?_
 cases h1 : (!r1)
 ·have H := zG h1 H
  refine lA 2 ?_
  refine kF x0.Said Say.row ?_
  refine uA 2 2097158 2 ?_
  obtain ⟨h2,H⟩ | ⟨h2,H⟩ := bC H
  ·refine nA h2 ?_
   refine tK ?_
   refine tS ?_
   refine rA 2 ?_
   refine kF x0.Bs zA.row ?_
   refine uA 1 58720262 2 ?_
   obtain ⟨o9,eo9,Ho9⟩ := bs H
   clear H
   refine Tr.mid (ι := Unit) (fun v => ⟨92,0,[sB 2 false,sA 1 1 3 0],[(1,(CV.frzRow (Net.row x0)))]⟩) (fun v => Qt n x0 = some r) ?_ ?_
   ·refine tB ?_
    refine Tr.loop (ι := Nat × (Int)) (fun v => ⟨92,0,[sI 25 v.2,sI 24 (x0.Bs.length : Int),sC 23 (cF 11 x0.Bs zA.row),sB 2 false,sA 1 1 3 0],[(1,(CV.frzRow (Net.row x0)))]⟩) (fun v => zz n v.1 x0 v.2 = some o9) (fun v => v.1) (n,0) eo9 (St.sub_of [25,24,23,2,1] [1] kr) ?_
    rintro ⟨mo9,y2⟩ H
    have H : zz n mo9 x0 y2 = some o9 := H
    obtain _ | mo9 := mo9
    ·exact nN H
    rw [zz] at H
    refine gA 1 125829126 2 ?_
    refine tS ?_
    obtain ⟨h6,H⟩ | ⟨h6,H⟩ := bC H
    ·refine nA h6 ?_
     refine Tr.exit ?_
     refine aJ ?_
     obtain rfl := si H
     have H := Ho9
     dsimp only at H
     exact jA () H [2,1] [1]
    refine tA h6 ?_
    refine tK ?_
    refine tS ?_
    refine tB ?_
    refine rA 1 ?_
    obtain ⟨v10,ev10,H⟩ := bs H
    refine iA zA.row ev10 ?_
    refine uA 4 1065353246 18 ?_
    refine tS ?_
    refine rA 1 ?_
    obtain ⟨r11,er11,H⟩ := bs H
    refine vA [.rd] (zEy n v10 r11 er11) ?_
    refine uA 1 8581546014 18 ?_
    obtain ⟨h7,H⟩ | ⟨h7,H⟩ := bC H
    ·refine nA h7 ?_
     refine tK ?_
     refine tS ?_
     refine rA 3 ?_
     obtain ⟨hg12,H⟩ := gs H
     refine LAt.cutG tOk (t := 53) (ty := 53) (e := 42) (x := (.tmp 34)) (lo := none) (hi := (some (.tmp 35))) (d := 36) (g := none) (tI 42) zA.row x0.Bs ⟨(.slot 34),[],0,false,11,(CV.frzEs (x0.Bs.map zA.row))⟩ 0 y2 kr kr kr kr kr kr rfl kr rfl kr kr hg12 ?_
     refine kF ((x0.Bs.drop ((0 : Int)).toNat).take (((y2 : Int)).toNat - ((0 : Int)).toNat)) zA.row ?_
     refine uA 1 549747425310 18 ?_
     refine sT ⟨92,0,[sI 38 0,sI 37 (((x0.Bs.drop ((0 : Int)).toNat).take (((y2 : Int)).toNat - ((0 : Int)).toNat)).length : Int),sC 36 (cF 11 ((x0.Bs.drop ((0 : Int)).toNat).take (((y2 : Int)).toNat - ((0 : Int)).toNat)) zA.row),sI 35 y2,sC 34 (cF 11 x0.Bs zA.row),sA 33 1 3 0,sB 32 (!r11),sB 31 r11,sV 30 (CV.frzRow (zA.row v10)),sI 3 y2,sA 4 4 11 0,sV 29 (CV.frzRow (zA.row v10)),(28,.fad ((CV.frzRow (zA.row v10)))),sI 27 y2,sB 26 (decide (y2 < (x0.Bs.length : Int))),sI 25 y2,sI 24 (x0.Bs.length : Int),sC 23 (cF 11 x0.Bs zA.row),sB 2 false,sA 1 1 3 0],[(4,(CV.frzRow (zA.row v10))),(1,(CV.frzRow (Net.row x0)))]⟩ ?_
     rw [h6]
     rw [h7]
     obtain ⟨o20,eo20,Ho20⟩ := bs H
     clear H
     refine Tr.mid (ι := Int) (fun v => ⟨92,0,[sB 39 false,sI 38 v,sI 37 (((x0.Bs.drop ((0 : Int)).toNat).take (((y2 : Int)).toNat - ((0 : Int)).toNat)).length : Int),sC 36 (cF 11 ((x0.Bs.drop ((0 : Int)).toNat).take (((y2 : Int)).toNat - ((0 : Int)).toNat)) zA.row),sI 35 y2,sC 34 (cF 11 x0.Bs zA.row),sA 33 1 3 0,sB 32 false,sB 31 r11,sV 30 (CV.frzRow (zA.row v10)),sI 3 y2,sA 4 4 11 0,sV 29 (CV.frzRow (zA.row v10)),(28,.fad ((CV.frzRow (zA.row v10)))),sI 27 y2,sB 26 true,sI 25 y2,sI 24 (x0.Bs.length : Int),sC 23 (cF 11 x0.Bs zA.row),sB 2 false,sA 1 1 3 0],[(4,(CV.frzRow (zA.row v10))),(1,(CV.frzRow (Net.row x0)))]⟩) (fun v => Jk n (fun v => zz n mo9 x0 v) v10 x0 y2 v = some o9) ?_ ?_
     ·refine tB ?_
      refine Tr.loop (ι := Nat × (Int)) (fun v => ⟨92,0,[sI 38 v.2,sI 37 (((x0.Bs.drop ((0 : Int)).toNat).take (((y2 : Int)).toNat - ((0 : Int)).toNat)).length : Int),sC 36 (cF 11 ((x0.Bs.drop ((0 : Int)).toNat).take (((y2 : Int)).toNat - ((0 : Int)).toNat)) zA.row),sI 35 y2,sC 34 (cF 11 x0.Bs zA.row),sA 33 1 3 0,sB 32 false,sB 31 r11,sV 30 (CV.frzRow (zA.row v10)),sI 3 y2,sA 4 4 11 0,sV 29 (CV.frzRow (zA.row v10)),(28,.fad ((CV.frzRow (zA.row v10)))),sI 27 y2,sB 26 true,sI 25 y2,sI 24 (x0.Bs.length : Int),sC 23 (cF 11 x0.Bs zA.row),sB 2 false,sA 1 1 3 0],[(4,(CV.frzRow (zA.row v10))),(1,(CV.frzRow (Net.row x0)))]⟩) (fun v => Zo n v.1 v10 x0 y2 v.2 = some o20) (fun v => v.1) (n,0) eo20 (St.sub_of [38,37,36,35,34,33,32,31,30,3,4,29,28,27,26,25,24,23,2,1] [4,1] kr) ?_
      rintro ⟨mo20,y13⟩ H
      have H : Zo n mo20 v10 x0 y2 y13 = some o20 := H
      obtain _ | mo20 := mo20
      ·exact nN H
      rw [Zo] at H
      refine gA 1 0xffff80001e 18 ?_
      refine tS ?_
      obtain ⟨h11,H⟩ | ⟨h11,H⟩ := bC H
      ·refine nA h11 ?_
       refine Tr.exit ?_
       refine aJ ?_
       obtain rfl := si H
       have H := Ho20
       dsimp only at H
       refine sB' 0xffff80001e 18 ⟨92,0,[sB 39 (decide (y13 < (((x0.Bs.drop ((0 : Int)).toNat).take (((y2 : Int)).toNat - ((0 : Int)).toNat)).length : Int))),sI 38 y13,sI 37 (((x0.Bs.drop ((0 : Int)).toNat).take (((y2 : Int)).toNat - ((0 : Int)).toNat)).length : Int),sC 36 (cF 11 ((x0.Bs.drop ((0 : Int)).toNat).take (((y2 : Int)).toNat - ((0 : Int)).toNat)) zA.row),sI 35 y2,sC 34 (cF 11 x0.Bs zA.row),sA 33 1 3 0,sB 32 false,sB 31 r11,sV 30 (CV.frzRow (zA.row v10)),sI 3 y2,sA 4 4 11 0,sV 29 (CV.frzRow (zA.row v10)),(28,.fad ((CV.frzRow (zA.row v10)))),sI 27 y2,sB 26 true,sI 25 y2,sI 24 (x0.Bs.length : Int),sC 23 (cF 11 x0.Bs zA.row),sB 2 false,sA 1 1 3 0],[(4,(CV.frzRow (zA.row v10))),(1,(CV.frzRow (Net.row x0)))]⟩ ?_
       rw [h11]
       exact jA y13 H [39,38,37,36,35,34,33,32,31,30,3,4,29,28,27,26,25,24,23,2,1] [4,1]
      refine tA h11 ?_
      refine tK ?_
      refine tS ?_
      refine tB ?_
      refine tR ?_
      obtain ⟨v21,ev21,H⟩ := bs H
      refine iA zA.row ev21 ?_
      refine uA 3 4398038122590 82 ?_
      refine gA 5 0x7fffff80005e 82 ?_
      obtain ⟨h12,H⟩ | ⟨h12,H⟩ := bC H
      ·refine nA h12 ?_
       refine tK ?_
       refine eA 2 0xffffff80005e 82 ?_
       exact jB mo20 (IntKind.wrap .i64 (y13 + 1)) H [38,37,36,35,34,33,32,31,30,3,4,29,28,27,26,25,24,23,2,1] [4,1]
      refine tA h12 ?_
      refine gA 1 0x7fffff80005e 82 ?_
      refine te ?_
      obtain rfl := si H
      have H := Ho20
      dsimp only at H
      obtain rfl := si H
      have H := Ho9
      dsimp only at H
      exact fF H
     rintro y14 H
     have H : (Jk n (fun v => zz n mo9 x0 v) v10 x0 y2 y14) = some o9 := H
     unfold Jk at H
     refine rA 2 ?_
     refine kF v10.Ps Pt.row ?_
     refine uA 1 0xf00ffff80001e 18 ?_
     obtain ⟨o17,eo17,Ho17⟩ := bs H
     clear H
     refine Tr.mid (ι := Int) (fun v => ⟨92,0,[sB 52 false,sI 51 v,sI 50 (v10.Ps.length : Int),sC 49 (cF 8 v10.Ps Pt.row),sA 48 4 11 2,sB 39 false,sI 38 y14,sI 37 (((x0.Bs.drop ((0 : Int)).toNat).take (((y2 : Int)).toNat - ((0 : Int)).toNat)).length : Int),sC 36 (cF 11 ((x0.Bs.drop ((0 : Int)).toNat).take (((y2 : Int)).toNat - ((0 : Int)).toNat)) zA.row),sI 35 y2,sC 34 (cF 11 x0.Bs zA.row),sA 33 1 3 0,sB 32 false,sB 31 r11,sV 30 (CV.frzRow (zA.row v10)),sI 3 y2,sA 4 4 11 0,sV 29 (CV.frzRow (zA.row v10)),(28,.fad ((CV.frzRow (zA.row v10)))),sI 27 y2,sB 26 true,sI 25 y2,sI 24 (x0.Bs.length : Int),sC 23 (cF 11 x0.Bs zA.row),sB 2 false,sA 1 1 3 0],[(4,(CV.frzRow (zA.row v10))),(1,(CV.frzRow (Net.row x0)))]⟩) (fun v => Jl n (fun v => zz n mo9 x0 v) y2 v = some o9) ?_ ?_
     ·refine tB ?_
      refine Tr.loop (ι := Nat × (Int)) (fun v => ⟨92,0,[sI 51 v.2,sI 50 (v10.Ps.length : Int),sC 49 (cF 8 v10.Ps Pt.row),sA 48 4 11 2,sB 39 false,sI 38 y14,sI 37 (((x0.Bs.drop ((0 : Int)).toNat).take (((y2 : Int)).toNat - ((0 : Int)).toNat)).length : Int),sC 36 (cF 11 ((x0.Bs.drop ((0 : Int)).toNat).take (((y2 : Int)).toNat - ((0 : Int)).toNat)) zA.row),sI 35 y2,sC 34 (cF 11 x0.Bs zA.row),sA 33 1 3 0,sB 32 false,sB 31 r11,sV 30 (CV.frzRow (zA.row v10)),sI 3 y2,sA 4 4 11 0,sV 29 (CV.frzRow (zA.row v10)),(28,.fad ((CV.frzRow (zA.row v10)))),sI 27 y2,sB 26 true,sI 25 y2,sI 24 (x0.Bs.length : Int),sC 23 (cF 11 x0.Bs zA.row),sB 2 false,sA 1 1 3 0],[(4,(CV.frzRow (zA.row v10))),(1,(CV.frzRow (Net.row x0)))]⟩) (fun v => ZQ n v.1 v10 x0 y2 v.2 = some o17) (fun v => v.1) (n,0) eo17 (St.sub_of [51,50,49,48,39,38,37,36,35,34,33,32,31,30,3,4,29,28,27,26,25,24,23,2,1] [4,1] kr) ?_
      rintro ⟨mo17,y15⟩ H
      have H : ZQ n mo17 v10 x0 y2 y15 = some o17 := H
      obtain _ | mo17 := mo17
      ·exact nN H
      rw [ZQ] at H
      refine gA 1 8726823781269534 18 ?_
      refine tS ?_
      obtain ⟨h8,H⟩ | ⟨h8,H⟩ := bC H
      ·refine nA h8 ?_
       refine Tr.exit ?_
       refine aJ ?_
       obtain rfl := si H
       have H := Ho17
       dsimp only at H
       refine sB' 8726823781269534 18 ⟨92,0,[sB 52 (decide (y15 < (v10.Ps.length : Int))),sI 51 y15,sI 50 (v10.Ps.length : Int),sC 49 (cF 8 v10.Ps Pt.row),sA 48 4 11 2,sB 39 false,sI 38 y14,sI 37 (((x0.Bs.drop ((0 : Int)).toNat).take (((y2 : Int)).toNat - ((0 : Int)).toNat)).length : Int),sC 36 (cF 11 ((x0.Bs.drop ((0 : Int)).toNat).take (((y2 : Int)).toNat - ((0 : Int)).toNat)) zA.row),sI 35 y2,sC 34 (cF 11 x0.Bs zA.row),sA 33 1 3 0,sB 32 false,sB 31 r11,sV 30 (CV.frzRow (zA.row v10)),sI 3 y2,sA 4 4 11 0,sV 29 (CV.frzRow (zA.row v10)),(28,.fad ((CV.frzRow (zA.row v10)))),sI 27 y2,sB 26 true,sI 25 y2,sI 24 (x0.Bs.length : Int),sC 23 (cF 11 x0.Bs zA.row),sB 2 false,sA 1 1 3 0],[(4,(CV.frzRow (zA.row v10))),(1,(CV.frzRow (Net.row x0)))]⟩ ?_
       rw [h8]
       exact jA y15 H [52,51,50,49,48,39,38,37,36,35,34,33,32,31,30,3,4,29,28,27,26,25,24,23,2,1] [4,1]
      refine tA h8 ?_
      refine tK ?_
      refine tS ?_
      refine tB ?_
      refine rA 1 ?_
      obtain ⟨v18,ev18,H⟩ := bs H
      refine iA Pt.row ev18 ?_
      refine uA 4 0xff00ffff80019e 274 ?_
      refine rA 3 ?_
      refine sL 0x7ff00ffff80019e 274 ⟨92,0,[sB 58 v18.Has,sB 57 v18.Has,sA 56 8 8 2,sI 7 y15,sA 8 8 8 0,sV 55 (Pt.row v18),(54,.fad ((Pt.row v18))),sI 53 y15,sB 52 (decide (y15 < (v10.Ps.length : Int))),sI 51 y15,sI 50 (v10.Ps.length : Int),sC 49 (cF 8 v10.Ps Pt.row),sA 48 4 11 2,sB 39 false,sI 38 y14,sI 37 (((x0.Bs.drop ((0 : Int)).toNat).take (((y2 : Int)).toNat - ((0 : Int)).toNat)).length : Int),sC 36 (cF 11 ((x0.Bs.drop ((0 : Int)).toNat).take (((y2 : Int)).toNat - ((0 : Int)).toNat)) zA.row),sI 35 y2,sC 34 (cF 11 x0.Bs zA.row),sA 33 1 3 0,sB 32 false,sB 31 r11,sV 30 (CV.frzRow (zA.row v10)),sI 3 y2,sA 4 4 11 0,sV 29 (CV.frzRow (zA.row v10)),(28,.fad ((CV.frzRow (zA.row v10)))),sI 27 y2,sB 26 true,sI 25 y2,sI 24 (x0.Bs.length : Int),sC 23 (cF 11 x0.Bs zA.row),sB 2 false,sA 1 1 3 0],[(8,(Pt.row v18)),(4,(CV.frzRow (zA.row v10))),(1,(CV.frzRow (Net.row x0)))]⟩ ?_
      cases h9 : v18.Has
      ·have H := zG h9 H
       refine uA 7 0x3ffff00ffff80019e 274 ?_
       refine nB_ ?_
       refine tK ?_
       refine eA 2 0x7ffff00ffff80019e 274 ?_
       exact jB mo17 (IntKind.wrap .i64 (y15 + 1)) H [51,50,49,48,39,38,37,36,35,34,33,32,31,30,3,4,29,28,27,26,25,24,23,2,1] [4,1]
      have H := zH h9 H
      refine lA 4 ?_
      obtain ⟨r19,er19,H⟩ := bs H
      refine vA [.rd,.rd,.rd] (zDl n x0.Ls y2 y15 r19 er19) ?_
      refine uA 2 0x3ffff00ffff80019e 274 ?_
      obtain ⟨h10,H⟩ | ⟨h10,H⟩ := bC H
      ·refine nA h10 ?_
       refine tK ?_
       refine eA 2 0x7ffff00ffff80019e 274 ?_
       exact jB mo17 (IntKind.wrap .i64 (y15 + 1)) H [51,50,49,48,39,38,37,36,35,34,33,32,31,30,3,4,29,28,27,26,25,24,23,2,1] [4,1]
      refine tA h10 ?_
      refine gA 1 0x3ffff00ffff80019e 274 ?_
      refine te ?_
      obtain rfl := si H
      have H := Ho17
      dsimp only at H
      obtain rfl := si H
      have H := Ho9
      dsimp only at H
      exact fF H
     rintro y16 H
     have H : (Jl n (fun v => zz n mo9 x0 v) y2 y16) = some o9 := H
     unfold Jl at H
     refine eA 2 0x8001f00ffff80001e 18 ?_
     exact jB mo9 (IntKind.wrap .i64 (y2 + 1)) H [25,24,23,2,1] [1]
    refine tA h7 ?_
    refine gA 1 8581546014 18 ?_
    refine te ?_
    obtain rfl := si H
    have H := Ho9
    dsimp only at H
    exact fF H
   rintro _ H
   have H : (Qt n x0) = some r := H
   unfold Qt at H
   refine tS ?_
   refine rA 2 ?_
   refine kF x0.Said Say.row ?_
   refine uA 1 0xe00000000000000006 2 ?_
   obtain ⟨o5,eo5,Ho5⟩ := bs H
   clear H
   refine Tr.mid (ι := Unit) (fun v => ⟨92,0,[sB 2 false,sA 1 1 3 0],[(1,(CV.frzRow (Net.row x0)))]⟩) (fun v => Yr n x0 = some r) ?_ ?_
   ·refine tB ?_
    refine Tr.loop (ι := Nat × (Int)) (fun v => ⟨92,0,[sI 71 v.2,sI 70 (x0.Said.length : Int),sC 69 (cF 7 x0.Said Say.row),sB 2 false,sA 1 1 3 0],[(1,(CV.frzRow (Net.row x0)))]⟩) (fun v => qS n v.1 x0 v.2 = some o5) (fun v => v.1) (n,0) eo5 (St.sub_of [71,70,69,2,1] [1] kr) ?_
    rintro ⟨mo5,y3⟩ H
    have H : qS n mo5 x0 y3 = some o5 := H
    obtain _ | mo5 := mo5
    ·exact nN H
    rw [qS] at H
    refine gA 1 0x1e00000000000000006 2 ?_
    refine tS ?_
    obtain ⟨h3,H⟩ | ⟨h3,H⟩ := bC H
    ·refine nA h3 ?_
     refine Tr.exit ?_
     refine aJ ?_
     obtain rfl := si H
     have H := Ho5
     dsimp only at H
     exact jA () H [2,1] [1]
    refine tA h3 ?_
    refine tK ?_
    refine tS ?_
    refine tB ?_
    refine tR ?_
    obtain ⟨v6,ev6,H⟩ := bs H
    refine iA Say.row ev6 ?_
    refine uA 3 0x7e00000000000000406 1026 ?_
    refine rA 4 ?_
    refine kF x0.Ls Link.row ?_
    refine lA 1 ?_
    obtain ⟨r7,er7,H⟩ := bs H
    refine vA [.rd,.rd,.rd] (qY n v6.Link 0 (IntKind.wrap .i64 ((x0.Ls.length : Int) - 1)) r7 er7) ?_
    refine lA 2 ?_
    refine sL 0xfffe00000000000000406 1026 ⟨92,0,[sB 83 (!r7),sB 82 (!r7),sB 81 r7,sI 80 (IntKind.wrap .i64 ((x0.Ls.length : Int) - 1)),sI 79 (x0.Ls.length : Int),sC 78 (cF 4 x0.Ls Link.row),sA 77 1 3 1,sI 76 v6.Link,sA 75 10 7 0,sA 10 10 7 0,sV 74 (Say.row v6),(73,.fad ((Say.row v6))),sB 72 (decide (y3 < (x0.Said.length : Int))),sI 71 y3,sI 70 (x0.Said.length : Int),sC 69 (cF 7 x0.Said Say.row),sB 2 false,sA 1 1 3 0],[(10,(Say.row v6)),(1,(CV.frzRow (Net.row x0)))]⟩ ?_
    cases h4 : (!r7)
    ·have H := zG h4 H
     refine lA 2 ?_
     obtain ⟨r8,er8,H⟩ := bs H
     refine vA [.rd] (zBZ n v6.V r8 er8) ?_
     refine uA 2 0x1ffffe00000000000000406 1026 ?_
     obtain ⟨h5,H⟩ | ⟨h5,H⟩ := bC H
     ·refine nA h5 ?_
      refine tK ?_
      refine eA 2 0x3ffffe00000000000000406 1026 ?_
      exact jB mo5 (IntKind.wrap .i64 (y3 + 1)) H [71,70,69,2,1] [1]
     refine tA h5 ?_
     refine gA 1 0x1ffffe00000000000000406 1026 ?_
     refine te ?_
     obtain rfl := si H
     have H := Ho5
     dsimp only at H
     exact fF H
    have H := zH h4 H
    refine uA 5 0x1ffffe00000000000000406 1026 ?_
    refine tB_ ?_
    refine gA 1 0x1ffffe00000000000000406 1026 ?_
    refine te ?_
    obtain rfl := si H
    have H := Ho5
    dsimp only at H
    exact fF H
   rintro _ H
   have H : (Yr n x0) = some r := H
   unfold Yr at H
   refine rA 1 ?_
   obtain ⟨r4,er4,H⟩ := bs H
   refine vA [.rd] (zJE n x0 r4 er4) ?_
   refine uA 1 4 0 ?_
   exact te (fJ [(false,[cB r4])] H)
  refine tA h2 ?_
  refine gA 1 6 2 ?_
  exact te (fF H)
 have H := zH h1 H
 refine uA 5 2097158 2 ?_
 refine tB_ ?_
 refine gA 1 6 2 ?_
 exact te (fF H)
def zX (n : Nat) (x0 : Net) (x1 : Int) : Option (Bool) :=
  ((qO n x1 0 (IntKind.wrap .i64 ((x0.Ls.length : Int) - 1))).bind fun r1 => (bif (!r1) then (some false) else ((idx x0.Ls x1).bind fun v2 => ((idx x0.Ls x1).bind fun v3 => ((ZG n x0 v2.A v3.P).bind fun r4 => ((idx x0.Ls x1).bind fun v5 => ((idx x0.Ls x1).bind fun v6 => ((ZG n x0 v5.B v6.Q).bind fun r7 => (bif r4.2 then (bif r7.2 then (bif r4.1.Up then (some r7.1.Up) else (some false)) else (some false)) else (some false))))))))))
def zNW : Tab := ⟨20,[0,0,2,0,12,16,32,0,128,0,768,1024,2048,4161,8192,16384,16384,0,196607,524287],[0,0,2,0,12,16,32,0,128,0,768,1024,2048,4161,8192,16384,16384,0,163840,65536],[0,0,2,0,14,30,62,0,128,0,896,1920,3968,8191,16383,32767,32767,0,196607,524287]⟩
theorem YC : zk (rg Try.f77 3) zNW = true := kr
def zNX : Tab := ⟨20,[0,0,2,0,12,16,32,0,128,0,768,1024,2048,4161,8192,16384,16384,0,196607,524287],[0,0,2,0,12,16,32,0,128,0,768,1024,2048,4161,8192,16384,16384,0,163840,65536],[0,0,2,0,14,30,62,0,128,0,896,1920,3968,8191,16383,32767,32767,0,196607,524287]⟩
theorem YD : zk (rg Try.f77 4) zNX = true := kr
theorem zAt (n : Nat) (x0 : Net) (x1 : Int) (r : Bool) (H : zX n x0 x1 = some r) : zI Try.prog 77 [.val true (CV.frzRow (Net.row x0)),.val false [.lit (.int .i64 x1)]] [.val false [.lit (.bool r)]] [] := by
 refine cW Try.func77 (fun g d => sl [g 0,sl [g 1] (cn 15 (sl [g 2] .ret) .skip),d 3,d 4,g 5] .ret) [.tmp 4] fun cx => ?_
 unfold zX at H
 refine gA 2 6 4 ?_
 refine tS ?_
 refine rA 3 ?_
 refine kF x0.Ls Link.row ?_
 refine lA 1 ?_
 obtain ⟨r1,er1,H⟩ := bs H
 refine vA [.rd,.rd,.rd] (qY n x1 0 (IntKind.wrap .i64 ((x0.Ls.length : Int) - 1)) r1 er1) ?_
 refine uA 1 32774 4 ?_
 obtain ⟨h1,H⟩ | ⟨h1,H⟩ := bC H
 ·refine nA h1 ?_
  refine tK ?_
  obtain ⟨v2,ev2,H⟩ := bs H
  obtain ⟨v3,ev3,H⟩ := bs H
  obtain ⟨r4,er4,H⟩ := bs H
  refine Tr.draws mixed 20 kr ⟨62,0,[sB 6 r4.2,sA 5 5 8 0,sA 2 2 3 0,sI 1 x1],[(5,(Pt.row r4.1)),(2,(CV.frzRow (Net.row x0)))]⟩ (fun cx => ?_) ?_
  ·refine mA YC [(0,[13,18]),(1,[]),(2,[13,18]),(3,[])] 16 [⟨[13,18],73,18,19⟩,⟨[13,18],76,2,17⟩] fun cx => ?_
   refine iN YC 4 Link.row ev2 fun cx => ?_
   refine mA YC [(5,[]),(6,[]),(7,[]),(8,[13,18]),(9,[])] 10 [⟨[13,18],73,24,25⟩,⟨[13,18],73,18,19⟩,⟨[13,18],76,2,17⟩] fun cx => ?_
   refine iN YC 10 Link.row ev3 fun cx => ?_
   refine mA YC [(11,[]),(12,[])] 7 [⟨[13,18],73,24,25⟩,⟨[13,18],73,18,19⟩,⟨[13,18],76,2,17⟩] fun cx => ?_
   refine mB2 tOk YC 13 17 kr (And.intro kr ?_) (And.intro kr ?_)
   ·refine vA [.rd,.rd,.rd] (Y7 n x0 v2.A v3.P r4 er4) ?_
    refine fA ?_
    refine AT.movT tOk 14 (ty := 178) (t := 30) (d := 16) (g := none) [(true,(Pt.row r4.1)),(false,[cB r4.2])] _ kr (oM YC kr) (dM YC kr) (.inl rfl) kr kr kr kr rfl (fun cx => ?_)
    refine mA YC [(15,[]),(16,[])] 3 [⟨[13,18],73,24,25⟩,⟨[13,18],73,18,19⟩,⟨[13,18],76,2,17⟩] fun cx => ?_
    refine mC YC 17 ?_
    refine lA 1 ?_
    refine fA ?_
    refine mC YC 18 ?_
    refine lA 1 ?_
    refine fA ?_
    refine mA YC [(19,[])] 0 [⟨[13,18],73,24,25⟩,⟨[13,18],73,18,19⟩,⟨[13,18],76,2,17⟩] fun cx => ?_
    exact mE YC [6,5,2,1] [5,2]
   ·refine lA 1 ?_
    refine fA ?_
    refine mC YC 13 ?_
    refine vA [.rd,.rd,.rd] (Y7 n x0 v2.A v3.P r4 er4) ?_
    refine fA ?_
    refine AT.movT tOk 14 (ty := 178) (t := 30) (d := 16) (g := none) [(true,(Pt.row r4.1)),(false,[cB r4.2])] _ kr (oM YC kr) (dM YC kr) (.inl rfl) kr kr kr kr rfl (fun cx => ?_)
    refine mA YC [(15,[]),(16,[])] 2 [⟨[13,18],73,24,25⟩,⟨[13,18],73,18,19⟩,⟨[13,18],76,2,17⟩] fun cx => ?_
    refine mC YC 18 ?_
    refine lA 1 ?_
    refine fA ?_
    refine mA YC [(19,[])] 0 [⟨[13,18],73,24,25⟩,⟨[13,18],73,18,19⟩,⟨[13,18],76,2,17⟩] fun cx => ?_
    exact mE YC [6,5,2,1] [5,2]
  obtain ⟨v5,ev5,H⟩ := bs H
  obtain ⟨v6,ev6,H⟩ := bs H
  obtain ⟨r7,er7,H⟩ := bs H
  refine Tr.draws mixed 20 kr ⟨62,0,[sB 8 r7.2,sA 7 7 8 0,sB 6 r4.2,sA 5 5 8 0],[(7,(Pt.row r7.1)),(5,(Pt.row r4.1))]⟩ (fun cx => ?_) ?_
  ·refine mA YD [(0,[13,18]),(1,[]),(2,[13,18]),(3,[])] 16 [⟨[13,18],73,35,36⟩,⟨[13,18],76,2,34⟩] fun cx => ?_
   refine iN YD 4 Link.row ev5 fun cx => ?_
   refine mA YD [(5,[]),(6,[]),(7,[]),(8,[13,18]),(9,[])] 10 [⟨[13,18],73,41,42⟩,⟨[13,18],73,35,36⟩,⟨[13,18],76,2,34⟩] fun cx => ?_
   refine iN YD 10 Link.row ev6 fun cx => ?_
   refine mA YD [(11,[]),(12,[])] 7 [⟨[13,18],73,41,42⟩,⟨[13,18],73,35,36⟩,⟨[13,18],76,2,34⟩] fun cx => ?_
   refine mB2 tOk YD 13 17 kr (And.intro kr ?_) (And.intro kr ?_)
   ·refine vA [.rd,.rd,.rd] (Y7 n x0 v5.B v6.Q r7 er7) ?_
    refine fA ?_
    refine AT.movT tOk 14 (ty := 178) (t := 47) (d := 33) (g := none) [(true,(Pt.row r7.1)),(false,[cB r7.2])] _ kr (oM YD kr) (dM YD kr) (.inl rfl) kr kr kr kr rfl (fun cx => ?_)
    refine mA YD [(15,[]),(16,[])] 3 [⟨[13,18],73,41,42⟩,⟨[13,18],73,35,36⟩,⟨[13,18],76,2,34⟩] fun cx => ?_
    refine mC YD 17 ?_
    refine lA 1 ?_
    refine fA ?_
    refine mC YD 18 ?_
    refine lA 1 ?_
    refine fA ?_
    refine mA YD [(19,[])] 0 [⟨[13,18],73,41,42⟩,⟨[13,18],73,35,36⟩,⟨[13,18],76,2,34⟩] fun cx => ?_
    exact mE YD [8,7,6,5] [7,5]
   ·refine lA 1 ?_
    refine fA ?_
    refine mC YD 13 ?_
    refine vA [.rd,.rd,.rd] (Y7 n x0 v5.B v6.Q r7 er7) ?_
    refine fA ?_
    refine AT.movT tOk 14 (ty := 178) (t := 47) (d := 33) (g := none) [(true,(Pt.row r7.1)),(false,[cB r7.2])] _ kr (oM YD kr) (dM YD kr) (.inl rfl) kr kr kr kr rfl (fun cx => ?_)
    refine mA YD [(15,[]),(16,[])] 2 [⟨[13,18],73,41,42⟩,⟨[13,18],73,35,36⟩,⟨[13,18],76,2,34⟩] fun cx => ?_
    refine mC YD 18 ?_
    refine lA 1 ?_
    refine fA ?_
    refine mA YD [(19,[])] 0 [⟨[13,18],73,41,42⟩,⟨[13,18],73,35,36⟩,⟨[13,18],76,2,34⟩] fun cx => ?_
    exact mE YD [8,7,6,5] [7,5]
  refine rA 2 ?_
  refine sL 0x80000000001a0 160 ⟨62,0,[sB 51 r4.2,sB 8 r7.2,sA 7 7 8 0,sA 5 5 8 0],[(7,(Pt.row r7.1)),(5,(Pt.row r4.1))]⟩ ?_
  cases h2 : r4.2
  ·have H := zG h2 H
   refine uA 11 16 0 ?_
   exact te (fF H)
  have H := zH h2 H
  refine lA 3 ?_
  refine sL 0x400000000000a0 160 ⟨62,0,[sB 54 r7.2,sA 7 7 8 0,sA 5 5 8 0],[(7,(Pt.row r7.1)),(5,(Pt.row r4.1))]⟩ ?_
  cases h3 : r7.2
  ·have H := zG h3 H
   refine uA 8 16 0 ?_
   exact te (fF H)
  have H := zH h3 H
  refine lA 4 ?_
  refine sL 0x400000000000080 128 ⟨62,0,[sB 58 r4.1.Up,sA 7 7 8 0],[(7,(Pt.row r7.1))]⟩ ?_
  cases h4 : r4.1.Up
  ·have H := zG h4 H
   refine uA 4 16 0 ?_
   exact te (fF H)
  have H := zH h4 H
  refine uA 4 16 0 ?_
  exact te (fJ [(false,[cB r7.1.Up])] H)
 refine tA h1 ?_
 refine gA 1 16 0 ?_
 exact te (fF H)
def zA6 (n : Nat) (x0 : Vec) (x1 : Int) : Option (Vec × Bool) :=
  ((YU n x0).bind fun r1 => (bif (!r1) then (some (x0,false)) else ((qO n x1 1 1000).bind fun r2 => (bif (!r2) then (some (x0,false)) else ((YU n (⟨x0.Root,(IntKind.wrap .i64 (x0.Co + x1)),(IntKind.wrap .i64 (x0.Hops + 1)),x0.Bridge,x0.Port⟩ : Vec)).bind fun r3 => (bif (!r3) then (some (x0,false)) else (some ((⟨x0.Root,(IntKind.wrap .i64 (x0.Co + x1)),(IntKind.wrap .i64 (x0.Hops + 1)),x0.Bridge,x0.Port⟩ : Vec),true))))))))
theorem zJC (n : Nat) (x0 : Vec) (x1 : Int) (r : Vec × Bool) (H : zA6 n x0 x1 = some r) : zI Try.prog 160 [.val true (CV.frzRow (Vec.row x0)),.val false [.lit (.int .i64 x1)]] [.val true (Vec.row r.1),.val false [.lit (.bool r.2)]] [] := by
 refine cW Try.func160 (fun g d => sl [g 0,sl [g 1] (cn 14 (sl [g 2] .ret) .skip),g 3,g 4,g 5,sl [g 6] (cn 28 (sl [g 7] .ret) .skip),g 8] .ret) [.cell 4 46,.tmp 5] fun cx => ?_
 unfold zA6 at H
 refine gA 3 22 20 ?_
 refine tS ?_
 refine rA 1 ?_
 obtain ⟨r1,er1,H⟩ := bs H
 refine vA [.rd] (zBZ n x0 r1 er1) ?_
 refine lA 2 ?_
 refine sL 1046 20 ⟨31,0,[sB 10 (!r1),sA 4 4 5 0,sA 2 2 5 0,sI 1 x1],[(4,[cI 0,cI 0,cI 0,cI 0,cI 0]),(2,(Vec.row x0))]⟩ ?_
 cases h1 : (!r1)
 ·have H := zG h1 H
  refine lA 1 ?_
  obtain ⟨r2,er2,H⟩ := bs H
  refine vA [.rd,.rd,.rd] (qY n x1 1 1000 r2 er2) ?_
  refine uA 2 16406 20 ?_
  obtain ⟨h2,H⟩ | ⟨h2,H⟩ := bC H
  ·refine nA h2 ?_
   refine tK ?_
   refine gA 3 86 84 ?_
   refine gA 6 84 84 ?_
   refine gA 5 84 84 ?_
   refine tS ?_
   refine rA 1 ?_
   obtain ⟨r3,er3,H⟩ := bs H
   refine vA [.rd] (zBZ n (⟨x0.Root,(IntKind.wrap .i64 (x0.Co + x1)),(IntKind.wrap .i64 (x0.Hops + 1)),x0.Bridge,x0.Port⟩ : Vec) r3 er3) ?_
   refine uA 1 268435540 84 ?_
   obtain ⟨h3,H⟩ | ⟨h3,H⟩ := bC H
   ·refine nA h3 ?_
    refine tK ?_
    refine gA 3 48 16 ?_
    exact te (fJ [(true,[cI x0.Root,cI (IntKind.wrap .i64 (x0.Co + x1)),cI (IntKind.wrap .i64 (x0.Hops + 1)),cI x0.Bridge,cI x0.Port]),(false,[cB true])] H)
   refine tA h3 ?_
   refine gA 3 48 16 ?_
   exact te (fJ [(true,(Vec.row x0)),(false,[cB false])] H)
  refine tA h2 ?_
  refine gA 3 48 16 ?_
  exact te (fJ [(true,(Vec.row x0)),(false,[cB false])] H)
 have H := zH h1 H
 refine uA 4 16406 20 ?_
 refine tB_ ?_
 refine gA 3 48 16 ?_
 exact te (fJ [(true,(Vec.row x0)),(false,[cB false])] H)
def Jj (n : Nat) (x0 : Vec) (x1 : Vec) : Option (Bool) :=
  (bif (x0.Root != x1.Root) then (some (decide (x0.Root < x1.Root))) else (bif (x0.Co != x1.Co) then (some (decide (x0.Co < x1.Co))) else (bif (x0.Bridge != x1.Bridge) then (some (decide (x0.Bridge < x1.Bridge))) else (some (decide (x0.Port < x1.Port))))))
theorem zFK (n : Nat) (x0 : Vec) (x1 : Vec) (r : Bool) (H : Jj n x0 x1 = some r) : zI Try.prog 112 [.val true (CV.frzRow (Vec.row x0)),.val true (CV.frzRow (Vec.row x1))] [.val false [.lit (.bool r)]] [] := by
 refine cW Try.func112 (fun g d => sl [g 0,.block 0 (sl [g 1] (cn 5 (sl [g 2] .ret) (sl [g 3] (cn 16 (sl [g 4] .ret) (sl [g 5] (cn 27 (sl [g 6] .ret) .skip)))))),g 7] .ret) [.tmp 4] fun cx => ?_
 unfold Jj at H
 refine gA 3 12 12 ?_
 refine tS ?_
 refine tB ?_
 refine gA 6 44 12 ?_
 obtain ⟨h1,H⟩ | ⟨h1,H⟩ := bC H
 ·refine nA h1 ?_
  refine gA 6 65548 12 ?_
  obtain ⟨h2,H⟩ | ⟨h2,H⟩ := bC H
  ·refine nA h2 ?_
   refine gA 6 134217740 12 ?_
   obtain ⟨h3,H⟩ | ⟨h3,H⟩ := bC H
   ·refine nA h3 ?_
    refine tK ?_
    refine gA 6 16 0 ?_
    exact te (fJ [(false,[cB (decide (x0.Port < x1.Port))])] H)
   refine tA h3 ?_
   refine gA 6 16 0 ?_
   exact te (fJ [(false,[cB (decide (x0.Bridge < x1.Bridge))])] H)
  refine tA h2 ?_
  refine gA 6 16 0 ?_
  exact te (fJ [(false,[cB (decide (x0.Co < x1.Co))])] H)
 refine tA h1 ?_
 refine gA 6 16 0 ?_
 exact te (fJ [(false,[cB (decide (x0.Root < x1.Root))])] H)
def Jx (n : Nat) (x0 : Int) (y11 : Int) (y12 : Int) (y13 : Int) (y14 : Int) : Option (Vec × Int) :=
  (some ((⟨y12,y13,y14,x0,0⟩ : Vec),y11))
def Z8 (n : Nat) (k : (Int × Int × Int × Int × Int × Int × Int × Int × Int × Int → Option ((Int × Int × Int × Int) ⊕ (Vec × Int)))) (r17 : Vec × Bool) (y1 : Int) (y10 : Int) (y2 : Int) (y3 : Int) (y4 : Int) (y5 : Int) (y6 : Int) (y7 : Int) (y8 : Int) (y9 : Int) (y18 : Bool) (y19 : Bool) (y20 : Bool) (y21 : Bool) (y22 : Bool) (y23 : Bool) (y24 : Bool) : Option ((Int × Int × Int × Int) ⊕ (Vec × Int)) :=
  (bif y18 then (k ((IntKind.wrap .i64 (y1 + 1)),y1,r17.1.Root,r17.1.Co,r17.1.Hops,r17.1.Bridge,r17.1.Port,r17.1.Root,r17.1.Co,r17.1.Hops)) else (k ((IntKind.wrap .i64 (y1 + 1)),y2,y3,y4,y5,y6,y7,y8,y9,y10)))
def qg (n : Nat) : Nat → Int → (List Pt) → Int → Int → Int → Int → Int → Int → Int → Int → Int → Int → Option ((Int × Int × Int × Int) ⊕ (Vec × Int))
  | 0,_,_,_,_,_,_,_,_,_,_,_,_ => none
  | mo15 + 1,x0,x1,y1,y2,y3,y4,y5,y6,y7,y8,y9,y10 => (bif (decide (y1 < (x1.length : Int))) then ((idx x1 y1).bind fun v16 => (bif (!v16.Up) then (qg n mo15 x0 x1 (IntKind.wrap .i64 (y1 + 1)) y2 y3 y4 y5 y6 y7 y8 y9 y10) else (bif (!v16.Has) then (qg n mo15 x0 x1 (IntKind.wrap .i64 (y1 + 1)) y2 y3 y4 y5 y6 y7 y8 y9 y10) else ((zA6 n v16.Hd v16.Co).bind fun r17 => (bif r17.2 then (bif (decide (r17.1.Root < x0)) then (bif (decide (y2 < 0)) then (Z8 n (fun v => qg n mo15 x0 x1 v.1 v.2.1 v.2.2.1 v.2.2.2.1 v.2.2.2.2.1 v.2.2.2.2.2.1 v.2.2.2.2.2.2.1 v.2.2.2.2.2.2.2.1 v.2.2.2.2.2.2.2.2.1 v.2.2.2.2.2.2.2.2.2) r17 y1 y10 y2 y3 y4 y5 y6 y7 y8 y9 true true true true true true true) else ((Jj n r17.1 (⟨y3,y4,y5,y6,y7⟩ : Vec)).bind fun r25 => (Z8 n (fun v => qg n mo15 x0 x1 v.1 v.2.1 v.2.2.1 v.2.2.2.1 v.2.2.2.2.1 v.2.2.2.2.2.1 v.2.2.2.2.2.2.1 v.2.2.2.2.2.2.2.1 v.2.2.2.2.2.2.2.2.1 v.2.2.2.2.2.2.2.2.2) r17 y1 y10 y2 y3 y4 y5 y6 y7 y8 y9 r25 true true true true true true))) else (Z8 n (fun v => qg n mo15 x0 x1 v.1 v.2.1 v.2.2.1 v.2.2.2.1 v.2.2.2.2.1 v.2.2.2.2.2.1 v.2.2.2.2.2.2.1 v.2.2.2.2.2.2.2.1 v.2.2.2.2.2.2.2.2.1 v.2.2.2.2.2.2.2.2.2) r17 y1 y10 y2 y3 y4 y5 y6 y7 y8 y9 false false false true true true true)) else (Z8 n (fun v => qg n mo15 x0 x1 v.1 v.2.1 v.2.2.1 v.2.2.2.1 v.2.2.2.2.1 v.2.2.2.2.2.1 v.2.2.2.2.2.2.1 v.2.2.2.2.2.2.2.1 v.2.2.2.2.2.2.2.2.1 v.2.2.2.2.2.2.2.2.2) r17 y1 y10 y2 y3 y4 y5 y6 y7 y8 y9 false false false false false false false)))))) else (some (Sum.inl (y2,y8,y9,y10))))
def Yp (n : Nat) (x0 : Int) (x1 : (List Pt)) : Option (Vec × Int) :=
  ((qg n n x0 x1 0 (-1) 0 0 0 0 0 x0 0 0).bind fun o => match o with | .inl (y11,y12,y13,y14) => (Jx n x0 y11 y12 y13 y14) | .inr r => some r)
theorem zFI (n : Nat) (x0 : Int) (x1 : (List Pt)) (r : Vec × Int) (H : Yp n x0 x1 = some r) : zI Try.prog 111 [.val false [.lit (.int .i64 x0)],.val false [.sl false 8 (CV.frzEs (x1.map Pt.row))]] [.val true (Vec.row r.1),.val false [.lit (.int .i64 r.2)]] [] := by
 refine cW Try.func111 (fun g d => sl [g 0,g 1,g 2,sl [g 3] (.block 0 (.loop (sl [g 4,cn 19 .skip (.exit 0),.block 1 (sl [g 5,sl [g 6] (cn 30 (.exit 1) .skip),g 7,g 8] (cn 54 (sl [g 9] (g 10)) .skip))] (g 11)))),g 12] .ret) [.cell 4 46,.tmp 5] fun cx => ?_
 unfold Yp at H
 refine gA 2 51 16 ?_
 refine gA 6 243 80 ?_
 refine gA 1 499 336 ?_
 refine tS ?_
 refine rA 1 ?_
 refine kF x1 Pt.row ?_
 refine uA 1 459249 336 ?_
 obtain ⟨o15,eo15,Ho15⟩ := bs H
 clear H
 refine Tr.mid (ι := Int × Int × Int × Int) (fun v => ⟨68,0,[sI 7 v.1,sA 6 6 5 0,sI 5 0,sA 4 4 5 0],[(6,[cI v.2.1,cI v.2.2.1,cI v.2.2.2,cI x0,cI 0]),(4,[cI 0,cI 0,cI 0,cI 0,cI 0])]⟩) (fun v => Jx n x0 v.1 v.2.1 v.2.2.1 v.2.2.2 = some r) ?_ ?_
 ·refine tB ?_
  refine Tr.loop (ι := Nat × (Int × Int × Int × Int × Int × Int × Int × Int × Int × Int)) (fun v => ⟨68,0,[sI 18 v.2.1,sI 17 (x1.length : Int),sC 16 (cF 8 x1 Pt.row),sA 8 8 5 0,sI 7 v.2.2.1,sA 6 6 5 0,sI 5 0,sA 4 4 5 0,sI 0 x0],[(8,[cI v.2.2.2.1,cI v.2.2.2.2.1,cI v.2.2.2.2.2.1,cI v.2.2.2.2.2.2.1,cI v.2.2.2.2.2.2.2.1]),(6,[cI v.2.2.2.2.2.2.2.2.1,cI v.2.2.2.2.2.2.2.2.2.1,cI v.2.2.2.2.2.2.2.2.2.2,cI x0,cI 0]),(4,[cI 0,cI 0,cI 0,cI 0,cI 0])]⟩) (fun v => qg n v.1 x0 x1 v.2.1 v.2.2.1 v.2.2.2.1 v.2.2.2.2.1 v.2.2.2.2.2.1 v.2.2.2.2.2.2.1 v.2.2.2.2.2.2.2.1 v.2.2.2.2.2.2.2.2.1 v.2.2.2.2.2.2.2.2.2.1 v.2.2.2.2.2.2.2.2.2.2 = some o15) (fun v => v.1) (n,(0,(-1),0,0,0,0,0,x0,0,0)) eo15 (St.sub_of [18,17,16,8,7,6,5,4,0] [8,6,4] kr) ?_
  rintro ⟨mo15,y1,y2,y3,y4,y5,y6,y7,y8,y9,y10⟩ H
  have H : qg n mo15 x0 x1 y1 y2 y3 y4 y5 y6 y7 y8 y9 y10 = some o15 := H
  obtain _ | mo15 := mo15
  ·exact nN H
  rw [qg] at H
  refine gA 1 983537 336 ?_
  refine tS ?_
  obtain ⟨h1,H⟩ | ⟨h1,H⟩ := bC H
  ·refine nA h1 ?_
   refine Tr.exit ?_
   refine aJ ?_
   obtain rfl := si H
   have H := Ho15
   dsimp only at H
   exact jA (y2,y8,y9,y10) H [7,6,5,4] [6,4]
  refine tA h1 ?_
  refine tK ?_
  refine tS ?_
  refine tB ?_
  refine rA 1 ?_
  obtain ⟨v16,ev16,H⟩ := bs H
  refine iA Pt.row ev16 ?_
  refine uA 4 8325105 1360 ?_
  refine tS ?_
  refine rA 4 ?_
  refine sL 134154225 1360 ⟨68,0,[sB 26 (!v16.Up),sB 25 (!v16.Up),sB 24 v16.Up,sA 23 10 8 0,sI 9 y1,sA 10 10 8 0,sV 22 (Pt.row v16),(21,.fad ((Pt.row v16))),sI 20 y1,sB 19 (decide (y1 < (x1.length : Int))),sI 18 y1,sI 17 (x1.length : Int),sC 16 (cF 8 x1 Pt.row),sA 8 8 5 0,sI 7 y2,sA 6 6 5 0,sI 5 0,sA 4 4 5 0,sI 0 x0],[(10,(Pt.row v16)),(8,[cI y3,cI y4,cI y5,cI y6,cI y7]),(6,[cI y8,cI y9,cI y10,cI x0,cI 0]),(4,[cI 0,cI 0,cI 0,cI 0,cI 0])]⟩ ?_
  cases h2 : (!v16.Up)
  ·have H := zG h2 H
   refine uA 4 2147420145 1360 ?_
   obtain ⟨h3,H⟩ | ⟨h3,H⟩ := bC H
   ·refine nA h3 ?_
    refine tK ?_
    refine rA 4 ?_
    obtain ⟨r17,er17,H⟩ := bs H
    refine vA [.rd,.rd] (zJC n v16.Hd v16.Co r17 er17) ?_
    refine LAt.movT tOk (ty := 198) (t := 36) (d := 31) (g := none) [(true,(Vec.row r17.1)),(false,[cB r17.2])] _ kr (.inl rfl) kr kr kr kr rfl ?_
    refine uA 5 481036279793 3408 ?_
    refine tS ?_
    refine Tr.mid (ι := Bool × Bool × Bool × Bool × Bool × Bool × Bool) (fun v => ⟨68,0,[sB 54 v.1,sB 46 v.2.1,sB 45 v.2.2.1,sB 40 v.2.2.2.1,sB 39 v.2.2.2.2.1,sB 12 v.2.2.2.2.2.1,sA 11 11 5 0,sB 38 v.2.2.2.2.2.2,(31,.tup [(true,[.dead,.dead,.dead,.dead,.dead]),(false,[.dead])]),sV 37 (Vec.row r17.1),sI 35 v16.Co,sA 34 10 8 1,sV 33 ((Pt.row v16).drop 3),sA 32 10 8 3,sB 30 false,sB 29 false,sB 28 v16.Has,sA 27 10 8 2,sB 26 false,sB 25 false,sB 24 v16.Up,sA 23 10 8 0,sI 9 y1,sA 10 10 8 0,sV 22 (Pt.row v16),(21,.fad ((Pt.row v16))),sI 20 y1,sB 19 true,sI 18 y1,sI 17 (x1.length : Int),sC 16 (cF 8 x1 Pt.row),sA 8 8 5 0,sI 7 y2,sA 6 6 5 0,sI 5 0,sA 4 4 5 0,sI 0 x0],[(11,(Vec.row r17.1)),(10,(Pt.row v16)),(8,[cI y3,cI y4,cI y5,cI y6,cI y7]),(6,[cI y8,cI y9,cI y10,cI x0,cI 0]),(4,[cI 0,cI 0,cI 0,cI 0,cI 0])]⟩) (fun v => Z8 n (fun v => qg n mo15 x0 x1 v.1 v.2.1 v.2.2.1 v.2.2.2.1 v.2.2.2.2.1 v.2.2.2.2.2.1 v.2.2.2.2.2.2.1 v.2.2.2.2.2.2.2.1 v.2.2.2.2.2.2.2.2.1 v.2.2.2.2.2.2.2.2.2) r17 y1 y10 y2 y3 y4 y5 y6 y7 y8 y9 v.1 v.2.1 v.2.2.1 v.2.2.2.1 v.2.2.2.2.1 v.2.2.2.2.2.1 v.2.2.2.2.2.2 = some o15) ?_ ?_
    ·refine Tr.at ?_
     refine lA 2 ?_
     refine sL 2130303721457 3408 ⟨68,0,[sB 40 r17.2,sB 39 r17.2,sB 12 r17.2,sA 11 11 5 0,sB 38 r17.2,(31,.tup [(true,[.dead,.dead,.dead,.dead,.dead]),(false,[.dead])]),sV 37 (Vec.row r17.1),sI 35 v16.Co,sA 34 10 8 1,sV 33 ((Pt.row v16).drop 3),sA 32 10 8 3,sB 30 (!v16.Has),sB 29 (!v16.Has),sB 28 v16.Has,sA 27 10 8 2,sB 26 false,sB 25 false,sB 24 v16.Up,sA 23 10 8 0,sI 9 y1,sA 10 10 8 0,sV 22 (Pt.row v16),(21,.fad ((Pt.row v16))),sI 20 y1,sB 19 (decide (y1 < (x1.length : Int))),sI 18 y1,sI 17 (x1.length : Int),sC 16 (cF 8 x1 Pt.row),sA 8 8 5 0,sI 7 y2,sA 6 6 5 0,sI 5 0,sA 4 4 5 0,sI 0 x0],[(11,(Vec.row r17.1)),(10,(Pt.row v16)),(8,[cI y3,cI y4,cI y5,cI y6,cI y7]),(6,[cI y8,cI y9,cI y10,cI x0,cI 0]),(4,[cI 0,cI 0,cI 0,cI 0,cI 0])]⟩ ?_
     cases h5 : r17.2
     ·have H := zG h5 H
      refine uA 14 0x7fffefffff1ff1 3408 ?_
      refine sB' 0x7fffefffff1ff1 3408 ⟨68,0,[sB 54 false,(53,.tup []),(52,.tup []),(51,.tup []),(50,.tup []),(49,.tup []),(48,.tup []),(47,.tup []),sB 46 false,sB 45 false,(44,.tup []),(43,.tup []),(42,.tup []),(41,.tup []),sB 40 false,sB 39 false,sB 12 false,sA 11 11 5 0,sB 38 false,(31,.tup [(true,[.dead,.dead,.dead,.dead,.dead]),(false,[.dead])]),sV 37 (Vec.row r17.1),sI 35 v16.Co,sA 34 10 8 1,sV 33 ((Pt.row v16).drop 3),sA 32 10 8 3,sB 30 (!v16.Has),sB 29 (!v16.Has),sB 28 v16.Has,sA 27 10 8 2,sB 26 false,sB 25 false,sB 24 v16.Up,sA 23 10 8 0,sI 9 y1,sA 10 10 8 0,sV 22 (Pt.row v16),(21,.fad ((Pt.row v16))),sI 20 y1,sB 19 (decide (y1 < (x1.length : Int))),sI 18 y1,sI 17 (x1.length : Int),sC 16 (cF 8 x1 Pt.row),sA 8 8 5 0,sI 7 y2,sA 6 6 5 0,sI 5 0,sA 4 4 5 0,sI 0 x0],[(11,(Vec.row r17.1)),(10,(Pt.row v16)),(8,[cI y3,cI y4,cI y5,cI y6,cI y7]),(6,[cI y8,cI y9,cI y10,cI x0,cI 0]),(4,[cI 0,cI 0,cI 0,cI 0,cI 0])]⟩ ?_
      rw [h1]
      rw [h3]
      exact jA (false,false,false,false,false,false,false) H [54,46,45,40,39,12,11,38,31,37,35,34,33,32,30,29,28,27,26,25,24,23,9,10,22,21,20,19,18,17,16,8,7,6,5,4,0] [11,10,8,6,4]
     have H := zH h5 H
     refine lA 6 ?_
     refine sL 0x7fefffff1ff1 3408 ⟨68,0,[sB 46 (decide (r17.1.Root < x0)),sB 45 (decide (r17.1.Root < x0)),sB 44 (decide (r17.1.Root < x0)),sI 43 x0,sI 42 r17.1.Root,sA 41 11 5 0,sB 40 true,sB 39 true,sB 12 true,sA 11 11 5 0,sB 38 true,(31,.tup [(true,[.dead,.dead,.dead,.dead,.dead]),(false,[.dead])]),sV 37 (Vec.row r17.1),sI 35 v16.Co,sA 34 10 8 1,sV 33 ((Pt.row v16).drop 3),sA 32 10 8 3,sB 30 (!v16.Has),sB 29 (!v16.Has),sB 28 v16.Has,sA 27 10 8 2,sB 26 false,sB 25 false,sB 24 v16.Up,sA 23 10 8 0,sI 9 y1,sA 10 10 8 0,sV 22 (Pt.row v16),(21,.fad ((Pt.row v16))),sI 20 y1,sB 19 (decide (y1 < (x1.length : Int))),sI 18 y1,sI 17 (x1.length : Int),sC 16 (cF 8 x1 Pt.row),sA 8 8 5 0,sI 7 y2,sA 6 6 5 0,sI 5 0,sA 4 4 5 0,sI 0 x0],[(11,(Vec.row r17.1)),(10,(Pt.row v16)),(8,[cI y3,cI y4,cI y5,cI y6,cI y7]),(6,[cI y8,cI y9,cI y10,cI x0,cI 0]),(4,[cI 0,cI 0,cI 0,cI 0,cI 0])]⟩ ?_
     cases h6 : (decide (r17.1.Root < x0))
     ·have H := zG h6 H
      refine uA 8 0x7fffefffff1ff1 3408 ?_
      refine sB' 0x7fffefffff1ff1 3408 ⟨68,0,[sB 54 false,(53,.tup []),(52,.tup []),(51,.tup []),(50,.tup []),(49,.tup []),(48,.tup []),(47,.tup []),sB 46 false,sB 45 false,sB 44 false,sI 43 x0,sI 42 r17.1.Root,sA 41 11 5 0,sB 40 true,sB 39 true,sB 12 true,sA 11 11 5 0,sB 38 true,(31,.tup [(true,[.dead,.dead,.dead,.dead,.dead]),(false,[.dead])]),sV 37 (Vec.row r17.1),sI 35 v16.Co,sA 34 10 8 1,sV 33 ((Pt.row v16).drop 3),sA 32 10 8 3,sB 30 (!v16.Has),sB 29 (!v16.Has),sB 28 v16.Has,sA 27 10 8 2,sB 26 false,sB 25 false,sB 24 v16.Up,sA 23 10 8 0,sI 9 y1,sA 10 10 8 0,sV 22 (Pt.row v16),(21,.fad ((Pt.row v16))),sI 20 y1,sB 19 (decide (y1 < (x1.length : Int))),sI 18 y1,sI 17 (x1.length : Int),sC 16 (cF 8 x1 Pt.row),sA 8 8 5 0,sI 7 y2,sA 6 6 5 0,sI 5 0,sA 4 4 5 0,sI 0 x0],[(11,(Vec.row r17.1)),(10,(Pt.row v16)),(8,[cI y3,cI y4,cI y5,cI y6,cI y7]),(6,[cI y8,cI y9,cI y10,cI x0,cI 0]),(4,[cI 0,cI 0,cI 0,cI 0,cI 0])]⟩ ?_
      rw [h1]
      rw [h3]
      exact jA (false,false,false,true,true,true,true) H [54,46,45,40,39,12,11,38,31,37,35,34,33,32,30,29,28,27,26,25,24,23,9,10,22,21,20,19,18,17,16,8,7,6,5,4,0] [11,10,8,6,4]
     have H := zH h6 H
     refine lA 3 ?_
     refine sL 0x3ffefffff1ff1 3408 ⟨68,0,[sB 49 (decide (y2 < 0)),sB 48 (decide (y2 < 0)),sI 47 y2,sB 46 true,sB 45 true,sB 44 true,sI 43 x0,sI 42 r17.1.Root,sA 41 11 5 0,sB 40 true,sB 39 true,sB 12 true,sA 11 11 5 0,sB 38 true,(31,.tup [(true,[.dead,.dead,.dead,.dead,.dead]),(false,[.dead])]),sV 37 (Vec.row r17.1),sI 35 v16.Co,sA 34 10 8 1,sV 33 ((Pt.row v16).drop 3),sA 32 10 8 3,sB 30 (!v16.Has),sB 29 (!v16.Has),sB 28 v16.Has,sA 27 10 8 2,sB 26 false,sB 25 false,sB 24 v16.Up,sA 23 10 8 0,sI 9 y1,sA 10 10 8 0,sV 22 (Pt.row v16),(21,.fad ((Pt.row v16))),sI 20 y1,sB 19 (decide (y1 < (x1.length : Int))),sI 18 y1,sI 17 (x1.length : Int),sC 16 (cF 8 x1 Pt.row),sA 8 8 5 0,sI 7 y2,sA 6 6 5 0,sI 5 0,sA 4 4 5 0,sI 0 x0],[(11,(Vec.row r17.1)),(10,(Pt.row v16)),(8,[cI y3,cI y4,cI y5,cI y6,cI y7]),(6,[cI y8,cI y9,cI y10,cI x0,cI 0]),(4,[cI 0,cI 0,cI 0,cI 0,cI 0])]⟩ ?_
     cases h7 : (decide (y2 < 0))
     ·have H := zG h7 H
      refine lA 2 ?_
      obtain ⟨r25,er25,H⟩ := bs H
      refine vA [.rd,.rd] (zFK n r17.1 (⟨y3,y4,y5,y6,y7⟩ : Vec) r25 er25) ?_
      refine uA 2 0x7fffefffff1ff1 3408 ?_
      refine sB' 0x7fffefffff1ff1 3408 ⟨68,0,[sB 54 r25,sB 53 r25,sB 52 r25,sV 51 [cI y3,cI y4,cI y5,cI y6,cI y7],sV 50 (Vec.row r17.1),sB 49 false,sB 48 false,sI 47 y2,sB 46 true,sB 45 true,sB 44 true,sI 43 x0,sI 42 r17.1.Root,sA 41 11 5 0,sB 40 true,sB 39 true,sB 12 true,sA 11 11 5 0,sB 38 true,(31,.tup [(true,[.dead,.dead,.dead,.dead,.dead]),(false,[.dead])]),sV 37 (Vec.row r17.1),sI 35 v16.Co,sA 34 10 8 1,sV 33 ((Pt.row v16).drop 3),sA 32 10 8 3,sB 30 (!v16.Has),sB 29 (!v16.Has),sB 28 v16.Has,sA 27 10 8 2,sB 26 false,sB 25 false,sB 24 v16.Up,sA 23 10 8 0,sI 9 y1,sA 10 10 8 0,sV 22 (Pt.row v16),(21,.fad ((Pt.row v16))),sI 20 y1,sB 19 (decide (y1 < (x1.length : Int))),sI 18 y1,sI 17 (x1.length : Int),sC 16 (cF 8 x1 Pt.row),sA 8 8 5 0,sI 7 y2,sA 6 6 5 0,sI 5 0,sA 4 4 5 0,sI 0 x0],[(11,(Vec.row r17.1)),(10,(Pt.row v16)),(8,[cI y3,cI y4,cI y5,cI y6,cI y7]),(6,[cI y8,cI y9,cI y10,cI x0,cI 0]),(4,[cI 0,cI 0,cI 0,cI 0,cI 0])]⟩ ?_
      rw [h1]
      rw [h3]
      exact jA (r25,true,true,true,true,true,true) H [54,46,45,40,39,12,11,38,31,37,35,34,33,32,30,29,28,27,26,25,24,23,9,10,22,21,20,19,18,17,16,8,7,6,5,4,0] [11,10,8,6,4]
     have H := zH h7 H
     refine uA 5 0x7fffefffff1ff1 3408 ?_
     refine sB' 0x7fffefffff1ff1 3408 ⟨68,0,[sB 54 true,sB 53 true,(52,.tup []),(51,.tup []),(50,.tup []),sB 49 true,sB 48 true,sI 47 y2,sB 46 true,sB 45 true,sB 44 true,sI 43 x0,sI 42 r17.1.Root,sA 41 11 5 0,sB 40 true,sB 39 true,sB 12 true,sA 11 11 5 0,sB 38 true,(31,.tup [(true,[.dead,.dead,.dead,.dead,.dead]),(false,[.dead])]),sV 37 (Vec.row r17.1),sI 35 v16.Co,sA 34 10 8 1,sV 33 ((Pt.row v16).drop 3),sA 32 10 8 3,sB 30 (!v16.Has),sB 29 (!v16.Has),sB 28 v16.Has,sA 27 10 8 2,sB 26 false,sB 25 false,sB 24 v16.Up,sA 23 10 8 0,sI 9 y1,sA 10 10 8 0,sV 22 (Pt.row v16),(21,.fad ((Pt.row v16))),sI 20 y1,sB 19 (decide (y1 < (x1.length : Int))),sI 18 y1,sI 17 (x1.length : Int),sC 16 (cF 8 x1 Pt.row),sA 8 8 5 0,sI 7 y2,sA 6 6 5 0,sI 5 0,sA 4 4 5 0,sI 0 x0],[(11,(Vec.row r17.1)),(10,(Pt.row v16)),(8,[cI y3,cI y4,cI y5,cI y6,cI y7]),(6,[cI y8,cI y9,cI y10,cI x0,cI 0]),(4,[cI 0,cI 0,cI 0,cI 0,cI 0])]⟩ ?_
     rw [h1]
     rw [h3]
     exact jA (true,true,true,true,true,true,true) H [54,46,45,40,39,12,11,38,31,37,35,34,33,32,30,29,28,27,26,25,24,23,9,10,22,21,20,19,18,17,16,8,7,6,5,4,0] [11,10,8,6,4]
    rintro ⟨y18,y19,y20,y21,y22,y23,y24⟩ H
    have H : (Z8 n (fun v => qg n mo15 x0 x1 v.1 v.2.1 v.2.2.1 v.2.2.2.1 v.2.2.2.2.1 v.2.2.2.2.2.1 v.2.2.2.2.2.2.1 v.2.2.2.2.2.2.2.1 v.2.2.2.2.2.2.2.2.1 v.2.2.2.2.2.2.2.2.2) r17 y1 y10 y2 y3 y4 y5 y6 y7 y8 y9 y18 y19 y20 y21 y22 y23 y24) = some o15 := H
    unfold Z8 at H
    cases h4 : y18
    ·have H := zG h4 H
     refine nB_ ?_
     refine tK ?_
     refine eA 2 0x2004061efffff1ff1 3408 ?_
     exact jB mo15 ((IntKind.wrap .i64 (y1 + 1)),y2,y3,y4,y5,y6,y7,y8,y9,y10) H [18,17,16,8,7,6,5,4,0] [8,6,4]
    have H := zH h4 H
    refine tB_ ?_
    refine gA 4 0x1c061efffff1ff1 3408 ?_
    refine eA 9 0x1ffc061efffff1ff1 3408 ?_
    refine eA 2 0x3ffc061efffff1ff1 3408 ?_
    exact jB mo15 ((IntKind.wrap .i64 (y1 + 1)),y1,r17.1.Root,r17.1.Co,r17.1.Hops,r17.1.Bridge,r17.1.Port,r17.1.Root,r17.1.Co,r17.1.Hops) H [18,17,16,8,7,6,5,4,0] [8,6,4]
   refine tA h3 ?_
   refine Tr.exit ?_
   refine aJ ?_
   refine eA 2 0x2000000007fff07f1 1360 ?_
   exact jB mo15 ((IntKind.wrap .i64 (y1 + 1)),y2,y3,y4,y5,y6,y7,y8,y9,y10) H [18,17,16,8,7,6,5,4,0] [8,6,4]
  have H := zH h2 H
  refine uA 4 2147420145 1360 ?_
  refine tB_ ?_
  refine Tr.exit ?_
  refine aJ ?_
  refine eA 2 0x2000000007fff07f1 1360 ?_
  exact jB mo15 ((IntKind.wrap .i64 (y1 + 1)),y2,y3,y4,y5,y6,y7,y8,y9,y10) H [18,17,16,8,7,6,5,4,0] [8,6,4]
 rintro ⟨y11,y12,y13,y14⟩ H
 have H : (Jx n x0 y11 y12 y13 y14) = some r := H
 unfold Jx at H
 refine gA 4 48 16 ?_
 exact te (fJ [(true,[cI y12,cI y13,cI y14,cI x0,cI 0]),(false,[cI y11])] H)
def JG (n : Nat) (x0 : Int) (x1 : (List Pt)) (x2 : Int) : Option (Vec) :=
  ((Yp n x0 x1).bind fun r1 => (some (⟨r1.1.Root,r1.1.Co,r1.1.Hops,r1.1.Bridge,x2⟩ : Vec)))
theorem zGL (n : Nat) (x0 : Int) (x1 : (List Pt)) (x2 : Int) (r : Vec) (H : JG n x0 x1 x2 = some r) : zI Try.prog 113 [.val false [.lit (.int .i64 x0)],.val false [.sl false 8 (CV.frzEs (x1.map Pt.row))],.val false [.lit (.int .i64 x2)]] [.val true (Vec.row r)] [] := by
 refine cW Try.func113 (fun g d => sl [g 0,g 1,g 2,g 3] .ret) [.cell 6 46] fun cx => ?_
 unfold JG at H
 refine gA 1 71 64 ?_
 refine rA 2 ?_
 obtain ⟨r1,er1,H⟩ := bs H
 refine vA [.rd,.rd] (zFI n x0 x1 r1 er1) ?_
 refine LAt.movT tOk (ty := 157) (t := 12) (d := 9) (g := none) [(true,(Vec.row r1.1)),(false,[cI r1.2])] _ kr (.inl rfl) kr kr kr kr rfl ?_
 refine uA 5 196 192 ?_
 refine gA 3 192 192 ?_
 refine gA 2 64 64 ?_
 exact te (fJ [(true,[cI r1.1.Root,cI r1.1.Co,cI r1.1.Hops,cI r1.1.Bridge,cI x2])] H)
def Zf (n : Nat) (x0 : Net) (x1 : Int) (x2 : Int) : Option (Vec) :=
  ((idx x0.Bs x1).bind fun v1 => ((idx x0.Bs x1).bind fun v2 => ((JG n v1.Id v2.Ps x2).bind fun r3 => (some r3))))
def zNZ : Tab := ⟨15,[0,1,0,6,8,16,0,64,0,384,512,1024,0,6176,16383],[0,1,0,6,8,16,0,64,0,384,512,1024,0,6176,8192],[0,1,0,7,15,31,0,64,0,448,960,1984,0,8191,16383]⟩
theorem zDe : zk (rg Try.f79 1) zNZ = true := kr
theorem zCW (n : Nat) (x0 : Net) (x1 : Int) (x2 : Int) (r : Vec) (H : Zf n x0 x1 x2 = some r) : zI Try.prog 79 [.val true (CV.frzRow (Net.row x0)),.val false [.lit (.int .i64 x1)],.val false [.lit (.int .i64 x2)]] [.val true (Vec.row r)] [] := by
 refine cW Try.func79 (fun g d => sl [g 0,d 1] .ret) [.cell 6 46] fun cx => ?_
 unfold Zf at H
 refine gA 2 78 72 ?_
 obtain ⟨v1,ev1,H⟩ := bs H
 obtain ⟨v2,ev2,H⟩ := bs H
 obtain ⟨r3,er3,H⟩ := bs H
 refine Tr.draws mixed 15 kr ⟨21,0,[sA 6 6 5 0],[(6,(Vec.row r3))]⟩ (fun cx => ?_) ?_
 ·refine mA zDe [(0,[]),(1,[13,14]),(2,[])] 12 [⟨[13,14],53,7,8⟩] fun cx => ?_
  refine iN zDe 3 zA.row ev1 fun cx => ?_
  refine mA zDe [(4,[]),(5,[]),(6,[]),(7,[13,14]),(8,[])] 6 [⟨[13,14],53,13,14⟩,⟨[13,14],53,7,8⟩] fun cx => ?_
  refine iN zDe 9 zA.row ev2 fun cx => ?_
  refine mA zDe [(10,[]),(11,[]),(12,[])] 2 [⟨[13,14],53,13,14⟩,⟨[13,14],53,7,8⟩] fun cx => ?_
  refine mC zDe 13 ?_
  refine vA [.rd,.rd,.rd] (zGL n v1.Id v2.Ps x2 r3 er3) ?_
  refine fA ?_
  refine mC zDe 14 ?_
  refine lA 1 ?_
  refine fA ?_
  exact mE zDe [6] [6]
 exact te (fJ [(true,(Vec.row r3))] H)
def JJ (n : Nat) (x0 : zA) (x1 : Int) : Option (Bool) :=
  ((Qd n x0).bind fun r1 => (bif r1 then ((qO n x1 0 (IntKind.wrap .i64 ((x0.Ps.length : Int) - 1))).bind fun r2 => (some r2)) else (some false)))
theorem zJp (n : Nat) (x0 : zA) (x1 : Int) (r : Bool) (H : JJ n x0 x1 = some r) : zI Try.prog 54 [.val true (CV.frzRow (zA.row x0)),.val false [.lit (.int .i64 x1)]] [.val false [.lit (.bool r)]] [] := by
 refine cW Try.func54 (fun g d => sl [g 0,g 1] .ret) [.tmp 4] fun cx => ?_
 unfold JJ at H
 refine gA 2 6 4 ?_
 refine rA 1 ?_
 obtain ⟨r1,er1,H⟩ := bs H
 refine vA [.rd] (zEy n x0 r1 er1) ?_
 refine lA 1 ?_
 refine sL 134 4 ⟨15,0,[sB 7 r1,sA 2 2 11 0,sI 1 x1],[(2,(CV.frzRow (zA.row x0)))]⟩ ?_
 cases h1 : r1
 ·have H := zG h1 H
  refine uA 8 16 0 ?_
  exact te (fF H)
 have H := zH h1 H
 refine lA 3 ?_
 refine kF x0.Ps Pt.row ?_
 refine lA 1 ?_
 obtain ⟨r2,er2,H⟩ := bs H
 refine vA [.rd,.rd,.rd] (qY n x1 0 (IntKind.wrap .i64 ((x0.Ps.length : Int) - 1)) r2 er2) ?_
 refine uA 2 16 0 ?_
 exact te (fJ [(false,[cB r2])] H)
def zAa (n : Nat) (x0 : Int) : Option (Int) :=
  (some (if 1000000 < (IntKind.wrap .i64 (x0 + 1)) then 1000000 else (IntKind.wrap .i64 (x0 + 1))))
theorem zLN (n : Nat) (x0 : Int) (r : Int) (H : zAa n x0 = some r) : zI Try.prog 56 [.val false [.lit (.int .i64 x0)]] [.val false [.lit (.int .i64 r)]] [] := by
 refine cW Try.func56 (fun g d => sl [g 0,g 1] .ret) [.tmp 2] fun cx => ?_
 unfold zAa at H
 refine gA 1 1 0 ?_
 refine gA 4 4 0 ?_
 exact te (fJ [(false,[cI (if 1000000 < (IntKind.wrap .i64 (x0 + 1)) then 1000000 else (IntKind.wrap .i64 (x0 + 1)))])] H)
def zAC (n : Nat) (x0 : Int) (x1 : (List Pt)) (x2 : Int) : Option (Int) :=
  ((qO n x2 0 (IntKind.wrap .i64 ((x1.length : Int) - 1))).bind fun r1 => (bif (!r1) then (some 4) else ((idx x1 x2).bind fun v2 => (bif (!v2.Up) then (some 4) else ((Yp n x0 x1).bind fun r3 => (bif (r3.2 == x2) then (some 1) else ((idx x1 x2).bind fun v4 => (bif (!v4.Has) then (some 2) else ((JG n x0 x1 x2).bind fun r5 => ((idx x1 x2).bind fun v6 => ((Jj n r5 v6.Hd).bind fun r7 => (bif r7 then (some 2) else (some 3)))))))))))))
def zNT : Tab := ⟨19,[0,0,3,4,8,16,32,64,64,64,960,64,64,6208,8256,16448,33856,65600,196608],[0,0,3,4,8,16,32,64,64,64,960,64,64,6208,8256,16448,33856,65600,131072],[0,0,3,7,15,31,63,127,127,127,1023,127,127,6271,14463,30847,65535,131071,262143]⟩
theorem JY : zk (rg Try.f59 6) zNT = true := kr
theorem zJl (n : Nat) (x0 : Int) (x1 : (List Pt)) (x2 : Int) (r : Int) (H : zAC n x0 x1 x2 = some r) : zI Try.prog 59 [.val false [.lit (.int .i64 x0)],.val false [.sl false 8 (CV.frzEs (x1.map Pt.row))],.val false [.lit (.int .i64 x2)]] [.val false [.lit (.int .i64 r)]] [] := by
 refine cW Try.func59 (fun g d => sl [g 0,sl [g 1] (cn 22 (sl [g 2] .ret) .skip),g 3,.block 0 (sl [g 4] (cn 29 (sl [g 5] .ret) (sl [d 6] (cn 33 (sl [g 7] .ret) .skip)))),g 8] .ret) [.tmp 6] fun cx => ?_
 unfold zAC at H
 refine gA 1 7 0 ?_
 refine tS ?_
 refine rA 2 ?_
 refine kF x1 Pt.row ?_
 refine lA 1 ?_
 obtain ⟨r1,er1,H⟩ := bs H
 refine vA [.rd,.rd,.rd] (qY n x2 0 (IntKind.wrap .i64 ((x1.length : Int) - 1)) r1 er1) ?_
 refine lA 2 ?_
 refine sL 32775 0 ⟨52,0,[sB 15 (!r1),sI 0 x0,sC 1 (cF 8 x1 Pt.row),sI 2 x2],[]⟩ ?_
 cases h1 : (!r1)
 ·have H := zG h1 H
  refine lA 2 ?_
  obtain ⟨v2,ev2,H⟩ := bs H
  refine iA Pt.row ev2 ?_
  refine uA 4 4194311 0 ?_
  obtain ⟨h2,H⟩ | ⟨h2,H⟩ := bC H
  ·refine nA h2 ?_
   refine tK ?_
   refine rA 2 ?_
   obtain ⟨r3,er3,H⟩ := bs H
   refine vA [.rd,.rd] (zFI n x0 x1 r3 er3) ?_
   refine LAt.movT tOk (ty := 157) (t := 26) (d := 23) (g := none) [(true,(Vec.row r3.1)),(false,[cI r3.2])] _ kr (.inl rfl) kr kr kr kr rfl ?_
   refine uA 5 263 0 ?_
   refine tS ?_
   refine tB ?_
   refine gA 4 536870919 0 ?_
   obtain ⟨h3,H⟩ | ⟨h3,H⟩ := bC H
   ·refine nA h3 ?_
    obtain ⟨v4,ev4,H⟩ := bs H
    refine sT ⟨52,0,[sB 29 (r3.2 == x2),sI 0 x0,sC 1 (cF 8 x1 Pt.row),sI 2 x2],[]⟩ ?_
    cases h4 : (!v4.Has)
    ·have H := zG h4 H
     obtain ⟨r5,er5,H⟩ := bs H
     obtain ⟨v6,ev6,H⟩ := bs H
     obtain ⟨r7,er7,H⟩ := bs H
     refine Tr.draws mixed 19 kr ⟨52,0,[sB 33 r7],[]⟩ (fun cx => ?_) ?_
     ·refine mA JY [(0,[]),(1,[])] 17 [] fun cx => ?_
      refine iN JY 2 Pt.row ev4 fun cx => ?_
      refine mA JY [(3,[]),(4,[]),(5,[]),(6,[])] 12 [] fun cx => ?_
      refine sA_ 1099511627783 0 ⟨52,0,[sB 40 (!v4.Has),sI 0 x0,sC 1 (cF 8 x1 Pt.row),sI 2 x2],[]⟩ ?_
      rw [h4]
      refine mA JY [(7,[]),(8,[]),(9,[]),(11,[]),(12,[])] 7 [] fun cx => ?_
      refine iN JY 13 Pt.row ev6 fun cx => ?_
      refine mA JY [(14,[]),(15,[])] 4 [] fun cx => ?_
      refine mC JY 10 ?_
      refine vA [.rd,.rd,.rd] (zGL n x0 x1 x2 r5 er5) ?_
      refine fA ?_
      refine mC JY 16 ?_
      refine vA [.rd,.rd] (zFK n r5 v6.Hd r7 er7) ?_
      refine fA ?_
      refine mA JY [(17,[]),(18,[])] 0 [] fun cx => ?_
      exact mE JY [33] []
     cases h5 : r7
     ·have H := zG h5 H
      refine nB_ ?_
      refine tK ?_
      refine gA 1 64 0 ?_
      exact te (fJ [(false,[cI 3])] H)
     have H := zH h5 H
     refine tB_ ?_
     refine gA 1 64 0 ?_
     exact te (fJ [(false,[cI 2])] H)
    have H := zH h4 H
    refine Tr.draws mixed 19 kr ⟨52,0,[sB 33 true],[]⟩ (fun cx => ?_) ?_
    ·refine mA JY [(0,[]),(1,[])] 17 [] fun cx => ?_
     refine iN JY 2 Pt.row ev4 fun cx => ?_
     refine mA JY [(3,[]),(4,[]),(5,[]),(6,[])] 12 [] fun cx => ?_
     refine sA_ 1099511627783 0 ⟨52,0,[sB 40 (!v4.Has),sI 0 x0,sC 1 (cF 8 x1 Pt.row),sI 2 x2],[]⟩ ?_
     rw [h4]
     refine mA JY [(7,[]),(8,[]),(9,[]),(10,[]),(11,[]),(12,[]),(13,[]),(14,[]),(15,[]),(16,[]),(17,[]),(18,[])] 0 [] fun cx => ?_
     exact mE JY [33] []
    refine tB_ ?_
    refine gA 1 64 0 ?_
    exact te (fJ [(false,[cI 2])] H)
   refine tA h3 ?_
   refine gA 1 64 0 ?_
   exact te (fJ [(false,[cI 1])] H)
  refine tA h2 ?_
  refine gA 1 64 0 ?_
  exact te (fJ [(false,[cI 4])] H)
 have H := zH h1 H
 refine uA 7 4194311 0 ?_
 refine tB_ ?_
 refine gA 1 64 0 ?_
 exact te (fJ [(false,[cI 4])] H)
def zA5 (n : Nat) (y3 : Int) : Option (Int) :=
  (some y3)
def Zq (n : Nat) : Nat → Int → (List Pt) → Int → Int → Option ((Int) ⊕ (Int))
  | 0,_,_,_,_ => none
  | mo4 + 1,x0,x1,y1,y2 => (bif (decide (y1 < (x1.length : Int))) then (bif (decide (y1 < 6)) then ((zAC n x0 x1 y1).bind fun r5 => (bif (r5 == 1) then (bif (decide ((0 : Int) ≤ y1)) then (Zq n mo4 x0 x1 (IntKind.wrap .i64 (y1 + 1)) (IntKind.wrap .i64 (BitVec.ofInt (IntKind.bits .i64) y2 ||| BitVec.ofInt (IntKind.bits .i64) (IntKind.wrap .i64 (1 * 2 ^ min ((y1 : Int)).toNat (IntKind.bits .i64)))).toNat)) else none) else (bif (r5 == 2) then (bif (decide ((0 : Int) ≤ y1)) then (Zq n mo4 x0 x1 (IntKind.wrap .i64 (y1 + 1)) (IntKind.wrap .i64 (BitVec.ofInt (IntKind.bits .i64) y2 ||| BitVec.ofInt (IntKind.bits .i64) (IntKind.wrap .i64 (1 * 2 ^ min ((y1 : Int)).toNat (IntKind.bits .i64)))).toNat)) else none) else (Zq n mo4 x0 x1 (IntKind.wrap .i64 (y1 + 1)) y2)))) else (some (Sum.inl y2))) else (some (Sum.inl y2)))
def Y6 (n : Nat) (x0 : Int) (x1 : (List Pt)) : Option (Int) :=
  ((Zq n n x0 x1 0 0).bind fun o => match o with | .inl y3 => (zA5 n y3) | .inr r => some r)
theorem zHD (n : Nat) (x0 : Int) (x1 : (List Pt)) (r : Int) (H : Y6 n x0 x1 = some r) : zI Try.prog 22 [.val false [.lit (.int .i64 x0)],.val false [.sl false 8 (CV.frzEs (x1.map Pt.row))]] [.val false [.lit (.int .i64 r)]] [] := by
 refine cW Try.func22 (fun g d => sl [g 0,g 1,sl [g 2] (.block 0 (.loop (sl [sl [g 3] (cn 15 .skip (.exit 0)),.block 1 (sl [g 5,g 6] (cn 27 (g 7) .skip))] (g 4)))),g 8] .ret) [.tmp 4] fun cx => ?_
 unfold Y6 at H
 refine gA 1 3 0 ?_
 refine gA 1 35 0 ?_
 refine tS ?_
 refine gA 1 99 0 ?_
 obtain ⟨o4,eo4,Ho4⟩ := bs H
 clear H
 refine Tr.mid (ι := Int) (fun v => ⟨33,0,[sI 5 v],[]⟩) (fun v => zA5 n v = some r) ?_ ?_
 ·refine tB ?_
  refine Tr.loop (ι := Nat × (Int × Int)) (fun v => ⟨33,0,[sI 6 v.2.1,sI 5 v.2.2,sI 0 x0,sC 1 (cF 8 x1 Pt.row)],[]⟩) (fun v => Zq n v.1 x0 x1 v.2.1 v.2.2 = some o4) (fun v => v.1) (n,(0,0)) eo4 (St.sub_of [6,5,0,1] [] kr) ?_
  rintro ⟨mo4,y1,y2⟩ H
  have H : Zq n mo4 x0 x1 y1 y2 = some o4 := H
  obtain _ | mo4 := mo4
  ·exact nN H
  rw [Zq] at H
  refine tS ?_
  refine rA 2 ?_
  refine kF x1 Pt.row ?_
  refine lA 2 ?_
  refine sL 4195 0 ⟨33,0,[sB 12 (decide (y1 < (x1.length : Int))),sI 6 y1,sI 5 y2,sI 0 x0,sC 1 (cF 8 x1 Pt.row)],[]⟩ ?_
  cases h1 : (decide (y1 < (x1.length : Int)))
  ·have H := zG h1 H
   refine uA 3 32867 0 ?_
   refine nB_ ?_
   refine Tr.exit ?_
   refine aJ ?_
   obtain rfl := si H
   have H := Ho4
   dsimp only at H
   exact jA y2 H [5] []
  have H := zH h1 H
  refine uA 3 32867 0 ?_
  obtain ⟨h2,H⟩ | ⟨h2,H⟩ := bC H
  ·refine nA h2 ?_
   refine Tr.exit ?_
   refine aJ ?_
   obtain rfl := si H
   have H := Ho4
   dsimp only at H
   exact jA y2 H [5] []
  refine tA h2 ?_
  refine tK ?_
  refine tS ?_
  refine tB ?_
  refine rA 3 ?_
  obtain ⟨r5,er5,H⟩ := bs H
  refine vA [.rd,.rd,.rd] (zJl n x0 x1 y1 r5 er5) ?_
  refine uA 1 227 0 ?_
  refine rA 3 ?_
  refine sL 16777443 0 ⟨33,0,[sB 24 (r5 == 1),sI 7 r5,sI 6 y1,sI 5 y2,sI 0 x0,sC 1 (cF 8 x1 Pt.row)],[]⟩ ?_
  cases h3 : (r5 == 1)
  ·have H := zG h3 H
   refine uA 3 134217827 0 ?_
   obtain ⟨h4,H⟩ | ⟨h4,H⟩ := bC H
   ·refine nA h4 ?_
    refine tK ?_
    refine eA 3 99 0 ?_
    exact jB mo4 ((IntKind.wrap .i64 (y1 + 1)),y2) H [6,5,0,1] []
   refine tA h4 ?_
   refine Tr.at ?_
   refine lA 2 ?_
   obtain ⟨hg6,H⟩ := gs H
   refine LAt.binC tOk (op := .shl) (t := 3) (ty := 3) (ty' := 3) (x := (.const (.int .i64 1))) (y := (.tmp 29)) (d := 30) (g := none) (.int .i64 1) (.int .i64 y1) (.int .i64 (IntKind.wrap .i64 (1 * 2 ^ min ((y1 : Int)).toNat (IntKind.bits .i64)))) _ kr kr kr kr kr (φ := (0 : Int) ≤ y1) kr (of_decide_eq_true hg6) rfl ?_
   refine uA 2 99 0 ?_
   refine eA 3 99 0 ?_
   exact jB mo4 ((IntKind.wrap .i64 (y1 + 1)),(IntKind.wrap .i64 (BitVec.ofInt (IntKind.bits .i64) y2 ||| BitVec.ofInt (IntKind.bits .i64) (IntKind.wrap .i64 (1 * 2 ^ min ((y1 : Int)).toNat (IntKind.bits .i64)))).toNat)) H [6,5,0,1] []
  have H := zH h3 H
  refine uA 3 134217827 0 ?_
  refine tB_ ?_
  refine Tr.at ?_
  refine lA 2 ?_
  obtain ⟨hg7,H⟩ := gs H
  refine LAt.binC tOk (op := .shl) (t := 3) (ty := 3) (ty' := 3) (x := (.const (.int .i64 1))) (y := (.tmp 29)) (d := 30) (g := none) (.int .i64 1) (.int .i64 y1) (.int .i64 (IntKind.wrap .i64 (1 * 2 ^ min ((y1 : Int)).toNat (IntKind.bits .i64)))) _ kr kr kr kr kr (φ := (0 : Int) ≤ y1) kr (of_decide_eq_true hg7) rfl ?_
  refine uA 2 99 0 ?_
  refine eA 3 99 0 ?_
  exact jB mo4 ((IntKind.wrap .i64 (y1 + 1)),(IntKind.wrap .i64 (BitVec.ofInt (IntKind.bits .i64) y2 ||| BitVec.ofInt (IntKind.bits .i64) (IntKind.wrap .i64 (1 * 2 ^ min ((y1 : Int)).toNat (IntKind.bits .i64)))).toNat)) H [6,5,0,1] []
 rintro y3 H
 have H : (zA5 n y3) = some r := H
 unfold zA5 at H
 refine gA 2 16 0 ?_
 exact te (fJ [(false,[cI y3])] H)
def QK (n : Nat) (x0 : Int) (x1 : Int) : Option (Bool) :=
  ((qO n x1 0 62).bind fun r1 => (bif r1 then (bif (decide ((0 : Int) ≤ x1)) then (some ((IntKind.wrap .i64 (BitVec.ofInt (IntKind.bits .i64) (Int.fdiv x0 (2 ^ min ((x1 : Int)).toNat (IntKind.bits .i64))) &&& BitVec.ofInt (IntKind.bits .i64) 1).toNat) == 1)) else none) else (some false)))
theorem zFM (n : Nat) (x0 : Int) (x1 : Int) (r : Bool) (H : QK n x0 x1 = some r) : zI Try.prog 109 [.val false [.lit (.int .i64 x0)],.val false [.lit (.int .i64 x1)]] [.val false [.lit (.bool r)]] [] := by
 refine cW Try.func109 (fun g d => sl [g 0,g 1] .ret) [.tmp 4] fun cx => ?_
 unfold QK at H
 refine gA 1 3 0 ?_
 refine rA 1 ?_
 obtain ⟨r1,er1,H⟩ := bs H
 refine vA [.rd,.rd,.rd] (qY n x1 0 62 r1 er1) ?_
 refine lA 1 ?_
 refine sL 131 0 ⟨14,0,[sB 7 r1,sI 0 x0,sI 1 x1],[]⟩ ?_
 cases h1 : r1
 ·have H := zG h1 H
  refine uA 7 16 0 ?_
  exact te (fF H)
 have H := zH h1 H
 refine lA 2 ?_
 obtain ⟨hg2,H⟩ := gs H
 refine LAt.binC tOk (op := .shr) (t := 3) (ty := 3) (ty' := 3) (x := (.tmp 8)) (y := (.tmp 9)) (d := 10) (g := (some (2,true))) (.int .i64 x0) (.int .i64 x1) (.int .i64 (Int.fdiv x0 (2 ^ min ((x1 : Int)).toNat (IntKind.bits .i64)))) _ kr kr kr kr kr (φ := (0 : Int) ≤ x1) kr (of_decide_eq_true hg2) rfl ?_
 refine uA 4 16 0 ?_
 exact te (fJ [(false,[cB ((IntKind.wrap .i64 (BitVec.ofInt (IntKind.bits .i64) (Int.fdiv x0 (2 ^ min ((x1 : Int)).toNat (IntKind.bits .i64))) &&& BitVec.ofInt (IntKind.bits .i64) 1).toNat) == 1)])] H)
def YN (n : Nat) (y3 : (List zB)) : Option ((List zB)) :=
  (some y3)
def qp (n : Nat) : Nat → (List zB) → Int → Int → (List zB) → Option (((List zB)) ⊕ ((List zB)))
  | 0,_,_,_,_ => none
  | mo4 + 1,x0,x1,y1,y2 => (bif (decide (y1 < (x0.length : Int))) then ((idx x0 y1).bind fun v5 => (bif v5.Sc then (bif (decide (y2.length + [v5].length ≤ 268435456)) then (qp n mo4 x0 x1 (IntKind.wrap .i64 (y1 + 1)) (y2 ++ [v5])) else none) else (bif (v5.Port != x1) then (bif (decide (y2.length + [v5].length ≤ 268435456)) then (qp n mo4 x0 x1 (IntKind.wrap .i64 (y1 + 1)) (y2 ++ [v5])) else none) else (qp n mo4 x0 x1 (IntKind.wrap .i64 (y1 + 1)) y2)))) else (some (Sum.inl y2)))
def Yw (n : Nat) (x0 : (List zB)) (x1 : Int) : Option ((List zB)) :=
  ((qp n n x0 x1 0 ([] : List zB)).bind fun o => match o with | .inl y3 => (YN n y3) | .inr r => some r)
theorem zHn (n : Nat) (x0 : (List zB)) (x1 : Int) (r : (List zB)) (H : Yw n x0 x1 = some r) : zI Try.prog 110 [.val false [.sl false 5 (CV.frzEs (x0.map zB.row))],.val false [.lit (.int .i64 x1)]] [.val false [.sl true 5 (r.map zB.row)]] [] := by
 refine cW Try.func110 (fun g d => sl [g 0,g 1,sl [g 2] (.block 0 (.loop (sl [g 3,cn 11 .skip (.exit 0),.block 1 (sl [g 4,g 5] (cn 21 (g 6) .skip))] (g 7)))),g 8] .ret) [.tmp 4] fun cx => ?_
 unfold Yw at H
 refine gA 1 3 0 ?_
 refine gA 1 35 0 ?_
 refine tS ?_
 refine rA 1 ?_
 refine kF x0 zB.row ?_
 refine uA 1 1826 0 ?_
 obtain ⟨o4,eo4,Ho4⟩ := bs H
 clear H
 refine Tr.mid (ι := (List zB)) (fun v => ⟨28,0,[sC 5 (cL 5 v zB.row)],[]⟩) (fun v => YN n v = some r) ?_ ?_
 ·refine tB ?_
  refine Tr.loop (ι := Nat × (Int × (List zB))) (fun v => ⟨28,0,[sI 10 v.2.1,sI 9 (x0.length : Int),sC 8 (cF 5 x0 zB.row),sC 5 (cL 5 v.2.2 zB.row),sI 1 x1],[]⟩) (fun v => qp n v.1 x0 x1 v.2.1 v.2.2 = some o4) (fun v => v.1) (n,(0,([] : List zB))) eo4 (St.sub_of [10,9,8,5,1] [] kr) ?_
  rintro ⟨mo4,y1,y2⟩ H
  have H : qp n mo4 x0 x1 y1 y2 = some o4 := H
  obtain _ | mo4 := mo4
  ·exact nN H
  rw [qp] at H
  refine gA 1 3874 0 ?_
  refine tS ?_
  obtain ⟨h1,H⟩ | ⟨h1,H⟩ := bC H
  ·refine nA h1 ?_
   refine Tr.exit ?_
   refine aJ ?_
   obtain rfl := si H
   have H := Ho4
   dsimp only at H
   exact jA y2 H [5] []
  refine tA h1 ?_
  refine tK ?_
  refine tS ?_
  refine tB ?_
  refine tR ?_
  obtain ⟨v5,ev5,H⟩ := bs H
  refine iA zB.row ev5 ?_
  refine uA 3 1954 128 ?_
  refine tS ?_
  refine Tr.at ?_
  refine lA 3 ?_
  refine sL 67490 128 ⟨28,0,[sB 16 v5.Sc,sA 7 7 5 0,sI 10 y1,sI 9 (x0.length : Int),sC 8 (cF 5 x0 zB.row),sC 5 (cL 5 y2 zB.row),sI 1 x1],[(7,(zB.row v5))]⟩ ?_
  cases h2 : v5.Sc
  ·have H := zG h2 H
   refine uA 5 2099106 128 ?_
   obtain ⟨h3,H⟩ | ⟨h3,H⟩ := bC H
   ·refine nA h3 ?_
    refine tK ?_
    refine eA 2 1826 0 ?_
    exact jB mo4 ((IntKind.wrap .i64 (y1 + 1)),y2) H [10,9,8,5,1] []
   refine tA h3 ?_
   refine Tr.at ?_
   refine lA 3 ?_
   obtain ⟨hg6,H⟩ := gs H
   refine LAt.appMU tOk (t := 36) (ty := 36) (e := 60) (x := (.tmp 22)) (y := (.tmp 24)) (d := 25) (g := none) (tI 60) zB.row y2 [v5] kr kr kr kr kr kr kr kr kr kr hg6 ?_
   refine LAt.moveU (T := lk tab) (ty := 36) (x := (.tmp 25)) (d := 5) (g := none) false [cL 5 (y2 ++ [v5]) zB.row] kr kr kr kr kr ?_
   refine dA 1826 0 ?_
   refine eA 2 1826 0 ?_
   exact jB mo4 ((IntKind.wrap .i64 (y1 + 1)),(y2 ++ [v5])) H [10,9,8,5,1] []
  have H := zH h2 H
  refine uA 5 2099106 128 ?_
  refine tB_ ?_
  refine Tr.at ?_
  refine lA 3 ?_
  obtain ⟨hg7,H⟩ := gs H
  refine LAt.appMU tOk (t := 36) (ty := 36) (e := 60) (x := (.tmp 22)) (y := (.tmp 24)) (d := 25) (g := none) (tI 60) zB.row y2 [v5] kr kr kr kr kr kr kr kr kr kr hg7 ?_
  refine LAt.moveU (T := lk tab) (ty := 36) (x := (.tmp 25)) (d := 5) (g := none) false [cL 5 (y2 ++ [v5]) zB.row] kr kr kr kr kr ?_
  refine dA 1826 0 ?_
  refine eA 2 1826 0 ?_
  exact jB mo4 ((IntKind.wrap .i64 (y1 + 1)),(y2 ++ [v5])) H [10,9,8,5,1] []
 rintro y3 H
 have H : (YN n y3) = some r := H
 unfold YN at H
 refine gA 2 48 0 ?_
 exact te (fJ [(false,[cL 5 y3 zB.row])] H)
def Yl (n : Nat) (r1 : Int) (x0 : zA) (y5 : (List zB)) : Option (zA) :=
  (some (⟨x0.Id,x0.Name,x0.Ps,y5,x0.V,x0.Tk,x0.Pa,x0.Wo,x0.Dr,r1⟩ : zA))
def q4 (n : Nat) : Nat → Int → zA → Int → (List zB) → Option (((List zB)) ⊕ (zA))
  | 0,_,_,_,_ => none
  | mo6 + 1,r2,x0,y3,y4 => (bif (decide (y3 < (x0.Ps.length : Int))) then ((QK n r2 y3).bind fun r7 => (bif (!r7) then ((Yw n y4 y3).bind fun r8 => (q4 n mo6 r2 x0 (IntKind.wrap .i64 (y3 + 1)) r8)) else (q4 n mo6 r2 x0 (IntKind.wrap .i64 (y3 + 1)) y4))) else (some (Sum.inl y4)))
def q7 (n : Nat) (x0 : zA) : Option (zA) :=
  ((zAa n x0.Ve).bind fun r1 => ((Y6 n x0.Id x0.Ps).bind fun r2 => ((q4 n n r2 x0 0 x0.F).bind fun o => match o with | .inl y5 => (Yl n r1 x0 y5) | .inr r => some r)))
noncomputable abbrev G55 (k : Nat) := Rg Try.f55 k
noncomputable abbrev D55 (k : Nat) := Rd Try.f55 k
theorem zGb (n : Nat) (x0 : zA) (r : zA) (H : q7 n x0 = some r) : zI Try.prog 55 [.ptr (zA.row x0)] [] [(0,(zA.row r))] := by
 refine zI.of_body tOk Try.func55 rfl (c := (.seq (G55 0) (.seq (D55 1) (.seq (G55 2) (.block 0 (.loop (.seq (G55 3) (.seq (.cond (.tmp 27) .skip (.exit 0)) (.seq (.block 1 (.seq (G55 4) (.seq (G55 5) (.cond (.tmp 32) (G55 6) .skip)))) (G55 7)))))))))) kr (Nat.le_of_ble_eq_true kr) 1 (rs := []) rfl [] .nil [] [] [(0,(zA.row r))] fun cx => ?_
 show Tr _ _ _ ⟨43,1,[sA 0 0 11 0],[(0,(zA.row x0))]⟩ _
 unfold q7 at H
 refine rA 5 ?_
 obtain ⟨r1,er1,H⟩ := bs H
 refine vA [.rd] (zLN n x0.Ve r1 er1) ?_
 refine uA 3 1 1 ?_
 obtain ⟨r2,er2,H⟩ := bs H
 refine Tr.draws mixed 10 kr ⟨43,1,[sI 2 r2,sA 0 0 11 0],[(0,[cI x0.Id,cS x0.Name,cL 8 x0.Ps Pt.row,cL 5 x0.F zB.row,cL 3 x0.V.Rows zF.row,cL 1 x0.V.Pv intRow,cI x0.Tk,cI x0.Pa,cI x0.Wo,cI x0.Dr,cI r1])]⟩ (fun cx => ?_) ?_
 ·refine aA [(0,[]),(1,[]),(2,[]),(3,[8]),(4,[]),(5,[]),(6,[]),(7,[8])] 2 [⟨[8],35,18,19⟩,⟨[8],3,14,15⟩] fun cx => ?_
  refine bA 8 ?_
  refine vB [.rd,.rd] [.box 0] (zHD n x0.Id x0.Ps r2 er2) (.inr (qV (zK zR qW) qh)) ?_
  refine fA ?_
  refine aA [(9,[])] 0 [⟨[8],35,18,19⟩,⟨[8],3,14,15⟩] fun cx => ?_
  exact eE [2,0] [0]
 refine rA 4 ?_
 refine kO x0.Ps Pt.row ?_
 refine uA 1 100663301 1 ?_
 obtain ⟨o6,eo6,Ho6⟩ := bs H
 clear H
 refine Tr.mid (ι := (List zB)) (fun v => ⟨43,1,[sA 0 0 11 0],[(0,[cI x0.Id,cS x0.Name,cL 8 x0.Ps Pt.row,cL 5 v zB.row,cL 3 x0.V.Rows zF.row,cL 1 x0.V.Pv intRow,cI x0.Tk,cI x0.Pa,cI x0.Wo,cI x0.Dr,cI r1])]⟩) (fun v => Yl n r1 x0 v = some r) ?_ ?_
 ·refine tB ?_
  refine Tr.loop (ι := Nat × (Int × (List zB))) (fun v => ⟨43,1,[sI 26 v.2.1,sI 25 (x0.Ps.length : Int),sI 2 r2,sA 0 0 11 0],[(0,[cI x0.Id,cS x0.Name,cL 8 x0.Ps Pt.row,cL 5 v.2.2 zB.row,cL 3 x0.V.Rows zF.row,cL 1 x0.V.Pv intRow,cI x0.Tk,cI x0.Pa,cI x0.Wo,cI x0.Dr,cI r1])]⟩) (fun v => q4 n v.1 r2 x0 v.2.1 v.2.2 = some o6) (fun v => v.1) (n,(0,x0.F)) eo6 (St.sub_of [26,25,2,0] [0] kr) ?_
  rintro ⟨mo6,y3,y4⟩ H
  have H : q4 n mo6 r2 x0 y3 y4 = some o6 := H
  obtain _ | mo6 := mo6
  ·exact nN H
  rw [q4] at H
  refine gA 1 234881029 1 ?_
  refine tS ?_
  obtain ⟨h1,H⟩ | ⟨h1,H⟩ := bC H
  ·refine nA h1 ?_
   refine Tr.exit ?_
   refine aJ ?_
   obtain rfl := si H
   have H := Ho6
   dsimp only at H
   exact jA y4 H [0] [0]
  refine tA h1 ?_
  refine tK ?_
  refine tS ?_
  refine tB ?_
  refine gA 2 100663309 1 ?_
  refine rA 2 ?_
  obtain ⟨r7,er7,H⟩ := bs H
  refine vA [.rd,.rd] (zFM n r2 y3 r7 er7) ?_
  refine uA 1 4395630605 1 ?_
  obtain ⟨h2,H⟩ | ⟨h2,H⟩ := bC H
  ·refine nA h2 ?_
   refine tK ?_
   refine eA 2 100663301 1 ?_
   exact jB mo6 ((IntKind.wrap .i64 (y3 + 1)),y4) H [26,25,2,0] [0]
  refine tA h2 ?_
  refine Tr.at ?_
  refine lA 6 ?_
  obtain ⟨r8,er8,H⟩ := bs H
  refine vB [.rd,.rd] [.box 0] (zHn n y4 y3 r8 er8) (.inr (qV (zK (YG (QU zB.row_mine _)) qW) qh)) ?_
  refine uA 3 100663301 1 ?_
  refine eA 2 100663301 1 ?_
  exact jB mo6 ((IntKind.wrap .i64 (y3 + 1)),r8) H [26,25,2,0] [0]
 rintro y5 H
 have H : (Yl n r1 x0 y5) = some r := H
 unfold Yl at H
 obtain rfl := si H
 exact Fin.ofY _ [] [] _ [] _ [(0,[cI x0.Id,cS x0.Name,cL 8 x0.Ps Pt.row,cL 5 y5 zB.row,cL 3 x0.V.Rows zF.row,cL 1 x0.V.Pv intRow,cI x0.Tk,cI x0.Pa,cI x0.Wo,cI x0.Dr,cI r1])] kr rfl rfl rfl kr kr kr kr rfl rfl rfl
def Ql (n : Nat) (r1 : zA) (x1 : Int) (x2 : Vec) (y2 : Bool) : Option (zA) :=
  (bif y2 then ((idx r1.Ps x1).bind fun v3 => ((idx (r1.Ps.set (x1.toNat) (⟨v3.Up,v3.Co,true,v3.Hd⟩ : Pt)) x1).bind fun v4 => ((q7 n (⟨r1.Id,r1.Name,((r1.Ps.set (x1.toNat) (⟨v3.Up,v3.Co,true,v3.Hd⟩ : Pt)).set (x1.toNat) (⟨v4.Up,v4.Co,v4.Has,x2⟩ : Pt)),r1.F,r1.V,r1.Tk,r1.Pa,r1.Wo,r1.Dr,r1.Ve⟩ : zA)).bind fun r5 => (some r5)))) else (some r1))
def Qs (n : Nat) (x0 : zA) (x1 : Int) (x2 : Vec) : Option (zA) :=
  ((ZO n x0).bind fun r1 => ((JJ n x0 x1).bind fun r6 => (bif r6 then ((idx x0.Ps x1).bind fun v7 => (bif v7.Up then ((YU n x2).bind fun r8 => (Ql n r1 x1 x2 r8)) else (Ql n r1 x1 x2 false))) else (Ql n r1 x1 x2 false))))
def zNR : Tab := ⟨13,[0,1,0,0,8,0,0,23,151,279,1023,2047,3071],[0,1,0,0,8,0,0,6,128,256,48,1024,2112],[0,1,0,0,8,0,0,31,159,415,1023,2047,4095]⟩
theorem zDc : zk (rg Try.f16 3) zNR = true := kr
theorem zJB (n : Nat) (x0 : zA) (x1 : Int) (x2 : Vec) (r : zA) (H : Qs n x0 x1 x2 = some r) : zI Try.prog 16 [.val true (CV.frzRow (zA.row x0)),.val false [.lit (.int .i64 x1)],.val true (CV.frzRow (Vec.row x2))] [.val true (zA.row r)] [] := by
 refine cW Try.func16 (fun g d => sl [g 0,g 1,sl [g 2] (cn 24 (sl [d 3] (g 4)) .skip),g 5] .ret) [.cell 6 42] fun cx => ?_
 unfold Qs at H
 refine gA 3 106 104 ?_
 refine rA 1 ?_
 obtain ⟨r1,er1,H⟩ := bs H
 refine vA [.rd] (zDk n x0 r1 er1) ?_
 refine uA 2 234 232 ?_
 refine tS ?_
 refine tS ?_
 refine Tr.mid (ι := Bool) (fun v => ⟨38,0,[sB 24 v,sA 7 7 11 0,sA 6 6 11 0,sA 5 5 5 0,sI 1 x1],[(7,(zA.row r1)),(6,[cI 0,cS (⟨#[]⟩ : ByteArray),cL 8 ([] : List Pt) Pt.row,cL 5 ([] : List zB) zB.row,cL 3 ([] : List zF) zF.row,cL 1 ([] : List Int) intRow,cI 0,cI 0,cI 0,cI 0,cI 0]),(5,(Vec.row x2))]⟩) (fun v => Ql n r1 x1 x2 v = some r) ?_ ?_
 ·refine Tr.at ?_
  refine lA 2 ?_
  obtain ⟨r6,er6,H⟩ := bs H
  refine vA [.rd,.rd] (zJp n x0 x1 r6 er6) ?_
  refine lA 1 ?_
  refine sL 8426 232 ⟨38,0,[sB 13 r6,sA 7 7 11 0,sA 6 6 11 0,sA 5 5 5 0,sA 3 3 11 0,sI 1 x1],[(7,(zA.row r1)),(6,[cI 0,cS (⟨#[]⟩ : ByteArray),cL 8 ([] : List Pt) Pt.row,cL 5 ([] : List zB) zB.row,cL 3 ([] : List zF) zF.row,cL 1 ([] : List Int) intRow,cI 0,cI 0,cI 0,cI 0,cI 0]),(5,(Vec.row x2)),(3,(CV.frzRow (zA.row x0)))]⟩ ?_
  cases h2 : r6
  ·have H := zG h2 H
   refine uA 11 16777442 224 ?_
   exact jA false H [24,7,6,5,1] [7,6,5]
  have H := zH h2 H
  refine lA 3 ?_
  obtain ⟨v7,ev7,H⟩ := bs H
  refine iA Pt.row ev7 ?_
  refine lA 4 ?_
  refine sL 2097378 224 ⟨38,0,[sB 21 v7.Up,sA 7 7 11 0,sA 6 6 11 0,sA 5 5 5 0,sI 1 x1],[(7,(zA.row r1)),(6,[cI 0,cS (⟨#[]⟩ : ByteArray),cL 8 ([] : List Pt) Pt.row,cL 5 ([] : List zB) zB.row,cL 3 ([] : List zF) zF.row,cL 1 ([] : List Int) intRow,cI 0,cI 0,cI 0,cI 0,cI 0]),(5,(Vec.row x2))]⟩ ?_
  cases h3 : v7.Up
  ·have H := zG h3 H
   refine uA 3 16777442 224 ?_
   exact jA false H [24,7,6,5,1] [7,6,5]
  have H := zH h3 H
  refine lA 1 ?_
  obtain ⟨r8,er8,H⟩ := bs H
  refine vA [.rd] (zBZ n x2 r8 er8) ?_
  refine uA 1 16777442 224 ?_
  exact jA r8 H [24,7,6,5,1] [7,6,5]
 rintro y2 H
 have H : (Ql n r1 x1 x2 y2) = some r := H
 unfold Ql at H
 cases h1 : y2
 ·have H := zG h1 H
  refine nB_ ?_
  refine tK ?_
  refine gA 2 64 64 ?_
  exact te (fJ [(true,(zA.row r1))] H)
 have H := zH h1 H
 refine tB_ ?_
 obtain ⟨v3,ev3,H⟩ := bs H
 obtain ⟨v4,ev4,H⟩ := bs H
 refine Tr.draws mixed 13 kr ⟨38,0,[sA 7 7 11 0,sA 6 6 11 0],[(7,[cI r1.Id,cS r1.Name,cL 8 ((r1.Ps.set (x1.toNat) (⟨v3.Up,v3.Co,true,v3.Hd⟩ : Pt)).set (x1.toNat) (⟨v4.Up,v4.Co,v4.Has,x2⟩ : Pt)) Pt.row,cL 5 r1.F zB.row,cL 3 r1.V.Rows zF.row,cL 1 r1.V.Pv intRow,cI r1.Tk,cI r1.Pa,cI r1.Wo,cI r1.Dr,cI r1.Ve]),(6,[cI 0,cS (⟨#[]⟩ : ByteArray),cL 8 ([] : List Pt) Pt.row,cL 5 ([] : List zB) zB.row,cL 3 ([] : List zF) zF.row,cL 1 ([] : List Int) intRow,cI 0,cI 0,cI 0,cI 0,cI 0])]⟩ (fun cx => ?_) ?_
 ·refine mA zDc [(0,[]),(1,[9,12]),(2,[]),(3,[]),(4,[9,12]),(5,[]),(6,[12])] 6 [⟨[12],46,5,31⟩,⟨[9,12],35,28,29⟩,⟨[9,12],35,25,26⟩] fun cx => ?_
  refine oN zDc 7 Pt.row ev3 fun cx => ?_
  refine mA zDc [(8,[])] 4 [⟨[12],46,5,31⟩,⟨[9,12],35,28,29⟩,⟨[9,12],35,25,26⟩] fun cx => ?_
  refine sA_ 12717129952 224 ⟨38,0,[(33,.adr (.box 7) [(0,0),(2,(x1.toNat))] 8 2),sV 31 (Vec.row x2),sI 30 x1,sR 29 7 11 2 1 false,sA 28 7 11 2,sR 26 7 11 2 1 false,sA 25 7 11 2,sA 7 7 11 0,sA 6 6 11 0,sA 5 5 5 0],[(7,(zA.row r1)),(6,[cI 0,cS (⟨#[]⟩ : ByteArray),cL 8 ([] : List Pt) Pt.row,cL 5 ([] : List zB) zB.row,cL 3 ([] : List zF) zF.row,cL 1 ([] : List Int) intRow,cI 0,cI 0,cI 0,cI 0,cI 0]),(5,(Vec.row x2))]⟩ ?_
  refine mC zDc 9 ?_
  refine LAt.storeB tOk (t := 4) (ty := 0) (ad := (.tmp 33)) (x := (.const (.bool true))) (g := none) (tI 4) false [cB true] 7 2 (x1.toNat) 8 2 8 r1.Ps Pt.row v3 (⟨v3.Up,v3.Co,true,v3.Hd⟩ : Pt) kr kr kr kr kr kr kr kr (zC ev3).2 kr kr kr kr ?_
  refine fA ?_
  refine oN zDc 10 Pt.row ev4 fun cx => ?_
  refine mA zDc [(11,[])] 1 [⟨[12],46,5,31⟩,⟨[9,12],35,28,29⟩,⟨[9,12],35,25,26⟩] fun cx => ?_
  refine sA_ 37413191904 224 ⟨38,0,[(35,.adr (.box 7) [(0,0),(2,(x1.toNat))] 8 3),sV 31 (Vec.row x2),sA 28 7 11 2,sA 25 7 11 2,sA 7 7 11 0,sA 6 6 11 0,sA 5 5 5 0,sR 29 7 11 2 1 false,sR 26 7 11 2 1 false],[(7,[cI r1.Id,cS r1.Name,cL 8 (r1.Ps.set (x1.toNat) (⟨v3.Up,v3.Co,true,v3.Hd⟩ : Pt)) Pt.row,cL 5 r1.F zB.row,cL 3 r1.V.Rows zF.row,cL 1 r1.V.Pv intRow,cI r1.Tk,cI r1.Pa,cI r1.Wo,cI r1.Dr,cI r1.Ve]),(6,[cI 0,cS (⟨#[]⟩ : ByteArray),cL 8 ([] : List Pt) Pt.row,cL 5 ([] : List zB) zB.row,cL 3 ([] : List zF) zF.row,cL 1 ([] : List Int) intRow,cI 0,cI 0,cI 0,cI 0,cI 0]),(5,(Vec.row x2))]⟩ ?_
  refine mC zDc 12 ?_
  refine LAt.storeB tOk (t := 46) (ty := 0) (ad := (.tmp 35)) (x := (.tmp 31)) (g := none) (tI 46) true (Vec.row x2) 7 2 (x1.toNat) 8 3 8 (r1.Ps.set (x1.toNat) (⟨v3.Up,v3.Co,true,v3.Hd⟩ : Pt)) Pt.row v4 (⟨v4.Up,v4.Co,v4.Has,x2⟩ : Pt) kr kr kr kr kr kr kr kr (zC ev4).2 kr kr kr kr ?_
  refine fA ?_
  exact mE zDc [7,6] [7,6]
 refine Tr.at ?_
 obtain ⟨r5,er5,H⟩ := bs H
 refine LAt.callL tOk [.lend] (f := 55) (av := #[.tmp 7]) (ats := #[42]) (d := (some 36)) (ty := 0) (g := none) kr kr kr [] (zGb n (⟨r1.Id,r1.Name,((r1.Ps.set (x1.toNat) (⟨v3.Up,v3.Co,true,v3.Hd⟩ : Pt)).set (x1.toNat) (⟨v4.Up,v4.Co,v4.Has,x2⟩ : Pt)),r1.F,r1.V,r1.Tk,r1.Pa,r1.Wo,r1.Dr,r1.Ve⟩ : zA) r5 er5) kr (.inl rfl) ?_
 refine dA 192 192 ?_
 refine gA 2 64 64 ?_
 exact te (fJ [(true,(zA.row r5))] H)
def ZA (n : Nat) (x0 : Net) (x1 : Int) (x2 : Int) (x3 : Vec) : Option (Net) :=
  ((idx x0.Bs x1).bind fun v1 => ((Qs n v1 x2 x3).bind fun r2 => (some (⟨(x0.Bs.set (x1.toNat) r2),x0.Ls,x0.Said⟩ : Net))))
def zNY : Tab := ⟨17,[0,1,2,4,0,0,32,64,128,0,768,1024,0,0,14336,32767,65535],[0,1,2,4,0,0,32,64,128,0,768,1024,0,0,14336,24,49152],[0,1,3,7,0,0,32,96,224,0,992,2016,0,0,16352,32767,65535]⟩
noncomputable abbrev G78 (k : Nat) := Rg Try.f78 k
noncomputable abbrev D78 (k : Nat) := Rd Try.f78 k
theorem zDd : zk (rg Try.f78 1) zNY = true := kr
theorem zEz (n : Nat) (x0 : Net) (x1 : Int) (x2 : Int) (x3 : Vec) (r : Net) (H : ZA n x0 x1 x2 x3 = some r) : zI Try.prog 78 [.ptr (Net.row x0),.val false [.lit (.int .i64 x1)],.val false [.lit (.int .i64 x2)],.val true (CV.frzRow (Vec.row x3))] [] [(0,(Net.row r))] := by
 refine zI.of_body tOk Try.func78 rfl (c := (.seq (G78 0) (D78 1))) kr (Nat.le_of_ble_eq_true kr) 1 (rs := []) rfl [] .nil [] [] [(0,(Net.row r))] fun cx => ?_
 show Tr _ _ _ ⟨24,1,[sA 0 0 3 0,sI 1 x1,sI 2 x2,sV 3 (Vec.row x3)],[(0,(Net.row x0))]⟩ _
 unfold ZA at H
 refine gA 1 135 129 ?_
 obtain ⟨v1,ev1,H⟩ := bs H
 obtain ⟨r2,er2,H⟩ := bs H
 refine Tr.draw mixed 17 kr ⟨24,1,[sA 0 0 3 0],[(0,[cL 11 (x0.Bs.set (x1.toNat) r2) zA.row,cL 4 x0.Ls Link.row,cL 7 x0.Said Say.row])]⟩ (fun cx => ?_) ?_
 ·refine mA zDd [(0,[]),(1,[]),(2,[]),(3,[16]),(4,[]),(5,[]),(6,[]),(7,[]),(8,[14,16]),(9,[])] 7 [⟨[14,16],53,15,16⟩,⟨[16],53,10,11⟩] fun cx => ?_
  refine oN zDd 10 zA.row ev1 fun cx => ?_
  refine mA zDd [(12,[]),(13,[14,16])] 4 [⟨[14,16],46,7,21⟩,⟨[14,16],53,15,16⟩,⟨[16],53,10,11⟩] fun cx => ?_
  refine mC zDd 11 ?_
  refine dE (tI 42) (.box 0) [(0,0),(0,(x1.toNat))] 11 0 [.sl true 3 [(Net.row x0)]] (zA.row v1) (zL rfl (zC ev1).2) ?_
  refine fA ?_
  refine mC zDd 14 ?_
  refine LAt.callO tOk [.rd,.rd,.rd] (f := 16) (av := #[.tmp 19,.tmp 20,.tmp 21]) (ats := #[42,3,46]) (d := (some 22)) (ty := 42) (g := none) [(19,zA.row v1)] none kr kr kr [.box 0] (zJB n v1 x2 x3 r2 er2) (zB5 (row := [.sl true 3 [(Net.row x0)]]) (q := [(0,0),(0,(x1.toNat))]) kr (zL rfl (zC ev1).2) zDA) kr zC9 (.inr (And.intro (qV (zA.row_mine _) qh) zB6)) ?_
  refine fA ?_
  refine oN zDd 15 zA.row ev1 fun cx => ?_
  refine sA_ 14781569 129 ⟨24,1,[(23,.adr (.box 0) [(0,0),(0,(x1.toNat))] 11 0),sV 22 (zA.row r2),sV 21 (Vec.row x3),sR 16 0 3 0 1 false,sA 15 0 3 0,sR 11 0 3 0 1 false,sA 10 0 3 0,sA 7 7 5 0,sA 0 0 3 0],[(7,(Vec.row x3)),(0,(Net.row x0))]⟩ ?_
  refine mC zDd 16 ?_
  refine LAt.storeB tOk (t := 42) (ty := 0) (ad := (.tmp 23)) (x := (.tmp 22)) (g := none) (tI 42) true (zA.row r2) 0 0 (x1.toNat) 11 0 11 x0.Bs zA.row v1 r2 kr kr kr kr kr kr kr kr (zC ev1).2 kr kr kr kr ?_
  refine fA ?_
  exact mE zDd [0] [0]
 obtain rfl := si H
 exact Fin.ofY _ [] [] _ [] _ [(0,[cL 11 (x0.Bs.set (x1.toNat) r2) zA.row,cL 4 x0.Ls Link.row,cL 7 x0.Said Say.row])] kr rfl rfl rfl kr kr kr kr rfl rfl rfl
def zA3 (n : Nat) (y7 : (List zA)) (y8 : (List Link)) (y9 : (List Say)) : Option (Net) :=
  (some (⟨y7,y8,y9⟩ : Net))
def QJ (n : Nat) : Nat → Net → Int → (List zA) → (List Link) → (List Say) → Option (((List zA) × (List Link) × (List Say)) ⊕ (Net))
  | 0,_,_,_,_,_ => none
  | mo10 + 1,x0,y3,y4,y5,y6 => (bif (decide (y3 < (x0.Ls.length : Int))) then ((idx x0.Ls y3).bind fun v11 => ((zX n x0 y3).bind fun r12 => (bif r12 then ((Zf n x0 v11.B v11.Q).bind fun r13 => ((ZA n (⟨y4,y5,y6⟩ : Net) v11.A v11.P r13).bind fun r14 => ((Zf n x0 v11.A v11.P).bind fun r15 => ((ZA n r14 v11.B v11.Q r15).bind fun r16 => (QJ n mo10 x0 (IntKind.wrap .i64 (y3 + 1)) r16.Bs r16.Ls r16.Said))))) else (QJ n mo10 x0 (IntKind.wrap .i64 (y3 + 1)) y4 y5 y6)))) else (some (Sum.inl (y4,y5,y6))))
def Zp (n : Nat) (x0 : Net) : Option (Net) :=
  ((YK n x0).bind fun r1 => ((QF n x0).bind fun r2 => (bif (!r2) then (some r1) else ((QJ n n x0 0 r1.Bs r1.Ls ([] : List Say)).bind fun o => match o with | .inl (y7,y8,y9) => (zA3 n y7 y8 y9) | .inr r => some r))))
theorem zHB (n : Nat) (x0 : Net) (r : Net) (H : Zp n x0 = some r) : zI Try.prog 36 [.val true (CV.frzRow (Net.row x0))] [.val true (Net.row r)] [] := by
 refine cW Try.func36 (fun g d => sl [g 0,g 1,sl [g 2] (cn 10 (sl [g 3] .ret) .skip),g 4,sl [g 5] (.block 0 (.loop (sl [g 6,cn 17 .skip (.exit 0),.block 1 (sl [g 7,g 8] (cn 23 (sl [d 9] (d 10)) .skip))] (g 11)))),g 12] .ret) [.cell 2 76] fun cx => ?_
 unfold Zp at H
 refine gA 2 6 6 ?_
 refine rA 1 ?_
 obtain ⟨r1,er1,H⟩ := bs H
 refine vA [.rd] (zFL n x0 r1 er1) ?_
 refine uA 2 14 14 ?_
 refine tS ?_
 refine rA 1 ?_
 obtain ⟨r2,er2,H⟩ := bs H
 refine vA [.rd] (zKg n x0 r2 er2) ?_
 refine uA 1 1038 14 ?_
 obtain ⟨h1,H⟩ | ⟨h1,H⟩ := bC H
 ·refine nA h1 ?_
  refine tK ?_
  refine gA 2 14 14 ?_
  refine tS ?_
  refine rA 2 ?_
  refine kF x0.Ls Link.row ?_
  refine uA 1 114702 14 ?_
  obtain ⟨o10,eo10,Ho10⟩ := bs H
  clear H
  refine Tr.mid (ι := (List zA) × (List Link) × (List Say)) (fun v => ⟨48,0,[sA 3 3 3 0,sA 2 2 3 0],[(3,[cL 11 v.1 zA.row,cL 4 v.2.1 Link.row,cL 7 v.2.2 Say.row]),(2,[cL 11 ([] : List zA) zA.row,cL 4 ([] : List Link) Link.row,cL 7 ([] : List Say) Say.row])]⟩) (fun v => zA3 n v.1 v.2.1 v.2.2 = some r) ?_ ?_
  ·refine tB ?_
   refine Tr.loop (ι := Nat × (Int × (List zA) × (List Link) × (List Say))) (fun v => ⟨48,0,[sI 16 v.2.1,sI 15 (x0.Ls.length : Int),sC 14 (cF 4 x0.Ls Link.row),sA 3 3 3 0,sA 2 2 3 0,sA 1 1 3 0],[(3,[cL 11 v.2.2.1 zA.row,cL 4 v.2.2.2.1 Link.row,cL 7 v.2.2.2.2 Say.row]),(2,[cL 11 ([] : List zA) zA.row,cL 4 ([] : List Link) Link.row,cL 7 ([] : List Say) Say.row]),(1,(CV.frzRow (Net.row x0)))]⟩) (fun v => QJ n v.1 x0 v.2.1 v.2.2.1 v.2.2.2.1 v.2.2.2.2 = some o10) (fun v => v.1) (n,(0,r1.Bs,r1.Ls,([] : List Say))) eo10 (St.sub_of [16,15,14,3,2,1] [3,2,1] kr) ?_
   rintro ⟨mo10,y3,y4,y5,y6⟩ H
   have H : QJ n mo10 x0 y3 y4 y5 y6 = some o10 := H
   obtain _ | mo10 := mo10
   ·exact nN H
   rw [QJ] at H
   refine gA 1 245774 14 ?_
   refine tS ?_
   obtain ⟨h2,H⟩ | ⟨h2,H⟩ := bC H
   ·refine nA h2 ?_
    refine Tr.exit ?_
    refine aJ ?_
    obtain rfl := si H
    have H := Ho10
    dsimp only at H
    exact jA (y4,y5,y6) H [3,2] [3,2]
   refine tA h2 ?_
   refine tK ?_
   refine tS ?_
   refine tB ?_
   refine rA 1 ?_
   obtain ⟨v11,ev11,H⟩ := bs H
   refine iA Link.row ev11 ?_
   refine uA 4 114750 46 ?_
   refine rA 2 ?_
   obtain ⟨r12,er12,H⟩ := bs H
   refine vA [.rd,.rd] (zAt n x0 y3 r12 er12) ?_
   refine dA 8503342 46 ?_
   cases h3 : r12
   ·have H := zG h3 H
    refine nB_ ?_
    refine tK ?_
    refine eA 2 114702 14 ?_
    exact jB mo10 ((IntKind.wrap .i64 (y3 + 1)),y4,y5,y6) H [16,15,14,3,2,1] [3,2,1]
   have H := zH h3 H
   refine tB_ ?_
   obtain ⟨r13,er13,H⟩ := bs H
   obtain ⟨r14,er14,H⟩ := bs H
   refine Tr.draws mixed 11 kr ⟨48,0,[sA 5 5 4 0,sI 16 y3,sI 15 (x0.Ls.length : Int),sC 14 (cF 4 x0.Ls Link.row),sA 3 3 3 0,sA 2 2 3 0,sA 1 1 3 0],[(3,(Net.row r14)),(5,(Link.row v11)),(2,[cL 11 ([] : List zA) zA.row,cL 4 ([] : List Link) Link.row,cL 7 ([] : List Say) Say.row]),(1,(CV.frzRow (Net.row x0)))]⟩ (fun cx => ?_) ?_
   ·refine aA [(0,[]),(1,[10]),(2,[]),(3,[10]),(4,[9,10]),(5,[]),(6,[9,10]),(7,[]),(8,[9,10])] 2 [⟨[9,10],3,31,32⟩,⟨[9,10],3,29,30⟩,⟨[9,10],76,1,28⟩,⟨[10],3,26,27⟩,⟨[10],3,24,25⟩] fun cx => ?_
    refine bA 9 ?_
    refine vA [.rd,.rd,.rd] (zCW n x0 v11.B v11.Q r13 er13) ?_
    refine fA ?_
    refine bA 10 ?_
    refine LAt.callL tOk [.lend,.rd,.rd,.rd] (f := 78) (av := #[.tmp 3,.tmp 25,.tmp 27,.tmp 33]) (ats := #[76,3,3,46]) (d := (some 34)) (ty := 0) (g := none) kr kr kr [] (zEz n (⟨y4,y5,y6⟩ : Net) v11.A v11.P r13 r14 er14) kr (.inl rfl) ?_
    refine fA ?_
    exact eE [5,16,15,14,3,2,1] [3,5,2,1]
   obtain ⟨r15,er15,H⟩ := bs H
   obtain ⟨r16,er16,H⟩ := bs H
   refine Tr.draw mixed 11 kr ⟨48,0,[sI 16 y3,sI 15 (x0.Ls.length : Int),sC 14 (cF 4 x0.Ls Link.row),sA 3 3 3 0,sA 2 2 3 0,sA 1 1 3 0],[(3,(Net.row r16)),(2,[cL 11 ([] : List zA) zA.row,cL 4 ([] : List Link) Link.row,cL 7 ([] : List Say) Say.row]),(1,(CV.frzRow (Net.row x0)))]⟩ (fun cx => ?_) ?_
   ·refine aA [(0,[]),(1,[10]),(2,[]),(3,[10]),(4,[9,10]),(5,[]),(6,[9,10]),(7,[]),(8,[9,10])] 2 [⟨[9,10],3,42,43⟩,⟨[9,10],3,40,41⟩,⟨[9,10],76,1,39⟩,⟨[10],3,37,38⟩,⟨[10],3,35,36⟩] fun cx => ?_
    refine bA 9 ?_
    refine vA [.rd,.rd,.rd] (zCW n x0 v11.A v11.P r15 er15) ?_
    refine fA ?_
    refine bA 10 ?_
    refine LAt.callL tOk [.lend,.rd,.rd,.rd] (f := 78) (av := #[.tmp 3,.tmp 36,.tmp 38,.tmp 44]) (ats := #[76,3,3,46]) (d := (some 45)) (ty := 0) (g := none) kr kr kr [] (zEz n r14 v11.B v11.Q r15 r16 er16) kr (.inl rfl) ?_
    refine fA ?_
    exact eE [16,15,14,3,2,1] [3,2,1]
   refine eA 2 114702 14 ?_
   exact jB mo10 ((IntKind.wrap .i64 (y3 + 1)),r16.Bs,r16.Ls,r16.Said) H [16,15,14,3,2,1] [3,2,1]
  rintro ⟨y7,y8,y9⟩ H
  have H : (zA3 n y7 y8 y9) = some r := H
  unfold zA3 at H
  refine gA 2 4 4 ?_
  exact te (fJ [(true,[cL 11 y7 zA.row,cL 4 y8 Link.row,cL 7 y9 Say.row])] H)
 refine tA h1 ?_
 refine gA 2 4 4 ?_
 exact te (fJ [(true,(Net.row r1))] H)
def zAW (n : Nat) (y6 : (List zA)) (y7 : (List Link)) (y8 : (List Say)) : Option (Net) :=
  (some (⟨y6,y7,y8⟩ : Net))
def Qe (n : Nat) : Nat → Int → Int → (List zA) → (List Link) → (List Say) → Option (((List zA) × (List Link) × (List Say)) ⊕ (Net))
  | 0,_,_,_,_,_ => none
  | mo9 + 1,x1,y2,y3,y4,y5 => (bif (decide (y2 < (if (if 30 < x1 then 30 else x1) > 0 then (if 30 < x1 then 30 else x1) else 0))) then ((Zp n (⟨y3,y4,y5⟩ : Net)).bind fun r10 => (Qe n mo9 x1 (IntKind.wrap .i64 (y2 + 1)) r10.Bs r10.Ls r10.Said)) else (some (Sum.inl (y3,y4,y5))))
def zAD (n : Nat) (x0 : Net) (x1 : Int) : Option (Net) :=
  ((YK n x0).bind fun r1 => ((Qe n n x1 0 r1.Bs r1.Ls r1.Said).bind fun o => match o with | .inl (y6,y7,y8) => (zAW n y6 y7 y8) | .inr r => some r))
theorem zJm (n : Nat) (x0 : Net) (x1 : Int) (r : Net) (H : zAD n x0 x1 = some r) : zI Try.prog 35 [.val true (CV.frzRow (Net.row x0)),.val false [.lit (.int .i64 x1)]] [.val true (Net.row r)] [] := by
 refine cW Try.func35 (fun g d => sl [g 0,g 1,sl [g 2] (.block 0 (.loop (sl [g 3,cn 12 .skip (.exit 0),.block 1 (g 4)] (g 5)))),g 6] .ret) [.cell 4 76] fun cx => ?_
 unfold zAD at H
 refine gA 2 22 20 ?_
 refine rA 1 ?_
 obtain ⟨r1,er1,H⟩ := bs H
 refine vA [.rd] (zFL n x0 r1 er1) ?_
 refine uA 2 50 48 ?_
 refine tS ?_
 refine gA 4 3120 48 ?_
 obtain ⟨o9,eo9,Ho9⟩ := bs H
 clear H
 refine Tr.mid (ι := (List zA) × (List Link) × (List Say)) (fun v => ⟨17,0,[sA 5 5 3 0,sA 4 4 3 0],[(5,[cL 11 v.1 zA.row,cL 4 v.2.1 Link.row,cL 7 v.2.2 Say.row]),(4,[cL 11 ([] : List zA) zA.row,cL 4 ([] : List Link) Link.row,cL 7 ([] : List Say) Say.row])]⟩) (fun v => zAW n v.1 v.2.1 v.2.2 = some r) ?_ ?_
 ·refine tB ?_
  refine Tr.loop (ι := Nat × (Int × (List zA) × (List Link) × (List Say))) (fun v => ⟨17,0,[sI 11 v.2.1,sI 10 (if (if 30 < x1 then 30 else x1) > 0 then (if 30 < x1 then 30 else x1) else 0),sA 5 5 3 0,sA 4 4 3 0],[(5,[cL 11 v.2.2.1 zA.row,cL 4 v.2.2.2.1 Link.row,cL 7 v.2.2.2.2 Say.row]),(4,[cL 11 ([] : List zA) zA.row,cL 4 ([] : List Link) Link.row,cL 7 ([] : List Say) Say.row])]⟩) (fun v => Qe n v.1 x1 v.2.1 v.2.2.1 v.2.2.2.1 v.2.2.2.2 = some o9) (fun v => v.1) (n,(0,r1.Bs,r1.Ls,r1.Said)) eo9 (St.sub_of [11,10,5,4] [5,4] kr) ?_
  rintro ⟨mo9,y2,y3,y4,y5⟩ H
  have H : Qe n mo9 x1 y2 y3 y4 y5 = some o9 := H
  obtain _ | mo9 := mo9
  ·exact nN H
  rw [Qe] at H
  refine gA 1 7216 48 ?_
  refine tS ?_
  obtain ⟨h1,H⟩ | ⟨h1,H⟩ := bC H
  ·refine nA h1 ?_
   refine Tr.exit ?_
   refine aJ ?_
   obtain rfl := si H
   have H := Ho9
   dsimp only at H
   exact jA (y3,y4,y5) H [5,4] [5,4]
  refine tA h1 ?_
  refine tK ?_
  refine tS ?_
  refine tB ?_
  refine Tr.at ?_
  refine lA 1 ?_
  obtain ⟨r10,er10,H⟩ := bs H
  refine vB [.rd] [.box 5] (zHB n (⟨y3,y4,y5⟩ : Net) r10 er10) (.inr (qV (Net.row_mine _) qh)) ?_
  refine uA 1 3120 48 ?_
  refine eA 2 3120 48 ?_
  exact jB mo9 ((IntKind.wrap .i64 (y2 + 1)),r10.Bs,r10.Ls,r10.Said) H [11,10,5,4] [5,4]
 rintro ⟨y6,y7,y8⟩ H
 have H : (zAW n y6 y7 y8) = some r := H
 unfold zAW at H
 refine gA 2 16 16 ?_
 exact te (fJ [(true,[cL 11 y6 zA.row,cL 4 y7 Link.row,cL 7 y8 Say.row])] H)
def Jr (n : Nat) (x0 : Net) (x1 : Int) (x2 : Int) (x3 : Vec) : Option (Bool) :=
  ((ZG n x0 x1 x2).bind fun r1 => (bif r1.2 then (bif r1.1.Has then (some ((r1.1.Hd.Root == x3.Root) && ((r1.1.Hd.Co == x3.Co) && ((r1.1.Hd.Hops == x3.Hops) && ((r1.1.Hd.Bridge == x3.Bridge) && ((r1.1.Hd.Port == x3.Port) && true)))))) else (some false)) else (some false)))
theorem zEf (n : Nat) (x0 : Net) (x1 : Int) (x2 : Int) (x3 : Vec) (r : Bool) (H : Jr n x0 x1 x2 x3 = some r) : zI Try.prog 80 [.val true (CV.frzRow (Net.row x0)),.val false [.lit (.int .i64 x1)],.val false [.lit (.int .i64 x2)],.val true (CV.frzRow (Vec.row x3))] [.val false [.lit (.bool r)]] [] := by
 refine cW Try.func80 (fun g d => sl [g 0,g 1,g 2] .ret) [.tmp 8] fun cx => ?_
 unfold Jr at H
 refine gA 3 150 144 ?_
 refine rA 3 ?_
 obtain ⟨r1,er1,H⟩ := bs H
 refine vA [.rd,.rd,.rd] (Y7 n x0 x1 x2 r1 er1) ?_
 refine LAt.movT tOk (ty := 178) (t := 15) (d := 11) (g := none) [(true,(Pt.row r1.1)),(false,[cB r1.2])] _ kr (.inl rfl) kr kr kr kr rfl ?_
 refine uA 5 1664 640 ?_
 refine rA 2 ?_
 refine sL 524928 640 ⟨29,0,[sB 19 r1.2,sA 9 9 8 0,sA 7 7 5 0],[(9,(Pt.row r1.1)),(7,(Vec.row x3))]⟩ ?_
 cases h1 : r1.2
 ·have H := zG h1 H
  refine uA 10 256 0 ?_
  exact te (fF H)
 have H := zH h1 H
 refine lA 4 ?_
 refine sL 8389248 640 ⟨29,0,[sB 23 r1.1.Has,sA 9 9 8 0,sA 7 7 5 0],[(9,(Pt.row r1.1)),(7,(Vec.row x3))]⟩ ?_
 cases h2 : r1.1.Has
 ·have H := zG h2 H
  refine uA 6 256 0 ?_
  exact te (fF H)
 have H := zH h2 H
 refine lA 3 ?_
 refine LAt.eqSG false (t := 46) (ty := 46) (ty' := 4) (x := (.tmp 25)) (y := (.tmp 26)) (d := 27) (g := (some (5,true))) ((r1.1.Hd.Root == x3.Root) && ((r1.1.Hd.Co == x3.Co) && ((r1.1.Hd.Hops == x3.Hops) && ((r1.1.Hd.Bridge == x3.Bridge) && ((r1.1.Hd.Port == x3.Port) && true))))) _ kr kr kr kr rfl ?_
 refine uA 2 256 0 ?_
 exact te (fJ [(false,[cB ((r1.1.Hd.Root == x3.Root) && ((r1.1.Hd.Co == x3.Co) && ((r1.1.Hd.Hops == x3.Hops) && ((r1.1.Hd.Bridge == x3.Bridge) && ((r1.1.Hd.Port == x3.Port) && true)))))])] H)
def zAV (n : Nat) : Option (Bool) :=
  (some true)
def Zx (n : Nat) : Nat → Net → Int → Option ((Unit) ⊕ (Bool))
  | 0,_,_ => none
  | mo2 + 1,x0,y1 => (bif (decide (y1 < (x0.Ls.length : Int))) then ((idx x0.Ls y1).bind fun v3 => ((zX n x0 y1).bind fun r4 => (bif r4 then ((Zf n x0 v3.B v3.Q).bind fun r5 => ((Jr n x0 v3.A v3.P r5).bind fun r6 => (bif (!r6) then (some (Sum.inr false)) else ((Zf n x0 v3.A v3.P).bind fun r7 => ((Jr n x0 v3.B v3.Q r7).bind fun r8 => (bif (!r8) then (some (Sum.inr false)) else (Zx n mo2 x0 (IntKind.wrap .i64 (y1 + 1))))))))) else (Zx n mo2 x0 (IntKind.wrap .i64 (y1 + 1)))))) else (some (Sum.inl ())))
def JF (n : Nat) (x0 : Net) : Option (Bool) :=
  ((Zx n n x0 0).bind fun o => match o with | .inl _ => (zAV n) | .inr r => some r)
def zNS : Tab := ⟨33,[0,0,3,4,8,8,40,8,136,8,8,1032,8,4104,10760,16728,32776,98312,131072,131072,655360,131072,2228224,131072,131072,16908288,131072,67239936,176291840,274071552,537001984,1073872904,2147483656],[0,0,3,4,8,8,40,8,136,8,8,1032,8,4104,10760,16728,32776,65544,131072,131072,655360,131072,2228224,131072,131072,16908288,131072,67239936,176291840,274071552,537001984,1073872904,2147483656],[0,0,3,7,15,15,47,15,143,15,15,1039,15,4111,15887,32767,65535,131071,262143,262143,786431,262143,2359295,262143,262143,17039359,262143,67371007,260308991,536870911,1073741823,2147483647,4294967295]⟩
theorem Z7 : zk (rg Try.f37 4) zNS = true := kr
theorem zGK (n : Nat) (x0 : Net) (r : Bool) (H : JF n x0 = some r) : zI Try.prog 37 [.val true (CV.frzRow (Net.row x0))] [.val false [.lit (.bool r)]] [] := by
 refine cW Try.func37 (fun g d => sl [g 0,sl [g 1] (.block 0 (.loop (sl [g 2,cn 9 .skip (.exit 0),.block 1 (sl [g 3,d 4] (cn 45 (sl [g 5] .ret) .skip))] (g 6)))),g 7] .ret) [.tmp 2] fun cx => ?_
 unfold JF at H
 refine gA 2 2 2 ?_
 refine tS ?_
 refine rA 2 ?_
 refine kF x0.Ls Link.row ?_
 refine uA 1 450 2 ?_
 obtain ⟨o2,eo2,Ho2⟩ := bs H
 clear H
 refine Tr.mid (ι := Unit) (fun v => ⟨47,0,[],[]⟩) (fun v => zAV n = some r) ?_ ?_
 ·refine tB ?_
  refine Tr.loop (ι := Nat × (Int)) (fun v => ⟨47,0,[sI 8 v.2,sI 7 (x0.Ls.length : Int),sC 6 (cF 4 x0.Ls Link.row),sA 1 1 3 0],[(1,(CV.frzRow (Net.row x0)))]⟩) (fun v => Zx n v.1 x0 v.2 = some o2) (fun v => v.1) (n,0) eo2 (St.sub_of [8,7,6,1] [1] kr) ?_
  rintro ⟨mo2,y1⟩ H
  have H : Zx n mo2 x0 y1 = some o2 := H
  obtain _ | mo2 := mo2
  ·exact nN H
  rw [Zx] at H
  refine gA 1 962 2 ?_
  refine tS ?_
  obtain ⟨h1,H⟩ | ⟨h1,H⟩ := bC H
  ·refine nA h1 ?_
   refine Tr.exit ?_
   refine aJ ?_
   obtain rfl := si H
   have H := Ho2
   dsimp only at H
   exact jA () H [] []
  refine tA h1 ?_
  refine tK ?_
  refine tS ?_
  refine tB ?_
  refine rA 1 ?_
  obtain ⟨v3,ev3,H⟩ := bs H
  refine iA Link.row ev3 ?_
  refine uA 4 474 18 ?_
  obtain ⟨r4,er4,H⟩ := bs H
  refine sT ⟨47,0,[sI 3 y1,sA 4 4 4 0,sI 8 y1,sI 7 (x0.Ls.length : Int),sC 6 (cF 4 x0.Ls Link.row),sA 1 1 3 0],[(4,(Link.row v3)),(1,(CV.frzRow (Net.row x0)))]⟩ ?_
  cases h2 : r4
  ·have H := zG h2 H
   refine Tr.draws mixed 33 kr ⟨47,0,[sB 45 false,sI 8 y1,sI 7 (x0.Ls.length : Int),sC 6 (cF 4 x0.Ls Link.row),sA 1 1 3 0],[(1,(CV.frzRow (Net.row x0)))]⟩ (fun cx => ?_) ?_
   ·refine mA Z7 [(0,[2]),(1,[])] 31 [⟨[2],76,1,13⟩] fun cx => ?_
    refine mC Z7 2 ?_
    refine vA [.rd,.rd] (zAt n x0 y1 r4 er4) ?_
    refine fA ?_
    refine mA Z7 [(3,[])] 29 [⟨[2],76,1,13⟩] fun cx => ?_
    refine sA_ 74194 18 ⟨47,0,[sB 16 r4,sR 13 1 3 0 3 true,sA 4 4 4 0,sI 8 y1,sI 7 (x0.Ls.length : Int),sC 6 (cF 4 x0.Ls Link.row),sA 1 1 3 0],[(4,(Link.row v3)),(1,(CV.frzRow (Net.row x0)))]⟩ ?_
    rw [h2]
    refine mA Z7 [(4,[]),(5,[]),(6,[]),(7,[]),(8,[]),(9,[]),(10,[]),(11,[]),(12,[]),(13,[]),(14,[]),(15,[]),(16,[]),(17,[]),(18,[]),(19,[]),(20,[]),(21,[]),(22,[]),(23,[]),(24,[]),(25,[]),(26,[]),(27,[]),(28,[]),(29,[]),(30,[]),(31,[]),(32,[])] 0 [⟨[2],76,1,13⟩] fun cx => ?_
    exact mE Z7 [45,8,7,6,1] [1]
   refine nB_ ?_
   refine tK ?_
   refine eA 2 450 2 ?_
   exact jB mo2 (IntKind.wrap .i64 (y1 + 1)) H [8,7,6,1] [1]
  have H := zH h2 H
  obtain ⟨r5,er5,H⟩ := bs H
  obtain ⟨r6,er6,H⟩ := bs H
  refine sT ⟨47,0,[sI 3 y1,sA 4 4 4 0,sI 8 y1,sI 7 (x0.Ls.length : Int),sC 6 (cF 4 x0.Ls Link.row),sA 1 1 3 0],[(4,(Link.row v3)),(1,(CV.frzRow (Net.row x0)))]⟩ ?_
  cases h3 : (!r6)
  ·have H := zG h3 H
   obtain ⟨r7,er7,H⟩ := bs H
   obtain ⟨r8,er8,H⟩ := bs H
   refine Tr.draws mixed 33 kr ⟨47,0,[sB 45 (!r8),sI 8 y1,sI 7 (x0.Ls.length : Int),sC 6 (cF 4 x0.Ls Link.row),sA 1 1 3 0],[(1,(CV.frzRow (Net.row x0)))]⟩ (fun cx => ?_) ?_
   ·refine mA Z7 [(0,[2,14,15,28,29]),(1,[])] 31 [⟨[2,14,15,28,29],76,1,13⟩] fun cx => ?_
    refine mC Z7 2 ?_
    refine vA [.rd,.rd] (zAt n x0 y1 r4 er4) ?_
    refine fA ?_
    refine mA Z7 [(3,[])] 29 [⟨[2,14,15,28,29],76,1,13⟩] fun cx => ?_
    refine sA_ 74194 18 ⟨47,0,[sB 16 r4,sR 13 1 3 0 3 true,sA 4 4 4 0,sI 8 y1,sI 7 (x0.Ls.length : Int),sC 6 (cF 4 x0.Ls Link.row),sA 1 1 3 0],[(4,(Link.row v3)),(1,(CV.frzRow (Net.row x0)))]⟩ ?_
    rw [h2]
    refine mA Z7 [(4,[15,28,29]),(5,[]),(6,[15,28,29]),(7,[]),(8,[15,28,29]),(9,[14,15,28,29]),(10,[]),(11,[14,15,28,29]),(12,[]),(13,[14,15,28,29])] 19 [⟨[14,15,28,29],3,25,26⟩,⟨[14,15,28,29],3,23,24⟩,⟨[14,15,28,29],76,1,22⟩,⟨[15,28,29],3,20,21⟩,⟨[15,28,29],3,18,19⟩,⟨[15,28,29],76,1,17⟩,⟨[2,14,15,28,29],76,1,13⟩] fun cx => ?_
    refine mC Z7 14 ?_
    refine vA [.rd,.rd,.rd] (zCW n x0 v3.B v3.Q r5 er5) ?_
    refine fA ?_
    refine mC Z7 15 ?_
    refine vA [.rd,.rd,.rd,.rd] (zEf n x0 v3.A v3.P r5 r6 er6) ?_
    refine fA ?_
    refine mA Z7 [(16,[]),(17,[])] 15 [⟨[14,15,28,29],3,25,26⟩,⟨[14,15,28,29],3,23,24⟩,⟨[14,15,28,29],76,1,22⟩,⟨[15,28,29],3,20,21⟩,⟨[15,28,29],3,18,19⟩,⟨[15,28,29],76,1,17⟩,⟨[2,14,15,28,29],76,1,13⟩] fun cx => ?_
    refine sA_ 1207902674 18 ⟨47,0,[sB 30 (!r6),sI 26 v3.Q,sA 25 4 4 3,sI 24 v3.B,sA 23 4 4 2,sR 22 1 3 0 3 true,sI 21 v3.P,sA 20 4 4 1,sI 19 v3.A,sA 18 4 4 0,sR 17 1 3 0 3 true,sB 16 true,sR 13 1 3 0 3 true,sA 4 4 4 0,sI 8 y1,sI 7 (x0.Ls.length : Int),sC 6 (cF 4 x0.Ls Link.row),sA 1 1 3 0],[(4,(Link.row v3)),(1,(CV.frzRow (Net.row x0)))]⟩ ?_
    rw [h3]
    refine mA Z7 [(18,[29]),(19,[]),(20,[29]),(21,[]),(22,[29]),(23,[28,29]),(24,[]),(25,[28,29]),(26,[]),(27,[28,29])] 5 [⟨[28,29],3,39,40⟩,⟨[28,29],3,37,38⟩,⟨[28,29],76,1,36⟩,⟨[29],3,34,35⟩,⟨[29],3,32,33⟩,⟨[29],76,1,31⟩,⟨[14,15,28,29],3,25,26⟩,⟨[14,15,28,29],3,23,24⟩,⟨[14,15,28,29],76,1,22⟩,⟨[15,28,29],3,20,21⟩,⟨[15,28,29],3,18,19⟩,⟨[15,28,29],76,1,17⟩,⟨[2,14,15,28,29],76,1,13⟩] fun cx => ?_
    refine mC Z7 28 ?_
    refine vA [.rd,.rd,.rd] (zCW n x0 v3.A v3.P r7 er7) ?_
    refine fA ?_
    refine mC Z7 29 ?_
    refine vA [.rd,.rd,.rd,.rd] (zEf n x0 v3.B v3.Q r7 r8 er8) ?_
    refine fA ?_
    refine mA Z7 [(30,[]),(31,[]),(32,[])] 0 [⟨[28,29],3,39,40⟩,⟨[28,29],3,37,38⟩,⟨[28,29],76,1,36⟩,⟨[29],3,34,35⟩,⟨[29],3,32,33⟩,⟨[29],76,1,31⟩,⟨[14,15,28,29],3,25,26⟩,⟨[14,15,28,29],3,23,24⟩,⟨[14,15,28,29],76,1,22⟩,⟨[15,28,29],3,20,21⟩,⟨[15,28,29],3,18,19⟩,⟨[15,28,29],76,1,17⟩,⟨[2,14,15,28,29],76,1,13⟩] fun cx => ?_
    exact mE Z7 [45,8,7,6,1] [1]
   refine sT ⟨47,0,[sB 45 (!r8),sI 8 y1,sI 7 (x0.Ls.length : Int),sC 6 (cF 4 x0.Ls Link.row),sA 1 1 3 0],[(1,(CV.frzRow (Net.row x0)))]⟩ ?_
   cases h4 : (!r8)
   ·have H := zG h4 H
    refine nB_ ?_
    refine tK ?_
    refine eA 2 450 2 ?_
    exact jB mo2 (IntKind.wrap .i64 (y1 + 1)) H [8,7,6,1] [1]
   have H := zH h4 H
   refine tB_ ?_
   refine gA 1 4 0 ?_
   refine te ?_
   obtain rfl := si H
   have H := Ho2
   dsimp only at H
   exact fF H
  have H := zH h3 H
  refine Tr.draws mixed 33 kr ⟨47,0,[sB 45 true,sI 8 y1,sI 7 (x0.Ls.length : Int),sC 6 (cF 4 x0.Ls Link.row),sA 1 1 3 0],[(1,(CV.frzRow (Net.row x0)))]⟩ (fun cx => ?_) ?_
  ·refine mA Z7 [(0,[2,14,15]),(1,[])] 31 [⟨[2,14,15],76,1,13⟩] fun cx => ?_
   refine mC Z7 2 ?_
   refine vA [.rd,.rd] (zAt n x0 y1 r4 er4) ?_
   refine fA ?_
   refine mA Z7 [(3,[])] 29 [⟨[2,14,15],76,1,13⟩] fun cx => ?_
   refine sA_ 74194 18 ⟨47,0,[sB 16 r4,sR 13 1 3 0 3 true,sA 4 4 4 0,sI 8 y1,sI 7 (x0.Ls.length : Int),sC 6 (cF 4 x0.Ls Link.row),sA 1 1 3 0],[(4,(Link.row v3)),(1,(CV.frzRow (Net.row x0)))]⟩ ?_
   rw [h2]
   refine mA Z7 [(4,[15]),(5,[]),(6,[15]),(7,[]),(8,[15]),(9,[14,15]),(10,[]),(11,[14,15]),(12,[]),(13,[14,15])] 19 [⟨[14,15],3,25,26⟩,⟨[14,15],3,23,24⟩,⟨[14,15],76,1,22⟩,⟨[15],3,20,21⟩,⟨[15],3,18,19⟩,⟨[15],76,1,17⟩,⟨[2,14,15],76,1,13⟩] fun cx => ?_
   refine mC Z7 14 ?_
   refine vA [.rd,.rd,.rd] (zCW n x0 v3.B v3.Q r5 er5) ?_
   refine fA ?_
   refine mC Z7 15 ?_
   refine vA [.rd,.rd,.rd,.rd] (zEf n x0 v3.A v3.P r5 r6 er6) ?_
   refine fA ?_
   refine mA Z7 [(16,[]),(17,[])] 15 [⟨[14,15],3,25,26⟩,⟨[14,15],3,23,24⟩,⟨[14,15],76,1,22⟩,⟨[15],3,20,21⟩,⟨[15],3,18,19⟩,⟨[15],76,1,17⟩,⟨[2,14,15],76,1,13⟩] fun cx => ?_
   refine sA_ 1207902674 18 ⟨47,0,[sB 30 (!r6),sI 26 v3.Q,sA 25 4 4 3,sI 24 v3.B,sA 23 4 4 2,sR 22 1 3 0 3 true,sI 21 v3.P,sA 20 4 4 1,sI 19 v3.A,sA 18 4 4 0,sR 17 1 3 0 3 true,sB 16 true,sR 13 1 3 0 3 true,sA 4 4 4 0,sI 8 y1,sI 7 (x0.Ls.length : Int),sC 6 (cF 4 x0.Ls Link.row),sA 1 1 3 0],[(4,(Link.row v3)),(1,(CV.frzRow (Net.row x0)))]⟩ ?_
   rw [h3]
   refine mA Z7 [(18,[]),(19,[]),(20,[]),(21,[]),(22,[]),(23,[]),(24,[]),(25,[]),(26,[]),(27,[]),(28,[]),(29,[]),(30,[]),(31,[]),(32,[])] 0 [⟨[14,15],3,25,26⟩,⟨[14,15],3,23,24⟩,⟨[14,15],76,1,22⟩,⟨[15],3,20,21⟩,⟨[15],3,18,19⟩,⟨[15],76,1,17⟩,⟨[2,14,15],76,1,13⟩] fun cx => ?_
   exact mE Z7 [45,8,7,6,1] [1]
  refine tB_ ?_
  refine gA 1 4 0 ?_
  refine te ?_
  obtain rfl := si H
  have H := Ho2
  dsimp only at H
  exact fF H
 rintro _ H
 have H : (zAV n) = some r := H
 unfold zAV at H
 refine gA 1 4 0 ?_
 exact te (fT H)
def QL (n : Nat) (x0 : Net) (x1 : Int) (x2 : Int) : Option (Bool) :=
  ((idx x0.Bs x1).bind fun v1 => ((idx x0.Bs x1).bind fun v2 => ((Y6 n v1.Id v2.Ps).bind fun r3 => ((QK n r3 x2).bind fun r4 => (some r4)))))
def zNb : Tab := ⟨16,[0,1,0,6,8,16,0,64,0,384,512,1024,2080,0,12288,32767],[0,1,0,6,8,16,0,64,0,384,512,1024,2080,0,12288,16384],[0,1,0,7,15,31,0,64,0,448,960,1984,4095,0,16383,32767]⟩
theorem zCx : zk (rg Try.f81 1) zNb = true := kr
theorem zFN (n : Nat) (x0 : Net) (x1 : Int) (x2 : Int) (r : Bool) (H : QL n x0 x1 x2 = some r) : zI Try.prog 81 [.val true (CV.frzRow (Net.row x0)),.val false [.lit (.int .i64 x1)],.val false [.lit (.int .i64 x2)]] [.val false [.lit (.bool r)]] [] := by
 refine cW Try.func81 (fun g d => sl [g 0,d 1] .ret) [.tmp 6] fun cx => ?_
 unfold QL at H
 refine gA 2 14 8 ?_
 obtain ⟨v1,ev1,H⟩ := bs H
 obtain ⟨v2,ev2,H⟩ := bs H
 obtain ⟨r3,er3,H⟩ := bs H
 obtain ⟨r4,er4,H⟩ := bs H
 refine Tr.draws mixed 16 kr ⟨22,0,[sB 6 r4],[]⟩ (fun cx => ?_) ?_
 ·refine mA zCx [(0,[]),(1,[12,14]),(2,[])] 13 [⟨[12,14],53,7,8⟩] fun cx => ?_
  refine iN zCx 3 zA.row ev1 fun cx => ?_
  refine mA zCx [(4,[]),(5,[]),(6,[]),(7,[12,14]),(8,[])] 7 [⟨[12,14],53,13,14⟩,⟨[12,14],53,7,8⟩] fun cx => ?_
  refine iN zCx 9 zA.row ev2 fun cx => ?_
  refine mA zCx [(10,[]),(11,[]),(13,[])] 3 [⟨[12,14],53,13,14⟩,⟨[12,14],53,7,8⟩] fun cx => ?_
  refine mC zCx 12 ?_
  refine vA [.rd,.rd] (zHD n v1.Id v2.Ps r3 er3) ?_
  refine fA ?_
  refine mC zCx 14 ?_
  refine vA [.rd,.rd] (zFM n r3 x2 r4 er4) ?_
  refine fA ?_
  refine mA zCx [(15,[])] 0 [⟨[12,14],53,13,14⟩,⟨[12,14],53,7,8⟩] fun cx => ?_
  exact mE zCx [6] []
 exact te (fJ [(false,[cB r4])] H)
def zBV (n : Nat) (y3 : (List Int)) : Option ((List Int)) :=
  (some y3)
def Zi (n : Nat) (k : (Int × (List Int) → Option (((List Int)) ⊕ ((List Int))))) (y1 : Int) (y2 : (List Int)) (y6 : Bool) : Option (((List Int)) ⊕ ((List Int))) :=
  (bif y6 then (bif (decide (y2.length + [y1].length ≤ 268435456)) then (k ((IntKind.wrap .i64 (y1 + 1)),(y2 ++ [y1]))) else none) else (k ((IntKind.wrap .i64 (y1 + 1)),y2)))
def qU (n : Nat) : Nat → Net → Int → (List Int) → Option (((List Int)) ⊕ ((List Int)))
  | 0,_,_,_ => none
  | mo4 + 1,x0,y1,y2 => (bif (decide (y1 < (x0.Ls.length : Int))) then ((idx x0.Ls y1).bind fun v5 => ((zX n x0 y1).bind fun r8 => (bif r8 then ((QL n x0 v5.A v5.P).bind fun r9 => (bif r9 then ((QL n x0 v5.B v5.Q).bind fun r10 => (Zi n (fun v => qU n mo4 x0 v.1 v.2) y1 y2 r10)) else (Zi n (fun v => qU n mo4 x0 v.1 v.2) y1 y2 false))) else (Zi n (fun v => qU n mo4 x0 v.1 v.2) y1 y2 false)))) else (some (Sum.inl y2)))
def Q0 (n : Nat) (x0 : Net) : Option ((List Int)) :=
  ((qU n n x0 0 ([] : List Int)).bind fun o => match o with | .inl y3 => (zBV n y3) | .inr r => some r)
theorem zIU (n : Nat) (x0 : Net) (r : (List Int)) (H : Q0 n x0 = some r) : zI Try.prog 39 [.val true (CV.frzRow (Net.row x0))] [.val false [.sl true 1 (r.map intRow)]] [] := by
 refine cW Try.func39 (fun g d => sl [g 0,g 1,sl [g 2] (.block 0 (.loop (sl [g 3,cn 10 .skip (.exit 0),.block 1 (sl [g 4,g 5] (cn 32 (g 6) .skip))] (g 7)))),g 8] .ret) [.tmp 2] fun cx => ?_
 unfold Q0 at H
 refine gA 2 2 2 ?_
 refine gA 1 10 2 ?_
 refine tS ?_
 refine rA 2 ?_
 refine kF x0.Ls Link.row ?_
 refine uA 1 906 2 ?_
 obtain ⟨o4,eo4,Ho4⟩ := bs H
 clear H
 refine Tr.mid (ι := (List Int)) (fun v => ⟨39,0,[sC 3 (cL 1 v intRow)],[]⟩) (fun v => zBV n v = some r) ?_ ?_
 ·refine tB ?_
  refine Tr.loop (ι := Nat × (Int × (List Int))) (fun v => ⟨39,0,[sI 9 v.2.1,sI 8 (x0.Ls.length : Int),sC 7 (cF 4 x0.Ls Link.row),sC 3 (cL 1 v.2.2 intRow),sA 1 1 3 0],[(1,(CV.frzRow (Net.row x0)))]⟩) (fun v => qU n v.1 x0 v.2.1 v.2.2 = some o4) (fun v => v.1) (n,(0,([] : List Int))) eo4 (St.sub_of [9,8,7,3,1] [1] kr) ?_
  rintro ⟨mo4,y1,y2⟩ H
  have H : qU n mo4 x0 y1 y2 = some o4 := H
  obtain _ | mo4 := mo4
  ·exact nN H
  rw [qU] at H
  refine gA 1 1930 2 ?_
  refine tS ?_
  obtain ⟨h1,H⟩ | ⟨h1,H⟩ := bC H
  ·refine nA h1 ?_
   refine Tr.exit ?_
   refine aJ ?_
   obtain rfl := si H
   have H := Ho4
   dsimp only at H
   exact jA y2 H [3] []
  refine tA h1 ?_
  refine tK ?_
  refine tS ?_
  refine tB ?_
  refine rA 1 ?_
  obtain ⟨v5,ev5,H⟩ := bs H
  refine iA Link.row ev5 ?_
  refine uA 4 954 34 ?_
  refine tS ?_
  refine Tr.mid (ι := Bool) (fun v => ⟨39,0,[sB 32 v,sI 4 y1,sI 9 y1,sI 8 (x0.Ls.length : Int),sC 7 (cF 4 x0.Ls Link.row),sC 3 (cL 1 y2 intRow),sA 1 1 3 0],[(1,(CV.frzRow (Net.row x0)))]⟩) (fun v => Zi n (fun v => qU n mo4 x0 v.1 v.2) y1 y2 v = some o4) ?_ ?_
  ·refine Tr.at ?_
   refine lA 2 ?_
   obtain ⟨r8,er8,H⟩ := bs H
   refine vA [.rd,.rd] (zAt n x0 y1 r8 er8) ?_
   refine lA 1 ?_
   refine sL 132026 34 ⟨39,0,[sB 17 r8,sI 4 y1,sA 5 5 4 0,sI 9 y1,sI 8 (x0.Ls.length : Int),sC 7 (cF 4 x0.Ls Link.row),sC 3 (cL 1 y2 intRow),sA 1 1 3 0],[(5,(Link.row v5)),(1,(CV.frzRow (Net.row x0)))]⟩ ?_
   cases h3 : r8
   ·have H := zG h3 H
    refine uA 15 4294968218 2 ?_
    exact jA false H [32,4,9,8,7,3,1] [1]
   have H := zH h3 H
   refine lA 5 ?_
   obtain ⟨r9,er9,H⟩ := bs H
   refine vA [.rd,.rd,.rd] (zFN n x0 v5.A v5.P r9 er9) ?_
   refine lA 2 ?_
   refine sL 33555386 34 ⟨39,0,[sB 25 r9,sI 4 y1,sA 5 5 4 0,sI 9 y1,sI 8 (x0.Ls.length : Int),sC 7 (cF 4 x0.Ls Link.row),sC 3 (cL 1 y2 intRow),sA 1 1 3 0],[(5,(Link.row v5)),(1,(CV.frzRow (Net.row x0)))]⟩ ?_
   cases h4 : r9
   ·have H := zG h4 H
    refine uA 7 4294968218 2 ?_
    exact jA false H [32,4,9,8,7,3,1] [1]
   have H := zH h4 H
   refine lA 5 ?_
   obtain ⟨r10,er10,H⟩ := bs H
   refine vA [.rd,.rd,.rd] (zFN n x0 v5.B v5.Q r10 er10) ?_
   refine uA 1 4294968218 2 ?_
   exact jA r10 H [32,4,9,8,7,3,1] [1]
  rintro y6 H
  have H : (Zi n (fun v => qU n mo4 x0 v.1 v.2) y1 y2 y6) = some o4 := H
  unfold Zi at H
  cases h2 : y6
  ·have H := zG h2 H
   refine nB_ ?_
   refine tK ?_
   refine eA 2 906 2 ?_
   exact jB mo4 ((IntKind.wrap .i64 (y1 + 1)),y2) H [9,8,7,3,1] [1]
  have H := zH h2 H
  refine tB_ ?_
  refine Tr.at ?_
  refine lA 3 ?_
  obtain ⟨hg7,H⟩ := gs H
  refine LAt.appMU tOk (t := 38) (ty := 38) (e := 3) (x := (.tmp 33)) (y := (.tmp 35)) (d := 36) (g := none) (tI 3) intRow y2 [y1] kr kr kr kr kr kr kr kr kr kr hg7 ?_
  refine LAt.moveU (T := lk tab) (ty := 38) (x := (.tmp 36)) (d := 3) (g := none) false [cL 1 (y2 ++ [y1]) intRow] kr kr kr kr kr ?_
  refine dA 906 2 ?_
  refine eA 2 906 2 ?_
  exact jB mo4 ((IntKind.wrap .i64 (y1 + 1)),(y2 ++ [y1])) H [9,8,7,3,1] [1]
 rintro y3 H
 have H : (zBV n y3) = some r := H
 unfold zBV at H
 refine gA 2 12 0 ?_
 exact te (fJ [(false,[cL 1 y3 intRow])] H)
def Jf (n : Nat) : Option (Bool) :=
  (some true)
def QT (n : Nat) : Nat → (List Int) → (List Int) → Int → Option ((Unit) ⊕ (Bool))
  | 0,_,_,_ => none
  | mo2 + 1,x0,x1,y1 => (bif (decide (y1 < (x0.length : Int))) then ((idx x0 y1).bind fun v3 => ((idx x1 y1).bind fun v4 => (bif (v3 != v4) then (some (Sum.inr false)) else (QT n mo2 x0 x1 (IntKind.wrap .i64 (y1 + 1)))))) else (some (Sum.inl ())))
def YW (n : Nat) (x0 : (List Int)) (x1 : (List Int)) : Option (Bool) :=
  (bif ((x0.length : Int) != (x1.length : Int)) then (some false) else ((QT n n x0 x1 0).bind fun o => match o with | .inl _ => (Jf n) | .inr r => some r))
theorem zIi (n : Nat) (x0 : (List Int)) (x1 : (List Int)) (r : Bool) (H : YW n x0 x1 = some r) : zI Try.prog 38 [.val false [.sl false 1 (CV.frzEs (x0.map intRow))],.val false [.sl false 1 (CV.frzEs (x1.map intRow))]] [.val false [.lit (.bool r)]] [] := by
 refine cW Try.func38 (fun g d => sl [g 0,sl [g 1] (cn 10 (sl [g 2] .ret) .skip),sl [g 3] (.block 0 (.loop (sl [sl [g 4] (cn 14 .skip (.exit 0)),.block 1 (sl [d 6] (cn 25 (sl [g 7] .ret) .skip))] (g 5)))),g 8] .ret) [.tmp 4] fun cx => ?_
 unfold YW at H
 refine gA 1 3 0 ?_
 refine tS ?_
 refine rA 1 ?_
 refine kF x0 intRow ?_
 refine lA 1 ?_
 refine kF x1 intRow ?_
 refine uA 1 1027 0 ?_
 obtain ⟨h1,H⟩ | ⟨h1,H⟩ := bC H
 ·refine nA h1 ?_
  refine tK ?_
  refine tS ?_
  refine gA 1 35 0 ?_
  obtain ⟨o2,eo2,Ho2⟩ := bs H
  clear H
  refine Tr.mid (ι := Unit) (fun v => ⟨26,0,[],[]⟩) (fun v => Jf n = some r) ?_ ?_
  ·refine tB ?_
   refine Tr.loop (ι := Nat × (Int)) (fun v => ⟨26,0,[sI 5 v.2,sC 0 (cF 1 x0 intRow),sC 1 (cF 1 x1 intRow)],[]⟩) (fun v => QT n v.1 x0 x1 v.2 = some o2) (fun v => v.1) (n,0) eo2 (St.sub_of [5,0,1] [] kr) ?_
   rintro ⟨mo2,y1⟩ H
   have H : QT n mo2 x0 x1 y1 = some o2 := H
   obtain _ | mo2 := mo2
   ·exact nN H
   rw [QT] at H
   refine tS ?_
   refine rA 2 ?_
   refine kF x0 intRow ?_
   refine uA 1 16419 0 ?_
   obtain ⟨h2,H⟩ | ⟨h2,H⟩ := bC H
   ·refine nA h2 ?_
    refine Tr.exit ?_
    refine aJ ?_
    obtain rfl := si H
    have H := Ho2
    dsimp only at H
    exact jA () H [] []
   refine tA h2 ?_
   refine tK ?_
   refine tS ?_
   refine tB ?_
   obtain ⟨v3,ev3,H⟩ := bs H
   obtain ⟨v4,ev4,H⟩ := bs H
   refine Tr.draws mixed 9 kr ⟨26,0,[sB 25 (v3 != v4),sI 5 y1,sC 0 (cF 1 x0 intRow),sC 1 (cF 1 x1 intRow)],[]⟩ (fun cx => ?_) ?_
   ·refine aA [(0,[]),(1,[])] 7 [] fun cx => ?_
    refine aI tOk 2 38 0 17 18 19 none ⟨(.slot 17),[],0,false,1,(CV.frzEs (x0.map intRow))⟩ y1 [cI v3] _ kr kr kr kr kr kr rfl (zEI ev3) rfl (fun cx => ?_)
    refine aA [(3,[]),(4,[]),(5,[])] 3 [] fun cx => ?_
    refine aI tOk 6 38 0 21 22 23 none ⟨(.slot 21),[],0,false,1,(CV.frzEs (x1.map intRow))⟩ y1 [cI v4] _ kr kr kr kr kr kr rfl (zEI ev4) rfl (fun cx => ?_)
    refine aA [(7,[]),(8,[])] 0 [] fun cx => ?_
    exact eE [25,5,0,1] []
   refine sT ⟨26,0,[sB 25 (v3 != v4),sI 5 y1,sC 0 (cF 1 x0 intRow),sC 1 (cF 1 x1 intRow)],[]⟩ ?_
   cases h3 : (v3 != v4)
   ·have H := zG h3 H
    refine nB_ ?_
    refine tK ?_
    refine eA 3 35 0 ?_
    exact jB mo2 (IntKind.wrap .i64 (y1 + 1)) H [5,0,1] []
   have H := zH h3 H
   refine tB_ ?_
   refine gA 1 16 0 ?_
   refine te ?_
   obtain rfl := si H
   have H := Ho2
   dsimp only at H
   exact fF H
  rintro _ H
  have H : (Jf n) = some r := H
  unfold Jf at H
  refine gA 1 16 0 ?_
  exact te (fT H)
 refine tA h1 ?_
 refine gA 1 16 0 ?_
 exact te (fF H)
def YO (n : Nat) (r3 : Net) (r4 : Net) : Option (Bool) :=
  ((Q0 n r3).bind fun r8 => ((Q0 n r4).bind fun r9 => ((YW n r8 r9).bind fun r10 => (some r10))))
def YP (n : Nat) (k : (Int → Option ((Unit) ⊕ (Bool)))) (y7 : Int) : Option ((Unit) ⊕ (Bool)) :=
  (k (IntKind.wrap .i64 (y7 + 1)))
def ZZ (n : Nat) : Nat → Net → Net → Int → Int → Option ((Unit) ⊕ (Bool))
  | 0,_,_,_,_ => none
  | mo13 + 1,r3,r4,y7,y12 => ((idx r3.Bs y7).bind fun v14 => (bif (decide (y12 < (v14.Ps.length : Int))) then ((idx v14.Ps y12).bind fun v15 => ((idx r4.Bs y7).bind fun v16 => ((idx v16.Ps y12).bind fun v17 => (bif (!((v15.Up == v17.Up) && ((v15.Co == v17.Co) && ((v15.Has == v17.Has) && (((v15.Hd.Root == v17.Hd.Root) && ((v15.Hd.Co == v17.Hd.Co) && ((v15.Hd.Hops == v17.Hd.Hops) && ((v15.Hd.Bridge == v17.Hd.Bridge) && ((v15.Hd.Port == v17.Hd.Port) && true))))) && true))))) then (some (Sum.inr false)) else (ZZ n mo13 r3 r4 y7 (IntKind.wrap .i64 (y12 + 1))))))) else (some (Sum.inl ()))))
def q8 (n : Nat) : Nat → Net → Net → Int → Option ((Unit) ⊕ (Bool))
  | 0,_,_,_ => none
  | mo11 + 1,r3,r4,y7 => (bif (decide (y7 < (r3.Bs.length : Int))) then ((ZZ n n r3 r4 y7 0).bind fun o => match o with | .inl _ => (YP n (fun v => q8 n mo11 r3 r4 v) y7) | .inr r => some (Sum.inr r)) else (some (Sum.inl ())))
def J0 (n : Nat) (x0 : (List Int)) : Option (Bool) :=
  ((zDo n x0).bind fun r1 => (bif r1 then (some true) else ((Jm n x0).bind fun r2 => ((zAD n r2.1 20).bind fun r3 => ((Zp n r3).bind fun r4 => ((JF n r3).bind fun r5 => (bif (!r5) then (some false) else ((JF n r4).bind fun r6 => (bif (!r6) then (some false) else (bif ((r4.Said.length : Int) != 0) then (some false) else ((q8 n n r3 r4 0).bind fun o => match o with | .inl _ => (YO n r3 r4) | .inr r => some r)))))))))))
def zNa : Tab := ⟨19,[0,1,0,6,8,16,0,96,128,0,512,0,3072,4096,8192,0,49152,65536,131328],[0,1,0,6,8,16,0,96,128,0,512,0,3072,4096,8192,0,49152,65536,131328],[0,1,0,7,15,31,0,127,255,0,512,0,3584,7680,15872,0,65024,130560,262143]⟩
theorem zO : zk (rg Try.f7 14) zNa = true := kr
theorem zF0 (n : Nat) (r3 : Net) (r8 : (List Int)) (r4 : Net) (r9 : (List Int)) (r10 : Bool) (er8 : (Q0 n r3) = some r8) (er9 : (Q0 n r4) = some r9) (er10 : (YW n r8 r9) = some r10) (cx : Cx) : AT Try.prog cx (rg Try.f7 16) [] 6 [] ⟨76,0,[sA 6 6 3 0,sA 5 5 3 0],[(6,(Net.row r4)),(5,(Net.row r3))]⟩ (fun s => s = ⟨76,0,[sB 2 r10],[]⟩) := by
 refine aA [(0,[1,3,4]),(2,[3,4])] 4 [⟨[3,4],76,6,73⟩,⟨[1,3,4],76,5,71⟩] fun cx => ?_
 refine bA 1 ?_
 refine vB [.rd] [.box 5] (zIU n r3 r8 er8) (.inr (qV (zK (YG (QU zCF _)) qW) qh)) ?_
 refine fA ?_
 refine bA 3 ?_
 refine vB [.rd] [.box 6] (zIU n r4 r9 er9) (.inr (qV (zK (YG (QU zCF _)) qW) qh)) ?_
 refine fA ?_
 refine bA 4 ?_
 refine vA [.rd,.rd] (zIi n r8 r9 r10 er10) ?_
 refine fA ?_
 refine aA [(5,[])] 0 [⟨[3,4],76,6,73⟩,⟨[1,3,4],76,5,71⟩] fun cx => ?_
 exact eE [2] []
theorem zF1 (n : Nat) (y7 : Int) (r3 : Net) (v14 : zA) (y12 : Int) (v15 : Pt) (r4 : Net) (v16 : zA) (v17 : Pt) (ev14 : (idx r3.Bs y7) = some v14) (ev15 : (idx v14.Ps y12) = some v15) (ev16 : (idx r4.Bs y7) = some v16) (ev17 : (idx v16.Ps y12) = some v17) (cx : Cx) : AT Try.prog cx (rg Try.f7 14) [] 19 [] ⟨76,0,[sB 49 (decide (y12 < (v14.Ps.length : Int))),sI 8 y12,sI 7 y7,sA 6 6 3 0,sA 5 5 3 0],[(6,(Net.row r4)),(5,(Net.row r3))]⟩ (fun s => s = ⟨76,0,[sB 70 (!((v15.Up == v17.Up) && ((v15.Co == v17.Co) && ((v15.Has == v17.Has) && (((v15.Hd.Root == v17.Hd.Root) && ((v15.Hd.Co == v17.Hd.Co) && ((v15.Hd.Hops == v17.Hd.Hops) && ((v15.Hd.Bridge == v17.Hd.Bridge) && ((v15.Hd.Port == v17.Hd.Port) && true))))) && true))))),sI 8 y12,sI 7 y7,sA 6 6 3 0,sA 5 5 3 0],[(6,(Net.row r4)),(5,(Net.row r3))]⟩) := by
 refine mA zO [(0,[]),(1,[18]),(2,[])] 16 [⟨[18],53,52,53⟩] fun cx => ?_
 refine oN zO 3 zA.row ev14 fun cx => ?_
 refine mA zO [(4,[]),(6,[]),(9,[]),(10,[18]),(11,[])] 10 [⟨[18],53,61,62⟩,⟨[18],53,52,53⟩] fun cx => ?_
 refine oN zO 12 zA.row ev16 fun cx => ?_
 refine mA zO [(13,[]),(15,[])] 7 [⟨[18],53,61,62⟩,⟨[18],53,52,53⟩] fun cx => ?_
 refine mB2 tOk zO 5 14 kr (And.intro kr ?_) (And.intro kr ?_)
 ·refine dE (tI 35) (.box 5) [(0,0),(0,(y7.toNat))] 11 2 [.sl true 3 [(Net.row r3)]] (zA.row v14) (zL rfl (zC ev14).2) ?_
  refine fA ?_
  refine mB2 tOk zO 7 14 kr (And.intro kr ?_) (And.intro kr ?_)
  ·refine LAt.indexD tOk (t := 35) (ty := 0) (et := 55) (x := (.tmp 57)) (y := (.tmp 58)) (d := 59) (g := none) (tI 55) ⟨(.box 5),[(0,0),(0,(y7.toNat))],2,true,8,(v14.Ps.map Pt.row)⟩ .i64 y12 (y12.toNat) (Pt.row v15) kr kr kr kr kr kr kr (ZR (row := [.sl true 3 [(Net.row r3)]]) (e := zA.row v14) kr kr (zL rfl (zC ev14).2) rfl rfl) rfl kr (qv ev15) rfl ?_
   refine fA ?_
   refine mB2 tOk zO 8 14 kr (And.intro kr ?_) (And.intro kr ?_)
   ·refine dE (tI 55) (.box 5) [(0,0),(0,(y7.toNat)),(2,(y12.toNat))] 8 0 [.sl true 3 [(Net.row r3)]] (Pt.row v15) (qN rfl (zC ev14).2 rfl (zC ev15).2) ?_
    refine fA ?_
    refine mC zO 14 ?_
    refine dE (tI 35) (.box 6) [(0,0),(0,(y7.toNat))] 11 2 [.sl true 3 [(Net.row r4)]] (zA.row v16) (zL rfl (zC ev16).2) ?_
    refine fA ?_
    refine mC zO 16 ?_
    refine LAt.indexD tOk (t := 35) (ty := 0) (et := 55) (x := (.tmp 66)) (y := (.tmp 67)) (d := 68) (g := none) (tI 55) ⟨(.box 6),[(0,0),(0,(y7.toNat))],2,true,8,(v16.Ps.map Pt.row)⟩ .i64 y12 (y12.toNat) (Pt.row v17) kr kr kr kr kr kr kr (ZR (row := [.sl true 3 [(Net.row r4)]]) (e := zA.row v16) kr kr (zL rfl (zC ev16).2) rfl rfl) rfl kr (qv ev17) rfl ?_
    refine fA ?_
    refine mC zO 17 ?_
    refine dE (tI 55) (.box 6) [(0,0),(0,(y7.toNat)),(2,(y12.toNat))] 8 0 [.sl true 3 [(Net.row r4)]] (Pt.row v17) (qN rfl (zC ev16).2 rfl (zC ev17).2) ?_
    refine fA ?_
    refine mC zO 18 ?_
    refine LAt.eqSG true (t := 55) (ty := 55) (ty' := 4) (x := (.tmp 60)) (y := (.tmp 69)) (d := 70) (g := none) ((v15.Up == v17.Up) && ((v15.Co == v17.Co) && ((v15.Has == v17.Has) && (((v15.Hd.Root == v17.Hd.Root) && ((v15.Hd.Co == v17.Hd.Co) && ((v15.Hd.Hops == v17.Hd.Hops) && ((v15.Hd.Bridge == v17.Hd.Bridge) && ((v15.Hd.Port == v17.Hd.Port) && true))))) && true)))) _ kr kr kr kr rfl ?_
    refine fA ?_
    exact mE zO [70,8,7,6,5] [6,5]
   ·refine dE (tI 35) (.box 6) [(0,0),(0,(y7.toNat))] 11 2 [.sl true 3 [(Net.row r4)]] (zA.row v16) (zL rfl (zC ev16).2) ?_
    refine fA ?_
    refine mB2 tOk zO 8 16 kr (And.intro kr ?_) (And.intro kr ?_)
    ·refine dE (tI 55) (.box 5) [(0,0),(0,(y7.toNat)),(2,(y12.toNat))] 8 0 [.sl true 3 [(Net.row r3)]] (Pt.row v15) (qN rfl (zC ev14).2 rfl (zC ev15).2) ?_
     refine fA ?_
     refine mC zO 16 ?_
     refine LAt.indexD tOk (t := 35) (ty := 0) (et := 55) (x := (.tmp 66)) (y := (.tmp 67)) (d := 68) (g := none) (tI 55) ⟨(.box 6),[(0,0),(0,(y7.toNat))],2,true,8,(v16.Ps.map Pt.row)⟩ .i64 y12 (y12.toNat) (Pt.row v17) kr kr kr kr kr kr kr (ZR (row := [.sl true 3 [(Net.row r4)]]) (e := zA.row v16) kr kr (zL rfl (zC ev16).2) rfl rfl) rfl kr (qv ev17) rfl ?_
     refine fA ?_
     refine mC zO 17 ?_
     refine dE (tI 55) (.box 6) [(0,0),(0,(y7.toNat)),(2,(y12.toNat))] 8 0 [.sl true 3 [(Net.row r4)]] (Pt.row v17) (qN rfl (zC ev16).2 rfl (zC ev17).2) ?_
     refine fA ?_
     refine mC zO 18 ?_
     refine LAt.eqSG true (t := 55) (ty := 55) (ty' := 4) (x := (.tmp 60)) (y := (.tmp 69)) (d := 70) (g := none) ((v15.Up == v17.Up) && ((v15.Co == v17.Co) && ((v15.Has == v17.Has) && (((v15.Hd.Root == v17.Hd.Root) && ((v15.Hd.Co == v17.Hd.Co) && ((v15.Hd.Hops == v17.Hd.Hops) && ((v15.Hd.Bridge == v17.Hd.Bridge) && ((v15.Hd.Port == v17.Hd.Port) && true))))) && true)))) _ kr kr kr kr rfl ?_
     refine fA ?_
     exact mE zO [70,8,7,6,5] [6,5]
    ·refine LAt.indexD tOk (t := 35) (ty := 0) (et := 55) (x := (.tmp 66)) (y := (.tmp 67)) (d := 68) (g := none) (tI 55) ⟨(.box 6),[(0,0),(0,(y7.toNat))],2,true,8,(v16.Ps.map Pt.row)⟩ .i64 y12 (y12.toNat) (Pt.row v17) kr kr kr kr kr kr kr (ZR (row := [.sl true 3 [(Net.row r4)]]) (e := zA.row v16) kr kr (zL rfl (zC ev16).2) rfl rfl) rfl kr (qv ev17) rfl ?_
     refine fA ?_
     refine mB2 tOk zO 8 17 kr (And.intro kr ?_) (And.intro kr ?_)
     ·refine dE (tI 55) (.box 5) [(0,0),(0,(y7.toNat)),(2,(y12.toNat))] 8 0 [.sl true 3 [(Net.row r3)]] (Pt.row v15) (qN rfl (zC ev14).2 rfl (zC ev15).2) ?_
      refine fA ?_
      refine mC zO 17 ?_
      refine dE (tI 55) (.box 6) [(0,0),(0,(y7.toNat)),(2,(y12.toNat))] 8 0 [.sl true 3 [(Net.row r4)]] (Pt.row v17) (qN rfl (zC ev16).2 rfl (zC ev17).2) ?_
      refine fA ?_
      refine mC zO 18 ?_
      refine LAt.eqSG true (t := 55) (ty := 55) (ty' := 4) (x := (.tmp 60)) (y := (.tmp 69)) (d := 70) (g := none) ((v15.Up == v17.Up) && ((v15.Co == v17.Co) && ((v15.Has == v17.Has) && (((v15.Hd.Root == v17.Hd.Root) && ((v15.Hd.Co == v17.Hd.Co) && ((v15.Hd.Hops == v17.Hd.Hops) && ((v15.Hd.Bridge == v17.Hd.Bridge) && ((v15.Hd.Port == v17.Hd.Port) && true))))) && true)))) _ kr kr kr kr rfl ?_
      refine fA ?_
      exact mE zO [70,8,7,6,5] [6,5]
     ·refine dE (tI 55) (.box 6) [(0,0),(0,(y7.toNat)),(2,(y12.toNat))] 8 0 [.sl true 3 [(Net.row r4)]] (Pt.row v17) (qN rfl (zC ev16).2 rfl (zC ev17).2) ?_
      refine fA ?_
      refine mC zO 8 ?_
      refine dE (tI 55) (.box 5) [(0,0),(0,(y7.toNat)),(2,(y12.toNat))] 8 0 [.sl true 3 [(Net.row r3)]] (Pt.row v15) (qN rfl (zC ev14).2 rfl (zC ev15).2) ?_
      refine fA ?_
      refine mC zO 18 ?_
      refine LAt.eqSG true (t := 55) (ty := 55) (ty' := 4) (x := (.tmp 60)) (y := (.tmp 69)) (d := 70) (g := none) ((v15.Up == v17.Up) && ((v15.Co == v17.Co) && ((v15.Has == v17.Has) && (((v15.Hd.Root == v17.Hd.Root) && ((v15.Hd.Co == v17.Hd.Co) && ((v15.Hd.Hops == v17.Hd.Hops) && ((v15.Hd.Bridge == v17.Hd.Bridge) && ((v15.Hd.Port == v17.Hd.Port) && true))))) && true)))) _ kr kr kr kr rfl ?_
      refine fA ?_
      exact mE zO [70,8,7,6,5] [6,5]
  ·refine dE (tI 35) (.box 6) [(0,0),(0,(y7.toNat))] 11 2 [.sl true 3 [(Net.row r4)]] (zA.row v16) (zL rfl (zC ev16).2) ?_
   refine fA ?_
   refine mB2 tOk zO 7 16 kr (And.intro kr ?_) (And.intro kr ?_)
   ·refine LAt.indexD tOk (t := 35) (ty := 0) (et := 55) (x := (.tmp 57)) (y := (.tmp 58)) (d := 59) (g := none) (tI 55) ⟨(.box 5),[(0,0),(0,(y7.toNat))],2,true,8,(v14.Ps.map Pt.row)⟩ .i64 y12 (y12.toNat) (Pt.row v15) kr kr kr kr kr kr kr (ZR (row := [.sl true 3 [(Net.row r3)]]) (e := zA.row v14) kr kr (zL rfl (zC ev14).2) rfl rfl) rfl kr (qv ev15) rfl ?_
    refine fA ?_
    refine mB2 tOk zO 8 16 kr (And.intro kr ?_) (And.intro kr ?_)
    ·refine dE (tI 55) (.box 5) [(0,0),(0,(y7.toNat)),(2,(y12.toNat))] 8 0 [.sl true 3 [(Net.row r3)]] (Pt.row v15) (qN rfl (zC ev14).2 rfl (zC ev15).2) ?_
     refine fA ?_
     refine mC zO 16 ?_
     refine LAt.indexD tOk (t := 35) (ty := 0) (et := 55) (x := (.tmp 66)) (y := (.tmp 67)) (d := 68) (g := none) (tI 55) ⟨(.box 6),[(0,0),(0,(y7.toNat))],2,true,8,(v16.Ps.map Pt.row)⟩ .i64 y12 (y12.toNat) (Pt.row v17) kr kr kr kr kr kr kr (ZR (row := [.sl true 3 [(Net.row r4)]]) (e := zA.row v16) kr kr (zL rfl (zC ev16).2) rfl rfl) rfl kr (qv ev17) rfl ?_
     refine fA ?_
     refine mC zO 17 ?_
     refine dE (tI 55) (.box 6) [(0,0),(0,(y7.toNat)),(2,(y12.toNat))] 8 0 [.sl true 3 [(Net.row r4)]] (Pt.row v17) (qN rfl (zC ev16).2 rfl (zC ev17).2) ?_
     refine fA ?_
     refine mC zO 18 ?_
     refine LAt.eqSG true (t := 55) (ty := 55) (ty' := 4) (x := (.tmp 60)) (y := (.tmp 69)) (d := 70) (g := none) ((v15.Up == v17.Up) && ((v15.Co == v17.Co) && ((v15.Has == v17.Has) && (((v15.Hd.Root == v17.Hd.Root) && ((v15.Hd.Co == v17.Hd.Co) && ((v15.Hd.Hops == v17.Hd.Hops) && ((v15.Hd.Bridge == v17.Hd.Bridge) && ((v15.Hd.Port == v17.Hd.Port) && true))))) && true)))) _ kr kr kr kr rfl ?_
     refine fA ?_
     exact mE zO [70,8,7,6,5] [6,5]
    ·refine LAt.indexD tOk (t := 35) (ty := 0) (et := 55) (x := (.tmp 66)) (y := (.tmp 67)) (d := 68) (g := none) (tI 55) ⟨(.box 6),[(0,0),(0,(y7.toNat))],2,true,8,(v16.Ps.map Pt.row)⟩ .i64 y12 (y12.toNat) (Pt.row v17) kr kr kr kr kr kr kr (ZR (row := [.sl true 3 [(Net.row r4)]]) (e := zA.row v16) kr kr (zL rfl (zC ev16).2) rfl rfl) rfl kr (qv ev17) rfl ?_
     refine fA ?_
     refine mB2 tOk zO 8 17 kr (And.intro kr ?_) (And.intro kr ?_)
     ·refine dE (tI 55) (.box 5) [(0,0),(0,(y7.toNat)),(2,(y12.toNat))] 8 0 [.sl true 3 [(Net.row r3)]] (Pt.row v15) (qN rfl (zC ev14).2 rfl (zC ev15).2) ?_
      refine fA ?_
      refine mC zO 17 ?_
      refine dE (tI 55) (.box 6) [(0,0),(0,(y7.toNat)),(2,(y12.toNat))] 8 0 [.sl true 3 [(Net.row r4)]] (Pt.row v17) (qN rfl (zC ev16).2 rfl (zC ev17).2) ?_
      refine fA ?_
      refine mC zO 18 ?_
      refine LAt.eqSG true (t := 55) (ty := 55) (ty' := 4) (x := (.tmp 60)) (y := (.tmp 69)) (d := 70) (g := none) ((v15.Up == v17.Up) && ((v15.Co == v17.Co) && ((v15.Has == v17.Has) && (((v15.Hd.Root == v17.Hd.Root) && ((v15.Hd.Co == v17.Hd.Co) && ((v15.Hd.Hops == v17.Hd.Hops) && ((v15.Hd.Bridge == v17.Hd.Bridge) && ((v15.Hd.Port == v17.Hd.Port) && true))))) && true)))) _ kr kr kr kr rfl ?_
      refine fA ?_
      exact mE zO [70,8,7,6,5] [6,5]
     ·refine dE (tI 55) (.box 6) [(0,0),(0,(y7.toNat)),(2,(y12.toNat))] 8 0 [.sl true 3 [(Net.row r4)]] (Pt.row v17) (qN rfl (zC ev16).2 rfl (zC ev17).2) ?_
      refine fA ?_
      refine mC zO 8 ?_
      refine dE (tI 55) (.box 5) [(0,0),(0,(y7.toNat)),(2,(y12.toNat))] 8 0 [.sl true 3 [(Net.row r3)]] (Pt.row v15) (qN rfl (zC ev14).2 rfl (zC ev15).2) ?_
      refine fA ?_
      refine mC zO 18 ?_
      refine LAt.eqSG true (t := 55) (ty := 55) (ty' := 4) (x := (.tmp 60)) (y := (.tmp 69)) (d := 70) (g := none) ((v15.Up == v17.Up) && ((v15.Co == v17.Co) && ((v15.Has == v17.Has) && (((v15.Hd.Root == v17.Hd.Root) && ((v15.Hd.Co == v17.Hd.Co) && ((v15.Hd.Hops == v17.Hd.Hops) && ((v15.Hd.Bridge == v17.Hd.Bridge) && ((v15.Hd.Port == v17.Hd.Port) && true))))) && true)))) _ kr kr kr kr rfl ?_
      refine fA ?_
      exact mE zO [70,8,7,6,5] [6,5]
   ·refine LAt.indexD tOk (t := 35) (ty := 0) (et := 55) (x := (.tmp 66)) (y := (.tmp 67)) (d := 68) (g := none) (tI 55) ⟨(.box 6),[(0,0),(0,(y7.toNat))],2,true,8,(v16.Ps.map Pt.row)⟩ .i64 y12 (y12.toNat) (Pt.row v17) kr kr kr kr kr kr kr (ZR (row := [.sl true 3 [(Net.row r4)]]) (e := zA.row v16) kr kr (zL rfl (zC ev16).2) rfl rfl) rfl kr (qv ev17) rfl ?_
    refine fA ?_
    refine mB2 tOk zO 7 17 kr (And.intro kr ?_) (And.intro kr ?_)
    ·refine LAt.indexD tOk (t := 35) (ty := 0) (et := 55) (x := (.tmp 57)) (y := (.tmp 58)) (d := 59) (g := none) (tI 55) ⟨(.box 5),[(0,0),(0,(y7.toNat))],2,true,8,(v14.Ps.map Pt.row)⟩ .i64 y12 (y12.toNat) (Pt.row v15) kr kr kr kr kr kr kr (ZR (row := [.sl true 3 [(Net.row r3)]]) (e := zA.row v14) kr kr (zL rfl (zC ev14).2) rfl rfl) rfl kr (qv ev15) rfl ?_
     refine fA ?_
     refine mB2 tOk zO 8 17 kr (And.intro kr ?_) (And.intro kr ?_)
     ·refine dE (tI 55) (.box 5) [(0,0),(0,(y7.toNat)),(2,(y12.toNat))] 8 0 [.sl true 3 [(Net.row r3)]] (Pt.row v15) (qN rfl (zC ev14).2 rfl (zC ev15).2) ?_
      refine fA ?_
      refine mC zO 17 ?_
      refine dE (tI 55) (.box 6) [(0,0),(0,(y7.toNat)),(2,(y12.toNat))] 8 0 [.sl true 3 [(Net.row r4)]] (Pt.row v17) (qN rfl (zC ev16).2 rfl (zC ev17).2) ?_
      refine fA ?_
      refine mC zO 18 ?_
      refine LAt.eqSG true (t := 55) (ty := 55) (ty' := 4) (x := (.tmp 60)) (y := (.tmp 69)) (d := 70) (g := none) ((v15.Up == v17.Up) && ((v15.Co == v17.Co) && ((v15.Has == v17.Has) && (((v15.Hd.Root == v17.Hd.Root) && ((v15.Hd.Co == v17.Hd.Co) && ((v15.Hd.Hops == v17.Hd.Hops) && ((v15.Hd.Bridge == v17.Hd.Bridge) && ((v15.Hd.Port == v17.Hd.Port) && true))))) && true)))) _ kr kr kr kr rfl ?_
      refine fA ?_
      exact mE zO [70,8,7,6,5] [6,5]
     ·refine dE (tI 55) (.box 6) [(0,0),(0,(y7.toNat)),(2,(y12.toNat))] 8 0 [.sl true 3 [(Net.row r4)]] (Pt.row v17) (qN rfl (zC ev16).2 rfl (zC ev17).2) ?_
      refine fA ?_
      refine mC zO 8 ?_
      refine dE (tI 55) (.box 5) [(0,0),(0,(y7.toNat)),(2,(y12.toNat))] 8 0 [.sl true 3 [(Net.row r3)]] (Pt.row v15) (qN rfl (zC ev14).2 rfl (zC ev15).2) ?_
      refine fA ?_
      refine mC zO 18 ?_
      refine LAt.eqSG true (t := 55) (ty := 55) (ty' := 4) (x := (.tmp 60)) (y := (.tmp 69)) (d := 70) (g := none) ((v15.Up == v17.Up) && ((v15.Co == v17.Co) && ((v15.Has == v17.Has) && (((v15.Hd.Root == v17.Hd.Root) && ((v15.Hd.Co == v17.Hd.Co) && ((v15.Hd.Hops == v17.Hd.Hops) && ((v15.Hd.Bridge == v17.Hd.Bridge) && ((v15.Hd.Port == v17.Hd.Port) && true))))) && true)))) _ kr kr kr kr rfl ?_
      refine fA ?_
      exact mE zO [70,8,7,6,5] [6,5]
    ·refine dE (tI 55) (.box 6) [(0,0),(0,(y7.toNat)),(2,(y12.toNat))] 8 0 [.sl true 3 [(Net.row r4)]] (Pt.row v17) (qN rfl (zC ev16).2 rfl (zC ev17).2) ?_
     refine fA ?_
     refine mC zO 7 ?_
     refine LAt.indexD tOk (t := 35) (ty := 0) (et := 55) (x := (.tmp 57)) (y := (.tmp 58)) (d := 59) (g := none) (tI 55) ⟨(.box 5),[(0,0),(0,(y7.toNat))],2,true,8,(v14.Ps.map Pt.row)⟩ .i64 y12 (y12.toNat) (Pt.row v15) kr kr kr kr kr kr kr (ZR (row := [.sl true 3 [(Net.row r3)]]) (e := zA.row v14) kr kr (zL rfl (zC ev14).2) rfl rfl) rfl kr (qv ev15) rfl ?_
     refine fA ?_
     refine mC zO 8 ?_
     refine dE (tI 55) (.box 5) [(0,0),(0,(y7.toNat)),(2,(y12.toNat))] 8 0 [.sl true 3 [(Net.row r3)]] (Pt.row v15) (qN rfl (zC ev14).2 rfl (zC ev15).2) ?_
     refine fA ?_
     refine mC zO 18 ?_
     refine LAt.eqSG true (t := 55) (ty := 55) (ty' := 4) (x := (.tmp 60)) (y := (.tmp 69)) (d := 70) (g := none) ((v15.Up == v17.Up) && ((v15.Co == v17.Co) && ((v15.Has == v17.Has) && (((v15.Hd.Root == v17.Hd.Root) && ((v15.Hd.Co == v17.Hd.Co) && ((v15.Hd.Hops == v17.Hd.Hops) && ((v15.Hd.Bridge == v17.Hd.Bridge) && ((v15.Hd.Port == v17.Hd.Port) && true))))) && true)))) _ kr kr kr kr rfl ?_
     refine fA ?_
     exact mE zO [70,8,7,6,5] [6,5]
 ·refine dE (tI 35) (.box 6) [(0,0),(0,(y7.toNat))] 11 2 [.sl true 3 [(Net.row r4)]] (zA.row v16) (zL rfl (zC ev16).2) ?_
  refine fA ?_
  refine mB2 tOk zO 5 16 kr (And.intro kr ?_) (And.intro kr ?_)
  ·refine dE (tI 35) (.box 5) [(0,0),(0,(y7.toNat))] 11 2 [.sl true 3 [(Net.row r3)]] (zA.row v14) (zL rfl (zC ev14).2) ?_
   refine fA ?_
   refine mB2 tOk zO 7 16 kr (And.intro kr ?_) (And.intro kr ?_)
   ·refine LAt.indexD tOk (t := 35) (ty := 0) (et := 55) (x := (.tmp 57)) (y := (.tmp 58)) (d := 59) (g := none) (tI 55) ⟨(.box 5),[(0,0),(0,(y7.toNat))],2,true,8,(v14.Ps.map Pt.row)⟩ .i64 y12 (y12.toNat) (Pt.row v15) kr kr kr kr kr kr kr (ZR (row := [.sl true 3 [(Net.row r3)]]) (e := zA.row v14) kr kr (zL rfl (zC ev14).2) rfl rfl) rfl kr (qv ev15) rfl ?_
    refine fA ?_
    refine mB2 tOk zO 8 16 kr (And.intro kr ?_) (And.intro kr ?_)
    ·refine dE (tI 55) (.box 5) [(0,0),(0,(y7.toNat)),(2,(y12.toNat))] 8 0 [.sl true 3 [(Net.row r3)]] (Pt.row v15) (qN rfl (zC ev14).2 rfl (zC ev15).2) ?_
     refine fA ?_
     refine mC zO 16 ?_
     refine LAt.indexD tOk (t := 35) (ty := 0) (et := 55) (x := (.tmp 66)) (y := (.tmp 67)) (d := 68) (g := none) (tI 55) ⟨(.box 6),[(0,0),(0,(y7.toNat))],2,true,8,(v16.Ps.map Pt.row)⟩ .i64 y12 (y12.toNat) (Pt.row v17) kr kr kr kr kr kr kr (ZR (row := [.sl true 3 [(Net.row r4)]]) (e := zA.row v16) kr kr (zL rfl (zC ev16).2) rfl rfl) rfl kr (qv ev17) rfl ?_
     refine fA ?_
     refine mC zO 17 ?_
     refine dE (tI 55) (.box 6) [(0,0),(0,(y7.toNat)),(2,(y12.toNat))] 8 0 [.sl true 3 [(Net.row r4)]] (Pt.row v17) (qN rfl (zC ev16).2 rfl (zC ev17).2) ?_
     refine fA ?_
     refine mC zO 18 ?_
     refine LAt.eqSG true (t := 55) (ty := 55) (ty' := 4) (x := (.tmp 60)) (y := (.tmp 69)) (d := 70) (g := none) ((v15.Up == v17.Up) && ((v15.Co == v17.Co) && ((v15.Has == v17.Has) && (((v15.Hd.Root == v17.Hd.Root) && ((v15.Hd.Co == v17.Hd.Co) && ((v15.Hd.Hops == v17.Hd.Hops) && ((v15.Hd.Bridge == v17.Hd.Bridge) && ((v15.Hd.Port == v17.Hd.Port) && true))))) && true)))) _ kr kr kr kr rfl ?_
     refine fA ?_
     exact mE zO [70,8,7,6,5] [6,5]
    ·refine LAt.indexD tOk (t := 35) (ty := 0) (et := 55) (x := (.tmp 66)) (y := (.tmp 67)) (d := 68) (g := none) (tI 55) ⟨(.box 6),[(0,0),(0,(y7.toNat))],2,true,8,(v16.Ps.map Pt.row)⟩ .i64 y12 (y12.toNat) (Pt.row v17) kr kr kr kr kr kr kr (ZR (row := [.sl true 3 [(Net.row r4)]]) (e := zA.row v16) kr kr (zL rfl (zC ev16).2) rfl rfl) rfl kr (qv ev17) rfl ?_
     refine fA ?_
     refine mB2 tOk zO 8 17 kr (And.intro kr ?_) (And.intro kr ?_)
     ·refine dE (tI 55) (.box 5) [(0,0),(0,(y7.toNat)),(2,(y12.toNat))] 8 0 [.sl true 3 [(Net.row r3)]] (Pt.row v15) (qN rfl (zC ev14).2 rfl (zC ev15).2) ?_
      refine fA ?_
      refine mC zO 17 ?_
      refine dE (tI 55) (.box 6) [(0,0),(0,(y7.toNat)),(2,(y12.toNat))] 8 0 [.sl true 3 [(Net.row r4)]] (Pt.row v17) (qN rfl (zC ev16).2 rfl (zC ev17).2) ?_
      refine fA ?_
      refine mC zO 18 ?_
      refine LAt.eqSG true (t := 55) (ty := 55) (ty' := 4) (x := (.tmp 60)) (y := (.tmp 69)) (d := 70) (g := none) ((v15.Up == v17.Up) && ((v15.Co == v17.Co) && ((v15.Has == v17.Has) && (((v15.Hd.Root == v17.Hd.Root) && ((v15.Hd.Co == v17.Hd.Co) && ((v15.Hd.Hops == v17.Hd.Hops) && ((v15.Hd.Bridge == v17.Hd.Bridge) && ((v15.Hd.Port == v17.Hd.Port) && true))))) && true)))) _ kr kr kr kr rfl ?_
      refine fA ?_
      exact mE zO [70,8,7,6,5] [6,5]
     ·refine dE (tI 55) (.box 6) [(0,0),(0,(y7.toNat)),(2,(y12.toNat))] 8 0 [.sl true 3 [(Net.row r4)]] (Pt.row v17) (qN rfl (zC ev16).2 rfl (zC ev17).2) ?_
      refine fA ?_
      refine mC zO 8 ?_
      refine dE (tI 55) (.box 5) [(0,0),(0,(y7.toNat)),(2,(y12.toNat))] 8 0 [.sl true 3 [(Net.row r3)]] (Pt.row v15) (qN rfl (zC ev14).2 rfl (zC ev15).2) ?_
      refine fA ?_
      refine mC zO 18 ?_
      refine LAt.eqSG true (t := 55) (ty := 55) (ty' := 4) (x := (.tmp 60)) (y := (.tmp 69)) (d := 70) (g := none) ((v15.Up == v17.Up) && ((v15.Co == v17.Co) && ((v15.Has == v17.Has) && (((v15.Hd.Root == v17.Hd.Root) && ((v15.Hd.Co == v17.Hd.Co) && ((v15.Hd.Hops == v17.Hd.Hops) && ((v15.Hd.Bridge == v17.Hd.Bridge) && ((v15.Hd.Port == v17.Hd.Port) && true))))) && true)))) _ kr kr kr kr rfl ?_
      refine fA ?_
      exact mE zO [70,8,7,6,5] [6,5]
   ·refine LAt.indexD tOk (t := 35) (ty := 0) (et := 55) (x := (.tmp 66)) (y := (.tmp 67)) (d := 68) (g := none) (tI 55) ⟨(.box 6),[(0,0),(0,(y7.toNat))],2,true,8,(v16.Ps.map Pt.row)⟩ .i64 y12 (y12.toNat) (Pt.row v17) kr kr kr kr kr kr kr (ZR (row := [.sl true 3 [(Net.row r4)]]) (e := zA.row v16) kr kr (zL rfl (zC ev16).2) rfl rfl) rfl kr (qv ev17) rfl ?_
    refine fA ?_
    refine mB2 tOk zO 7 17 kr (And.intro kr ?_) (And.intro kr ?_)
    ·refine LAt.indexD tOk (t := 35) (ty := 0) (et := 55) (x := (.tmp 57)) (y := (.tmp 58)) (d := 59) (g := none) (tI 55) ⟨(.box 5),[(0,0),(0,(y7.toNat))],2,true,8,(v14.Ps.map Pt.row)⟩ .i64 y12 (y12.toNat) (Pt.row v15) kr kr kr kr kr kr kr (ZR (row := [.sl true 3 [(Net.row r3)]]) (e := zA.row v14) kr kr (zL rfl (zC ev14).2) rfl rfl) rfl kr (qv ev15) rfl ?_
     refine fA ?_
     refine mB2 tOk zO 8 17 kr (And.intro kr ?_) (And.intro kr ?_)
     ·refine dE (tI 55) (.box 5) [(0,0),(0,(y7.toNat)),(2,(y12.toNat))] 8 0 [.sl true 3 [(Net.row r3)]] (Pt.row v15) (qN rfl (zC ev14).2 rfl (zC ev15).2) ?_
      refine fA ?_
      refine mC zO 17 ?_
      refine dE (tI 55) (.box 6) [(0,0),(0,(y7.toNat)),(2,(y12.toNat))] 8 0 [.sl true 3 [(Net.row r4)]] (Pt.row v17) (qN rfl (zC ev16).2 rfl (zC ev17).2) ?_
      refine fA ?_
      refine mC zO 18 ?_
      refine LAt.eqSG true (t := 55) (ty := 55) (ty' := 4) (x := (.tmp 60)) (y := (.tmp 69)) (d := 70) (g := none) ((v15.Up == v17.Up) && ((v15.Co == v17.Co) && ((v15.Has == v17.Has) && (((v15.Hd.Root == v17.Hd.Root) && ((v15.Hd.Co == v17.Hd.Co) && ((v15.Hd.Hops == v17.Hd.Hops) && ((v15.Hd.Bridge == v17.Hd.Bridge) && ((v15.Hd.Port == v17.Hd.Port) && true))))) && true)))) _ kr kr kr kr rfl ?_
      refine fA ?_
      exact mE zO [70,8,7,6,5] [6,5]
     ·refine dE (tI 55) (.box 6) [(0,0),(0,(y7.toNat)),(2,(y12.toNat))] 8 0 [.sl true 3 [(Net.row r4)]] (Pt.row v17) (qN rfl (zC ev16).2 rfl (zC ev17).2) ?_
      refine fA ?_
      refine mC zO 8 ?_
      refine dE (tI 55) (.box 5) [(0,0),(0,(y7.toNat)),(2,(y12.toNat))] 8 0 [.sl true 3 [(Net.row r3)]] (Pt.row v15) (qN rfl (zC ev14).2 rfl (zC ev15).2) ?_
      refine fA ?_
      refine mC zO 18 ?_
      refine LAt.eqSG true (t := 55) (ty := 55) (ty' := 4) (x := (.tmp 60)) (y := (.tmp 69)) (d := 70) (g := none) ((v15.Up == v17.Up) && ((v15.Co == v17.Co) && ((v15.Has == v17.Has) && (((v15.Hd.Root == v17.Hd.Root) && ((v15.Hd.Co == v17.Hd.Co) && ((v15.Hd.Hops == v17.Hd.Hops) && ((v15.Hd.Bridge == v17.Hd.Bridge) && ((v15.Hd.Port == v17.Hd.Port) && true))))) && true)))) _ kr kr kr kr rfl ?_
      refine fA ?_
      exact mE zO [70,8,7,6,5] [6,5]
    ·refine dE (tI 55) (.box 6) [(0,0),(0,(y7.toNat)),(2,(y12.toNat))] 8 0 [.sl true 3 [(Net.row r4)]] (Pt.row v17) (qN rfl (zC ev16).2 rfl (zC ev17).2) ?_
     refine fA ?_
     refine mC zO 7 ?_
     refine LAt.indexD tOk (t := 35) (ty := 0) (et := 55) (x := (.tmp 57)) (y := (.tmp 58)) (d := 59) (g := none) (tI 55) ⟨(.box 5),[(0,0),(0,(y7.toNat))],2,true,8,(v14.Ps.map Pt.row)⟩ .i64 y12 (y12.toNat) (Pt.row v15) kr kr kr kr kr kr kr (ZR (row := [.sl true 3 [(Net.row r3)]]) (e := zA.row v14) kr kr (zL rfl (zC ev14).2) rfl rfl) rfl kr (qv ev15) rfl ?_
     refine fA ?_
     refine mC zO 8 ?_
     refine dE (tI 55) (.box 5) [(0,0),(0,(y7.toNat)),(2,(y12.toNat))] 8 0 [.sl true 3 [(Net.row r3)]] (Pt.row v15) (qN rfl (zC ev14).2 rfl (zC ev15).2) ?_
     refine fA ?_
     refine mC zO 18 ?_
     refine LAt.eqSG true (t := 55) (ty := 55) (ty' := 4) (x := (.tmp 60)) (y := (.tmp 69)) (d := 70) (g := none) ((v15.Up == v17.Up) && ((v15.Co == v17.Co) && ((v15.Has == v17.Has) && (((v15.Hd.Root == v17.Hd.Root) && ((v15.Hd.Co == v17.Hd.Co) && ((v15.Hd.Hops == v17.Hd.Hops) && ((v15.Hd.Bridge == v17.Hd.Bridge) && ((v15.Hd.Port == v17.Hd.Port) && true))))) && true)))) _ kr kr kr kr rfl ?_
     refine fA ?_
     exact mE zO [70,8,7,6,5] [6,5]
  ·refine LAt.indexD tOk (t := 35) (ty := 0) (et := 55) (x := (.tmp 66)) (y := (.tmp 67)) (d := 68) (g := none) (tI 55) ⟨(.box 6),[(0,0),(0,(y7.toNat))],2,true,8,(v16.Ps.map Pt.row)⟩ .i64 y12 (y12.toNat) (Pt.row v17) kr kr kr kr kr kr kr (ZR (row := [.sl true 3 [(Net.row r4)]]) (e := zA.row v16) kr kr (zL rfl (zC ev16).2) rfl rfl) rfl kr (qv ev17) rfl ?_
   refine fA ?_
   refine mB2 tOk zO 5 17 kr (And.intro kr ?_) (And.intro kr ?_)
   ·refine dE (tI 35) (.box 5) [(0,0),(0,(y7.toNat))] 11 2 [.sl true 3 [(Net.row r3)]] (zA.row v14) (zL rfl (zC ev14).2) ?_
    refine fA ?_
    refine mB2 tOk zO 7 17 kr (And.intro kr ?_) (And.intro kr ?_)
    ·refine LAt.indexD tOk (t := 35) (ty := 0) (et := 55) (x := (.tmp 57)) (y := (.tmp 58)) (d := 59) (g := none) (tI 55) ⟨(.box 5),[(0,0),(0,(y7.toNat))],2,true,8,(v14.Ps.map Pt.row)⟩ .i64 y12 (y12.toNat) (Pt.row v15) kr kr kr kr kr kr kr (ZR (row := [.sl true 3 [(Net.row r3)]]) (e := zA.row v14) kr kr (zL rfl (zC ev14).2) rfl rfl) rfl kr (qv ev15) rfl ?_
     refine fA ?_
     refine mB2 tOk zO 8 17 kr (And.intro kr ?_) (And.intro kr ?_)
     ·refine dE (tI 55) (.box 5) [(0,0),(0,(y7.toNat)),(2,(y12.toNat))] 8 0 [.sl true 3 [(Net.row r3)]] (Pt.row v15) (qN rfl (zC ev14).2 rfl (zC ev15).2) ?_
      refine fA ?_
      refine mC zO 17 ?_
      refine dE (tI 55) (.box 6) [(0,0),(0,(y7.toNat)),(2,(y12.toNat))] 8 0 [.sl true 3 [(Net.row r4)]] (Pt.row v17) (qN rfl (zC ev16).2 rfl (zC ev17).2) ?_
      refine fA ?_
      refine mC zO 18 ?_
      refine LAt.eqSG true (t := 55) (ty := 55) (ty' := 4) (x := (.tmp 60)) (y := (.tmp 69)) (d := 70) (g := none) ((v15.Up == v17.Up) && ((v15.Co == v17.Co) && ((v15.Has == v17.Has) && (((v15.Hd.Root == v17.Hd.Root) && ((v15.Hd.Co == v17.Hd.Co) && ((v15.Hd.Hops == v17.Hd.Hops) && ((v15.Hd.Bridge == v17.Hd.Bridge) && ((v15.Hd.Port == v17.Hd.Port) && true))))) && true)))) _ kr kr kr kr rfl ?_
      refine fA ?_
      exact mE zO [70,8,7,6,5] [6,5]
     ·refine dE (tI 55) (.box 6) [(0,0),(0,(y7.toNat)),(2,(y12.toNat))] 8 0 [.sl true 3 [(Net.row r4)]] (Pt.row v17) (qN rfl (zC ev16).2 rfl (zC ev17).2) ?_
      refine fA ?_
      refine mC zO 8 ?_
      refine dE (tI 55) (.box 5) [(0,0),(0,(y7.toNat)),(2,(y12.toNat))] 8 0 [.sl true 3 [(Net.row r3)]] (Pt.row v15) (qN rfl (zC ev14).2 rfl (zC ev15).2) ?_
      refine fA ?_
      refine mC zO 18 ?_
      refine LAt.eqSG true (t := 55) (ty := 55) (ty' := 4) (x := (.tmp 60)) (y := (.tmp 69)) (d := 70) (g := none) ((v15.Up == v17.Up) && ((v15.Co == v17.Co) && ((v15.Has == v17.Has) && (((v15.Hd.Root == v17.Hd.Root) && ((v15.Hd.Co == v17.Hd.Co) && ((v15.Hd.Hops == v17.Hd.Hops) && ((v15.Hd.Bridge == v17.Hd.Bridge) && ((v15.Hd.Port == v17.Hd.Port) && true))))) && true)))) _ kr kr kr kr rfl ?_
      refine fA ?_
      exact mE zO [70,8,7,6,5] [6,5]
    ·refine dE (tI 55) (.box 6) [(0,0),(0,(y7.toNat)),(2,(y12.toNat))] 8 0 [.sl true 3 [(Net.row r4)]] (Pt.row v17) (qN rfl (zC ev16).2 rfl (zC ev17).2) ?_
     refine fA ?_
     refine mC zO 7 ?_
     refine LAt.indexD tOk (t := 35) (ty := 0) (et := 55) (x := (.tmp 57)) (y := (.tmp 58)) (d := 59) (g := none) (tI 55) ⟨(.box 5),[(0,0),(0,(y7.toNat))],2,true,8,(v14.Ps.map Pt.row)⟩ .i64 y12 (y12.toNat) (Pt.row v15) kr kr kr kr kr kr kr (ZR (row := [.sl true 3 [(Net.row r3)]]) (e := zA.row v14) kr kr (zL rfl (zC ev14).2) rfl rfl) rfl kr (qv ev15) rfl ?_
     refine fA ?_
     refine mC zO 8 ?_
     refine dE (tI 55) (.box 5) [(0,0),(0,(y7.toNat)),(2,(y12.toNat))] 8 0 [.sl true 3 [(Net.row r3)]] (Pt.row v15) (qN rfl (zC ev14).2 rfl (zC ev15).2) ?_
     refine fA ?_
     refine mC zO 18 ?_
     refine LAt.eqSG true (t := 55) (ty := 55) (ty' := 4) (x := (.tmp 60)) (y := (.tmp 69)) (d := 70) (g := none) ((v15.Up == v17.Up) && ((v15.Co == v17.Co) && ((v15.Has == v17.Has) && (((v15.Hd.Root == v17.Hd.Root) && ((v15.Hd.Co == v17.Hd.Co) && ((v15.Hd.Hops == v17.Hd.Hops) && ((v15.Hd.Bridge == v17.Hd.Bridge) && ((v15.Hd.Port == v17.Hd.Port) && true))))) && true)))) _ kr kr kr kr rfl ?_
     refine fA ?_
     exact mE zO [70,8,7,6,5] [6,5]
   ·refine dE (tI 55) (.box 6) [(0,0),(0,(y7.toNat)),(2,(y12.toNat))] 8 0 [.sl true 3 [(Net.row r4)]] (Pt.row v17) (qN rfl (zC ev16).2 rfl (zC ev17).2) ?_
    refine fA ?_
    refine mC zO 5 ?_
    refine dE (tI 35) (.box 5) [(0,0),(0,(y7.toNat))] 11 2 [.sl true 3 [(Net.row r3)]] (zA.row v14) (zL rfl (zC ev14).2) ?_
    refine fA ?_
    refine mC zO 7 ?_
    refine LAt.indexD tOk (t := 35) (ty := 0) (et := 55) (x := (.tmp 57)) (y := (.tmp 58)) (d := 59) (g := none) (tI 55) ⟨(.box 5),[(0,0),(0,(y7.toNat))],2,true,8,(v14.Ps.map Pt.row)⟩ .i64 y12 (y12.toNat) (Pt.row v15) kr kr kr kr kr kr kr (ZR (row := [.sl true 3 [(Net.row r3)]]) (e := zA.row v14) kr kr (zL rfl (zC ev14).2) rfl rfl) rfl kr (qv ev15) rfl ?_
    refine fA ?_
    refine mC zO 8 ?_
    refine dE (tI 55) (.box 5) [(0,0),(0,(y7.toNat)),(2,(y12.toNat))] 8 0 [.sl true 3 [(Net.row r3)]] (Pt.row v15) (qN rfl (zC ev14).2 rfl (zC ev15).2) ?_
    refine fA ?_
    refine mC zO 18 ?_
    refine LAt.eqSG true (t := 55) (ty := 55) (ty' := 4) (x := (.tmp 60)) (y := (.tmp 69)) (d := 70) (g := none) ((v15.Up == v17.Up) && ((v15.Co == v17.Co) && ((v15.Has == v17.Has) && (((v15.Hd.Root == v17.Hd.Root) && ((v15.Hd.Co == v17.Hd.Co) && ((v15.Hd.Hops == v17.Hd.Hops) && ((v15.Hd.Bridge == v17.Hd.Bridge) && ((v15.Hd.Port == v17.Hd.Port) && true))))) && true)))) _ kr kr kr kr rfl ?_
    refine fA ?_
    exact mE zO [70,8,7,6,5] [6,5]
theorem zHs (n : Nat) (x0 : (List Int)) (r : Bool) (H : J0 n x0 = some r) : zI Try.prog 7 [.val false [.sl false 1 (CV.frzEs (x0.map zy))]] [.val false [.lit (.bool r)]] [] := by
 refine cW Try.func7 (fun g d => sl [g 0,sl [g 1] (cn 10 (sl [g 2] .ret) .skip),g 3,g 4,g 5,sl [g 6] (cn 33 (sl [g 7] .ret) .skip),sl [g 8] (.block 0 (.loop (sl [sl [g 9] (cn 38 .skip (.exit 0)),.block 1 (sl [g 11] (.block 2 (.loop (sl [sl [g 12] (cn 49 .skip (.exit 2)),.block 3 (sl [d 14] (cn 70 (sl [g 15] .ret) .skip))] (g 13)))))] (g 10)))),d 16] .ret) [.tmp 2] fun cx => ?_
 unfold J0 at H
 refine gA 1 1 0 ?_
 refine tS ?_
 refine rA 1 ?_
 obtain ⟨r1,er1,H⟩ := bs H
 refine vA [.rd] (zLv n x0 r1 er1) ?_
 refine dA 1025 0 ?_
 cases h1 : r1
 ·have H := zG h1 H
  refine nB_ ?_
  refine tK ?_
  refine rA 1 ?_
  obtain ⟨r2,er2,H⟩ := bs H
  refine vA [.rd] (zJX n x0 r2 er2) ?_
  refine LAt.movT tOk (ty := 78) (t := 13) (d := 11) (g := none) [(true,(Net.row r2.1)),(false,[cL 2 r2.2 Event.row])] _ kr (.inl rfl) kr kr kr kr rfl ?_
  refine lA 4 ?_
  refine LAt.moveU (T := lk tab) (ty := 77) (x := (.tmp 15)) (d := 4) (g := none) false [cL 2 r2.2 Event.row] kr kr kr kr kr ?_
  refine dA 8 8 ?_
  refine rA 1 ?_
  obtain ⟨r3,er3,H⟩ := bs H
  refine vB [.rd,.rd] [.box 3] (zJm n r2.1 20 r3 er3) (.inr (qV (Net.row_mine _) qh)) ?_
  refine uA 2 32 32 ?_
  refine rA 1 ?_
  obtain ⟨r4,er4,H⟩ := bs H
  refine vB [.rd] [.box 5] (zHB n r3 r4 er4) (.inr (qV (Net.row_mine _) qh)) ?_
  refine uA 2 96 96 ?_
  refine tS ?_
  refine rA 1 ?_
  obtain ⟨r5,er5,H⟩ := bs H
  refine vB [.rd] [.box 5] (zGK n r3 r5 er5) (.inr (qV (zK zR qW) qh)) ?_
  refine lA 2 ?_
  refine sL 8388704 96 ⟨76,0,[sB 23 (!r5),sA 6 6 3 0,sA 5 5 3 0],[(6,(Net.row r4)),(5,(Net.row r3))]⟩ ?_
  cases h2 : (!r5)
  ·have H := zG h2 H
   refine lA 1 ?_
   obtain ⟨r6,er6,H⟩ := bs H
   refine vB [.rd] [.box 6] (zGK n r4 r6 er6) (.inr (qV (zK zR qW) qh)) ?_
   refine lA 3 ?_
   refine sL 268435552 96 ⟨76,0,[sB 28 (!r6),sA 6 6 3 0,sA 5 5 3 0],[(6,(Net.row r4)),(5,(Net.row r3))]⟩ ?_
   cases h3 : (!r6)
   ·have H := zG h3 H
    refine lA 2 ?_
    refine kO r4.Said Say.row ?_
    refine uA 2 8589934688 96 ?_
    obtain ⟨h4,H⟩ | ⟨h4,H⟩ := bC H
    ·refine nA h4 ?_
     refine tK ?_
     refine tS ?_
     refine gA 1 224 96 ?_
     obtain ⟨o11,eo11,Ho11⟩ := bs H
     clear H
     refine Tr.mid (ι := Unit) (fun v => ⟨76,0,[sA 6 6 3 0,sA 5 5 3 0],[(6,(Net.row r4)),(5,(Net.row r3))]⟩) (fun v => YO n r3 r4 = some r) ?_ ?_
     ·refine tB ?_
      refine Tr.loop (ι := Nat × (Int)) (fun v => ⟨76,0,[sI 7 v.2,sA 6 6 3 0,sA 5 5 3 0],[(6,(Net.row r4)),(5,(Net.row r3))]⟩) (fun v => q8 n v.1 r3 r4 v.2 = some o11) (fun v => v.1) (n,0) eo11 (St.sub_of [7,6,5] [6,5] kr) ?_
      rintro ⟨mo11,y7⟩ H
      have H : q8 n mo11 r3 r4 y7 = some o11 := H
      obtain _ | mo11 := mo11
      ·exact nN H
      rw [q8] at H
      refine tS ?_
      refine rA 3 ?_
      refine kO r3.Bs zA.row ?_
      refine uA 1 274877907168 96 ?_
      obtain ⟨h5,H⟩ | ⟨h5,H⟩ := bC H
      ·refine nA h5 ?_
       refine Tr.exit ?_
       refine aJ ?_
       obtain rfl := si H
       have H := Ho11
       dsimp only at H
       exact jA () H [6,5] [6,5]
      refine tA h5 ?_
      refine tK ?_
      refine tS ?_
      refine tB ?_
      refine gA 1 480 96 ?_
      obtain ⟨o13,eo13,Ho13⟩ := bs H
      clear H
      refine Tr.mid (ι := Unit) (fun v => ⟨76,0,[sI 7 y7,sA 6 6 3 0,sA 5 5 3 0],[(6,(Net.row r4)),(5,(Net.row r3))]⟩) (fun v => YP n (fun v => q8 n mo11 r3 r4 v) y7 = some o11) ?_ ?_
      ·refine tB ?_
       refine Tr.loop (ι := Nat × (Int)) (fun v => ⟨76,0,[sI 8 v.2,sI 7 y7,sA 6 6 3 0,sA 5 5 3 0],[(6,(Net.row r4)),(5,(Net.row r3))]⟩) (fun v => ZZ n v.1 r3 r4 y7 v.2 = some o13) (fun v => v.1) (n,0) eo13 (St.sub_of [8,7,6,5] [6,5] kr) ?_
       rintro ⟨mo13,y12⟩ H
       have H : ZZ n mo13 r3 r4 y7 y12 = some o13 := H
       obtain _ | mo13 := mo13
       ·exact nN H
       rw [ZZ] at H
       refine tS ?_
       refine rA 4 ?_
       obtain ⟨v14,ev14,H⟩ := bs H
       refine oA zA.row ev14 ?_
       refine lA 1 ?_
       refine dE (tI 35) (.box 5) [(0,0),(0,(y7.toNat))] 11 2 [.sl true 3 [(Net.row r3)]] (zA.row v14) (zL rfl (zC ev14).2) ?_
       refine lL tOk 35 3 55 47 48 none ⟨(.box 5),[(0,0),(0,(y7.toNat))],2,true,8,(v14.Ps.map Pt.row)⟩ (v14.Ps).length _ kr kr kr kr (ZR (row := [.sl true 3 [(Net.row r3)]]) (e := zA.row v14) kr kr (zL rfl (zC ev14).2) rfl rfl) (zHt _ _) rfl ?_
       refine uA 1 562949953421792 96 ?_
       obtain ⟨h6,H⟩ | ⟨h6,H⟩ := bC H
       ·refine nA h6 ?_
        refine Tr.exit ?_
        refine aJ ?_
        obtain rfl := si H
        have H := Ho13
        dsimp only at H
        exact jA () H [7,6,5] [6,5]
       refine tA h6 ?_
       refine tK ?_
       refine tS ?_
       refine tB ?_
       obtain ⟨v15,ev15,H⟩ := bs H
       obtain ⟨v16,ev16,H⟩ := bs H
       obtain ⟨v17,ev17,H⟩ := bs H
       refine sT ⟨76,0,[sB 49 (decide (y12 < (v14.Ps.length : Int))),sI 8 y12,sI 7 y7,sA 6 6 3 0,sA 5 5 3 0],[(6,(Net.row r4)),(5,(Net.row r3))]⟩ ?_
       refine Tr.draws mixed 19 kr ⟨76,0,[sB 70 (!((v15.Up == v17.Up) && ((v15.Co == v17.Co) && ((v15.Has == v17.Has) && (((v15.Hd.Root == v17.Hd.Root) && ((v15.Hd.Co == v17.Hd.Co) && ((v15.Hd.Hops == v17.Hd.Hops) && ((v15.Hd.Bridge == v17.Hd.Bridge) && ((v15.Hd.Port == v17.Hd.Port) && true))))) && true))))),sI 8 y12,sI 7 y7,sA 6 6 3 0,sA 5 5 3 0],[(6,(Net.row r4)),(5,(Net.row r3))]⟩ (zF1 n y7 r3 v14 y12 v15 r4 v16 v17 ev14 ev15 ev16 ev17) ?_
       refine sT ⟨76,0,[sB 70 (!((v15.Up == v17.Up) && ((v15.Co == v17.Co) && ((v15.Has == v17.Has) && (((v15.Hd.Root == v17.Hd.Root) && ((v15.Hd.Co == v17.Hd.Co) && ((v15.Hd.Hops == v17.Hd.Hops) && ((v15.Hd.Bridge == v17.Hd.Bridge) && ((v15.Hd.Port == v17.Hd.Port) && true))))) && true))))),sI 8 y12,sI 7 y7,sA 6 6 3 0,sA 5 5 3 0],[(6,(Net.row r4)),(5,(Net.row r3))]⟩ ?_
       cases h7 : (!((v15.Up == v17.Up) && ((v15.Co == v17.Co) && ((v15.Has == v17.Has) && (((v15.Hd.Root == v17.Hd.Root) && ((v15.Hd.Co == v17.Hd.Co) && ((v15.Hd.Hops == v17.Hd.Hops) && ((v15.Hd.Bridge == v17.Hd.Bridge) && ((v15.Hd.Port == v17.Hd.Port) && true))))) && true)))))
       ·have H := zG h7 H
        refine nB_ ?_
        refine tK ?_
        refine eA 3 480 96 ?_
        exact jB mo13 (IntKind.wrap .i64 (y12 + 1)) H [8,7,6,5] [6,5]
       have H := zH h7 H
       refine tB_ ?_
       refine gA 1 4 0 ?_
       refine te ?_
       obtain rfl := si H
       have H := Ho13
       dsimp only at H
       obtain rfl := si H
       have H := Ho11
       dsimp only at H
       exact fF H
      rintro _ H
      have H : (YP n (fun v => q8 n mo11 r3 r4 v) y7) = some o11 := H
      unfold YP at H
      refine eA 3 224 96 ?_
      exact jB mo11 (IntKind.wrap .i64 (y7 + 1)) H [7,6,5] [6,5]
     rintro _ H
     have H : (YO n r3 r4) = some r := H
     unfold YO at H
     obtain ⟨r8,er8,H⟩ := bs H
     obtain ⟨r9,er9,H⟩ := bs H
     obtain ⟨r10,er10,H⟩ := bs H
     refine sT ⟨76,0,[sA 6 6 3 0,sA 5 5 3 0],[(6,(Net.row r4)),(5,(Net.row r3))]⟩ ?_
     refine Tr.draws mixed 6 kr ⟨76,0,[sB 2 r10],[]⟩ (zF0 n r3 r8 r4 r9 r10 er8 er9 er10) ?_
     exact te (fJ [(false,[cB r10])] H)
    refine tA h4 ?_
    refine gA 1 4 0 ?_
    exact te (fF H)
   have H := zH h3 H
   refine uA 5 8589934688 96 ?_
   refine tB_ ?_
   refine gA 1 4 0 ?_
   exact te (fF H)
  have H := zH h2 H
  refine uA 10 8589934688 96 ?_
  refine tB_ ?_
  refine gA 1 4 0 ?_
  exact te (fF H)
 have H := zH h1 H
 refine tB_ ?_
 refine gA 1 4 0 ?_
 exact te (fT H)
def zFx (n : Nat) (x0 : Net) (y3 : (List Say)) : Option (Net) :=
  (some (⟨x0.Bs,x0.Ls,y3⟩ : Net))
def ZE (n : Nat) : Nat → Net → Int → Int → (List Say) → Option (((List Say)) ⊕ (Net))
  | 0,_,_,_,_ => none
  | mo4 + 1,x0,x1,y1,y2 => (bif (decide (y1 < (x0.Ls.length : Int))) then ((idx x0.Ls y1).bind fun v5 => ((zX n (⟨x0.Bs,x0.Ls,y2⟩ : Net) y1).bind fun r6 => (bif (!r6) then (ZE n mo4 x0 x1 (IntKind.wrap .i64 (y1 + 1)) y2) else (bif (decide ((y2.length : Int) ≥ 40)) then (ZE n mo4 x0 x1 (IntKind.wrap .i64 (y1 + 1)) y2) else (bif (v5.A == x1) then ((Zf n (⟨x0.Bs,x0.Ls,y2⟩ : Net) x1 v5.P).bind fun r9 => (bif (decide (y2.length + [(⟨y1,false,r9⟩ : Say)].length ≤ 268435456)) then (ZE n mo4 x0 x1 (IntKind.wrap .i64 (y1 + 1)) (y2 ++ [(⟨y1,false,r9⟩ : Say)])) else none)) else (bif (v5.B == x1) then ((Zf n (⟨x0.Bs,x0.Ls,y2⟩ : Net) x1 v5.Q).bind fun r7 => (bif (decide (y2.length + [(⟨y1,true,r7⟩ : Say)].length ≤ 268435456)) then (ZE n mo4 x0 x1 (IntKind.wrap .i64 (y1 + 1)) (y2 ++ [(⟨y1,true,r7⟩ : Say)])) else none)) else (ZE n mo4 x0 x1 (IntKind.wrap .i64 (y1 + 1)) y2))))))) else (some (Sum.inl y2)))
def zBW (n : Nat) (x0 : Net) (x1 : Int) : Option (Net) :=
  ((ZE n n x0 x1 0 x0.Said).bind fun o => match o with | .inl y3 => (zFx n x0 y3) | .inr r => some r)
def zHm (n : Nat) (y3 : (List zB)) : Option ((List zB)) :=
  (some y3)
def Qz (n : Nat) : Nat → (List zB) → Int → (List zB) → Option (((List zB)) ⊕ ((List zB)))
  | 0,_,_,_ => none
  | mo4 + 1,x0,y1,y2 => (bif (decide (y1 < (x0.length : Int))) then ((idx x0 y1).bind fun v5 => (bif (!v5.Sc) then (bif (decide (v5.Age ≥ 4)) then (Qz n mo4 x0 (IntKind.wrap .i64 (y1 + 1)) y2) else (bif (decide (y2.length + [(⟨v5.Tag,v5.Mac,v5.Port,(IntKind.wrap .i64 (v5.Age + 1)),v5.Sc⟩ : zB)].length ≤ 268435456)) then (Qz n mo4 x0 (IntKind.wrap .i64 (y1 + 1)) (y2 ++ [(⟨v5.Tag,v5.Mac,v5.Port,(IntKind.wrap .i64 (v5.Age + 1)),v5.Sc⟩ : zB)])) else none)) else (bif (decide (y2.length + [v5].length ≤ 268435456)) then (Qz n mo4 x0 (IntKind.wrap .i64 (y1 + 1)) (y2 ++ [v5])) else none))) else (some (Sum.inl y2)))
def zDK (n : Nat) (x0 : (List zB)) : Option ((List zB)) :=
  ((Qz n n x0 0 ([] : List zB)).bind fun o => match o with | .inl y3 => (zHm n y3) | .inr r => some r)
def zC2 (n : Nat) (x0 : zA) : Option (zA) :=
  ((ZO n x0).bind fun r1 => ((Qd n x0).bind fun r2 => (bif r2 then ((zAa n x0.Tk).bind fun r3 => ((zDK n x0.F).bind fun r4 => ((q7 n (⟨r1.Id,r1.Name,r1.Ps,r4,r1.V,r3,r1.Pa,r1.Wo,r1.Dr,r1.Ve⟩ : zA)).bind fun r5 => (some r5)))) else (some r1))))
def Jd (n : Nat) (x0 : Net) (x1 : Int) (x2 : Bool) : Option (Net) :=
  ((idx x0.Said x1).bind fun v1 => (bif (decide ((0 : Int) ≤ 0) && (decide ((0 : Int) ≤ x1) && decide ((x1 : Int) ≤ (x0.Said.length : Int)))) then (bif (decide (([] : List Say).length + ((x0.Said.drop ((0 : Int)).toNat).take (((x1 : Int)).toNat - ((0 : Int)).toNat)).length ≤ 268435456)) then (bif (decide ((0 : Int) ≤ (IntKind.wrap .i64 (x1 + 1))) && (decide (((IntKind.wrap .i64 (x1 + 1)) : Int) ≤ (x0.Said.length : Int)) && decide (((x0.Said.length : Int) : Int) ≤ (x0.Said.length : Int)))) then (bif (decide ((([] : List Say) ++ ((x0.Said.drop ((0 : Int)).toNat).take (((x1 : Int)).toNat - ((0 : Int)).toNat))).length + ((x0.Said.drop (((IntKind.wrap .i64 (x1 + 1)) : Int)).toNat).take ((((x0.Said.length : Int) : Int)).toNat - (((IntKind.wrap .i64 (x1 + 1)) : Int)).toNat)).length ≤ 268435456)) then (bif (!x2) then (some (⟨x0.Bs,x0.Ls,((([] : List Say) ++ ((x0.Said.drop ((0 : Int)).toNat).take (((x1 : Int)).toNat - ((0 : Int)).toNat))) ++ ((x0.Said.drop (((IntKind.wrap .i64 (x1 + 1)) : Int)).toNat).take ((((x0.Said.length : Int) : Int)).toNat - (((IntKind.wrap .i64 (x1 + 1)) : Int)).toNat)))⟩ : Net)) else ((zX n (⟨x0.Bs,x0.Ls,((([] : List Say) ++ ((x0.Said.drop ((0 : Int)).toNat).take (((x1 : Int)).toNat - ((0 : Int)).toNat))) ++ ((x0.Said.drop (((IntKind.wrap .i64 (x1 + 1)) : Int)).toNat).take ((((x0.Said.length : Int) : Int)).toNat - (((IntKind.wrap .i64 (x1 + 1)) : Int)).toNat)))⟩ : Net) v1.Link).bind fun r6 => (bif (!r6) then (some (⟨x0.Bs,x0.Ls,((([] : List Say) ++ ((x0.Said.drop ((0 : Int)).toNat).take (((x1 : Int)).toNat - ((0 : Int)).toNat))) ++ ((x0.Said.drop (((IntKind.wrap .i64 (x1 + 1)) : Int)).toNat).take ((((x0.Said.length : Int) : Int)).toNat - (((IntKind.wrap .i64 (x1 + 1)) : Int)).toNat)))⟩ : Net)) else ((idx x0.Ls v1.Link).bind fun v7 => (bif v1.Back then ((ZA n (⟨x0.Bs,x0.Ls,((([] : List Say) ++ ((x0.Said.drop ((0 : Int)).toNat).take (((x1 : Int)).toNat - ((0 : Int)).toNat))) ++ ((x0.Said.drop (((IntKind.wrap .i64 (x1 + 1)) : Int)).toNat).take ((((x0.Said.length : Int) : Int)).toNat - (((IntKind.wrap .i64 (x1 + 1)) : Int)).toNat)))⟩ : Net) v7.A v7.P v1.V).bind fun r9 => (some r9)) else ((ZA n (⟨x0.Bs,x0.Ls,((([] : List Say) ++ ((x0.Said.drop ((0 : Int)).toNat).take (((x1 : Int)).toNat - ((0 : Int)).toNat))) ++ ((x0.Said.drop (((IntKind.wrap .i64 (x1 + 1)) : Int)).toNat).take ((((x0.Said.length : Int) : Int)).toNat - (((IntKind.wrap .i64 (x1 + 1)) : Int)).toNat)))⟩ : Net) v7.B v7.Q v1.V).bind fun r8 => (some r8))))))) else none) else none) else none) else none))
def Yq (n : Nat) (x0 : zA) (x1 : Int) (x2 : Bool) : Option (zA) :=
  ((ZO n x0).bind fun r1 => ((JJ n x0 x1).bind fun r2 => (bif r2 then ((idx x0.Ps x1).bind fun v3 => ((idx r1.Ps x1).bind fun v4 => ((q7 n (⟨r1.Id,r1.Name,(r1.Ps.set (x1.toNat) (⟨x2,v3.Co,false,(⟨0,0,0,0,0⟩ : Vec)⟩ : Pt)),r1.F,r1.V,r1.Tk,r1.Pa,r1.Wo,r1.Dr,r1.Ve⟩ : zA)).bind fun r5 => (some r5)))) else (some r1))))
def zB4 (n : Nat) (x0 : Net) (x1 : Int) (x2 : Bool) : Option (Net) :=
  ((zX n x0 x1).bind fun r1 => (bif (r1 == x2) then (some x0) else ((idx x0.Ls x1).bind fun v2 => ((idx x0.Bs v2.A).bind fun v3 => ((Yq n v3 v2.P x2).bind fun r4 => ((idx (x0.Bs.set (v2.A.toNat) r4) v2.B).bind fun v5 => ((Yq n v5 v2.Q x2).bind fun r6 => (some (⟨((x0.Bs.set (v2.A.toNat) r4).set (v2.B.toNat) r6),x0.Ls,x0.Said⟩ : Net)))))))))
def zBY (n : Nat) (r1 : Net) (x1 : Event) (y5 : Bool) : Option (Net × Bool) :=
  (bif y5 then ((Jd n r1 x1.At (x1.Ki == 2)).bind fun r7 => (some (r7,true))) else ((zB4 n r1 x1.At (x1.Ki == 5)).bind fun r6 => (some (r6,true))))
def Zj (n : Nat) (r1 : Net) (x0 : Net) (x1 : Event) (y3 : Int) : Option (Net × Bool) :=
  ((qO n x1.At 0 (IntKind.wrap .i64 (y3 - 1))).bind fun r4 => (bif (!r4) then (some (r1,false)) else (bif (x1.Ki == 1) then ((zBW n r1 x1.At).bind fun r11 => (some (r11,true))) else (bif (x1.Ki == 6) then ((idx x0.Bs x1.At).bind fun v8 => ((zC2 n v8).bind fun r9 => ((idx r1.Bs x1.At).bind fun v10 => (some ((⟨(r1.Bs.set (x1.At.toNat) r9),r1.Ls,r1.Said⟩ : Net),true))))) else (bif (x1.Ki == 2) then (zBY n r1 x1 true) else (zBY n r1 x1 (x1.Ki == 3)))))))
def zAE (n : Nat) (r1 : Net) (x0 : Net) (x1 : Event) (y13 : Bool) : Option (Net × Bool) :=
  (bif y13 then (Zj n r1 x0 x1 (x0.Said.length : Int)) else (bif (x1.Ki == 4) then (Zj n r1 x0 x1 (x0.Ls.length : Int)) else (bif (x1.Ki == 5) then (Zj n r1 x0 x1 (x0.Ls.length : Int)) else (Zj n r1 x0 x1 0))))
def Qm (n : Nat) (r1 : Net) (x0 : Net) (x1 : Event) (y12 : Bool) : Option (Net × Bool) :=
  (bif y12 then (Zj n r1 x0 x1 (x0.Bs.length : Int)) else (bif (x1.Ki == 2) then (zAE n r1 x0 x1 true) else (zAE n r1 x0 x1 (x1.Ki == 3))))
def zHE (n : Nat) (x0 : Net) (x1 : Event) : Option (Net × Bool) :=
  ((YK n x0).bind fun r1 => ((QF n x0).bind fun r2 => (bif (!r2) then (some (r1,false)) else (bif (x1.Ki == 1) then (Qm n r1 x0 x1 true) else (Qm n r1 x0 x1 (x1.Ki == 6))))))
end Go.Proofs.Ytajadnlejdpceaa.Tw
