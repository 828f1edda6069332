import Derived.Test.YtcegokjpmppdbaaGreatProg
import Derived.Test.YtcegokjpmppdbaaGreatTlRule
import Derived.Test.YtcegokjpmppdbaaGreatTlU12
import Derived.Test.YtcegokjpmppdbaaGreatTwFS1
import Derived.WalkKit
set_option linter.unusedVariables false
set_option linter.unusedSimpArgs false
set_option maxRecDepth 100000
set_option maxHeartbeats 1000000
namespace Go.Proofs.YtcegokjpmppdbaaGreat.Tw
open Go Go.TL Go.Proofs
def Jz (n : Nat) : Option (Bool) :=
  (some true)
def qE (n : Nat) : Nat → Net → Int → Option ((Unit) ⊕ (Bool))
  | 0,_,_ => none
  | mo2 + 1,x0,y1 => (bif (decide (y1 < (x0.Ls.length : Int))) then ((idx x0.Ls y1).bind fun v3 => ((QA n x0 v3.A v3.P).bind fun r4 => ((QA n x0 v3.B v3.Q).bind fun r5 => (bif (decide (y1 ≥ 9)) then (some (Sum.inr false)) else (bif (!r4.2) then (some (Sum.inr false)) else (bif (!r5.2) then (some (Sum.inr false)) else (bif (v3.A == v3.B) then (some (Sum.inr false)) else (bif (!(r4.1.Up == r5.1.Up)) then (some (Sum.inr false)) else (bif (decide ((0 : Int) ≤ 0) && (decide ((0 : Int) ≤ y1) && decide ((y1 : Int) ≤ (x0.Ls.length : Int)))) then ((JY n ((x0.Ls.drop ((0 : Int)).toNat).take (((y1 : Int)).toNat - ((0 : Int)).toNat)) v3.A v3.P).bind fun r7 => (bif r7 then (some (Sum.inr false)) else (bif (decide ((0 : Int) ≤ 0) && (decide ((0 : Int) ≤ y1) && decide ((y1 : Int) ≤ (x0.Ls.length : Int)))) then ((JY n ((x0.Ls.drop ((0 : Int)).toNat).take (((y1 : Int)).toNat - ((0 : Int)).toNat)) v3.B v3.Q).bind fun r9 => (bif r9 then (some (Sum.inr false)) else (qE n mo2 x0 (IntKind.wrap .i64 (y1 + 1))))) else none))) else none))))))))) else (some (Sum.inl ())))
def YA (n : Nat) (x0 : Net) : Option (Bool) :=
  ((qE n n x0 0).bind fun o => match o with | .inl _ => (Jz n) | .inr r => some r)
def zMZ : Tab := ⟨20,[0,1,0,6,0,16,0,64,168,256,512,1536,512,6656,512,16896,512,66048,172544,262656],[0,1,0,6,0,16,0,64,168,256,512,1536,512,6656,512,16896,512,66048,172544,262656],[0,1,0,7,0,16,0,64,255,511,1023,2047,1023,8191,1023,17407,1023,66559,262143,524287]⟩
theorem YQ : za (rg Tryz.f150 8) zMZ = true := kr
theorem zIv (n : Nat) (x0 : Net) (r : Bool) (H : YA n x0 = some r) : zI Tryz.prog 150 [.val true (CV.frzRow (Net.row x0))] [.val false [.lit (.bool r)]] [] := by
 refine cW Tryz.func150 (fun g d => sl [g 0,sl [g 1] (.block 0 (.loop (sl [g 2,cn 13 .skip (.exit 0),.block 1 (sl [g 3,g 4,g 5,sl [g 6] (cn 58 (sl [g 7] .ret) .skip),d 8] (cn 78 (sl [g 9] .ret) .skip))] (g 10)))),g 11] .ret) [.tmp 2] fun cx => ?_
 unfold YA at H
 refine gA 2 2 2 ?_
 refine tS ?_
 refine rA 2 ?_
 refine kF x0.Ls Link.row ?_
 refine uA 1 7170 2 ?_
 obtain ⟨o2,eo2,Ho2⟩ := bs H
 clear H
 refine Tr.mid (ι := Unit) (fun v => ⟨80,0,[],[]⟩) (fun v => Jz n = some r) ?_ ?_
 ·refine tB ?_
  refine Tr.loop (ι := Nat × (Int)) (fun v => ⟨80,0,[sI 12 v.2,sI 11 (x0.Ls.length : Int),sC 10 (cF 4 x0.Ls Link.row),sA 1 1 3 0],[(1,(CV.frzRow (Net.row x0)))]⟩) (fun v => qE n v.1 x0 v.2 = some o2) (fun v => v.1) (n,0) eo2 (St.sub_of [12,11,10,1] [1] kr) ?_
  rintro ⟨mo2,y1⟩ H
  have H : qE n mo2 x0 y1 = some o2 := H
  obtain _ | mo2 := mo2
  ·exact nN H
  rw [qE] at H
  refine gA 1 15362 2 ?_
  refine tS ?_
  obtain ⟨h1,H⟩ | ⟨h1,H⟩ := bC H
  ·refine nA h1 ?_
   refine Tr.exit ?_
   refine aJ ?_
   obtain rfl := si H
   have H := Ho2
   dsimp only at H
   exact jA () H [] []
  refine tA h1 ?_
  refine tK ?_
  refine tS ?_
  refine tB ?_
  refine rA 1 ?_
  obtain ⟨v3,ev3,H⟩ := bs H
  refine iA Link.row ev3 ?_
  refine uA 4 7194 18 ?_
  refine rA 5 ?_
  obtain ⟨r4,er4,H⟩ := bs H
  refine vA [.rd,.rd,.rd] (Jp n x0 v3.A v3.P r4 er4) ?_
  refine LAt.movT tOk (ty := 189) (t := 23) (d := 17) (g := none) [(true,(Pt.row r4.1)),(false,[cB r4.2])] _ kr (.inl rfl) kr kr kr kr rfl ?_
  refine uA 5 7290 50 ?_
  refine rA 5 ?_
  obtain ⟨r5,er5,H⟩ := bs H
  refine vA [.rd,.rd,.rd] (Jp n x0 v3.B v3.Q r5 er5) ?_
  refine LAt.movT tOk (ty := 189) (t := 32) (d := 26) (g := none) [(true,(Pt.row r5.1)),(false,[cB r5.2])] _ kr (.inl rfl) kr kr kr kr rfl ?_
  refine uA 5 7674 178 ?_
  refine tS ?_
  refine rA 3 ?_
  refine sL 137438961146 178 ⟨80,0,[sB 37 (decide (y1 ≥ 9)),sB 8 r5.2,sA 7 7 8 0,sB 6 r4.2,sA 5 5 8 0,sI 3 y1,sA 4 4 4 0,sI 12 y1,sI 11 (x0.Ls.length : Int),sC 10 (cF 4 x0.Ls Link.row),sA 1 1 3 0],[(7,(Pt.row r5.1)),(5,(Pt.row r4.1)),(4,(Link.row v3)),(1,(CV.frzRow (Net.row x0)))]⟩ ?_
  cases h2 : (decide (y1 ≥ 9))
  ·have H := zE h2 H
   refine lA 4 ?_
   refine sL 2199023263162 178 ⟨80,0,[sB 41 (!r4.2),sB 8 r5.2,sA 7 7 8 0,sA 5 5 8 0,sI 3 y1,sA 4 4 4 0,sI 12 y1,sI 11 (x0.Ls.length : Int),sC 10 (cF 4 x0.Ls Link.row),sA 1 1 3 0],[(7,(Pt.row r5.1)),(5,(Pt.row r4.1)),(4,(Link.row v3)),(1,(CV.frzRow (Net.row x0)))]⟩ ?_
   cases h3 : (!r4.2)
   ·have H := zE h3 H
    refine lA 4 ?_
    refine sL 35184372096186 178 ⟨80,0,[sB 45 (!r5.2),sA 7 7 8 0,sA 5 5 8 0,sI 3 y1,sA 4 4 4 0,sI 12 y1,sI 11 (x0.Ls.length : Int),sC 10 (cF 4 x0.Ls Link.row),sA 1 1 3 0],[(7,(Pt.row r5.1)),(5,(Pt.row r4.1)),(4,(Link.row v3)),(1,(CV.frzRow (Net.row x0)))]⟩ ?_
    cases h4 : (!r5.2)
    ·have H := zE h4 H
     refine lA 7 ?_
     refine sL 4503599627377850 178 ⟨80,0,[sB 52 (v3.A == v3.B),sA 7 7 8 0,sA 5 5 8 0,sI 3 y1,sA 4 4 4 0,sI 12 y1,sI 11 (x0.Ls.length : Int),sC 10 (cF 4 x0.Ls Link.row),sA 1 1 3 0],[(7,(Pt.row r5.1)),(5,(Pt.row r4.1)),(4,(Link.row v3)),(1,(CV.frzRow (Net.row x0)))]⟩ ?_
     cases h5 : (v3.A == v3.B)
     ·have H := zE h5 H
      refine uA 6 0x400000000001c1a 18 ?_
      obtain ⟨h6,H⟩ | ⟨h6,H⟩ := bC H
      ·refine nA h6 ?_
       refine tK ?_
       obtain ⟨hg6,H⟩ := gs H
       obtain ⟨r7,er7,H⟩ := bs H
       refine sT ⟨80,0,[sB 58 (!(r4.1.Up == r5.1.Up)),sI 3 y1,sA 4 4 4 0,sI 12 y1,sI 11 (x0.Ls.length : Int),sC 10 (cF 4 x0.Ls Link.row),sA 1 1 3 0],[(4,(Link.row v3)),(1,(CV.frzRow (Net.row x0)))]⟩ ?_
       cases h7 : r7
       ·have H := zE h7 H
        obtain ⟨hg8,H⟩ := gs H
        obtain ⟨r9,er9,H⟩ := bs H
        refine Tr.draws mixed 20 kr ⟨80,0,[sB 78 r9,sI 12 y1,sI 11 (x0.Ls.length : Int),sC 10 (cF 4 x0.Ls Link.row),sA 1 1 3 0],[(1,(CV.frzRow (Net.row x0)))]⟩ (fun cx => ?_) ?_
        ·refine mA YQ [(0,[]),(1,[3,8,13,18]),(2,[]),(4,[]),(5,[8,13,18]),(6,[]),(7,[8,13,18])] 13 [⟨[8,13,18],3,65,66⟩,⟨[8,13,18],3,63,64⟩,⟨[3,8,13,18],64,59,60⟩] fun cx => ?_
         refine mC YQ 3 ?_
         refine LAt.cutG tOk (t := 64) (ty := 64) (e := 114) (x := (.tmp 60)) (lo := none) (hi := (some (.tmp 61))) (d := 62) (g := none) (tI 114) Link.row x0.Ls ⟨(.box 1),[(0,0)],1,false,4,(CV.frzEs (x0.Ls.map Link.row))⟩ 0 y1 kr kr kr kr kr kr rfl kr rfl kr kr hg6 ?_
         refine fA ?_
         refine mC YQ 8 ?_
         refine vA [.rd,.rd,.rd] (zDc n ((x0.Ls.drop ((0 : Int)).toNat).take (((y1 : Int)).toNat - ((0 : Int)).toNat)) v3.A v3.P r7 er7) ?_
         refine fA ?_
         refine mA YQ [(9,[])] 10 [⟨[8,13,18],3,65,66⟩,⟨[8,13,18],3,63,64⟩,⟨[3,8,13,18],64,59,60⟩] fun cx => ?_
         refine sA_ 0x179800000000001c1a 18 ⟨80,0,[sB 68 r7,sI 66 v3.P,sA 65 4 4 1,sI 64 v3.A,sA 63 4 4 0,sR 60 1 3 1 1 false,sA 59 1 3 1,sI 3 y1,sA 4 4 4 0,sI 12 y1,sI 11 (x0.Ls.length : Int),sC 10 (cF 4 x0.Ls Link.row),sA 1 1 3 0],[(4,(Link.row v3)),(1,(CV.frzRow (Net.row x0)))]⟩ ?_
         rw [h7]
         refine mA YQ [(10,[]),(11,[13,18]),(12,[]),(14,[]),(15,[18]),(16,[]),(17,[18])] 3 [⟨[18],3,75,76⟩,⟨[18],3,73,74⟩,⟨[13,18],64,69,70⟩,⟨[8,13,18],3,65,66⟩,⟨[8,13,18],3,63,64⟩,⟨[3,8,13,18],64,59,60⟩] fun cx => ?_
         refine mC YQ 13 ?_
         refine LAt.cutG tOk (t := 64) (ty := 64) (e := 114) (x := (.tmp 70)) (lo := none) (hi := (some (.tmp 71))) (d := 72) (g := (some (9,false))) (tI 114) Link.row x0.Ls ⟨(.box 1),[(0,0)],1,false,4,(CV.frzEs (x0.Ls.map Link.row))⟩ 0 y1 kr kr kr kr kr kr rfl kr rfl kr kr hg8 ?_
         refine fA ?_
         refine mC YQ 18 ?_
         refine vA [.rd,.rd,.rd] (zDc n ((x0.Ls.drop ((0 : Int)).toNat).take (((y1 : Int)).toNat - ((0 : Int)).toNat)) v3.B v3.Q r9 er9) ?_
         refine fA ?_
         refine mA YQ [(19,[])] 0 [⟨[18],3,75,76⟩,⟨[18],3,73,74⟩,⟨[13,18],64,69,70⟩,⟨[8,13,18],3,65,66⟩,⟨[8,13,18],3,63,64⟩,⟨[3,8,13,18],64,59,60⟩] fun cx => ?_
         exact mE YQ [78,12,11,10,1] [1]
        cases h8 : r9
        ·have H := zE h8 H
         refine nB_ ?_
         refine tK ?_
         refine eA 2 7170 2 ?_
         exact jB mo2 (IntKind.wrap .i64 (y1 + 1)) H [12,11,10,1] [1]
        have H := zF h8 H
        refine tB_ ?_
        refine gA 1 4 0 ?_
        refine te ?_
        obtain rfl := si H
        have H := Ho2
        dsimp only at H
        exact fF H
       have H := zF h7 H
       refine Tr.draws mixed 20 kr ⟨80,0,[sB 78 true,sI 12 y1,sI 11 (x0.Ls.length : Int),sC 10 (cF 4 x0.Ls Link.row),sA 1 1 3 0],[(1,(CV.frzRow (Net.row x0)))]⟩ (fun cx => ?_) ?_
       ·refine mA YQ [(0,[]),(1,[3,8]),(2,[]),(4,[]),(5,[8]),(6,[]),(7,[8])] 13 [⟨[8],3,65,66⟩,⟨[8],3,63,64⟩,⟨[3,8],64,59,60⟩] fun cx => ?_
        refine mC YQ 3 ?_
        refine LAt.cutG tOk (t := 64) (ty := 64) (e := 114) (x := (.tmp 60)) (lo := none) (hi := (some (.tmp 61))) (d := 62) (g := none) (tI 114) Link.row x0.Ls ⟨(.box 1),[(0,0)],1,false,4,(CV.frzEs (x0.Ls.map Link.row))⟩ 0 y1 kr kr kr kr kr kr rfl kr rfl kr kr hg6 ?_
        refine fA ?_
        refine mC YQ 8 ?_
        refine vA [.rd,.rd,.rd] (zDc n ((x0.Ls.drop ((0 : Int)).toNat).take (((y1 : Int)).toNat - ((0 : Int)).toNat)) v3.A v3.P r7 er7) ?_
        refine fA ?_
        refine mA YQ [(9,[])] 10 [⟨[8],3,65,66⟩,⟨[8],3,63,64⟩,⟨[3,8],64,59,60⟩] fun cx => ?_
        refine sA_ 0x179800000000001c1a 18 ⟨80,0,[sB 68 r7,sI 66 v3.P,sA 65 4 4 1,sI 64 v3.A,sA 63 4 4 0,sR 60 1 3 1 1 false,sA 59 1 3 1,sI 3 y1,sA 4 4 4 0,sI 12 y1,sI 11 (x0.Ls.length : Int),sC 10 (cF 4 x0.Ls Link.row),sA 1 1 3 0],[(4,(Link.row v3)),(1,(CV.frzRow (Net.row x0)))]⟩ ?_
        rw [h7]
        refine mA YQ [(10,[]),(11,[]),(12,[]),(13,[]),(14,[]),(15,[]),(16,[]),(17,[]),(18,[]),(19,[])] 0 [⟨[8],3,65,66⟩,⟨[8],3,63,64⟩,⟨[3,8],64,59,60⟩] fun cx => ?_
        exact mE YQ [78,12,11,10,1] [1]
       refine tB_ ?_
       refine gA 1 4 0 ?_
       refine te ?_
       obtain rfl := si H
       have H := Ho2
       dsimp only at H
       exact fF H
      refine tA h6 ?_
      refine gA 1 4 0 ?_
      refine te ?_
      obtain rfl := si H
      have H := Ho2
      dsimp only at H
      exact fF H
     have H := zF h5 H
     refine uA 6 0x400000000001c1a 18 ?_
     refine tB_ ?_
     refine gA 1 4 0 ?_
     refine te ?_
     obtain rfl := si H
     have H := Ho2
     dsimp only at H
     exact fF H
    have H := zF h4 H
    refine uA 13 0x400000000001c1a 18 ?_
    refine tB_ ?_
    refine gA 1 4 0 ?_
    refine te ?_
    obtain rfl := si H
    have H := Ho2
    dsimp only at H
    exact fF H
   have H := zF h3 H
   refine uA 17 0x400000000001c1a 18 ?_
   refine tB_ ?_
   refine gA 1 4 0 ?_
   refine te ?_
   obtain rfl := si H
   have H := Ho2
   dsimp only at H
   exact fF H
  have H := zF h2 H
  refine uA 21 0x400000000001c1a 18 ?_
  refine tB_ ?_
  refine gA 1 4 0 ?_
  refine te ?_
  obtain rfl := si H
  have H := Ho2
  dsimp only at H
  exact fF H
 rintro _ H
 have H : (Jz n) = some r := H
 unfold Jz at H
 refine gA 1 4 0 ?_
 exact te (fT H)
def Yh (n : Nat) (x0 : Net) : Option (Bool) :=
  ((YA n x0).bind fun r4 => (some r4))
def qJ (n : Nat) : Nat → Net → Int → Option ((Unit) ⊕ (Bool))
  | 0,_,_ => none
  | mo5 + 1,x0,y3 => (bif (decide (y3 < (x0.Said.length : Int))) then ((idx x0.Said y3).bind fun v6 => ((qI n v6.Link 0 (IntKind.wrap .i64 ((x0.Ls.length : Int) - 1))).bind fun r7 => (bif (!r7) then (some (Sum.inr false)) else ((YJ n v6.V).bind fun r8 => (bif (!r8) then (some (Sum.inr false)) else (qJ n mo5 x0 (IntKind.wrap .i64 (y3 + 1)))))))) else (some (Sum.inl ())))
def Qe (n : Nat) (x0 : Net) : Option (Bool) :=
  ((qJ n n x0 0).bind fun o => match o with | .inl _ => (Yh n x0) | .inr r => some r)
def Jg (n : Nat) (k : (Int → Option ((Unit) ⊕ (Bool)))) (y2 : Int) (y16 : Int) : Option ((Unit) ⊕ (Bool)) :=
  (k (IntKind.wrap .i64 (y2 + 1)))
def ZC (n : Nat) : Nat → zA → Net → Int → Int → Option ((Int) ⊕ (Bool))
  | 0,_,_,_,_ => none
  | mo17 + 1,v10,x0,y2,y15 => (bif (decide (y15 < (v10.Ps.length : Int))) then ((idx v10.Ps y15).bind fun v18 => (bif v18.Has then ((JY n x0.Ls y2 y15).bind fun r19 => (bif (!r19) then (some (Sum.inr false)) else (ZC n mo17 v10 x0 y2 (IntKind.wrap .i64 (y15 + 1))))) else (ZC n mo17 v10 x0 y2 (IntKind.wrap .i64 (y15 + 1))))) else (some (Sum.inl y15)))
def Jf (n : Nat) (k : (Int → Option ((Unit) ⊕ (Bool)))) (v10 : zA) (x0 : Net) (y2 : Int) (y14 : Int) : Option ((Unit) ⊕ (Bool)) :=
  ((ZC n n v10 x0 y2 0).bind fun o => match o with | .inl y16 => (Jg n k y2 y16) | .inr r => some (Sum.inr r))
def Zf (n : Nat) : Nat → zA → Net → Int → Int → Option ((Int) ⊕ (Bool))
  | 0,_,_,_,_ => none
  | mo20 + 1,v10,x0,y2,y13 => (bif (decide (y13 < (((x0.Bs.drop ((0 : Int)).toNat).take (((y2 : Int)).toNat - ((0 : Int)).toNat)).length : Int))) then ((idx ((x0.Bs.drop ((0 : Int)).toNat).take (((y2 : Int)).toNat - ((0 : Int)).toNat)) y13).bind fun v21 => (bif (v21.Id == v10.Id) then (some (Sum.inr false)) else (Zf n mo20 v10 x0 y2 (IntKind.wrap .i64 (y13 + 1))))) else (some (Sum.inl y13)))
def zw (n : Nat) : Nat → Net → Int → Option ((Unit) ⊕ (Bool))
  | 0,_,_ => none
  | mo9 + 1,x0,y2 => (bif (decide (y2 < (x0.Bs.length : Int))) then ((idx x0.Bs y2).bind fun v10 => ((QR n v10).bind fun r11 => (bif (!r11) then (some (Sum.inr false)) else (bif (decide ((0 : Int) ≤ 0) && (decide ((0 : Int) ≤ y2) && decide ((y2 : Int) ≤ (x0.Bs.length : Int)))) then ((Zf n n v10 x0 y2 0).bind fun o => match o with | .inl y14 => (Jf n (fun v => zw n mo9 x0 v) v10 x0 y2 y14) | .inr r => some (Sum.inr r)) else none)))) else (some (Sum.inl ())))
def ZJ (n : Nat) (x0 : Net) : Option (Bool) :=
  ((qI n (x0.Bs.length : Int) 1 6).bind fun r1 => (bif (!r1) then (some false) else (bif (decide ((x0.Said.length : Int) > 40)) then (some false) else ((zw n n x0 0).bind fun o => match o with | .inl _ => (Qe n x0) | .inr r => some r))))
theorem zES (n : Nat) (x0 : Net) (r : Bool) (H : ZJ n x0 = some r) : zI Tryz.prog 52 [.val true (CV.frzRow (Net.row x0))] [.val false [.lit (.bool r)]] [] := by
 refine cW Tryz.func52 (fun g d => sl [g 0,sl [g 1] (cn 21 (sl [g 2] .ret) .skip),sl [g 3] (.block 0 (.loop (sl [g 4,cn 26 .skip (.exit 0),.block 1 (sl [g 5,sl [g 6] (cn 32 (sl [g 7] .ret) .skip),sl [g 8] (.block 2 (.loop (sl [g 9,cn 39 .skip (.exit 2),.block 3 (sl [g 10,g 11] (cn 46 (sl [g 12] .ret) .skip))] (g 13)))),g 14] (.block 4 (.loop (sl [g 15,cn 52 .skip (.exit 4),.block 5 (sl [g 16,g 17] (cn 65 (sl [g 18] .ret) .skip))] (g 19)))))] (g 20)))),sl [g 21] (.block 6 (.loop (sl [g 22,cn 72 .skip (.exit 6),.block 7 (sl [g 23,g 24] (cn 88 (sl [g 25] .ret) .skip))] (g 26)))),g 27] .ret) [.tmp 2] fun cx => ?_
 unfold ZJ at H
 refine gA 2 6 2 ?_
 refine tS ?_
 refine rA 2 ?_
 refine kF x0.Bs zA.row ?_
 obtain ⟨r1,er1,H⟩ := bs H
 refine vA [.rd,.rd,.rd] (qM n (x0.Bs.length : Int) 1 6 r1 er1) ?_
 refine lA 2 ?_
 refine sL 65542 2 ⟨92,0,[sB 16 (!r1),sB 2 false,sA 1 1 3 0],[(1,(CV.frzRow (Net.row x0)))]⟩ ?_
 cases h1 : (!r1)
 ·have H := zE h1 H
  refine lA 2 ?_
  refine kF x0.Said Say.row ?_
  refine uA 2 2097158 2 ?_
  obtain ⟨h2,H⟩ | ⟨h2,H⟩ := bC H
  ·refine nA h2 ?_
   refine tK ?_
   refine tS ?_
   refine rA 2 ?_
   refine kF x0.Bs zA.row ?_
   refine uA 1 58720262 2 ?_
   obtain ⟨o9,eo9,Ho9⟩ := bs H
   clear H
   refine Tr.mid (ι := Unit) (fun v => ⟨92,0,[sB 2 false,sA 1 1 3 0],[(1,(CV.frzRow (Net.row x0)))]⟩) (fun v => Qe n x0 = some r) ?_ ?_
   ·refine tB ?_
    refine Tr.loop (ι := Nat × (Int)) (fun v => ⟨92,0,[sI 25 v.2,sI 24 (x0.Bs.length : Int),sC 23 (cF 11 x0.Bs zA.row),sB 2 false,sA 1 1 3 0],[(1,(CV.frzRow (Net.row x0)))]⟩) (fun v => zw n v.1 x0 v.2 = some o9) (fun v => v.1) (n,0) eo9 (St.sub_of [25,24,23,2,1] [1] kr) ?_
    rintro ⟨mo9,y2⟩ H
    have H : zw n mo9 x0 y2 = some o9 := H
    obtain _ | mo9 := mo9
    ·exact nN H
    rw [zw] at H
    refine gA 1 125829126 2 ?_
    refine tS ?_
    obtain ⟨h6,H⟩ | ⟨h6,H⟩ := bC H
    ·refine nA h6 ?_
     refine Tr.exit ?_
     refine aJ ?_
     obtain rfl := si H
     have H := Ho9
     dsimp only at H
     exact jA () H [2,1] [1]
    refine tA h6 ?_
    refine tK ?_
    refine tS ?_
    refine tB ?_
    refine rA 1 ?_
    obtain ⟨v10,ev10,H⟩ := bs H
    refine iA zA.row ev10 ?_
    refine uA 4 1065353246 18 ?_
    refine tS ?_
    refine rA 1 ?_
    obtain ⟨r11,er11,H⟩ := bs H
    refine vA [.rd] (zCk n v10 r11 er11) ?_
    refine uA 1 8581546014 18 ?_
    obtain ⟨h7,H⟩ | ⟨h7,H⟩ := bC H
    ·refine nA h7 ?_
     refine tK ?_
     refine tS ?_
     refine rA 3 ?_
     obtain ⟨hg12,H⟩ := gs H
     refine LAt.cutG tOk (t := 63) (ty := 63) (e := 41) (x := (.tmp 34)) (lo := none) (hi := (some (.tmp 35))) (d := 36) (g := none) (tI 41) zA.row x0.Bs ⟨(.slot 34),[],0,false,11,(CV.frzEs (x0.Bs.map zA.row))⟩ 0 y2 kr kr kr kr kr kr rfl kr rfl kr kr hg12 ?_
     refine kF ((x0.Bs.drop ((0 : Int)).toNat).take (((y2 : Int)).toNat - ((0 : Int)).toNat)) zA.row ?_
     refine uA 1 549747425310 18 ?_
     refine sT ⟨92,0,[sI 38 0,sI 37 (((x0.Bs.drop ((0 : Int)).toNat).take (((y2 : Int)).toNat - ((0 : Int)).toNat)).length : Int),sC 36 (cF 11 ((x0.Bs.drop ((0 : Int)).toNat).take (((y2 : Int)).toNat - ((0 : Int)).toNat)) zA.row),sI 35 y2,sC 34 (cF 11 x0.Bs zA.row),sA 33 1 3 0,sB 32 (!r11),sB 31 r11,sV 30 (CV.frzRow (zA.row v10)),sI 3 y2,sA 4 4 11 0,sV 29 (CV.frzRow (zA.row v10)),(28,.fad ((CV.frzRow (zA.row v10)))),sI 27 y2,sB 26 (decide (y2 < (x0.Bs.length : Int))),sI 25 y2,sI 24 (x0.Bs.length : Int),sC 23 (cF 11 x0.Bs zA.row),sB 2 false,sA 1 1 3 0],[(4,(CV.frzRow (zA.row v10))),(1,(CV.frzRow (Net.row x0)))]⟩ ?_
     rw [h6]
     rw [h7]
     obtain ⟨o20,eo20,Ho20⟩ := bs H
     clear H
     refine Tr.mid (ι := Int) (fun v => ⟨92,0,[sB 39 false,sI 38 v,sI 37 (((x0.Bs.drop ((0 : Int)).toNat).take (((y2 : Int)).toNat - ((0 : Int)).toNat)).length : Int),sC 36 (cF 11 ((x0.Bs.drop ((0 : Int)).toNat).take (((y2 : Int)).toNat - ((0 : Int)).toNat)) zA.row),sI 35 y2,sC 34 (cF 11 x0.Bs zA.row),sA 33 1 3 0,sB 32 false,sB 31 r11,sV 30 (CV.frzRow (zA.row v10)),sI 3 y2,sA 4 4 11 0,sV 29 (CV.frzRow (zA.row v10)),(28,.fad ((CV.frzRow (zA.row v10)))),sI 27 y2,sB 26 true,sI 25 y2,sI 24 (x0.Bs.length : Int),sC 23 (cF 11 x0.Bs zA.row),sB 2 false,sA 1 1 3 0],[(4,(CV.frzRow (zA.row v10))),(1,(CV.frzRow (Net.row x0)))]⟩) (fun v => Jf n (fun v => zw n mo9 x0 v) v10 x0 y2 v = some o9) ?_ ?_
     ·refine tB ?_
      refine Tr.loop (ι := Nat × (Int)) (fun v => ⟨92,0,[sI 38 v.2,sI 37 (((x0.Bs.drop ((0 : Int)).toNat).take (((y2 : Int)).toNat - ((0 : Int)).toNat)).length : Int),sC 36 (cF 11 ((x0.Bs.drop ((0 : Int)).toNat).take (((y2 : Int)).toNat - ((0 : Int)).toNat)) zA.row),sI 35 y2,sC 34 (cF 11 x0.Bs zA.row),sA 33 1 3 0,sB 32 false,sB 31 r11,sV 30 (CV.frzRow (zA.row v10)),sI 3 y2,sA 4 4 11 0,sV 29 (CV.frzRow (zA.row v10)),(28,.fad ((CV.frzRow (zA.row v10)))),sI 27 y2,sB 26 true,sI 25 y2,sI 24 (x0.Bs.length : Int),sC 23 (cF 11 x0.Bs zA.row),sB 2 false,sA 1 1 3 0],[(4,(CV.frzRow (zA.row v10))),(1,(CV.frzRow (Net.row x0)))]⟩) (fun v => Zf n v.1 v10 x0 y2 v.2 = some o20) (fun v => v.1) (n,0) eo20 (St.sub_of [38,37,36,35,34,33,32,31,30,3,4,29,28,27,26,25,24,23,2,1] [4,1] kr) ?_
      rintro ⟨mo20,y13⟩ H
      have H : Zf n mo20 v10 x0 y2 y13 = some o20 := H
      obtain _ | mo20 := mo20
      ·exact nN H
      rw [Zf] at H
      refine gA 1 0xffff80001e 18 ?_
      refine tS ?_
      obtain ⟨h11,H⟩ | ⟨h11,H⟩ := bC H
      ·refine nA h11 ?_
       refine Tr.exit ?_
       refine aJ ?_
       obtain rfl := si H
       have H := Ho20
       dsimp only at H
       refine sB' 0xffff80001e 18 ⟨92,0,[sB 39 (decide (y13 < (((x0.Bs.drop ((0 : Int)).toNat).take (((y2 : Int)).toNat - ((0 : Int)).toNat)).length : Int))),sI 38 y13,sI 37 (((x0.Bs.drop ((0 : Int)).toNat).take (((y2 : Int)).toNat - ((0 : Int)).toNat)).length : Int),sC 36 (cF 11 ((x0.Bs.drop ((0 : Int)).toNat).take (((y2 : Int)).toNat - ((0 : Int)).toNat)) zA.row),sI 35 y2,sC 34 (cF 11 x0.Bs zA.row),sA 33 1 3 0,sB 32 false,sB 31 r11,sV 30 (CV.frzRow (zA.row v10)),sI 3 y2,sA 4 4 11 0,sV 29 (CV.frzRow (zA.row v10)),(28,.fad ((CV.frzRow (zA.row v10)))),sI 27 y2,sB 26 true,sI 25 y2,sI 24 (x0.Bs.length : Int),sC 23 (cF 11 x0.Bs zA.row),sB 2 false,sA 1 1 3 0],[(4,(CV.frzRow (zA.row v10))),(1,(CV.frzRow (Net.row x0)))]⟩ ?_
       rw [h11]
       exact jA y13 H [39,38,37,36,35,34,33,32,31,30,3,4,29,28,27,26,25,24,23,2,1] [4,1]
      refine tA h11 ?_
      refine tK ?_
      refine tS ?_
      refine tB ?_
      refine tR ?_
      obtain ⟨v21,ev21,H⟩ := bs H
      refine iA zA.row ev21 ?_
      refine uA 3 4398038122590 82 ?_
      refine gA 5 0x7fffff80005e 82 ?_
      obtain ⟨h12,H⟩ | ⟨h12,H⟩ := bC H
      ·refine nA h12 ?_
       refine tK ?_
       refine eA 2 0xffffff80005e 82 ?_
       exact jB mo20 (IntKind.wrap .i64 (y13 + 1)) H [38,37,36,35,34,33,32,31,30,3,4,29,28,27,26,25,24,23,2,1] [4,1]
      refine tA h12 ?_
      refine gA 1 0x7fffff80005e 82 ?_
      refine te ?_
      obtain rfl := si H
      have H := Ho20
      dsimp only at H
      obtain rfl := si H
      have H := Ho9
      dsimp only at H
      exact fF H
     rintro y14 H
     have H : (Jf n (fun v => zw n mo9 x0 v) v10 x0 y2 y14) = some o9 := H
     unfold Jf at H
     refine rA 2 ?_
     refine kF v10.Ps Pt.row ?_
     refine uA 1 0xf00ffff80001e 18 ?_
     obtain ⟨o17,eo17,Ho17⟩ := bs H
     clear H
     refine Tr.mid (ι := Int) (fun v => ⟨92,0,[sB 52 false,sI 51 v,sI 50 (v10.Ps.length : Int),sC 49 (cF 8 v10.Ps Pt.row),sA 48 4 11 2,sB 39 false,sI 38 y14,sI 37 (((x0.Bs.drop ((0 : Int)).toNat).take (((y2 : Int)).toNat - ((0 : Int)).toNat)).length : Int),sC 36 (cF 11 ((x0.Bs.drop ((0 : Int)).toNat).take (((y2 : Int)).toNat - ((0 : Int)).toNat)) zA.row),sI 35 y2,sC 34 (cF 11 x0.Bs zA.row),sA 33 1 3 0,sB 32 false,sB 31 r11,sV 30 (CV.frzRow (zA.row v10)),sI 3 y2,sA 4 4 11 0,sV 29 (CV.frzRow (zA.row v10)),(28,.fad ((CV.frzRow (zA.row v10)))),sI 27 y2,sB 26 true,sI 25 y2,sI 24 (x0.Bs.length : Int),sC 23 (cF 11 x0.Bs zA.row),sB 2 false,sA 1 1 3 0],[(4,(CV.frzRow (zA.row v10))),(1,(CV.frzRow (Net.row x0)))]⟩) (fun v => Jg n (fun v => zw n mo9 x0 v) y2 v = some o9) ?_ ?_
     ·refine tB ?_
      refine Tr.loop (ι := Nat × (Int)) (fun v => ⟨92,0,[sI 51 v.2,sI 50 (v10.Ps.length : Int),sC 49 (cF 8 v10.Ps Pt.row),sA 48 4 11 2,sB 39 false,sI 38 y14,sI 37 (((x0.Bs.drop ((0 : Int)).toNat).take (((y2 : Int)).toNat - ((0 : Int)).toNat)).length : Int),sC 36 (cF 11 ((x0.Bs.drop ((0 : Int)).toNat).take (((y2 : Int)).toNat - ((0 : Int)).toNat)) zA.row),sI 35 y2,sC 34 (cF 11 x0.Bs zA.row),sA 33 1 3 0,sB 32 false,sB 31 r11,sV 30 (CV.frzRow (zA.row v10)),sI 3 y2,sA 4 4 11 0,sV 29 (CV.frzRow (zA.row v10)),(28,.fad ((CV.frzRow (zA.row v10)))),sI 27 y2,sB 26 true,sI 25 y2,sI 24 (x0.Bs.length : Int),sC 23 (cF 11 x0.Bs zA.row),sB 2 false,sA 1 1 3 0],[(4,(CV.frzRow (zA.row v10))),(1,(CV.frzRow (Net.row x0)))]⟩) (fun v => ZC n v.1 v10 x0 y2 v.2 = some o17) (fun v => v.1) (n,0) eo17 (St.sub_of [51,50,49,48,39,38,37,36,35,34,33,32,31,30,3,4,29,28,27,26,25,24,23,2,1] [4,1] kr) ?_
      rintro ⟨mo17,y15⟩ H
      have H : ZC n mo17 v10 x0 y2 y15 = some o17 := H
      obtain _ | mo17 := mo17
      ·exact nN H
      rw [ZC] at H
      refine gA 1 8726823781269534 18 ?_
      refine tS ?_
      obtain ⟨h8,H⟩ | ⟨h8,H⟩ := bC H
      ·refine nA h8 ?_
       refine Tr.exit ?_
       refine aJ ?_
       obtain rfl := si H
       have H := Ho17
       dsimp only at H
       refine sB' 8726823781269534 18 ⟨92,0,[sB 52 (decide (y15 < (v10.Ps.length : Int))),sI 51 y15,sI 50 (v10.Ps.length : Int),sC 49 (cF 8 v10.Ps Pt.row),sA 48 4 11 2,sB 39 false,sI 38 y14,sI 37 (((x0.Bs.drop ((0 : Int)).toNat).take (((y2 : Int)).toNat - ((0 : Int)).toNat)).length : Int),sC 36 (cF 11 ((x0.Bs.drop ((0 : Int)).toNat).take (((y2 : Int)).toNat - ((0 : Int)).toNat)) zA.row),sI 35 y2,sC 34 (cF 11 x0.Bs zA.row),sA 33 1 3 0,sB 32 false,sB 31 r11,sV 30 (CV.frzRow (zA.row v10)),sI 3 y2,sA 4 4 11 0,sV 29 (CV.frzRow (zA.row v10)),(28,.fad ((CV.frzRow (zA.row v10)))),sI 27 y2,sB 26 true,sI 25 y2,sI 24 (x0.Bs.length : Int),sC 23 (cF 11 x0.Bs zA.row),sB 2 false,sA 1 1 3 0],[(4,(CV.frzRow (zA.row v10))),(1,(CV.frzRow (Net.row x0)))]⟩ ?_
       rw [h8]
       exact jA y15 H [52,51,50,49,48,39,38,37,36,35,34,33,32,31,30,3,4,29,28,27,26,25,24,23,2,1] [4,1]
      refine tA h8 ?_
      refine tK ?_
      refine tS ?_
      refine tB ?_
      refine rA 1 ?_
      obtain ⟨v18,ev18,H⟩ := bs H
      refine iA Pt.row ev18 ?_
      refine uA 4 0xff00ffff80019e 274 ?_
      refine rA 3 ?_
      refine sL 0x7ff00ffff80019e 274 ⟨92,0,[sB 58 v18.Has,sB 57 v18.Has,sA 56 8 8 2,sI 7 y15,sA 8 8 8 0,sV 55 (Pt.row v18),(54,.fad ((Pt.row v18))),sI 53 y15,sB 52 (decide (y15 < (v10.Ps.length : Int))),sI 51 y15,sI 50 (v10.Ps.length : Int),sC 49 (cF 8 v10.Ps Pt.row),sA 48 4 11 2,sB 39 false,sI 38 y14,sI 37 (((x0.Bs.drop ((0 : Int)).toNat).take (((y2 : Int)).toNat - ((0 : Int)).toNat)).length : Int),sC 36 (cF 11 ((x0.Bs.drop ((0 : Int)).toNat).take (((y2 : Int)).toNat - ((0 : Int)).toNat)) zA.row),sI 35 y2,sC 34 (cF 11 x0.Bs zA.row),sA 33 1 3 0,sB 32 false,sB 31 r11,sV 30 (CV.frzRow (zA.row v10)),sI 3 y2,sA 4 4 11 0,sV 29 (CV.frzRow (zA.row v10)),(28,.fad ((CV.frzRow (zA.row v10)))),sI 27 y2,sB 26 true,sI 25 y2,sI 24 (x0.Bs.length : Int),sC 23 (cF 11 x0.Bs zA.row),sB 2 false,sA 1 1 3 0],[(8,(Pt.row v18)),(4,(CV.frzRow (zA.row v10))),(1,(CV.frzRow (Net.row x0)))]⟩ ?_
      cases h9 : v18.Has
      ·have H := zE h9 H
       refine uA 7 0x3ffff00ffff80019e 274 ?_
       refine nB_ ?_
       refine tK ?_
       refine eA 2 0x7ffff00ffff80019e 274 ?_
       exact jB mo17 (IntKind.wrap .i64 (y15 + 1)) H [51,50,49,48,39,38,37,36,35,34,33,32,31,30,3,4,29,28,27,26,25,24,23,2,1] [4,1]
      have H := zF h9 H
      refine lA 4 ?_
      obtain ⟨r19,er19,H⟩ := bs H
      refine vA [.rd,.rd,.rd] (zDc n x0.Ls y2 y15 r19 er19) ?_
      refine uA 2 0x3ffff00ffff80019e 274 ?_
      obtain ⟨h10,H⟩ | ⟨h10,H⟩ := bC H
      ·refine nA h10 ?_
       refine tK ?_
       refine eA 2 0x7ffff00ffff80019e 274 ?_
       exact jB mo17 (IntKind.wrap .i64 (y15 + 1)) H [51,50,49,48,39,38,37,36,35,34,33,32,31,30,3,4,29,28,27,26,25,24,23,2,1] [4,1]
      refine tA h10 ?_
      refine gA 1 0x3ffff00ffff80019e 274 ?_
      refine te ?_
      obtain rfl := si H
      have H := Ho17
      dsimp only at H
      obtain rfl := si H
      have H := Ho9
      dsimp only at H
      exact fF H
     rintro y16 H
     have H : (Jg n (fun v => zw n mo9 x0 v) y2 y16) = some o9 := H
     unfold Jg at H
     refine eA 2 0x8001f00ffff80001e 18 ?_
     exact jB mo9 (IntKind.wrap .i64 (y2 + 1)) H [25,24,23,2,1] [1]
    refine tA h7 ?_
    refine gA 1 8581546014 18 ?_
    refine te ?_
    obtain rfl := si H
    have H := Ho9
    dsimp only at H
    exact fF H
   rintro _ H
   have H : (Qe n x0) = some r := H
   unfold Qe at H
   refine tS ?_
   refine rA 2 ?_
   refine kF x0.Said Say.row ?_
   refine uA 1 0xe00000000000000006 2 ?_
   obtain ⟨o5,eo5,Ho5⟩ := bs H
   clear H
   refine Tr.mid (ι := Unit) (fun v => ⟨92,0,[sB 2 false,sA 1 1 3 0],[(1,(CV.frzRow (Net.row x0)))]⟩) (fun v => Yh n x0 = some r) ?_ ?_
   ·refine tB ?_
    refine Tr.loop (ι := Nat × (Int)) (fun v => ⟨92,0,[sI 71 v.2,sI 70 (x0.Said.length : Int),sC 69 (cF 7 x0.Said Say.row),sB 2 false,sA 1 1 3 0],[(1,(CV.frzRow (Net.row x0)))]⟩) (fun v => qJ n v.1 x0 v.2 = some o5) (fun v => v.1) (n,0) eo5 (St.sub_of [71,70,69,2,1] [1] kr) ?_
    rintro ⟨mo5,y3⟩ H
    have H : qJ n mo5 x0 y3 = some o5 := H
    obtain _ | mo5 := mo5
    ·exact nN H
    rw [qJ] at H
    refine gA 1 0x1e00000000000000006 2 ?_
    refine tS ?_
    obtain ⟨h3,H⟩ | ⟨h3,H⟩ := bC H
    ·refine nA h3 ?_
     refine Tr.exit ?_
     refine aJ ?_
     obtain rfl := si H
     have H := Ho5
     dsimp only at H
     exact jA () H [2,1] [1]
    refine tA h3 ?_
    refine tK ?_
    refine tS ?_
    refine tB ?_
    refine tR ?_
    obtain ⟨v6,ev6,H⟩ := bs H
    refine iA Say.row ev6 ?_
    refine uA 3 0x7e00000000000000406 1026 ?_
    refine rA 4 ?_
    refine kF x0.Ls Link.row ?_
    refine lA 1 ?_
    obtain ⟨r7,er7,H⟩ := bs H
    refine vA [.rd,.rd,.rd] (qM n v6.Link 0 (IntKind.wrap .i64 ((x0.Ls.length : Int) - 1)) r7 er7) ?_
    refine lA 2 ?_
    refine sL 0xfffe00000000000000406 1026 ⟨92,0,[sB 83 (!r7),sB 82 (!r7),sB 81 r7,sI 80 (IntKind.wrap .i64 ((x0.Ls.length : Int) - 1)),sI 79 (x0.Ls.length : Int),sC 78 (cF 4 x0.Ls Link.row),sA 77 1 3 1,sI 76 v6.Link,sA 75 10 7 0,sA 10 10 7 0,sV 74 (Say.row v6),(73,.fad ((Say.row v6))),sB 72 (decide (y3 < (x0.Said.length : Int))),sI 71 y3,sI 70 (x0.Said.length : Int),sC 69 (cF 7 x0.Said Say.row),sB 2 false,sA 1 1 3 0],[(10,(Say.row v6)),(1,(CV.frzRow (Net.row x0)))]⟩ ?_
    cases h4 : (!r7)
    ·have H := zE h4 H
     refine lA 2 ?_
     obtain ⟨r8,er8,H⟩ := bs H
     refine vA [.rd] (zBU n v6.V r8 er8) ?_
     refine uA 2 0x1ffffe00000000000000406 1026 ?_
     obtain ⟨h5,H⟩ | ⟨h5,H⟩ := bC H
     ·refine nA h5 ?_
      refine tK ?_
      refine eA 2 0x3ffffe00000000000000406 1026 ?_
      exact jB mo5 (IntKind.wrap .i64 (y3 + 1)) H [71,70,69,2,1] [1]
     refine tA h5 ?_
     refine gA 1 0x1ffffe00000000000000406 1026 ?_
     refine te ?_
     obtain rfl := si H
     have H := Ho5
     dsimp only at H
     exact fF H
    have H := zF h4 H
    refine uA 5 0x1ffffe00000000000000406 1026 ?_
    refine tB_ ?_
    refine gA 1 0x1ffffe00000000000000406 1026 ?_
    refine te ?_
    obtain rfl := si H
    have H := Ho5
    dsimp only at H
    exact fF H
   rintro _ H
   have H : (Yh n x0) = some r := H
   unfold Yh at H
   refine rA 1 ?_
   obtain ⟨r4,er4,H⟩ := bs H
   refine vA [.rd] (zIv n x0 r4 er4) ?_
   refine uA 1 4 0 ?_
   exact te (fJ [(false,[cB r4])] H)
  refine tA h2 ?_
  refine gA 1 6 2 ?_
  exact te (fF H)
 have H := zF h1 H
 refine uA 5 2097158 2 ?_
 refine tB_ ?_
 refine gA 1 6 2 ?_
 exact te (fF H)
def Z9 (n : Nat) (x0 : Net) (x1 : Int) : Option (Bool) :=
  ((qI n x1 0 (IntKind.wrap .i64 ((x0.Ls.length : Int) - 1))).bind fun r1 => (bif (!r1) then (some false) else ((idx x0.Ls x1).bind fun v2 => ((idx x0.Ls x1).bind fun v3 => ((QA n x0 v2.A v3.P).bind fun r4 => ((idx x0.Ls x1).bind fun v5 => ((idx x0.Ls x1).bind fun v6 => ((QA n x0 v5.B v6.Q).bind fun r7 => (bif r4.2 then (bif r7.2 then (bif r4.1.Up then (some r7.1.Up) else (some false)) else (some false)) else (some false))))))))))
def zNA : Tab := ⟨20,[0,0,2,0,12,16,32,0,128,0,768,1024,2048,4161,8192,16384,16384,0,196607,524287],[0,0,2,0,12,16,32,0,128,0,768,1024,2048,4161,8192,16384,16384,0,163840,65536],[0,0,2,0,14,30,62,0,128,0,896,1920,3968,8191,16383,32767,32767,0,196607,524287]⟩
theorem Q4 : za (rg Tryz.f62 3) zNA = true := kr
def zNB : Tab := ⟨20,[0,0,2,0,12,16,32,0,128,0,768,1024,2048,4161,8192,16384,16384,0,196607,524287],[0,0,2,0,12,16,32,0,128,0,768,1024,2048,4161,8192,16384,16384,0,163840,65536],[0,0,2,0,14,30,62,0,128,0,896,1920,3968,8191,16383,32767,32767,0,196607,524287]⟩
theorem Q5 : za (rg Tryz.f62 4) zNB = true := kr
theorem zDs (n : Nat) (x0 : Net) (x1 : Int) (r : Bool) (H : Z9 n x0 x1 = some r) : zI Tryz.prog 62 [.val true (CV.frzRow (Net.row x0)),.val false [.lit (.int .i64 x1)]] [.val false [.lit (.bool r)]] [] := by
 refine cW Tryz.func62 (fun g d => sl [g 0,sl [g 1] (cn 15 (sl [g 2] .ret) .skip),d 3,d 4,g 5] .ret) [.tmp 4] fun cx => ?_
 unfold Z9 at H
 refine gA 2 6 4 ?_
 refine tS ?_
 refine rA 3 ?_
 refine kF x0.Ls Link.row ?_
 refine lA 1 ?_
 obtain ⟨r1,er1,H⟩ := bs H
 refine vA [.rd,.rd,.rd] (qM n x1 0 (IntKind.wrap .i64 ((x0.Ls.length : Int) - 1)) r1 er1) ?_
 refine uA 1 32774 4 ?_
 obtain ⟨h1,H⟩ | ⟨h1,H⟩ := bC H
 ·refine nA h1 ?_
  refine tK ?_
  obtain ⟨v2,ev2,H⟩ := bs H
  obtain ⟨v3,ev3,H⟩ := bs H
  obtain ⟨r4,er4,H⟩ := bs H
  refine Tr.draws mixed 20 kr ⟨62,0,[sB 6 r4.2,sA 5 5 8 0,sA 2 2 3 0,sI 1 x1],[(5,(Pt.row r4.1)),(2,(CV.frzRow (Net.row x0)))]⟩ (fun cx => ?_) ?_
  ·refine mA Q4 [(0,[13,18]),(1,[]),(2,[13,18]),(3,[])] 16 [⟨[13,18],64,18,19⟩,⟨[13,18],67,2,17⟩] fun cx => ?_
   refine iN Q4 4 Link.row ev2 fun cx => ?_
   refine mA Q4 [(5,[]),(6,[]),(7,[]),(8,[13,18]),(9,[])] 10 [⟨[13,18],64,24,25⟩,⟨[13,18],64,18,19⟩,⟨[13,18],67,2,17⟩] fun cx => ?_
   refine iN Q4 10 Link.row ev3 fun cx => ?_
   refine mA Q4 [(11,[]),(12,[])] 7 [⟨[13,18],64,24,25⟩,⟨[13,18],64,18,19⟩,⟨[13,18],67,2,17⟩] fun cx => ?_
   refine mB2 tOk Q4 13 17 kr (And.intro kr ?_) (And.intro kr ?_)
   ·refine vA [.rd,.rd,.rd] (Jp n x0 v2.A v3.P r4 er4) ?_
    refine fA ?_
    refine AT.movT tOk 14 (ty := 189) (t := 30) (d := 16) (g := none) [(true,(Pt.row r4.1)),(false,[cB r4.2])] _ kr (oM Q4 kr) (dM Q4 kr) (.inl rfl) kr kr kr kr rfl (fun cx => ?_)
    refine mA Q4 [(15,[]),(16,[])] 3 [⟨[13,18],64,24,25⟩,⟨[13,18],64,18,19⟩,⟨[13,18],67,2,17⟩] fun cx => ?_
    refine mC Q4 17 ?_
    refine lA 1 ?_
    refine fA ?_
    refine mC Q4 18 ?_
    refine lA 1 ?_
    refine fA ?_
    refine mA Q4 [(19,[])] 0 [⟨[13,18],64,24,25⟩,⟨[13,18],64,18,19⟩,⟨[13,18],67,2,17⟩] fun cx => ?_
    exact mE Q4 [6,5,2,1] [5,2]
   ·refine lA 1 ?_
    refine fA ?_
    refine mC Q4 13 ?_
    refine vA [.rd,.rd,.rd] (Jp n x0 v2.A v3.P r4 er4) ?_
    refine fA ?_
    refine AT.movT tOk 14 (ty := 189) (t := 30) (d := 16) (g := none) [(true,(Pt.row r4.1)),(false,[cB r4.2])] _ kr (oM Q4 kr) (dM Q4 kr) (.inl rfl) kr kr kr kr rfl (fun cx => ?_)
    refine mA Q4 [(15,[]),(16,[])] 2 [⟨[13,18],64,24,25⟩,⟨[13,18],64,18,19⟩,⟨[13,18],67,2,17⟩] fun cx => ?_
    refine mC Q4 18 ?_
    refine lA 1 ?_
    refine fA ?_
    refine mA Q4 [(19,[])] 0 [⟨[13,18],64,24,25⟩,⟨[13,18],64,18,19⟩,⟨[13,18],67,2,17⟩] fun cx => ?_
    exact mE Q4 [6,5,2,1] [5,2]
  obtain ⟨v5,ev5,H⟩ := bs H
  obtain ⟨v6,ev6,H⟩ := bs H
  obtain ⟨r7,er7,H⟩ := bs H
  refine Tr.draws mixed 20 kr ⟨62,0,[sB 8 r7.2,sA 7 7 8 0,sB 6 r4.2,sA 5 5 8 0],[(7,(Pt.row r7.1)),(5,(Pt.row r4.1))]⟩ (fun cx => ?_) ?_
  ·refine mA Q5 [(0,[13,18]),(1,[]),(2,[13,18]),(3,[])] 16 [⟨[13,18],64,35,36⟩,⟨[13,18],67,2,34⟩] fun cx => ?_
   refine iN Q5 4 Link.row ev5 fun cx => ?_
   refine mA Q5 [(5,[]),(6,[]),(7,[]),(8,[13,18]),(9,[])] 10 [⟨[13,18],64,41,42⟩,⟨[13,18],64,35,36⟩,⟨[13,18],67,2,34⟩] fun cx => ?_
   refine iN Q5 10 Link.row ev6 fun cx => ?_
   refine mA Q5 [(11,[]),(12,[])] 7 [⟨[13,18],64,41,42⟩,⟨[13,18],64,35,36⟩,⟨[13,18],67,2,34⟩] fun cx => ?_
   refine mB2 tOk Q5 13 17 kr (And.intro kr ?_) (And.intro kr ?_)
   ·refine vA [.rd,.rd,.rd] (Jp n x0 v5.B v6.Q r7 er7) ?_
    refine fA ?_
    refine AT.movT tOk 14 (ty := 189) (t := 47) (d := 33) (g := none) [(true,(Pt.row r7.1)),(false,[cB r7.2])] _ kr (oM Q5 kr) (dM Q5 kr) (.inl rfl) kr kr kr kr rfl (fun cx => ?_)
    refine mA Q5 [(15,[]),(16,[])] 3 [⟨[13,18],64,41,42⟩,⟨[13,18],64,35,36⟩,⟨[13,18],67,2,34⟩] fun cx => ?_
    refine mC Q5 17 ?_
    refine lA 1 ?_
    refine fA ?_
    refine mC Q5 18 ?_
    refine lA 1 ?_
    refine fA ?_
    refine mA Q5 [(19,[])] 0 [⟨[13,18],64,41,42⟩,⟨[13,18],64,35,36⟩,⟨[13,18],67,2,34⟩] fun cx => ?_
    exact mE Q5 [8,7,6,5] [7,5]
   ·refine lA 1 ?_
    refine fA ?_
    refine mC Q5 13 ?_
    refine vA [.rd,.rd,.rd] (Jp n x0 v5.B v6.Q r7 er7) ?_
    refine fA ?_
    refine AT.movT tOk 14 (ty := 189) (t := 47) (d := 33) (g := none) [(true,(Pt.row r7.1)),(false,[cB r7.2])] _ kr (oM Q5 kr) (dM Q5 kr) (.inl rfl) kr kr kr kr rfl (fun cx => ?_)
    refine mA Q5 [(15,[]),(16,[])] 2 [⟨[13,18],64,41,42⟩,⟨[13,18],64,35,36⟩,⟨[13,18],67,2,34⟩] fun cx => ?_
    refine mC Q5 18 ?_
    refine lA 1 ?_
    refine fA ?_
    refine mA Q5 [(19,[])] 0 [⟨[13,18],64,41,42⟩,⟨[13,18],64,35,36⟩,⟨[13,18],67,2,34⟩] fun cx => ?_
    exact mE Q5 [8,7,6,5] [7,5]
  refine rA 2 ?_
  refine sL 0x80000000001a0 160 ⟨62,0,[sB 51 r4.2,sB 8 r7.2,sA 7 7 8 0,sA 5 5 8 0],[(7,(Pt.row r7.1)),(5,(Pt.row r4.1))]⟩ ?_
  cases h2 : r4.2
  ·have H := zE h2 H
   refine uA 11 16 0 ?_
   exact te (fF H)
  have H := zF h2 H
  refine lA 3 ?_
  refine sL 0x400000000000a0 160 ⟨62,0,[sB 54 r7.2,sA 7 7 8 0,sA 5 5 8 0],[(7,(Pt.row r7.1)),(5,(Pt.row r4.1))]⟩ ?_
  cases h3 : r7.2
  ·have H := zE h3 H
   refine uA 8 16 0 ?_
   exact te (fF H)
  have H := zF h3 H
  refine lA 4 ?_
  refine sL 0x400000000000080 128 ⟨62,0,[sB 58 r4.1.Up,sA 7 7 8 0],[(7,(Pt.row r7.1))]⟩ ?_
  cases h4 : r4.1.Up
  ·have H := zE h4 H
   refine uA 4 16 0 ?_
   exact te (fF H)
  have H := zF h4 H
  refine uA 4 16 0 ?_
  exact te (fJ [(false,[cB r7.1.Up])] H)
 refine tA h1 ?_
 refine gA 1 16 0 ?_
 exact te (fF H)
def zA3 (n : Nat) (x0 : Vec) (x1 : Int) : Option (Vec × Bool) :=
  ((YJ n x0).bind fun r1 => (bif (!r1) then (some (x0,false)) else ((qI n x1 1 1000).bind fun r2 => (bif (!r2) then (some (x0,false)) else ((YJ n (⟨x0.Root,(IntKind.wrap .i64 (x0.Co + x1)),(IntKind.wrap .i64 (x0.Hops + 1)),x0.Bridge,x0.Port⟩ : Vec)).bind fun r3 => (bif (!r3) then (some (x0,false)) else (some ((⟨x0.Root,(IntKind.wrap .i64 (x0.Co + x1)),(IntKind.wrap .i64 (x0.Hops + 1)),x0.Bridge,x0.Port⟩ : Vec),true))))))))
theorem zIr (n : Nat) (x0 : Vec) (x1 : Int) (r : Vec × Bool) (H : zA3 n x0 x1 = some r) : zI Tryz.prog 249 [.val true (CV.frzRow (Vec.row x0)),.val false [.lit (.int .i64 x1)]] [.val true (Vec.row r.1),.val false [.lit (.bool r.2)]] [] := by
 refine cW Tryz.func249 (fun g d => sl [g 0,sl [g 1] (cn 14 (sl [g 2] .ret) .skip),g 3,g 4,g 5,sl [g 6] (cn 28 (sl [g 7] .ret) .skip),g 8] .ret) [.cell 4 165,.tmp 5] fun cx => ?_
 unfold zA3 at H
 refine gA 3 22 20 ?_
 refine tS ?_
 refine rA 1 ?_
 obtain ⟨r1,er1,H⟩ := bs H
 refine vA [.rd] (zBU n x0 r1 er1) ?_
 refine lA 2 ?_
 refine sL 1046 20 ⟨31,0,[sB 10 (!r1),sA 4 4 5 0,sA 2 2 5 0,sI 1 x1],[(4,[cI 0,cI 0,cI 0,cI 0,cI 0]),(2,(Vec.row x0))]⟩ ?_
 cases h1 : (!r1)
 ·have H := zE h1 H
  refine lA 1 ?_
  obtain ⟨r2,er2,H⟩ := bs H
  refine vA [.rd,.rd,.rd] (qM n x1 1 1000 r2 er2) ?_
  refine uA 2 16406 20 ?_
  obtain ⟨h2,H⟩ | ⟨h2,H⟩ := bC H
  ·refine nA h2 ?_
   refine tK ?_
   refine gA 3 86 84 ?_
   refine gA 6 84 84 ?_
   refine gA 5 84 84 ?_
   refine tS ?_
   refine rA 1 ?_
   obtain ⟨r3,er3,H⟩ := bs H
   refine vA [.rd] (zBU n (⟨x0.Root,(IntKind.wrap .i64 (x0.Co + x1)),(IntKind.wrap .i64 (x0.Hops + 1)),x0.Bridge,x0.Port⟩ : Vec) r3 er3) ?_
   refine uA 1 268435540 84 ?_
   obtain ⟨h3,H⟩ | ⟨h3,H⟩ := bC H
   ·refine nA h3 ?_
    refine tK ?_
    refine gA 3 48 16 ?_
    exact te (fJ [(true,[cI x0.Root,cI (IntKind.wrap .i64 (x0.Co + x1)),cI (IntKind.wrap .i64 (x0.Hops + 1)),cI x0.Bridge,cI x0.Port]),(false,[cB true])] H)
   refine tA h3 ?_
   refine gA 3 48 16 ?_
   exact te (fJ [(true,(Vec.row x0)),(false,[cB false])] H)
  refine tA h2 ?_
  refine gA 3 48 16 ?_
  exact te (fJ [(true,(Vec.row x0)),(false,[cB false])] H)
 have H := zF h1 H
 refine uA 4 16406 20 ?_
 refine tB_ ?_
 refine gA 3 48 16 ?_
 exact te (fJ [(true,(Vec.row x0)),(false,[cB false])] H)
def Je (n : Nat) (x0 : Vec) (x1 : Vec) : Option (Bool) :=
  (bif (x0.Root != x1.Root) then (some (decide (x0.Root < x1.Root))) else (bif (x0.Co != x1.Co) then (some (decide (x0.Co < x1.Co))) else (bif (x0.Bridge != x1.Bridge) then (some (decide (x0.Bridge < x1.Bridge))) else (some (decide (x0.Port < x1.Port))))))
theorem zE5 (n : Nat) (x0 : Vec) (x1 : Vec) (r : Bool) (H : Je n x0 x1 = some r) : zI Tryz.prog 218 [.val true (CV.frzRow (Vec.row x0)),.val true (CV.frzRow (Vec.row x1))] [.val false [.lit (.bool r)]] [] := by
 refine cW Tryz.func218 (fun g d => sl [g 0,.block 0 (sl [g 1] (cn 5 (sl [g 2] .ret) (sl [g 3] (cn 16 (sl [g 4] .ret) (sl [g 5] (cn 27 (sl [g 6] .ret) .skip)))))),g 7] .ret) [.tmp 4] fun cx => ?_
 unfold Je at H
 refine gA 3 12 12 ?_
 refine tS ?_
 refine tB ?_
 refine gA 6 44 12 ?_
 obtain ⟨h1,H⟩ | ⟨h1,H⟩ := bC H
 ·refine nA h1 ?_
  refine gA 6 65548 12 ?_
  obtain ⟨h2,H⟩ | ⟨h2,H⟩ := bC H
  ·refine nA h2 ?_
   refine gA 6 134217740 12 ?_
   obtain ⟨h3,H⟩ | ⟨h3,H⟩ := bC H
   ·refine nA h3 ?_
    refine tK ?_
    refine gA 6 16 0 ?_
    exact te (fJ [(false,[cB (decide (x0.Port < x1.Port))])] H)
   refine tA h3 ?_
   refine gA 6 16 0 ?_
   exact te (fJ [(false,[cB (decide (x0.Bridge < x1.Bridge))])] H)
  refine tA h2 ?_
  refine gA 6 16 0 ?_
  exact te (fJ [(false,[cB (decide (x0.Co < x1.Co))])] H)
 refine tA h1 ?_
 refine gA 6 16 0 ?_
 exact te (fJ [(false,[cB (decide (x0.Root < x1.Root))])] H)
def Jv (n : Nat) (x0 : Int) (y11 : Int) (y12 : Int) (y13 : Int) (y14 : Int) : Option (Vec × Int) :=
  (some ((⟨y12,y13,y14,x0,0⟩ : Vec),y11))
def Z3 (n : Nat) (k : (Int × Int × Int × Int × Int × Int × Int × Int × Int × Int → Option ((Int × Int × Int × Int) ⊕ (Vec × Int)))) (r17 : Vec × Bool) (y1 : Int) (y10 : Int) (y2 : Int) (y3 : Int) (y4 : Int) (y5 : Int) (y6 : Int) (y7 : Int) (y8 : Int) (y9 : Int) (y18 : Bool) (y19 : Bool) (y20 : Bool) (y21 : Bool) (y22 : Bool) (y23 : Bool) (y24 : Bool) : Option ((Int × Int × Int × Int) ⊕ (Vec × Int)) :=
  (bif y18 then (k ((IntKind.wrap .i64 (y1 + 1)),y1,r17.1.Root,r17.1.Co,r17.1.Hops,r17.1.Bridge,r17.1.Port,r17.1.Root,r17.1.Co,r17.1.Hops)) else (k ((IntKind.wrap .i64 (y1 + 1)),y2,y3,y4,y5,y6,y7,y8,y9,y10)))
def qU (n : Nat) : Nat → Int → (List Pt) → Int → Int → Int → Int → Int → Int → Int → Int → Int → Int → Option ((Int × Int × Int × Int) ⊕ (Vec × Int))
  | 0,_,_,_,_,_,_,_,_,_,_,_,_ => none
  | mo15 + 1,x0,x1,y1,y2,y3,y4,y5,y6,y7,y8,y9,y10 => (bif (decide (y1 < (x1.length : Int))) then ((idx x1 y1).bind fun v16 => (bif (!v16.Up) then (qU n mo15 x0 x1 (IntKind.wrap .i64 (y1 + 1)) y2 y3 y4 y5 y6 y7 y8 y9 y10) else (bif (!v16.Has) then (qU n mo15 x0 x1 (IntKind.wrap .i64 (y1 + 1)) y2 y3 y4 y5 y6 y7 y8 y9 y10) else ((zA3 n v16.Hd v16.Co).bind fun r17 => (bif r17.2 then (bif (decide (r17.1.Root < x0)) then (bif (decide (y2 < 0)) then (Z3 n (fun v => qU n mo15 x0 x1 v.1 v.2.1 v.2.2.1 v.2.2.2.1 v.2.2.2.2.1 v.2.2.2.2.2.1 v.2.2.2.2.2.2.1 v.2.2.2.2.2.2.2.1 v.2.2.2.2.2.2.2.2.1 v.2.2.2.2.2.2.2.2.2) r17 y1 y10 y2 y3 y4 y5 y6 y7 y8 y9 true true true true true true true) else ((Je n r17.1 (⟨y3,y4,y5,y6,y7⟩ : Vec)).bind fun r25 => (Z3 n (fun v => qU n mo15 x0 x1 v.1 v.2.1 v.2.2.1 v.2.2.2.1 v.2.2.2.2.1 v.2.2.2.2.2.1 v.2.2.2.2.2.2.1 v.2.2.2.2.2.2.2.1 v.2.2.2.2.2.2.2.2.1 v.2.2.2.2.2.2.2.2.2) r17 y1 y10 y2 y3 y4 y5 y6 y7 y8 y9 r25 true true true true true true))) else (Z3 n (fun v => qU n mo15 x0 x1 v.1 v.2.1 v.2.2.1 v.2.2.2.1 v.2.2.2.2.1 v.2.2.2.2.2.1 v.2.2.2.2.2.2.1 v.2.2.2.2.2.2.2.1 v.2.2.2.2.2.2.2.2.1 v.2.2.2.2.2.2.2.2.2) r17 y1 y10 y2 y3 y4 y5 y6 y7 y8 y9 false false false true true true true)) else (Z3 n (fun v => qU n mo15 x0 x1 v.1 v.2.1 v.2.2.1 v.2.2.2.1 v.2.2.2.2.1 v.2.2.2.2.2.1 v.2.2.2.2.2.2.1 v.2.2.2.2.2.2.2.1 v.2.2.2.2.2.2.2.2.1 v.2.2.2.2.2.2.2.2.2) r17 y1 y10 y2 y3 y4 y5 y6 y7 y8 y9 false false false false false false false)))))) else (some (Sum.inl (y2,y8,y9,y10))))
def Yg (n : Nat) (x0 : Int) (x1 : (List Pt)) : Option (Vec × Int) :=
  ((qU n n x0 x1 0 (-1) 0 0 0 0 0 x0 0 0).bind fun o => match o with | .inl (y11,y12,y13,y14) => (Jv n x0 y11 y12 y13 y14) | .inr r => some r)
theorem zE3 (n : Nat) (x0 : Int) (x1 : (List Pt)) (r : Vec × Int) (H : Yg n x0 x1 = some r) : zI Tryz.prog 217 [.val false [.lit (.int .i64 x0)],.val false [.sl false 8 (CV.frzEs (x1.map Pt.row))]] [.val true (Vec.row r.1),.val false [.lit (.int .i64 r.2)]] [] := by
 refine cW Tryz.func217 (fun g d => sl [g 0,g 1,g 2,sl [g 3] (.block 0 (.loop (sl [g 4,cn 19 .skip (.exit 0),.block 1 (sl [g 5,sl [g 6] (cn 30 (.exit 1) .skip),g 7,g 8] (cn 54 (sl [g 9] (g 10)) .skip))] (g 11)))),g 12] .ret) [.cell 4 165,.tmp 5] fun cx => ?_
 unfold Yg at H
 refine gA 2 51 16 ?_
 refine gA 6 243 80 ?_
 refine gA 1 499 336 ?_
 refine tS ?_
 refine rA 1 ?_
 refine kF x1 Pt.row ?_
 refine uA 1 459249 336 ?_
 obtain ⟨o15,eo15,Ho15⟩ := bs H
 clear H
 refine Tr.mid (ι := Int × Int × Int × Int) (fun v => ⟨68,0,[sI 7 v.1,sA 6 6 5 0,sI 5 0,sA 4 4 5 0],[(6,[cI v.2.1,cI v.2.2.1,cI v.2.2.2,cI x0,cI 0]),(4,[cI 0,cI 0,cI 0,cI 0,cI 0])]⟩) (fun v => Jv n x0 v.1 v.2.1 v.2.2.1 v.2.2.2 = some r) ?_ ?_
 ·refine tB ?_
  refine Tr.loop (ι := Nat × (Int × Int × Int × Int × Int × Int × Int × Int × Int × Int)) (fun v => ⟨68,0,[sI 18 v.2.1,sI 17 (x1.length : Int),sC 16 (cF 8 x1 Pt.row),sA 8 8 5 0,sI 7 v.2.2.1,sA 6 6 5 0,sI 5 0,sA 4 4 5 0,sI 0 x0],[(8,[cI v.2.2.2.1,cI v.2.2.2.2.1,cI v.2.2.2.2.2.1,cI v.2.2.2.2.2.2.1,cI v.2.2.2.2.2.2.2.1]),(6,[cI v.2.2.2.2.2.2.2.2.1,cI v.2.2.2.2.2.2.2.2.2.1,cI v.2.2.2.2.2.2.2.2.2.2,cI x0,cI 0]),(4,[cI 0,cI 0,cI 0,cI 0,cI 0])]⟩) (fun v => qU n v.1 x0 x1 v.2.1 v.2.2.1 v.2.2.2.1 v.2.2.2.2.1 v.2.2.2.2.2.1 v.2.2.2.2.2.2.1 v.2.2.2.2.2.2.2.1 v.2.2.2.2.2.2.2.2.1 v.2.2.2.2.2.2.2.2.2.1 v.2.2.2.2.2.2.2.2.2.2 = some o15) (fun v => v.1) (n,(0,(-1),0,0,0,0,0,x0,0,0)) eo15 (St.sub_of [18,17,16,8,7,6,5,4,0] [8,6,4] kr) ?_
  rintro ⟨mo15,y1,y2,y3,y4,y5,y6,y7,y8,y9,y10⟩ H
  have H : qU n mo15 x0 x1 y1 y2 y3 y4 y5 y6 y7 y8 y9 y10 = some o15 := H
  obtain _ | mo15 := mo15
  ·exact nN H
  rw [qU] at H
  refine gA 1 983537 336 ?_
  refine tS ?_
  obtain ⟨h1,H⟩ | ⟨h1,H⟩ := bC H
  ·refine nA h1 ?_
   refine Tr.exit ?_
   refine aJ ?_
   obtain rfl := si H
   have H := Ho15
   dsimp only at H
   exact jA (y2,y8,y9,y10) H [7,6,5,4] [6,4]
  refine tA h1 ?_
  refine tK ?_
  refine tS ?_
  refine tB ?_
  refine rA 1 ?_
  obtain ⟨v16,ev16,H⟩ := bs H
  refine iA Pt.row ev16 ?_
  refine uA 4 8325105 1360 ?_
  refine tS ?_
  refine rA 4 ?_
  refine sL 134154225 1360 ⟨68,0,[sB 26 (!v16.Up),sB 25 (!v16.Up),sB 24 v16.Up,sA 23 10 8 0,sI 9 y1,sA 10 10 8 0,sV 22 (Pt.row v16),(21,.fad ((Pt.row v16))),sI 20 y1,sB 19 (decide (y1 < (x1.length : Int))),sI 18 y1,sI 17 (x1.length : Int),sC 16 (cF 8 x1 Pt.row),sA 8 8 5 0,sI 7 y2,sA 6 6 5 0,sI 5 0,sA 4 4 5 0,sI 0 x0],[(10,(Pt.row v16)),(8,[cI y3,cI y4,cI y5,cI y6,cI y7]),(6,[cI y8,cI y9,cI y10,cI x0,cI 0]),(4,[cI 0,cI 0,cI 0,cI 0,cI 0])]⟩ ?_
  cases h2 : (!v16.Up)
  ·have H := zE h2 H
   refine uA 4 2147420145 1360 ?_
   obtain ⟨h3,H⟩ | ⟨h3,H⟩ := bC H
   ·refine nA h3 ?_
    refine tK ?_
    refine rA 4 ?_
    obtain ⟨r17,er17,H⟩ := bs H
    refine vA [.rd,.rd] (zIr n v16.Hd v16.Co r17 er17) ?_
    refine LAt.movT tOk (ty := 255) (t := 36) (d := 31) (g := none) [(true,(Vec.row r17.1)),(false,[cB r17.2])] _ kr (.inl rfl) kr kr kr kr rfl ?_
    refine uA 5 481036279793 3408 ?_
    refine tS ?_
    refine Tr.mid (ι := Bool × Bool × Bool × Bool × Bool × Bool × Bool) (fun v => ⟨68,0,[sB 54 v.1,sB 46 v.2.1,sB 45 v.2.2.1,sB 40 v.2.2.2.1,sB 39 v.2.2.2.2.1,sB 12 v.2.2.2.2.2.1,sA 11 11 5 0,sB 38 v.2.2.2.2.2.2,(31,.tup [(true,[.dead,.dead,.dead,.dead,.dead]),(false,[.dead])]),sV 37 (Vec.row r17.1),sI 35 v16.Co,sA 34 10 8 1,sV 33 ((Pt.row v16).drop 3),sA 32 10 8 3,sB 30 false,sB 29 false,sB 28 v16.Has,sA 27 10 8 2,sB 26 false,sB 25 false,sB 24 v16.Up,sA 23 10 8 0,sI 9 y1,sA 10 10 8 0,sV 22 (Pt.row v16),(21,.fad ((Pt.row v16))),sI 20 y1,sB 19 true,sI 18 y1,sI 17 (x1.length : Int),sC 16 (cF 8 x1 Pt.row),sA 8 8 5 0,sI 7 y2,sA 6 6 5 0,sI 5 0,sA 4 4 5 0,sI 0 x0],[(11,(Vec.row r17.1)),(10,(Pt.row v16)),(8,[cI y3,cI y4,cI y5,cI y6,cI y7]),(6,[cI y8,cI y9,cI y10,cI x0,cI 0]),(4,[cI 0,cI 0,cI 0,cI 0,cI 0])]⟩) (fun v => Z3 n (fun v => qU n mo15 x0 x1 v.1 v.2.1 v.2.2.1 v.2.2.2.1 v.2.2.2.2.1 v.2.2.2.2.2.1 v.2.2.2.2.2.2.1 v.2.2.2.2.2.2.2.1 v.2.2.2.2.2.2.2.2.1 v.2.2.2.2.2.2.2.2.2) r17 y1 y10 y2 y3 y4 y5 y6 y7 y8 y9 v.1 v.2.1 v.2.2.1 v.2.2.2.1 v.2.2.2.2.1 v.2.2.2.2.2.1 v.2.2.2.2.2.2 = some o15) ?_ ?_
    ·refine Tr.at ?_
     refine lA 2 ?_
     refine sL 2130303721457 3408 ⟨68,0,[sB 40 r17.2,sB 39 r17.2,sB 12 r17.2,sA 11 11 5 0,sB 38 r17.2,(31,.tup [(true,[.dead,.dead,.dead,.dead,.dead]),(false,[.dead])]),sV 37 (Vec.row r17.1),sI 35 v16.Co,sA 34 10 8 1,sV 33 ((Pt.row v16).drop 3),sA 32 10 8 3,sB 30 (!v16.Has),sB 29 (!v16.Has),sB 28 v16.Has,sA 27 10 8 2,sB 26 false,sB 25 false,sB 24 v16.Up,sA 23 10 8 0,sI 9 y1,sA 10 10 8 0,sV 22 (Pt.row v16),(21,.fad ((Pt.row v16))),sI 20 y1,sB 19 (decide (y1 < (x1.length : Int))),sI 18 y1,sI 17 (x1.length : Int),sC 16 (cF 8 x1 Pt.row),sA 8 8 5 0,sI 7 y2,sA 6 6 5 0,sI 5 0,sA 4 4 5 0,sI 0 x0],[(11,(Vec.row r17.1)),(10,(Pt.row v16)),(8,[cI y3,cI y4,cI y5,cI y6,cI y7]),(6,[cI y8,cI y9,cI y10,cI x0,cI 0]),(4,[cI 0,cI 0,cI 0,cI 0,cI 0])]⟩ ?_
     cases h5 : r17.2
     ·have H := zE h5 H
      refine uA 14 0x7fffefffff1ff1 3408 ?_
      refine sB' 0x7fffefffff1ff1 3408 ⟨68,0,[sB 54 false,(53,.tup []),(52,.tup []),(51,.tup []),(50,.tup []),(49,.tup []),(48,.tup []),(47,.tup []),sB 46 false,sB 45 false,(44,.tup []),(43,.tup []),(42,.tup []),(41,.tup []),sB 40 false,sB 39 false,sB 12 false,sA 11 11 5 0,sB 38 false,(31,.tup [(true,[.dead,.dead,.dead,.dead,.dead]),(false,[.dead])]),sV 37 (Vec.row r17.1),sI 35 v16.Co,sA 34 10 8 1,sV 33 ((Pt.row v16).drop 3),sA 32 10 8 3,sB 30 (!v16.Has),sB 29 (!v16.Has),sB 28 v16.Has,sA 27 10 8 2,sB 26 false,sB 25 false,sB 24 v16.Up,sA 23 10 8 0,sI 9 y1,sA 10 10 8 0,sV 22 (Pt.row v16),(21,.fad ((Pt.row v16))),sI 20 y1,sB 19 (decide (y1 < (x1.length : Int))),sI 18 y1,sI 17 (x1.length : Int),sC 16 (cF 8 x1 Pt.row),sA 8 8 5 0,sI 7 y2,sA 6 6 5 0,sI 5 0,sA 4 4 5 0,sI 0 x0],[(11,(Vec.row r17.1)),(10,(Pt.row v16)),(8,[cI y3,cI y4,cI y5,cI y6,cI y7]),(6,[cI y8,cI y9,cI y10,cI x0,cI 0]),(4,[cI 0,cI 0,cI 0,cI 0,cI 0])]⟩ ?_
      rw [h1]
      rw [h3]
      exact jA (false,false,false,false,false,false,false) H [54,46,45,40,39,12,11,38,31,37,35,34,33,32,30,29,28,27,26,25,24,23,9,10,22,21,20,19,18,17,16,8,7,6,5,4,0] [11,10,8,6,4]
     have H := zF h5 H
     refine lA 6 ?_
     refine sL 0x7fefffff1ff1 3408 ⟨68,0,[sB 46 (decide (r17.1.Root < x0)),sB 45 (decide (r17.1.Root < x0)),sB 44 (decide (r17.1.Root < x0)),sI 43 x0,sI 42 r17.1.Root,sA 41 11 5 0,sB 40 true,sB 39 true,sB 12 true,sA 11 11 5 0,sB 38 true,(31,.tup [(true,[.dead,.dead,.dead,.dead,.dead]),(false,[.dead])]),sV 37 (Vec.row r17.1),sI 35 v16.Co,sA 34 10 8 1,sV 33 ((Pt.row v16).drop 3),sA 32 10 8 3,sB 30 (!v16.Has),sB 29 (!v16.Has),sB 28 v16.Has,sA 27 10 8 2,sB 26 false,sB 25 false,sB 24 v16.Up,sA 23 10 8 0,sI 9 y1,sA 10 10 8 0,sV 22 (Pt.row v16),(21,.fad ((Pt.row v16))),sI 20 y1,sB 19 (decide (y1 < (x1.length : Int))),sI 18 y1,sI 17 (x1.length : Int),sC 16 (cF 8 x1 Pt.row),sA 8 8 5 0,sI 7 y2,sA 6 6 5 0,sI 5 0,sA 4 4 5 0,sI 0 x0],[(11,(Vec.row r17.1)),(10,(Pt.row v16)),(8,[cI y3,cI y4,cI y5,cI y6,cI y7]),(6,[cI y8,cI y9,cI y10,cI x0,cI 0]),(4,[cI 0,cI 0,cI 0,cI 0,cI 0])]⟩ ?_
     cases h6 : (decide (r17.1.Root < x0))
     ·have H := zE h6 H
      refine uA 8 0x7fffefffff1ff1 3408 ?_
      refine sB' 0x7fffefffff1ff1 3408 ⟨68,0,[sB 54 false,(53,.tup []),(52,.tup []),(51,.tup []),(50,.tup []),(49,.tup []),(48,.tup []),(47,.tup []),sB 46 false,sB 45 false,sB 44 false,sI 43 x0,sI 42 r17.1.Root,sA 41 11 5 0,sB 40 true,sB 39 true,sB 12 true,sA 11 11 5 0,sB 38 true,(31,.tup [(true,[.dead,.dead,.dead,.dead,.dead]),(false,[.dead])]),sV 37 (Vec.row r17.1),sI 35 v16.Co,sA 34 10 8 1,sV 33 ((Pt.row v16).drop 3),sA 32 10 8 3,sB 30 (!v16.Has),sB 29 (!v16.Has),sB 28 v16.Has,sA 27 10 8 2,sB 26 false,sB 25 false,sB 24 v16.Up,sA 23 10 8 0,sI 9 y1,sA 10 10 8 0,sV 22 (Pt.row v16),(21,.fad ((Pt.row v16))),sI 20 y1,sB 19 (decide (y1 < (x1.length : Int))),sI 18 y1,sI 17 (x1.length : Int),sC 16 (cF 8 x1 Pt.row),sA 8 8 5 0,sI 7 y2,sA 6 6 5 0,sI 5 0,sA 4 4 5 0,sI 0 x0],[(11,(Vec.row r17.1)),(10,(Pt.row v16)),(8,[cI y3,cI y4,cI y5,cI y6,cI y7]),(6,[cI y8,cI y9,cI y10,cI x0,cI 0]),(4,[cI 0,cI 0,cI 0,cI 0,cI 0])]⟩ ?_
      rw [h1]
      rw [h3]
      exact jA (false,false,false,true,true,true,true) H [54,46,45,40,39,12,11,38,31,37,35,34,33,32,30,29,28,27,26,25,24,23,9,10,22,21,20,19,18,17,16,8,7,6,5,4,0] [11,10,8,6,4]
     have H := zF h6 H
     refine lA 3 ?_
     refine sL 0x3ffefffff1ff1 3408 ⟨68,0,[sB 49 (decide (y2 < 0)),sB 48 (decide (y2 < 0)),sI 47 y2,sB 46 true,sB 45 true,sB 44 true,sI 43 x0,sI 42 r17.1.Root,sA 41 11 5 0,sB 40 true,sB 39 true,sB 12 true,sA 11 11 5 0,sB 38 true,(31,.tup [(true,[.dead,.dead,.dead,.dead,.dead]),(false,[.dead])]),sV 37 (Vec.row r17.1),sI 35 v16.Co,sA 34 10 8 1,sV 33 ((Pt.row v16).drop 3),sA 32 10 8 3,sB 30 (!v16.Has),sB 29 (!v16.Has),sB 28 v16.Has,sA 27 10 8 2,sB 26 false,sB 25 false,sB 24 v16.Up,sA 23 10 8 0,sI 9 y1,sA 10 10 8 0,sV 22 (Pt.row v16),(21,.fad ((Pt.row v16))),sI 20 y1,sB 19 (decide (y1 < (x1.length : Int))),sI 18 y1,sI 17 (x1.length : Int),sC 16 (cF 8 x1 Pt.row),sA 8 8 5 0,sI 7 y2,sA 6 6 5 0,sI 5 0,sA 4 4 5 0,sI 0 x0],[(11,(Vec.row r17.1)),(10,(Pt.row v16)),(8,[cI y3,cI y4,cI y5,cI y6,cI y7]),(6,[cI y8,cI y9,cI y10,cI x0,cI 0]),(4,[cI 0,cI 0,cI 0,cI 0,cI 0])]⟩ ?_
     cases h7 : (decide (y2 < 0))
     ·have H := zE h7 H
      refine lA 2 ?_
      obtain ⟨r25,er25,H⟩ := bs H
      refine vA [.rd,.rd] (zE5 n r17.1 (⟨y3,y4,y5,y6,y7⟩ : Vec) r25 er25) ?_
      refine uA 2 0x7fffefffff1ff1 3408 ?_
      refine sB' 0x7fffefffff1ff1 3408 ⟨68,0,[sB 54 r25,sB 53 r25,sB 52 r25,sV 51 [cI y3,cI y4,cI y5,cI y6,cI y7],sV 50 (Vec.row r17.1),sB 49 false,sB 48 false,sI 47 y2,sB 46 true,sB 45 true,sB 44 true,sI 43 x0,sI 42 r17.1.Root,sA 41 11 5 0,sB 40 true,sB 39 true,sB 12 true,sA 11 11 5 0,sB 38 true,(31,.tup [(true,[.dead,.dead,.dead,.dead,.dead]),(false,[.dead])]),sV 37 (Vec.row r17.1),sI 35 v16.Co,sA 34 10 8 1,sV 33 ((Pt.row v16).drop 3),sA 32 10 8 3,sB 30 (!v16.Has),sB 29 (!v16.Has),sB 28 v16.Has,sA 27 10 8 2,sB 26 false,sB 25 false,sB 24 v16.Up,sA 23 10 8 0,sI 9 y1,sA 10 10 8 0,sV 22 (Pt.row v16),(21,.fad ((Pt.row v16))),sI 20 y1,sB 19 (decide (y1 < (x1.length : Int))),sI 18 y1,sI 17 (x1.length : Int),sC 16 (cF 8 x1 Pt.row),sA 8 8 5 0,sI 7 y2,sA 6 6 5 0,sI 5 0,sA 4 4 5 0,sI 0 x0],[(11,(Vec.row r17.1)),(10,(Pt.row v16)),(8,[cI y3,cI y4,cI y5,cI y6,cI y7]),(6,[cI y8,cI y9,cI y10,cI x0,cI 0]),(4,[cI 0,cI 0,cI 0,cI 0,cI 0])]⟩ ?_
      rw [h1]
      rw [h3]
      exact jA (r25,true,true,true,true,true,true) H [54,46,45,40,39,12,11,38,31,37,35,34,33,32,30,29,28,27,26,25,24,23,9,10,22,21,20,19,18,17,16,8,7,6,5,4,0] [11,10,8,6,4]
     have H := zF h7 H
     refine uA 5 0x7fffefffff1ff1 3408 ?_
     refine sB' 0x7fffefffff1ff1 3408 ⟨68,0,[sB 54 true,sB 53 true,(52,.tup []),(51,.tup []),(50,.tup []),sB 49 true,sB 48 true,sI 47 y2,sB 46 true,sB 45 true,sB 44 true,sI 43 x0,sI 42 r17.1.Root,sA 41 11 5 0,sB 40 true,sB 39 true,sB 12 true,sA 11 11 5 0,sB 38 true,(31,.tup [(true,[.dead,.dead,.dead,.dead,.dead]),(false,[.dead])]),sV 37 (Vec.row r17.1),sI 35 v16.Co,sA 34 10 8 1,sV 33 ((Pt.row v16).drop 3),sA 32 10 8 3,sB 30 (!v16.Has),sB 29 (!v16.Has),sB 28 v16.Has,sA 27 10 8 2,sB 26 false,sB 25 false,sB 24 v16.Up,sA 23 10 8 0,sI 9 y1,sA 10 10 8 0,sV 22 (Pt.row v16),(21,.fad ((Pt.row v16))),sI 20 y1,sB 19 (decide (y1 < (x1.length : Int))),sI 18 y1,sI 17 (x1.length : Int),sC 16 (cF 8 x1 Pt.row),sA 8 8 5 0,sI 7 y2,sA 6 6 5 0,sI 5 0,sA 4 4 5 0,sI 0 x0],[(11,(Vec.row r17.1)),(10,(Pt.row v16)),(8,[cI y3,cI y4,cI y5,cI y6,cI y7]),(6,[cI y8,cI y9,cI y10,cI x0,cI 0]),(4,[cI 0,cI 0,cI 0,cI 0,cI 0])]⟩ ?_
     rw [h1]
     rw [h3]
     exact jA (true,true,true,true,true,true,true) H [54,46,45,40,39,12,11,38,31,37,35,34,33,32,30,29,28,27,26,25,24,23,9,10,22,21,20,19,18,17,16,8,7,6,5,4,0] [11,10,8,6,4]
    rintro ⟨y18,y19,y20,y21,y22,y23,y24⟩ H
    have H : (Z3 n (fun v => qU n mo15 x0 x1 v.1 v.2.1 v.2.2.1 v.2.2.2.1 v.2.2.2.2.1 v.2.2.2.2.2.1 v.2.2.2.2.2.2.1 v.2.2.2.2.2.2.2.1 v.2.2.2.2.2.2.2.2.1 v.2.2.2.2.2.2.2.2.2) r17 y1 y10 y2 y3 y4 y5 y6 y7 y8 y9 y18 y19 y20 y21 y22 y23 y24) = some o15 := H
    unfold Z3 at H
    cases h4 : y18
    ·have H := zE h4 H
     refine nB_ ?_
     refine tK ?_
     refine eA 2 0x2004061efffff1ff1 3408 ?_
     exact jB mo15 ((IntKind.wrap .i64 (y1 + 1)),y2,y3,y4,y5,y6,y7,y8,y9,y10) H [18,17,16,8,7,6,5,4,0] [8,6,4]
    have H := zF h4 H
    refine tB_ ?_
    refine gA 4 0x1c061efffff1ff1 3408 ?_
    refine eA 9 0x1ffc061efffff1ff1 3408 ?_
    refine eA 2 0x3ffc061efffff1ff1 3408 ?_
    exact jB mo15 ((IntKind.wrap .i64 (y1 + 1)),y1,r17.1.Root,r17.1.Co,r17.1.Hops,r17.1.Bridge,r17.1.Port,r17.1.Root,r17.1.Co,r17.1.Hops) H [18,17,16,8,7,6,5,4,0] [8,6,4]
   refine tA h3 ?_
   refine Tr.exit ?_
   refine aJ ?_
   refine eA 2 0x2000000007fff07f1 1360 ?_
   exact jB mo15 ((IntKind.wrap .i64 (y1 + 1)),y2,y3,y4,y5,y6,y7,y8,y9,y10) H [18,17,16,8,7,6,5,4,0] [8,6,4]
  have H := zF h2 H
  refine uA 4 2147420145 1360 ?_
  refine tB_ ?_
  refine Tr.exit ?_
  refine aJ ?_
  refine eA 2 0x2000000007fff07f1 1360 ?_
  exact jB mo15 ((IntKind.wrap .i64 (y1 + 1)),y2,y3,y4,y5,y6,y7,y8,y9,y10) H [18,17,16,8,7,6,5,4,0] [8,6,4]
 rintro ⟨y11,y12,y13,y14⟩ H
 have H : (Jv n x0 y11 y12 y13 y14) = some r := H
 unfold Jv at H
 refine gA 4 48 16 ?_
 exact te (fJ [(true,[cI y12,cI y13,cI y14,cI x0,cI 0]),(false,[cI y11])] H)
def Y9 (n : Nat) (x0 : Int) (x1 : (List Pt)) (x2 : Int) : Option (Vec) :=
  ((Yg n x0 x1).bind fun r1 => (some (⟨r1.1.Root,r1.1.Co,r1.1.Hops,r1.1.Bridge,x2⟩ : Vec)))
theorem zFw (n : Nat) (x0 : Int) (x1 : (List Pt)) (x2 : Int) (r : Vec) (H : Y9 n x0 x1 x2 = some r) : zI Tryz.prog 219 [.val false [.lit (.int .i64 x0)],.val false [.sl false 8 (CV.frzEs (x1.map Pt.row))],.val false [.lit (.int .i64 x2)]] [.val true (Vec.row r)] [] := by
 refine cW Tryz.func219 (fun g d => sl [g 0,g 1,g 2,g 3] .ret) [.cell 6 165] fun cx => ?_
 unfold Y9 at H
 refine gA 1 71 64 ?_
 refine rA 2 ?_
 obtain ⟨r1,er1,H⟩ := bs H
 refine vA [.rd,.rd] (zE3 n x0 x1 r1 er1) ?_
 refine LAt.movT tOk (ty := 233) (t := 12) (d := 9) (g := none) [(true,(Vec.row r1.1)),(false,[cI r1.2])] _ kr (.inl rfl) kr kr kr kr rfl ?_
 refine uA 5 196 192 ?_
 refine gA 3 192 192 ?_
 refine gA 2 64 64 ?_
 exact te (fJ [(true,[cI r1.1.Root,cI r1.1.Co,cI r1.1.Hops,cI r1.1.Bridge,cI x2])] H)
def zAZ (n : Nat) (x0 : Net) (x1 : Int) (x2 : Int) : Option (Vec) :=
  ((idx x0.Bs x1).bind fun v1 => ((idx x0.Bs x1).bind fun v2 => ((Y9 n v1.Id v2.Ps x2).bind fun r3 => (some r3))))
def zMj : Tab := ⟨15,[0,1,0,6,8,16,0,64,0,384,512,1024,0,6176,16383],[0,1,0,6,8,16,0,64,0,384,512,1024,0,6176,8192],[0,1,0,7,15,31,0,64,0,448,960,1984,0,8191,16383]⟩
theorem zCL : za (rg Tryz.f200 1) zMj = true := kr
theorem zIA (n : Nat) (x0 : Net) (x1 : Int) (x2 : Int) (r : Vec) (H : zAZ n x0 x1 x2 = some r) : zI Tryz.prog 200 [.val true (CV.frzRow (Net.row x0)),.val false [.lit (.int .i64 x1)],.val false [.lit (.int .i64 x2)]] [.val true (Vec.row r)] [] := by
 refine cW Tryz.func200 (fun g d => sl [g 0,d 1] .ret) [.cell 6 165] fun cx => ?_
 unfold zAZ at H
 refine gA 2 78 72 ?_
 obtain ⟨v1,ev1,H⟩ := bs H
 obtain ⟨v2,ev2,H⟩ := bs H
 obtain ⟨r3,er3,H⟩ := bs H
 refine Tr.draws mixed 15 kr ⟨21,0,[sA 6 6 5 0],[(6,(Vec.row r3))]⟩ (fun cx => ?_) ?_
 ·refine mA zCL [(0,[]),(1,[13,14]),(2,[])] 12 [⟨[13,14],63,7,8⟩] fun cx => ?_
  refine iN zCL 3 zA.row ev1 fun cx => ?_
  refine mA zCL [(4,[]),(5,[]),(6,[]),(7,[13,14]),(8,[])] 6 [⟨[13,14],63,13,14⟩,⟨[13,14],63,7,8⟩] fun cx => ?_
  refine iN zCL 9 zA.row ev2 fun cx => ?_
  refine mA zCL [(10,[]),(11,[]),(12,[])] 2 [⟨[13,14],63,13,14⟩,⟨[13,14],63,7,8⟩] fun cx => ?_
  refine mC zCL 13 ?_
  refine vA [.rd,.rd,.rd] (zFw n v1.Id v2.Ps x2 r3 er3) ?_
  refine fA ?_
  refine mC zCL 14 ?_
  refine lA 1 ?_
  refine fA ?_
  exact mE zCL [6] [6]
 exact te (fJ [(true,(Vec.row r3))] H)
def Y0 (n : Nat) (x0 : Net) (y3 : (List Say)) : Option (Net) :=
  (some (⟨x0.Bs,x0.Ls,y3⟩ : Net))
def qV (n : Nat) : Nat → Net → Int → Int → (List Say) → Option (((List Say)) ⊕ (Net))
  | 0,_,_,_,_ => none
  | mo4 + 1,x0,x1,y1,y2 => (bif (decide (y1 < (x0.Ls.length : Int))) then ((idx x0.Ls y1).bind fun v5 => ((Z9 n (⟨x0.Bs,x0.Ls,y2⟩ : Net) y1).bind fun r6 => (bif (!r6) then (qV n mo4 x0 x1 (IntKind.wrap .i64 (y1 + 1)) y2) else (bif (decide ((y2.length : Int) ≥ 40)) then (qV n mo4 x0 x1 (IntKind.wrap .i64 (y1 + 1)) y2) else (bif (v5.A == x1) then ((zAZ n (⟨x0.Bs,x0.Ls,y2⟩ : Net) x1 v5.P).bind fun r9 => (bif (decide (y2.length + [(⟨y1,false,r9⟩ : Say)].length ≤ 268435456)) then (qV n mo4 x0 x1 (IntKind.wrap .i64 (y1 + 1)) (y2 ++ [(⟨y1,false,r9⟩ : Say)])) else none)) else (bif (v5.B == x1) then ((zAZ n (⟨x0.Bs,x0.Ls,y2⟩ : Net) x1 v5.Q).bind fun r7 => (bif (decide (y2.length + [(⟨y1,true,r7⟩ : Say)].length ≤ 268435456)) then (qV n mo4 x0 x1 (IntKind.wrap .i64 (y1 + 1)) (y2 ++ [(⟨y1,true,r7⟩ : Say)])) else none)) else (qV n mo4 x0 x1 (IntKind.wrap .i64 (y1 + 1)) y2))))))) else (some (Sum.inl y2)))
def Yn (n : Nat) (x0 : Net) (x1 : Int) : Option (Net) :=
  ((qV n n x0 x1 0 x0.Said).bind fun o => match o with | .inl y3 => (Y0 n x0 y3) | .inr r => some r)
def zMS : Tab := ⟨19,[0,0,2,4,8,0,0,64,128,0,0,1024,2816,4128,8192,20496,65535,131071,196607],[0,0,2,4,8,0,0,64,128,0,0,1024,2816,4128,8192,16400,1,65536,163840],[0,0,2,6,14,0,0,64,192,0,0,1024,4032,8160,16352,32766,65535,131071,262143]⟩
noncomputable abbrev zGC (k : Nat) := Rg Tryz.f117 k
noncomputable abbrev zMC (k : Nat) := Rd Tryz.f117 k
theorem zCE : za (rg Tryz.f117 7) zMS = true := kr
def zMR : Tab := ⟨19,[0,0,2,4,8,0,0,64,128,0,0,1024,2816,4128,8192,20496,65535,131071,196607],[0,0,2,4,8,0,0,64,128,0,0,1024,2816,4128,8192,16400,1,65536,163840],[0,0,2,6,14,0,0,64,192,0,0,1024,4032,8160,16352,32766,65535,131071,262143]⟩
theorem zCD : za (rg Tryz.f117 5) zMR = true := kr
theorem zHU (n : Nat) (x0 : Net) (x1 : Int) (r : Net) (H : Yn n x0 x1 = some r) : zI Tryz.prog 117 [.ptr (Net.row x0),.val false [.lit (.int .i64 x1)]] [] [(0,(Net.row r))] := by
 refine zI.of_body tOk Tryz.func117 rfl (c := (.seq (zGC 0) (.block 0 (.loop (.seq (zGC 1) (.seq (.cond (.tmp 12) .skip (.exit 0)) (.seq (.block 1 (.seq (zGC 2) (.seq (.seq (zGC 3) (.cond (.tmp 29) (.exit 1) .skip)) (.seq (zGC 4) (.cond (.tmp 33) (zMC 5) (.seq (zGC 6) (.cond (.tmp 55) (zMC 7) .skip))))))) (zGC 8)))))))) kr (Nat.le_of_ble_eq_true kr) 1 (rs := []) rfl [] .nil [] [] [(0,(Net.row r))] fun cx => ?_
 show Tr _ _ _ ⟨75,1,[sA 0 0 3 0,sI 1 x1],[(0,(Net.row x0))]⟩ _
 unfold Yn at H
 refine rA 4 ?_
 refine kO x0.Ls Link.row ?_
 refine uA 1 3587 1 ?_
 obtain ⟨o4,eo4,Ho4⟩ := bs H
 clear H
 refine Tr.mid (ι := (List Say)) (fun v => ⟨75,1,[sA 0 0 3 0],[(0,[cL 11 x0.Bs zA.row,cL 4 x0.Ls Link.row,cL 7 v Say.row])]⟩) (fun v => Y0 n x0 v = some r) ?_ ?_
 ·refine tB ?_
  refine Tr.loop (ι := Nat × (Int × (List Say))) (fun v => ⟨75,1,[sI 11 v.2.1,sI 10 (x0.Ls.length : Int),sR 9 0 3 1 1 false,sA 0 0 3 0,sI 1 x1],[(0,[cL 11 x0.Bs zA.row,cL 4 x0.Ls Link.row,cL 7 v.2.2 Say.row])]⟩) (fun v => qV n v.1 x0 x1 v.2.1 v.2.2 = some o4) (fun v => v.1) (n,(0,x0.Said)) eo4 (St.sub_of [11,10,9,0,1] [0] kr) ?_
  rintro ⟨mo4,y1,y2⟩ H
  have H : qV n mo4 x0 x1 y1 y2 = some o4 := H
  obtain _ | mo4 := mo4
  ·exact nN H
  rw [qV] at H
  refine gA 1 7683 1 ?_
  refine tS ?_
  obtain ⟨h1,H⟩ | ⟨h1,H⟩ := bC H
  ·refine nA h1 ?_
   refine Tr.exit ?_
   refine aJ ?_
   obtain rfl := si H
   have H := Ho4
   dsimp only at H
   exact jA y2 H [0] [0]
  refine tA h1 ?_
  refine tK ?_
  refine tS ?_
  refine tB ?_
  refine rA 1 ?_
  obtain ⟨v5,ev5,H⟩ := bs H
  refine oA Link.row ev5 ?_
  refine dE (tI 114) (.box 0) [(0,0),(1,(y1.toNat))] 4 0 [.sl true 3 [[cL 11 x0.Bs zA.row,cL 4 x0.Ls Link.row,cL 7 y2 Say.row]]] (Link.row v5) (zY rfl (zM ev5).2) ?_
  refine uA 3 3635 33 ?_
  refine tS ?_
  refine rA 4 ?_
  obtain ⟨r6,er6,H⟩ := bs H
  refine vB [.rd,.rd] [.box 0] (zDs n (⟨x0.Bs,x0.Ls,y2⟩ : Net) y1 r6 er6) (.inr (zV (zG zK zl) zp)) ?_
  refine lA 2 ?_
  refine sL 4197939 33 ⟨75,1,[sB 22 (!r6),sI 4 y1,sA 5 5 4 0,sI 11 y1,sI 10 (x0.Ls.length : Int),sR 9 0 3 1 1 false,sA 0 0 3 0,sI 1 x1],[(5,(Link.row v5)),(0,[cL 11 x0.Bs zA.row,cL 4 x0.Ls Link.row,cL 7 y2 Say.row])]⟩ ?_
  cases h2 : (!r6)
  ·have H := zE h2 H
   refine lA 4 ?_
   refine kO y2 Say.row ?_
   refine uA 2 536874547 33 ?_
   obtain ⟨h3,H⟩ | ⟨h3,H⟩ := bC H
   ·refine nA h3 ?_
    refine tK ?_
    refine gA 4 8589938227 33 ?_
    obtain ⟨h4,H⟩ | ⟨h4,H⟩ := bC H
    ·refine nA h4 ?_
     refine gA 4 0x80000000000e33 33 ?_
     obtain ⟨h5,H⟩ | ⟨h5,H⟩ := bC H
     ·refine nA h5 ?_
      refine tK ?_
      refine eA 2 3587 1 ?_
      exact jB mo4 ((IntKind.wrap .i64 (y1 + 1)),y2) H [11,10,9,0,1] [0]
     refine tA h5 ?_
     obtain ⟨r7,er7,H⟩ := bs H
     obtain ⟨hg8,H⟩ := gs H
     refine Tr.draw mixed 19 kr ⟨75,1,[sI 11 y1,sI 10 (x0.Ls.length : Int),sA 0 0 3 0,sI 1 x1,sR 9 0 3 1 1 false],[(0,[cL 11 x0.Bs zA.row,cL 4 x0.Ls Link.row,cL 7 (y2 ++ [(⟨y1,true,r7⟩ : Say)]) Say.row])]⟩ (fun cx => ?_) ?_
     ·refine mA zCE [(0,[]),(1,[]),(2,[]),(3,[]),(4,[15,18]),(5,[]),(6,[]),(7,[]),(8,[12,13,14,15,18]),(9,[]),(10,[]),(11,[12,13,14,15,18])] 7 [⟨[12,13,14,15,18],3,66,67⟩,⟨[12,13,14,15,18],67,63,64⟩,⟨[15,18],65,59,60⟩] fun cx => ?_
      refine mC zCE 12 ?_
      refine vB [.rd,.rd,.rd] [.box 0] (zIA n (⟨x0.Bs,x0.Ls,y2⟩ : Net) x1 v5.Q r7 er7) (.inr (zV (Vec.row_mine _) zp)) ?_
      refine fA ?_
      refine mC zCE 13 ?_
      refine lA 1 ?_
      refine fA ?_
      refine mC zCE 14 ?_
      refine lA 1 ?_
      refine fA ?_
      refine mC zCE 15 ?_
      refine LAt.grab 60 kr ?_
      refine LAt.appMU tOk (t := 65) (ty := 65) (e := 180) (x := (.tmp 60)) (y := (.tmp 70)) (d := 71) (g := none) (tI 180) Say.row y2 [(⟨y1,true,r7⟩ : Say)] kr kr kr kr kr kr kr kr kr kr hg8 ?_
      refine fA ?_
      refine mA zCE [(16,[]),(17,[])] 1 [⟨[12,13,14,15,18],3,66,67⟩,⟨[12,13,14,15,18],67,63,64⟩,⟨[15,18],65,59,60⟩] fun cx => ?_
      refine mC zCE 18 ?_
      refine LAt.storeO tOk (t := 65) (ty := 0) (ad := (.tmp 73)) (x := (.tmp 71)) (g := none) (tI 65) false [cL 7 (y2 ++ [(⟨y1,true,r7⟩ : Say)]) Say.row] 0 2 [cL 11 x0.Bs zA.row,cL 4 x0.Ls Link.row,.dead] kr kr kr kr kr kr kr kr ?_
      refine fA ?_
      exact mE zCE [11,10,0,1,9] [0]
     refine eA 2 3587 1 ?_
     exact jB mo4 ((IntKind.wrap .i64 (y1 + 1)),(y2 ++ [(⟨y1,true,r7⟩ : Say)])) H [11,10,9,0,1] [0]
    refine tA h4 ?_
    obtain ⟨r9,er9,H⟩ := bs H
    obtain ⟨hg10,H⟩ := gs H
    refine Tr.draw mixed 19 kr ⟨75,1,[sI 11 y1,sI 10 (x0.Ls.length : Int),sA 0 0 3 0,sI 1 x1,sR 9 0 3 1 1 false],[(0,[cL 11 x0.Bs zA.row,cL 4 x0.Ls Link.row,cL 7 (y2 ++ [(⟨y1,false,r9⟩ : Say)]) Say.row])]⟩ (fun cx => ?_) ?_
    ·refine mA zCD [(0,[]),(1,[]),(2,[]),(3,[]),(4,[15,18]),(5,[]),(6,[]),(7,[]),(8,[12,13,14,15,18]),(9,[]),(10,[]),(11,[12,13,14,15,18])] 7 [⟨[12,13,14,15,18],3,44,45⟩,⟨[12,13,14,15,18],67,41,42⟩,⟨[15,18],65,37,38⟩] fun cx => ?_
     refine mC zCD 12 ?_
     refine vB [.rd,.rd,.rd] [.box 0] (zIA n (⟨x0.Bs,x0.Ls,y2⟩ : Net) x1 v5.P r9 er9) (.inr (zV (Vec.row_mine _) zp)) ?_
     refine fA ?_
     refine mC zCD 13 ?_
     refine lA 1 ?_
     refine fA ?_
     refine mC zCD 14 ?_
     refine lA 1 ?_
     refine fA ?_
     refine mC zCD 15 ?_
     refine LAt.grab 38 kr ?_
     refine LAt.appMU tOk (t := 65) (ty := 65) (e := 180) (x := (.tmp 38)) (y := (.tmp 48)) (d := 49) (g := none) (tI 180) Say.row y2 [(⟨y1,false,r9⟩ : Say)] kr kr kr kr kr kr kr kr kr kr hg10 ?_
     refine fA ?_
     refine mA zCD [(16,[]),(17,[])] 1 [⟨[12,13,14,15,18],3,44,45⟩,⟨[12,13,14,15,18],67,41,42⟩,⟨[15,18],65,37,38⟩] fun cx => ?_
     refine mC zCD 18 ?_
     refine LAt.storeO tOk (t := 65) (ty := 0) (ad := (.tmp 51)) (x := (.tmp 49)) (g := none) (tI 65) false [cL 7 (y2 ++ [(⟨y1,false,r9⟩ : Say)]) Say.row] 0 2 [cL 11 x0.Bs zA.row,cL 4 x0.Ls Link.row,.dead] kr kr kr kr kr kr kr kr ?_
     refine fA ?_
     exact mE zCD [11,10,0,1,9] [0]
    refine eA 2 3587 1 ?_
    exact jB mo4 ((IntKind.wrap .i64 (y1 + 1)),(y2 ++ [(⟨y1,false,r9⟩ : Say)])) H [11,10,9,0,1] [0]
   refine tA h3 ?_
   refine Tr.exit ?_
   refine aJ ?_
   refine eA 2 3587 1 ?_
   exact jB mo4 ((IntKind.wrap .i64 (y1 + 1)),y2) H [11,10,9,0,1] [0]
  have H := zF h2 H
  refine uA 7 536874547 33 ?_
  refine tB_ ?_
  refine Tr.exit ?_
  refine aJ ?_
  refine eA 2 3587 1 ?_
  exact jB mo4 ((IntKind.wrap .i64 (y1 + 1)),y2) H [11,10,9,0,1] [0]
 rintro y3 H
 have H : (Y0 n x0 y3) = some r := H
 unfold Y0 at H
 obtain rfl := si H
 exact Fin.ofY _ [] [] _ [] _ [(0,[cL 11 x0.Bs zA.row,cL 4 x0.Ls Link.row,cL 7 y3 Say.row])] kr rfl rfl rfl kr kr kr kr rfl rfl rfl
def zAY (n : Nat) (x0 : Int) : Option (Int) :=
  (some (if 1000000 < (IntKind.wrap .i64 (x0 + 1)) then 1000000 else (IntKind.wrap .i64 (x0 + 1))))
theorem zH9 (n : Nat) (x0 : Int) (r : Int) (H : zAY n x0 = some r) : zI Tryz.prog 87 [.val false [.lit (.int .i64 x0)]] [.val false [.lit (.int .i64 r)]] [] := by
 refine cW Tryz.func87 (fun g d => sl [g 0,g 1] .ret) [.tmp 2] fun cx => ?_
 unfold zAY at H
 refine gA 1 1 0 ?_
 refine gA 4 4 0 ?_
 exact te (fJ [(false,[cI (if 1000000 < (IntKind.wrap .i64 (x0 + 1)) then 1000000 else (IntKind.wrap .i64 (x0 + 1)))])] H)
def zAT (n : Nat) (y3 : (List zB)) : Option ((List zB)) :=
  (some y3)
def ZI (n : Nat) : Nat → (List zB) → Int → (List zB) → Option (((List zB)) ⊕ ((List zB)))
  | 0,_,_,_ => none
  | mo4 + 1,x0,y1,y2 => (bif (decide (y1 < (x0.length : Int))) then ((idx x0 y1).bind fun v5 => (bif (!v5.Sc) then (bif (decide (v5.Age ≥ 4)) then (ZI n mo4 x0 (IntKind.wrap .i64 (y1 + 1)) y2) else (bif (decide (y2.length + [(⟨v5.Tag,v5.Mac,v5.Port,(IntKind.wrap .i64 (v5.Age + 1)),v5.Sc⟩ : zB)].length ≤ 268435456)) then (ZI n mo4 x0 (IntKind.wrap .i64 (y1 + 1)) (y2 ++ [(⟨v5.Tag,v5.Mac,v5.Port,(IntKind.wrap .i64 (v5.Age + 1)),v5.Sc⟩ : zB)])) else none)) else (bif (decide (y2.length + [v5].length ≤ 268435456)) then (ZI n mo4 x0 (IntKind.wrap .i64 (y1 + 1)) (y2 ++ [v5])) else none))) else (some (Sum.inl y2)))
def zAB (n : Nat) (x0 : (List zB)) : Option ((List zB)) :=
  ((ZI n n x0 0 ([] : List zB)).bind fun o => match o with | .inl y3 => (zAT n y3) | .inr r => some r)
theorem zJR (n : Nat) (x0 : (List zB)) (r : (List zB)) (H : zAB n x0 = some r) : zI Tryz.prog 201 [.val false [.sl false 5 (CV.frzEs (x0.map zB.row))]] [.val false [.sl true 5 (r.map zB.row)]] [] := by
 refine cW Tryz.func201 (fun g d => sl [g 0,g 1,sl [g 2] (.block 0 (.loop (sl [g 3,cn 9 .skip (.exit 0),.block 1 (sl [g 4,sl [g 5] (cn 14 (sl [sl [g 6] (cn 17 (.exit 1) .skip)] (g 7)) .skip)] (g 8))] (g 9)))),g 10] .ret) [.tmp 2] fun cx => ?_
 unfold zAB at H
 refine gA 1 1 0 ?_
 refine gA 1 9 0 ?_
 refine tS ?_
 refine rA 1 ?_
 refine kF x0 zB.row ?_
 refine uA 1 456 0 ?_
 obtain ⟨o4,eo4,Ho4⟩ := bs H
 clear H
 refine Tr.mid (ι := (List zB)) (fun v => ⟨28,0,[sC 3 (cL 5 v zB.row)],[]⟩) (fun v => zAT n v = some r) ?_ ?_
 ·refine tB ?_
  refine Tr.loop (ι := Nat × (Int × (List zB))) (fun v => ⟨28,0,[sI 8 v.2.1,sI 7 (x0.length : Int),sC 6 (cF 5 x0 zB.row),sC 3 (cL 5 v.2.2 zB.row)],[]⟩) (fun v => ZI n v.1 x0 v.2.1 v.2.2 = some o4) (fun v => v.1) (n,(0,([] : List zB))) eo4 (St.sub_of [8,7,6,3] [] kr) ?_
  rintro ⟨mo4,y1,y2⟩ H
  have H : ZI n mo4 x0 y1 y2 = some o4 := H
  obtain _ | mo4 := mo4
  ·exact nN H
  rw [ZI] at H
  refine gA 1 968 0 ?_
  refine tS ?_
  obtain ⟨h1,H⟩ | ⟨h1,H⟩ := bC H
  ·refine nA h1 ?_
   refine Tr.exit ?_
   refine aJ ?_
   obtain rfl := si H
   have H := Ho4
   dsimp only at H
   exact jA y2 H [3] []
  refine tA h1 ?_
  refine tK ?_
  refine tS ?_
  refine tB ?_
  refine tR ?_
  obtain ⟨v5,ev5,H⟩ := bs H
  refine iA zB.row ev5 ?_
  refine uA 3 488 32 ?_
  refine tS ?_
  refine gA 3 16872 32 ?_
  obtain ⟨h2,H⟩ | ⟨h2,H⟩ := bC H
  ·refine nA h2 ?_
   refine tK ?_
   refine Tr.at ?_
   refine lA 3 ?_
   obtain ⟨hg6,H⟩ := gs H
   refine LAt.appMU tOk (t := 36) (ty := 36) (e := 169) (x := (.tmp 22)) (y := (.tmp 24)) (d := 25) (g := none) (tI 169) zB.row y2 [v5] kr kr kr kr kr kr kr kr kr kr hg6 ?_
   refine LAt.moveU (T := lk tab) (ty := 36) (x := (.tmp 25)) (d := 3) (g := none) false [cL 5 (y2 ++ [v5]) zB.row] kr kr kr kr kr ?_
   refine dA 456 0 ?_
   refine eA 2 456 0 ?_
   exact jB mo4 ((IntKind.wrap .i64 (y1 + 1)),(y2 ++ [v5])) H [8,7,6,3] []
  refine tA h2 ?_
  refine tS ?_
  refine gA 3 131560 32 ?_
  obtain ⟨h3,H⟩ | ⟨h3,H⟩ := bC H
  ·refine nA h3 ?_
   refine tK ?_
   refine eA 5 488 32 ?_
   refine Tr.at ?_
   refine lA 3 ?_
   obtain ⟨hg7,H⟩ := gs H
   refine LAt.appMU tOk (t := 36) (ty := 36) (e := 169) (x := (.tmp 22)) (y := (.tmp 24)) (d := 25) (g := none) (tI 169) zB.row y2 [(⟨v5.Tag,v5.Mac,v5.Port,(IntKind.wrap .i64 (v5.Age + 1)),v5.Sc⟩ : zB)] kr kr kr kr kr kr kr kr kr kr hg7 ?_
   refine LAt.moveU (T := lk tab) (ty := 36) (x := (.tmp 25)) (d := 3) (g := none) false [cL 5 (y2 ++ [(⟨v5.Tag,v5.Mac,v5.Port,(IntKind.wrap .i64 (v5.Age + 1)),v5.Sc⟩ : zB)]) zB.row] kr kr kr kr kr ?_
   refine dA 456 0 ?_
   refine eA 2 456 0 ?_
   exact jB mo4 ((IntKind.wrap .i64 (y1 + 1)),(y2 ++ [(⟨v5.Tag,v5.Mac,v5.Port,(IntKind.wrap .i64 (v5.Age + 1)),v5.Sc⟩ : zB)])) H [8,7,6,3] []
  refine tA h3 ?_
  refine Tr.exit ?_
  refine aJ ?_
  refine eA 2 456 0 ?_
  exact jB mo4 ((IntKind.wrap .i64 (y1 + 1)),y2) H [8,7,6,3] []
 rintro y3 H
 have H : (zAT n y3) = some r := H
 unfold zAT at H
 refine gA 2 12 0 ?_
 exact te (fJ [(false,[cL 5 y3 zB.row])] H)
def zAC (n : Nat) (x0 : Int) (x1 : (List Pt)) (x2 : Int) : Option (Int) :=
  ((qI n x2 0 (IntKind.wrap .i64 ((x1.length : Int) - 1))).bind fun r1 => (bif (!r1) then (some 4) else ((idx x1 x2).bind fun v2 => (bif (!v2.Up) then (some 4) else ((Yg n x0 x1).bind fun r3 => (bif (r3.2 == x2) then (some 1) else ((idx x1 x2).bind fun v4 => (bif (!v4.Has) then (some 2) else ((Y9 n x0 x1 x2).bind fun r5 => ((idx x1 x2).bind fun v6 => ((Je n r5 v6.Hd).bind fun r7 => (bif r7 then (some 2) else (some 3)))))))))))))
def zMY : Tab := ⟨19,[0,0,3,4,8,16,32,64,64,64,960,64,64,6208,8256,16448,33856,65600,196608],[0,0,3,4,8,16,32,64,64,64,960,64,64,6208,8256,16448,33856,65600,131072],[0,0,3,7,15,31,63,127,127,127,1023,127,127,6271,14463,30847,65535,131071,262143]⟩
theorem YP : za (rg Tryz.f143 6) zMY = true := kr
theorem zJS (n : Nat) (x0 : Int) (x1 : (List Pt)) (x2 : Int) (r : Int) (H : zAC n x0 x1 x2 = some r) : zI Tryz.prog 143 [.val false [.lit (.int .i64 x0)],.val false [.sl false 8 (CV.frzEs (x1.map Pt.row))],.val false [.lit (.int .i64 x2)]] [.val false [.lit (.int .i64 r)]] [] := by
 refine cW Tryz.func143 (fun g d => sl [g 0,sl [g 1] (cn 22 (sl [g 2] .ret) .skip),g 3,.block 0 (sl [g 4] (cn 29 (sl [g 5] .ret) (sl [d 6] (cn 33 (sl [g 7] .ret) .skip)))),g 8] .ret) [.tmp 6] fun cx => ?_
 unfold zAC at H
 refine gA 1 7 0 ?_
 refine tS ?_
 refine rA 2 ?_
 refine kF x1 Pt.row ?_
 refine lA 1 ?_
 obtain ⟨r1,er1,H⟩ := bs H
 refine vA [.rd,.rd,.rd] (qM n x2 0 (IntKind.wrap .i64 ((x1.length : Int) - 1)) r1 er1) ?_
 refine lA 2 ?_
 refine sL 32775 0 ⟨52,0,[sB 15 (!r1),sI 0 x0,sC 1 (cF 8 x1 Pt.row),sI 2 x2],[]⟩ ?_
 cases h1 : (!r1)
 ·have H := zE h1 H
  refine lA 2 ?_
  obtain ⟨v2,ev2,H⟩ := bs H
  refine iA Pt.row ev2 ?_
  refine uA 4 4194311 0 ?_
  obtain ⟨h2,H⟩ | ⟨h2,H⟩ := bC H
  ·refine nA h2 ?_
   refine tK ?_
   refine rA 2 ?_
   obtain ⟨r3,er3,H⟩ := bs H
   refine vA [.rd,.rd] (zE3 n x0 x1 r3 er3) ?_
   refine LAt.movT tOk (ty := 233) (t := 26) (d := 23) (g := none) [(true,(Vec.row r3.1)),(false,[cI r3.2])] _ kr (.inl rfl) kr kr kr kr rfl ?_
   refine uA 5 263 0 ?_
   refine tS ?_
   refine tB ?_
   refine gA 4 536870919 0 ?_
   obtain ⟨h3,H⟩ | ⟨h3,H⟩ := bC H
   ·refine nA h3 ?_
    obtain ⟨v4,ev4,H⟩ := bs H
    refine sT ⟨52,0,[sB 29 (r3.2 == x2),sI 0 x0,sC 1 (cF 8 x1 Pt.row),sI 2 x2],[]⟩ ?_
    cases h4 : (!v4.Has)
    ·have H := zE h4 H
     obtain ⟨r5,er5,H⟩ := bs H
     obtain ⟨v6,ev6,H⟩ := bs H
     obtain ⟨r7,er7,H⟩ := bs H
     refine Tr.draws mixed 19 kr ⟨52,0,[sB 33 r7],[]⟩ (fun cx => ?_) ?_
     ·refine mA YP [(0,[]),(1,[])] 17 [] fun cx => ?_
      refine iN YP 2 Pt.row ev4 fun cx => ?_
      refine mA YP [(3,[]),(4,[]),(5,[]),(6,[])] 12 [] fun cx => ?_
      refine sA_ 1099511627783 0 ⟨52,0,[sB 40 (!v4.Has),sI 0 x0,sC 1 (cF 8 x1 Pt.row),sI 2 x2],[]⟩ ?_
      rw [h4]
      refine mA YP [(7,[]),(8,[]),(9,[]),(11,[]),(12,[])] 7 [] fun cx => ?_
      refine iN YP 13 Pt.row ev6 fun cx => ?_
      refine mA YP [(14,[]),(15,[])] 4 [] fun cx => ?_
      refine mC YP 10 ?_
      refine vA [.rd,.rd,.rd] (zFw n x0 x1 x2 r5 er5) ?_
      refine fA ?_
      refine mC YP 16 ?_
      refine vA [.rd,.rd] (zE5 n r5 v6.Hd r7 er7) ?_
      refine fA ?_
      refine mA YP [(17,[]),(18,[])] 0 [] fun cx => ?_
      exact mE YP [33] []
     cases h5 : r7
     ·have H := zE h5 H
      refine nB_ ?_
      refine tK ?_
      refine gA 1 64 0 ?_
      exact te (fJ [(false,[cI 3])] H)
     have H := zF h5 H
     refine tB_ ?_
     refine gA 1 64 0 ?_
     exact te (fJ [(false,[cI 2])] H)
    have H := zF h4 H
    refine Tr.draws mixed 19 kr ⟨52,0,[sB 33 true],[]⟩ (fun cx => ?_) ?_
    ·refine mA YP [(0,[]),(1,[])] 17 [] fun cx => ?_
     refine iN YP 2 Pt.row ev4 fun cx => ?_
     refine mA YP [(3,[]),(4,[]),(5,[]),(6,[])] 12 [] fun cx => ?_
     refine sA_ 1099511627783 0 ⟨52,0,[sB 40 (!v4.Has),sI 0 x0,sC 1 (cF 8 x1 Pt.row),sI 2 x2],[]⟩ ?_
     rw [h4]
     refine mA YP [(7,[]),(8,[]),(9,[]),(10,[]),(11,[]),(12,[]),(13,[]),(14,[]),(15,[]),(16,[]),(17,[]),(18,[])] 0 [] fun cx => ?_
     exact mE YP [33] []
    refine tB_ ?_
    refine gA 1 64 0 ?_
    exact te (fJ [(false,[cI 2])] H)
   refine tA h3 ?_
   refine gA 1 64 0 ?_
   exact te (fJ [(false,[cI 1])] H)
  refine tA h2 ?_
  refine gA 1 64 0 ?_
  exact te (fJ [(false,[cI 4])] H)
 have H := zF h1 H
 refine uA 7 4194311 0 ?_
 refine tB_ ?_
 refine gA 1 64 0 ?_
 exact te (fJ [(false,[cI 4])] H)
def zA2 (n : Nat) (y3 : Int) : Option (Int) :=
  (some y3)
def Zg (n : Nat) : Nat → Int → (List Pt) → Int → Int → Option ((Int) ⊕ (Int))
  | 0,_,_,_,_ => none
  | mo4 + 1,x0,x1,y1,y2 => (bif (decide (y1 < (x1.length : Int))) then (bif (decide (y1 < 6)) then ((zAC n x0 x1 y1).bind fun r5 => (bif (r5 == 1) then (bif (decide ((0 : Int) ≤ y1)) then (Zg n mo4 x0 x1 (IntKind.wrap .i64 (y1 + 1)) (IntKind.wrap .i64 (BitVec.ofInt (IntKind.bits .i64) y2 ||| BitVec.ofInt (IntKind.bits .i64) (IntKind.wrap .i64 (1 * 2 ^ min ((y1 : Int)).toNat (IntKind.bits .i64)))).toNat)) else none) else (bif (r5 == 2) then (bif (decide ((0 : Int) ≤ y1)) then (Zg n mo4 x0 x1 (IntKind.wrap .i64 (y1 + 1)) (IntKind.wrap .i64 (BitVec.ofInt (IntKind.bits .i64) y2 ||| BitVec.ofInt (IntKind.bits .i64) (IntKind.wrap .i64 (1 * 2 ^ min ((y1 : Int)).toNat (IntKind.bits .i64)))).toNat)) else none) else (Zg n mo4 x0 x1 (IntKind.wrap .i64 (y1 + 1)) y2)))) else (some (Sum.inl y2))) else (some (Sum.inl y2)))
def zAs (n : Nat) (x0 : Int) (x1 : (List Pt)) : Option (Int) :=
  ((Zg n n x0 x1 0 0).bind fun o => match o with | .inl y3 => (zA2 n y3) | .inr r => some r)
theorem zKI (n : Nat) (x0 : Int) (x1 : (List Pt)) (r : Int) (H : zAs n x0 x1 = some r) : zI Tryz.prog 43 [.val false [.lit (.int .i64 x0)],.val false [.sl false 8 (CV.frzEs (x1.map Pt.row))]] [.val false [.lit (.int .i64 r)]] [] := by
 refine cW Tryz.func43 (fun g d => sl [g 0,g 1,sl [g 2] (.block 0 (.loop (sl [sl [g 3] (cn 15 .skip (.exit 0)),.block 1 (sl [g 5,g 6] (cn 27 (g 7) .skip))] (g 4)))),g 8] .ret) [.tmp 4] fun cx => ?_
 unfold zAs at H
 refine gA 1 3 0 ?_
 refine gA 1 35 0 ?_
 refine tS ?_
 refine gA 1 99 0 ?_
 obtain ⟨o4,eo4,Ho4⟩ := bs H
 clear H
 refine Tr.mid (ι := Int) (fun v => ⟨33,0,[sI 5 v],[]⟩) (fun v => zA2 n v = some r) ?_ ?_
 ·refine tB ?_
  refine Tr.loop (ι := Nat × (Int × Int)) (fun v => ⟨33,0,[sI 6 v.2.1,sI 5 v.2.2,sI 0 x0,sC 1 (cF 8 x1 Pt.row)],[]⟩) (fun v => Zg n v.1 x0 x1 v.2.1 v.2.2 = some o4) (fun v => v.1) (n,(0,0)) eo4 (St.sub_of [6,5,0,1] [] kr) ?_
  rintro ⟨mo4,y1,y2⟩ H
  have H : Zg n mo4 x0 x1 y1 y2 = some o4 := H
  obtain _ | mo4 := mo4
  ·exact nN H
  rw [Zg] at H
  refine tS ?_
  refine rA 2 ?_
  refine kF x1 Pt.row ?_
  refine lA 2 ?_
  refine sL 4195 0 ⟨33,0,[sB 12 (decide (y1 < (x1.length : Int))),sI 6 y1,sI 5 y2,sI 0 x0,sC 1 (cF 8 x1 Pt.row)],[]⟩ ?_
  cases h1 : (decide (y1 < (x1.length : Int)))
  ·have H := zE h1 H
   refine uA 3 32867 0 ?_
   refine nB_ ?_
   refine Tr.exit ?_
   refine aJ ?_
   obtain rfl := si H
   have H := Ho4
   dsimp only at H
   exact jA y2 H [5] []
  have H := zF h1 H
  refine uA 3 32867 0 ?_
  obtain ⟨h2,H⟩ | ⟨h2,H⟩ := bC H
  ·refine nA h2 ?_
   refine Tr.exit ?_
   refine aJ ?_
   obtain rfl := si H
   have H := Ho4
   dsimp only at H
   exact jA y2 H [5] []
  refine tA h2 ?_
  refine tK ?_
  refine tS ?_
  refine tB ?_
  refine rA 3 ?_
  obtain ⟨r5,er5,H⟩ := bs H
  refine vA [.rd,.rd,.rd] (zJS n x0 x1 y1 r5 er5) ?_
  refine uA 1 227 0 ?_
  refine rA 3 ?_
  refine sL 16777443 0 ⟨33,0,[sB 24 (r5 == 1),sI 7 r5,sI 6 y1,sI 5 y2,sI 0 x0,sC 1 (cF 8 x1 Pt.row)],[]⟩ ?_
  cases h3 : (r5 == 1)
  ·have H := zE h3 H
   refine uA 3 134217827 0 ?_
   obtain ⟨h4,H⟩ | ⟨h4,H⟩ := bC H
   ·refine nA h4 ?_
    refine tK ?_
    refine eA 3 99 0 ?_
    exact jB mo4 ((IntKind.wrap .i64 (y1 + 1)),y2) H [6,5,0,1] []
   refine tA h4 ?_
   refine Tr.at ?_
   refine lA 2 ?_
   obtain ⟨hg6,H⟩ := gs H
   refine LAt.binC tOk (op := .shl) (t := 3) (ty := 3) (ty' := 3) (x := (.const (.int .i64 1))) (y := (.tmp 29)) (d := 30) (g := none) (.int .i64 1) (.int .i64 y1) (.int .i64 (IntKind.wrap .i64 (1 * 2 ^ min ((y1 : Int)).toNat (IntKind.bits .i64)))) _ kr kr kr kr kr (φ := (0 : Int) ≤ y1) kr (of_decide_eq_true hg6) rfl ?_
   refine uA 2 99 0 ?_
   refine eA 3 99 0 ?_
   exact jB mo4 ((IntKind.wrap .i64 (y1 + 1)),(IntKind.wrap .i64 (BitVec.ofInt (IntKind.bits .i64) y2 ||| BitVec.ofInt (IntKind.bits .i64) (IntKind.wrap .i64 (1 * 2 ^ min ((y1 : Int)).toNat (IntKind.bits .i64)))).toNat)) H [6,5,0,1] []
  have H := zF h3 H
  refine uA 3 134217827 0 ?_
  refine tB_ ?_
  refine Tr.at ?_
  refine lA 2 ?_
  obtain ⟨hg7,H⟩ := gs H
  refine LAt.binC tOk (op := .shl) (t := 3) (ty := 3) (ty' := 3) (x := (.const (.int .i64 1))) (y := (.tmp 29)) (d := 30) (g := none) (.int .i64 1) (.int .i64 y1) (.int .i64 (IntKind.wrap .i64 (1 * 2 ^ min ((y1 : Int)).toNat (IntKind.bits .i64)))) _ kr kr kr kr kr (φ := (0 : Int) ≤ y1) kr (of_decide_eq_true hg7) rfl ?_
  refine uA 2 99 0 ?_
  refine eA 3 99 0 ?_
  exact jB mo4 ((IntKind.wrap .i64 (y1 + 1)),(IntKind.wrap .i64 (BitVec.ofInt (IntKind.bits .i64) y2 ||| BitVec.ofInt (IntKind.bits .i64) (IntKind.wrap .i64 (1 * 2 ^ min ((y1 : Int)).toNat (IntKind.bits .i64)))).toNat)) H [6,5,0,1] []
 rintro y3 H
 have H : (zA2 n y3) = some r := H
 unfold zA2 at H
 refine gA 2 16 0 ?_
 exact te (fJ [(false,[cI y3])] H)
def Jj (n : Nat) (x0 : Int) (x1 : Int) : Option (Bool) :=
  ((qI n x1 0 62).bind fun r1 => (bif r1 then (bif (decide ((0 : Int) ≤ x1)) then (some ((IntKind.wrap .i64 (BitVec.ofInt (IntKind.bits .i64) (Int.fdiv x0 (2 ^ min ((x1 : Int)).toNat (IntKind.bits .i64))) &&& BitVec.ofInt (IntKind.bits .i64) 1).toNat) == 1)) else none) else (some false)))
theorem zIu (n : Nat) (x0 : Int) (x1 : Int) (r : Bool) (H : Jj n x0 x1 = some r) : zI Tryz.prog 86 [.val false [.lit (.int .i64 x0)],.val false [.lit (.int .i64 x1)]] [.val false [.lit (.bool r)]] [] := by
 refine cW Tryz.func86 (fun g d => sl [g 0,g 1] .ret) [.tmp 4] fun cx => ?_
 unfold Jj at H
 refine gA 1 3 0 ?_
 refine rA 1 ?_
 obtain ⟨r1,er1,H⟩ := bs H
 refine vA [.rd,.rd,.rd] (qM n x1 0 62 r1 er1) ?_
 refine lA 1 ?_
 refine sL 131 0 ⟨14,0,[sB 7 r1,sI 0 x0,sI 1 x1],[]⟩ ?_
 cases h1 : r1
 ·have H := zE h1 H
  refine uA 7 16 0 ?_
  exact te (fF H)
 have H := zF h1 H
 refine lA 2 ?_
 obtain ⟨hg2,H⟩ := gs H
 refine LAt.binC tOk (op := .shr) (t := 3) (ty := 3) (ty' := 3) (x := (.tmp 8)) (y := (.tmp 9)) (d := 10) (g := (some (2,true))) (.int .i64 x0) (.int .i64 x1) (.int .i64 (Int.fdiv x0 (2 ^ min ((x1 : Int)).toNat (IntKind.bits .i64)))) _ kr kr kr kr kr (φ := (0 : Int) ≤ x1) kr (of_decide_eq_true hg2) rfl ?_
 refine uA 4 16 0 ?_
 exact te (fJ [(false,[cB ((IntKind.wrap .i64 (BitVec.ofInt (IntKind.bits .i64) (Int.fdiv x0 (2 ^ min ((x1 : Int)).toNat (IntKind.bits .i64))) &&& BitVec.ofInt (IntKind.bits .i64) 1).toNat) == 1)])] H)
def YD (n : Nat) (y3 : (List zB)) : Option ((List zB)) :=
  (some y3)
def qf (n : Nat) : Nat → (List zB) → Int → Int → (List zB) → Option (((List zB)) ⊕ ((List zB)))
  | 0,_,_,_,_ => none
  | mo4 + 1,x0,x1,y1,y2 => (bif (decide (y1 < (x0.length : Int))) then ((idx x0 y1).bind fun v5 => (bif v5.Sc then (bif (decide (y2.length + [v5].length ≤ 268435456)) then (qf n mo4 x0 x1 (IntKind.wrap .i64 (y1 + 1)) (y2 ++ [v5])) else none) else (bif (v5.Port != x1) then (bif (decide (y2.length + [v5].length ≤ 268435456)) then (qf n mo4 x0 x1 (IntKind.wrap .i64 (y1 + 1)) (y2 ++ [v5])) else none) else (qf n mo4 x0 x1 (IntKind.wrap .i64 (y1 + 1)) y2)))) else (some (Sum.inl y2)))
def Ym (n : Nat) (x0 : (List zB)) (x1 : Int) : Option ((List zB)) :=
  ((qf n n x0 x1 0 ([] : List zB)).bind fun o => match o with | .inl y3 => (YD n y3) | .inr r => some r)
theorem zHT (n : Nat) (x0 : (List zB)) (x1 : Int) (r : (List zB)) (H : Ym n x0 x1 = some r) : zI Tryz.prog 241 [.val false [.sl false 5 (CV.frzEs (x0.map zB.row))],.val false [.lit (.int .i64 x1)]] [.val false [.sl true 5 (r.map zB.row)]] [] := by
 refine cW Tryz.func241 (fun g d => sl [g 0,g 1,sl [g 2] (.block 0 (.loop (sl [g 3,cn 11 .skip (.exit 0),.block 1 (sl [g 4,g 5] (cn 21 (g 6) .skip))] (g 7)))),g 8] .ret) [.tmp 4] fun cx => ?_
 unfold Ym at H
 refine gA 1 3 0 ?_
 refine gA 1 35 0 ?_
 refine tS ?_
 refine rA 1 ?_
 refine kF x0 zB.row ?_
 refine uA 1 1826 0 ?_
 obtain ⟨o4,eo4,Ho4⟩ := bs H
 clear H
 refine Tr.mid (ι := (List zB)) (fun v => ⟨28,0,[sC 5 (cL 5 v zB.row)],[]⟩) (fun v => YD n v = some r) ?_ ?_
 ·refine tB ?_
  refine Tr.loop (ι := Nat × (Int × (List zB))) (fun v => ⟨28,0,[sI 10 v.2.1,sI 9 (x0.length : Int),sC 8 (cF 5 x0 zB.row),sC 5 (cL 5 v.2.2 zB.row),sI 1 x1],[]⟩) (fun v => qf n v.1 x0 x1 v.2.1 v.2.2 = some o4) (fun v => v.1) (n,(0,([] : List zB))) eo4 (St.sub_of [10,9,8,5,1] [] kr) ?_
  rintro ⟨mo4,y1,y2⟩ H
  have H : qf n mo4 x0 x1 y1 y2 = some o4 := H
  obtain _ | mo4 := mo4
  ·exact nN H
  rw [qf] at H
  refine gA 1 3874 0 ?_
  refine tS ?_
  obtain ⟨h1,H⟩ | ⟨h1,H⟩ := bC H
  ·refine nA h1 ?_
   refine Tr.exit ?_
   refine aJ ?_
   obtain rfl := si H
   have H := Ho4
   dsimp only at H
   exact jA y2 H [5] []
  refine tA h1 ?_
  refine tK ?_
  refine tS ?_
  refine tB ?_
  refine tR ?_
  obtain ⟨v5,ev5,H⟩ := bs H
  refine iA zB.row ev5 ?_
  refine uA 3 1954 128 ?_
  refine tS ?_
  refine Tr.at ?_
  refine lA 3 ?_
  refine sL 67490 128 ⟨28,0,[sB 16 v5.Sc,sA 7 7 5 0,sI 10 y1,sI 9 (x0.length : Int),sC 8 (cF 5 x0 zB.row),sC 5 (cL 5 y2 zB.row),sI 1 x1],[(7,(zB.row v5))]⟩ ?_
  cases h2 : v5.Sc
  ·have H := zE h2 H
   refine uA 5 2099106 128 ?_
   obtain ⟨h3,H⟩ | ⟨h3,H⟩ := bC H
   ·refine nA h3 ?_
    refine tK ?_
    refine eA 2 1826 0 ?_
    exact jB mo4 ((IntKind.wrap .i64 (y1 + 1)),y2) H [10,9,8,5,1] []
   refine tA h3 ?_
   refine Tr.at ?_
   refine lA 3 ?_
   obtain ⟨hg6,H⟩ := gs H
   refine LAt.appMU tOk (t := 36) (ty := 36) (e := 169) (x := (.tmp 22)) (y := (.tmp 24)) (d := 25) (g := none) (tI 169) zB.row y2 [v5] kr kr kr kr kr kr kr kr kr kr hg6 ?_
   refine LAt.moveU (T := lk tab) (ty := 36) (x := (.tmp 25)) (d := 5) (g := none) false [cL 5 (y2 ++ [v5]) zB.row] kr kr kr kr kr ?_
   refine dA 1826 0 ?_
   refine eA 2 1826 0 ?_
   exact jB mo4 ((IntKind.wrap .i64 (y1 + 1)),(y2 ++ [v5])) H [10,9,8,5,1] []
  have H := zF h2 H
  refine uA 5 2099106 128 ?_
  refine tB_ ?_
  refine Tr.at ?_
  refine lA 3 ?_
  obtain ⟨hg7,H⟩ := gs H
  refine LAt.appMU tOk (t := 36) (ty := 36) (e := 169) (x := (.tmp 22)) (y := (.tmp 24)) (d := 25) (g := none) (tI 169) zB.row y2 [v5] kr kr kr kr kr kr kr kr kr kr hg7 ?_
  refine LAt.moveU (T := lk tab) (ty := 36) (x := (.tmp 25)) (d := 5) (g := none) false [cL 5 (y2 ++ [v5]) zB.row] kr kr kr kr kr ?_
  refine dA 1826 0 ?_
  refine eA 2 1826 0 ?_
  exact jB mo4 ((IntKind.wrap .i64 (y1 + 1)),(y2 ++ [v5])) H [10,9,8,5,1] []
 rintro y3 H
 have H : (YD n y3) = some r := H
 unfold YD at H
 refine gA 2 48 0 ?_
 exact te (fJ [(false,[cL 5 y3 zB.row])] H)
def Yc (n : Nat) (r1 : Int) (x0 : zA) (y5 : (List zB)) : Option (zA) :=
  (some (⟨x0.Id,x0.Name,x0.Ps,y5,x0.V,x0.Tk,x0.Pa,x0.Wo,x0.Dr,r1⟩ : zA))
def qn (n : Nat) : Nat → Int → zA → Int → (List zB) → Option (((List zB)) ⊕ (zA))
  | 0,_,_,_,_ => none
  | mo6 + 1,r2,x0,y3,y4 => (bif (decide (y3 < (x0.Ps.length : Int))) then ((Jj n r2 y3).bind fun r7 => (bif (!r7) then ((Ym n y4 y3).bind fun r8 => (qn n mo6 r2 x0 (IntKind.wrap .i64 (y3 + 1)) r8)) else (qn n mo6 r2 x0 (IntKind.wrap .i64 (y3 + 1)) y4))) else (some (Sum.inl y4)))
def qp (n : Nat) (x0 : zA) : Option (zA) :=
  ((zAY n x0.Ve).bind fun r1 => ((zAs n x0.Id x0.Ps).bind fun r2 => ((qn n n r2 x0 0 x0.F).bind fun o => match o with | .inl y5 => (Yc n r1 x0 y5) | .inr r => some r)))
noncomputable abbrev zGF (k : Nat) := Rg Tryz.f202 k
noncomputable abbrev D202 (k : Nat) := Rd Tryz.f202 k
theorem zBE (n : Nat) (x0 : zA) (r : zA) (H : qp n x0 = some r) : zI Tryz.prog 202 [.ptr (zA.row x0)] [] [(0,(zA.row r))] := by
 refine zI.of_body tOk Tryz.func202 rfl (c := (.seq (zGF 0) (.seq (D202 1) (.seq (zGF 2) (.block 0 (.loop (.seq (zGF 3) (.seq (.cond (.tmp 27) .skip (.exit 0)) (.seq (.block 1 (.seq (zGF 4) (.seq (zGF 5) (.cond (.tmp 32) (zGF 6) .skip)))) (zGF 7)))))))))) kr (Nat.le_of_ble_eq_true kr) 1 (rs := []) rfl [] .nil [] [] [(0,(zA.row r))] fun cx => ?_
 show Tr _ _ _ ⟨43,1,[sA 0 0 11 0],[(0,(zA.row x0))]⟩ _
 unfold qp at H
 refine rA 5 ?_
 obtain ⟨r1,er1,H⟩ := bs H
 refine vA [.rd] (zH9 n x0.Ve r1 er1) ?_
 refine uA 3 1 1 ?_
 obtain ⟨r2,er2,H⟩ := bs H
 refine Tr.draws mixed 10 kr ⟨43,1,[sI 2 r2,sA 0 0 11 0],[(0,[cI x0.Id,cS x0.Name,cL 8 x0.Ps Pt.row,cL 5 x0.F zB.row,cL 3 x0.V.Rows zC.row,cL 1 x0.V.Pv intRow,cI x0.Tk,cI x0.Pa,cI x0.Wo,cI x0.Dr,cI r1])]⟩ (fun cx => ?_) ?_
 ·refine aA [(0,[]),(1,[]),(2,[]),(3,[8]),(4,[]),(5,[]),(6,[]),(7,[8])] 2 [⟨[8],35,18,19⟩,⟨[8],3,14,15⟩] fun cx => ?_
  refine bA 8 ?_
  refine vB [.rd,.rd] [.box 0] (zKI n x0.Id x0.Ps r2 er2) (.inr (zV (zG zK zl) zp)) ?_
  refine fA ?_
  refine aA [(9,[])] 0 [⟨[8],35,18,19⟩,⟨[8],3,14,15⟩] fun cx => ?_
  exact eE [2,0] [0]
 refine rA 4 ?_
 refine kO x0.Ps Pt.row ?_
 refine uA 1 100663301 1 ?_
 obtain ⟨o6,eo6,Ho6⟩ := bs H
 clear H
 refine Tr.mid (ι := (List zB)) (fun v => ⟨43,1,[sA 0 0 11 0],[(0,[cI x0.Id,cS x0.Name,cL 8 x0.Ps Pt.row,cL 5 v zB.row,cL 3 x0.V.Rows zC.row,cL 1 x0.V.Pv intRow,cI x0.Tk,cI x0.Pa,cI x0.Wo,cI x0.Dr,cI r1])]⟩) (fun v => Yc n r1 x0 v = some r) ?_ ?_
 ·refine tB ?_
  refine Tr.loop (ι := Nat × (Int × (List zB))) (fun v => ⟨43,1,[sI 26 v.2.1,sI 25 (x0.Ps.length : Int),sI 2 r2,sA 0 0 11 0],[(0,[cI x0.Id,cS x0.Name,cL 8 x0.Ps Pt.row,cL 5 v.2.2 zB.row,cL 3 x0.V.Rows zC.row,cL 1 x0.V.Pv intRow,cI x0.Tk,cI x0.Pa,cI x0.Wo,cI x0.Dr,cI r1])]⟩) (fun v => qn n v.1 r2 x0 v.2.1 v.2.2 = some o6) (fun v => v.1) (n,(0,x0.F)) eo6 (St.sub_of [26,25,2,0] [0] kr) ?_
  rintro ⟨mo6,y3,y4⟩ H
  have H : qn n mo6 r2 x0 y3 y4 = some o6 := H
  obtain _ | mo6 := mo6
  ·exact nN H
  rw [qn] at H
  refine gA 1 234881029 1 ?_
  refine tS ?_
  obtain ⟨h1,H⟩ | ⟨h1,H⟩ := bC H
  ·refine nA h1 ?_
   refine Tr.exit ?_
   refine aJ ?_
   obtain rfl := si H
   have H := Ho6
   dsimp only at H
   exact jA y4 H [0] [0]
  refine tA h1 ?_
  refine tK ?_
  refine tS ?_
  refine tB ?_
  refine gA 2 100663309 1 ?_
  refine rA 2 ?_
  obtain ⟨r7,er7,H⟩ := bs H
  refine vA [.rd,.rd] (zIu n r2 y3 r7 er7) ?_
  refine uA 1 4395630605 1 ?_
  obtain ⟨h2,H⟩ | ⟨h2,H⟩ := bC H
  ·refine nA h2 ?_
   refine tK ?_
   refine eA 2 100663301 1 ?_
   exact jB mo6 ((IntKind.wrap .i64 (y3 + 1)),y4) H [26,25,2,0] [0]
  refine tA h2 ?_
  refine Tr.at ?_
  refine lA 6 ?_
  obtain ⟨r8,er8,H⟩ := bs H
  refine vB [.rd,.rd] [.box 0] (zHT n y4 y3 r8 er8) (.inr (zV (zG (Yi (Qn zB.row_mine _)) zl) zp)) ?_
  refine uA 3 100663301 1 ?_
  refine eA 2 100663301 1 ?_
  exact jB mo6 ((IntKind.wrap .i64 (y3 + 1)),r8) H [26,25,2,0] [0]
 rintro y5 H
 have H : (Yc n r1 x0 y5) = some r := H
 unfold Yc at H
 obtain rfl := si H
 exact Fin.ofY _ [] [] _ [] _ [(0,[cI x0.Id,cS x0.Name,cL 8 x0.Ps Pt.row,cL 5 y5 zB.row,cL 3 x0.V.Rows zC.row,cL 1 x0.V.Pv intRow,cI x0.Tk,cI x0.Pa,cI x0.Wo,cI x0.Dr,cI r1])] kr rfl rfl rfl kr kr kr kr rfl rfl rfl
def zAU (n : Nat) (x0 : zA) : Option (zA) :=
  ((q9 n x0).bind fun r1 => ((QR n x0).bind fun r2 => (bif r2 then ((zAY n x0.Tk).bind fun r3 => ((zAB n x0.F).bind fun r4 => ((qp n (⟨r1.Id,r1.Name,r1.Ps,r4,r1.V,r3,r1.Pa,r1.Wo,r1.Dr,r1.Ve⟩ : zA)).bind fun r5 => (some r5)))) else (some r1))))
theorem zKt (n : Nat) (x0 : zA) (r : zA) (H : zAU n x0 = some r) : zI Tryz.prog 118 [.val true (CV.frzRow (zA.row x0))] [.val true (zA.row r)] [] := by
 refine cW Tryz.func118 (fun g d => sl [g 0,g 1,sl [g 2] (cn 7 (sl [g 3,g 4] (g 5)) .skip),g 6] .ret) [.cell 2 41] fun cx => ?_
 unfold zAU at H
 refine gA 2 6 6 ?_
 refine rA 1 ?_
 obtain ⟨r1,er1,H⟩ := bs H
 refine vA [.rd] (Jx n x0 r1 er1) ?_
 refine uA 2 14 14 ?_
 refine tS ?_
 refine rA 1 ?_
 obtain ⟨r2,er2,H⟩ := bs H
 refine vA [.rd] (zCk n x0 r2 er2) ?_
 refine dA 142 14 ?_
 cases h1 : r2
 ·have H := zE h1 H
  refine nB_ ?_
  refine tK ?_
  refine gA 2 4 4 ?_
  exact te (fJ [(true,(zA.row r1))] H)
 have H := zF h1 H
 refine tB_ ?_
 refine rA 2 ?_
 obtain ⟨r3,er3,H⟩ := bs H
 refine vA [.rd] (zH9 n x0.Tk r3 er3) ?_
 refine uA 2 14 14 ?_
 refine rA 2 ?_
 obtain ⟨r4,er4,H⟩ := bs H
 refine vA [.rd] (zJR n x0.F r4 er4) ?_
 refine uA 2 12 12 ?_
 refine Tr.at ?_
 obtain ⟨r5,er5,H⟩ := bs H
 refine LAt.callL tOk [.lend] (f := 202) (av := #[.tmp 3]) (ats := #[41]) (d := (some 16)) (ty := 0) (g := none) kr kr kr [] (zBE n (⟨r1.Id,r1.Name,r1.Ps,r4,r1.V,r3,r1.Pa,r1.Wo,r1.Dr,r1.Ve⟩ : zA) r5 er5) kr (.inl rfl) ?_
 refine dA 12 12 ?_
 refine gA 2 4 4 ?_
 exact te (fJ [(true,(zA.row r5))] H)
def JC (n : Nat) (x0 : zA) (x1 : Int) : Option (Bool) :=
  ((QR n x0).bind fun r1 => (bif r1 then ((qI n x1 0 (IntKind.wrap .i64 ((x0.Ps.length : Int) - 1))).bind fun r2 => (some r2)) else (some false)))
theorem zFx (n : Nat) (x0 : zA) (x1 : Int) (r : Bool) (H : JC n x0 x1 = some r) : zI Tryz.prog 84 [.val true (CV.frzRow (zA.row x0)),.val false [.lit (.int .i64 x1)]] [.val false [.lit (.bool r)]] [] := by
 refine cW Tryz.func84 (fun g d => sl [g 0,g 1] .ret) [.tmp 4] fun cx => ?_
 unfold JC at H
 refine gA 2 6 4 ?_
 refine rA 1 ?_
 obtain ⟨r1,er1,H⟩ := bs H
 refine vA [.rd] (zCk n x0 r1 er1) ?_
 refine lA 1 ?_
 refine sL 134 4 ⟨15,0,[sB 7 r1,sA 2 2 11 0,sI 1 x1],[(2,(CV.frzRow (zA.row x0)))]⟩ ?_
 cases h1 : r1
 ·have H := zE h1 H
  refine uA 8 16 0 ?_
  exact te (fF H)
 have H := zF h1 H
 refine lA 3 ?_
 refine kF x0.Ps Pt.row ?_
 refine lA 1 ?_
 obtain ⟨r2,er2,H⟩ := bs H
 refine vA [.rd,.rd,.rd] (qM n x1 0 (IntKind.wrap .i64 ((x0.Ps.length : Int) - 1)) r2 er2) ?_
 refine uA 2 16 0 ?_
 exact te (fJ [(false,[cB r2])] H)
def QW (n : Nat) (r1 : zA) (x1 : Int) (x2 : Vec) (y2 : Bool) : Option (zA) :=
  (bif y2 then ((idx r1.Ps x1).bind fun v3 => ((idx (r1.Ps.set (x1.toNat) (⟨v3.Up,v3.Co,true,v3.Hd⟩ : Pt)) x1).bind fun v4 => ((qp n (⟨r1.Id,r1.Name,((r1.Ps.set (x1.toNat) (⟨v3.Up,v3.Co,true,v3.Hd⟩ : Pt)).set (x1.toNat) (⟨v4.Up,v4.Co,v4.Has,x2⟩ : Pt)),r1.F,r1.V,r1.Tk,r1.Pa,r1.Wo,r1.Dr,r1.Ve⟩ : zA)).bind fun r5 => (some r5)))) else (some r1))
def Qc (n : Nat) (x0 : zA) (x1 : Int) (x2 : Vec) : Option (zA) :=
  ((q9 n x0).bind fun r1 => ((JC n x0 x1).bind fun r6 => (bif r6 then ((idx x0.Ps x1).bind fun v7 => (bif v7.Up then ((YJ n x2).bind fun r8 => (QW n r1 x1 x2 r8)) else (QW n r1 x1 x2 false))) else (QW n r1 x1 x2 false))))
def zMp : Tab := ⟨13,[0,1,0,0,8,0,0,23,151,279,1023,2047,3071],[0,1,0,0,8,0,0,6,128,256,48,1024,2112],[0,1,0,0,8,0,0,31,159,415,1023,2047,4095]⟩
theorem zCO : za (rg Tryz.f242 3) zMp = true := kr
theorem zIp (n : Nat) (x0 : zA) (x1 : Int) (x2 : Vec) (r : zA) (H : Qc n x0 x1 x2 = some r) : zI Tryz.prog 242 [.val true (CV.frzRow (zA.row x0)),.val false [.lit (.int .i64 x1)],.val true (CV.frzRow (Vec.row x2))] [.val true (zA.row r)] [] := by
 refine cW Tryz.func242 (fun g d => sl [g 0,g 1,sl [g 2] (cn 24 (sl [d 3] (g 4)) .skip),g 5] .ret) [.cell 6 41] fun cx => ?_
 unfold Qc at H
 refine gA 3 106 104 ?_
 refine rA 1 ?_
 obtain ⟨r1,er1,H⟩ := bs H
 refine vA [.rd] (Jx n x0 r1 er1) ?_
 refine uA 2 234 232 ?_
 refine tS ?_
 refine tS ?_
 refine Tr.mid (ι := Bool) (fun v => ⟨38,0,[sB 24 v,sA 7 7 11 0,sA 6 6 11 0,sA 5 5 5 0,sI 1 x1],[(7,(zA.row r1)),(6,[cI 0,cS (⟨#[]⟩ : ByteArray),cL 8 ([] : List Pt) Pt.row,cL 5 ([] : List zB) zB.row,cL 3 ([] : List zC) zC.row,cL 1 ([] : List Int) intRow,cI 0,cI 0,cI 0,cI 0,cI 0]),(5,(Vec.row x2))]⟩) (fun v => QW n r1 x1 x2 v = some r) ?_ ?_
 ·refine Tr.at ?_
  refine lA 2 ?_
  obtain ⟨r6,er6,H⟩ := bs H
  refine vA [.rd,.rd] (zFx n x0 x1 r6 er6) ?_
  refine lA 1 ?_
  refine sL 8426 232 ⟨38,0,[sB 13 r6,sA 7 7 11 0,sA 6 6 11 0,sA 5 5 5 0,sA 3 3 11 0,sI 1 x1],[(7,(zA.row r1)),(6,[cI 0,cS (⟨#[]⟩ : ByteArray),cL 8 ([] : List Pt) Pt.row,cL 5 ([] : List zB) zB.row,cL 3 ([] : List zC) zC.row,cL 1 ([] : List Int) intRow,cI 0,cI 0,cI 0,cI 0,cI 0]),(5,(Vec.row x2)),(3,(CV.frzRow (zA.row x0)))]⟩ ?_
  cases h2 : r6
  ·have H := zE h2 H
   refine uA 11 16777442 224 ?_
   exact jA false H [24,7,6,5,1] [7,6,5]
  have H := zF h2 H
  refine lA 3 ?_
  obtain ⟨v7,ev7,H⟩ := bs H
  refine iA Pt.row ev7 ?_
  refine lA 4 ?_
  refine sL 2097378 224 ⟨38,0,[sB 21 v7.Up,sA 7 7 11 0,sA 6 6 11 0,sA 5 5 5 0,sI 1 x1],[(7,(zA.row r1)),(6,[cI 0,cS (⟨#[]⟩ : ByteArray),cL 8 ([] : List Pt) Pt.row,cL 5 ([] : List zB) zB.row,cL 3 ([] : List zC) zC.row,cL 1 ([] : List Int) intRow,cI 0,cI 0,cI 0,cI 0,cI 0]),(5,(Vec.row x2))]⟩ ?_
  cases h3 : v7.Up
  ·have H := zE h3 H
   refine uA 3 16777442 224 ?_
   exact jA false H [24,7,6,5,1] [7,6,5]
  have H := zF h3 H
  refine lA 1 ?_
  obtain ⟨r8,er8,H⟩ := bs H
  refine vA [.rd] (zBU n x2 r8 er8) ?_
  refine uA 1 16777442 224 ?_
  exact jA r8 H [24,7,6,5,1] [7,6,5]
 rintro y2 H
 have H : (QW n r1 x1 x2 y2) = some r := H
 unfold QW at H
 cases h1 : y2
 ·have H := zE h1 H
  refine nB_ ?_
  refine tK ?_
  refine gA 2 64 64 ?_
  exact te (fJ [(true,(zA.row r1))] H)
 have H := zF h1 H
 refine tB_ ?_
 obtain ⟨v3,ev3,H⟩ := bs H
 obtain ⟨v4,ev4,H⟩ := bs H
 refine Tr.draws mixed 13 kr ⟨38,0,[sA 7 7 11 0,sA 6 6 11 0],[(7,[cI r1.Id,cS r1.Name,cL 8 ((r1.Ps.set (x1.toNat) (⟨v3.Up,v3.Co,true,v3.Hd⟩ : Pt)).set (x1.toNat) (⟨v4.Up,v4.Co,v4.Has,x2⟩ : Pt)) Pt.row,cL 5 r1.F zB.row,cL 3 r1.V.Rows zC.row,cL 1 r1.V.Pv intRow,cI r1.Tk,cI r1.Pa,cI r1.Wo,cI r1.Dr,cI r1.Ve]),(6,[cI 0,cS (⟨#[]⟩ : ByteArray),cL 8 ([] : List Pt) Pt.row,cL 5 ([] : List zB) zB.row,cL 3 ([] : List zC) zC.row,cL 1 ([] : List Int) intRow,cI 0,cI 0,cI 0,cI 0,cI 0])]⟩ (fun cx => ?_) ?_
 ·refine mA zCO [(0,[]),(1,[9,12]),(2,[]),(3,[]),(4,[9,12]),(5,[]),(6,[12])] 6 [⟨[12],165,5,31⟩,⟨[9,12],35,28,29⟩,⟨[9,12],35,25,26⟩] fun cx => ?_
  refine oN zCO 7 Pt.row ev3 fun cx => ?_
  refine mA zCO [(8,[])] 4 [⟨[12],165,5,31⟩,⟨[9,12],35,28,29⟩,⟨[9,12],35,25,26⟩] fun cx => ?_
  refine sA_ 12717129952 224 ⟨38,0,[(33,.adr (.box 7) [(0,0),(2,(x1.toNat))] 8 2),sV 31 (Vec.row x2),sI 30 x1,sR 29 7 11 2 1 false,sA 28 7 11 2,sR 26 7 11 2 1 false,sA 25 7 11 2,sA 7 7 11 0,sA 6 6 11 0,sA 5 5 5 0],[(7,(zA.row r1)),(6,[cI 0,cS (⟨#[]⟩ : ByteArray),cL 8 ([] : List Pt) Pt.row,cL 5 ([] : List zB) zB.row,cL 3 ([] : List zC) zC.row,cL 1 ([] : List Int) intRow,cI 0,cI 0,cI 0,cI 0,cI 0]),(5,(Vec.row x2))]⟩ ?_
  refine mC zCO 9 ?_
  refine LAt.storeB tOk (t := 4) (ty := 0) (ad := (.tmp 33)) (x := (.const (.bool true))) (g := none) (tI 4) false [cB true] 7 2 (x1.toNat) 8 2 8 r1.Ps Pt.row v3 (⟨v3.Up,v3.Co,true,v3.Hd⟩ : Pt) kr kr kr kr kr kr kr kr (zM ev3).2 kr kr kr kr ?_
  refine fA ?_
  refine oN zCO 10 Pt.row ev4 fun cx => ?_
  refine mA zCO [(11,[])] 1 [⟨[12],165,5,31⟩,⟨[9,12],35,28,29⟩,⟨[9,12],35,25,26⟩] fun cx => ?_
  refine sA_ 37413191904 224 ⟨38,0,[(35,.adr (.box 7) [(0,0),(2,(x1.toNat))] 8 3),sV 31 (Vec.row x2),sA 28 7 11 2,sA 25 7 11 2,sA 7 7 11 0,sA 6 6 11 0,sA 5 5 5 0,sR 29 7 11 2 1 false,sR 26 7 11 2 1 false],[(7,[cI r1.Id,cS r1.Name,cL 8 (r1.Ps.set (x1.toNat) (⟨v3.Up,v3.Co,true,v3.Hd⟩ : Pt)) Pt.row,cL 5 r1.F zB.row,cL 3 r1.V.Rows zC.row,cL 1 r1.V.Pv intRow,cI r1.Tk,cI r1.Pa,cI r1.Wo,cI r1.Dr,cI r1.Ve]),(6,[cI 0,cS (⟨#[]⟩ : ByteArray),cL 8 ([] : List Pt) Pt.row,cL 5 ([] : List zB) zB.row,cL 3 ([] : List zC) zC.row,cL 1 ([] : List Int) intRow,cI 0,cI 0,cI 0,cI 0,cI 0]),(5,(Vec.row x2))]⟩ ?_
  refine mC zCO 12 ?_
  refine LAt.storeB tOk (t := 165) (ty := 0) (ad := (.tmp 35)) (x := (.tmp 31)) (g := none) (tI 165) true (Vec.row x2) 7 2 (x1.toNat) 8 3 8 (r1.Ps.set (x1.toNat) (⟨v3.Up,v3.Co,true,v3.Hd⟩ : Pt)) Pt.row v4 (⟨v4.Up,v4.Co,v4.Has,x2⟩ : Pt) kr kr kr kr kr kr kr kr (zM ev4).2 kr kr kr kr ?_
  refine fA ?_
  exact mE zCO [7,6] [7,6]
 refine Tr.at ?_
 obtain ⟨r5,er5,H⟩ := bs H
 refine LAt.callL tOk [.lend] (f := 202) (av := #[.tmp 7]) (ats := #[41]) (d := (some 36)) (ty := 0) (g := none) kr kr kr [] (zBE n (⟨r1.Id,r1.Name,((r1.Ps.set (x1.toNat) (⟨v3.Up,v3.Co,true,v3.Hd⟩ : Pt)).set (x1.toNat) (⟨v4.Up,v4.Co,v4.Has,x2⟩ : Pt)),r1.F,r1.V,r1.Tk,r1.Pa,r1.Wo,r1.Dr,r1.Ve⟩ : zA) r5 er5) kr (.inl rfl) ?_
 refine dA 192 192 ?_
 refine gA 2 64 64 ?_
 exact te (fJ [(true,(zA.row r5))] H)
def Zr (n : Nat) (x0 : Net) (x1 : Int) (x2 : Int) (x3 : Vec) : Option (Net) :=
  ((idx x0.Bs x1).bind fun v1 => ((Qc n v1 x2 x3).bind fun r2 => (some (⟨(x0.Bs.set (x1.toNat) r2),x0.Ls,x0.Said⟩ : Net))))
def zMk : Tab := ⟨17,[0,1,2,4,0,0,32,64,128,0,768,1024,0,0,14336,32767,65535],[0,1,2,4,0,0,32,64,128,0,768,1024,0,0,14336,24,49152],[0,1,3,7,0,0,32,96,224,0,992,2016,0,0,16352,32767,65535]⟩
noncomputable abbrev G203 (k : Nat) := Rg Tryz.f203 k
noncomputable abbrev D203 (k : Nat) := Rd Tryz.f203 k
theorem zCM : za (rg Tryz.f203 1) zMk = true := kr
theorem zEk (n : Nat) (x0 : Net) (x1 : Int) (x2 : Int) (x3 : Vec) (r : Net) (H : Zr n x0 x1 x2 x3 = some r) : zI Tryz.prog 203 [.ptr (Net.row x0),.val false [.lit (.int .i64 x1)],.val false [.lit (.int .i64 x2)],.val true (CV.frzRow (Vec.row x3))] [] [(0,(Net.row r))] := by
 refine zI.of_body tOk Tryz.func203 rfl (c := (.seq (G203 0) (D203 1))) kr (Nat.le_of_ble_eq_true kr) 1 (rs := []) rfl [] .nil [] [] [(0,(Net.row r))] fun cx => ?_
 show Tr _ _ _ ⟨24,1,[sA 0 0 3 0,sI 1 x1,sI 2 x2,sV 3 (Vec.row x3)],[(0,(Net.row x0))]⟩ _
 unfold Zr at H
 refine gA 1 135 129 ?_
 obtain ⟨v1,ev1,H⟩ := bs H
 obtain ⟨r2,er2,H⟩ := bs H
 refine Tr.draw mixed 17 kr ⟨24,1,[sA 0 0 3 0],[(0,[cL 11 (x0.Bs.set (x1.toNat) r2) zA.row,cL 4 x0.Ls Link.row,cL 7 x0.Said Say.row])]⟩ (fun cx => ?_) ?_
 ·refine mA zCM [(0,[]),(1,[]),(2,[]),(3,[16]),(4,[]),(5,[]),(6,[]),(7,[]),(8,[14,16]),(9,[])] 7 [⟨[14,16],63,15,16⟩,⟨[16],63,10,11⟩] fun cx => ?_
  refine oN zCM 10 zA.row ev1 fun cx => ?_
  refine mA zCM [(12,[]),(13,[14,16])] 4 [⟨[14,16],165,7,21⟩,⟨[14,16],63,15,16⟩,⟨[16],63,10,11⟩] fun cx => ?_
  refine mC zCM 11 ?_
  refine dE (tI 41) (.box 0) [(0,0),(0,(x1.toNat))] 11 0 [.sl true 3 [(Net.row x0)]] (zA.row v1) (zY rfl (zM ev1).2) ?_
  refine fA ?_
  refine mC zCM 14 ?_
  refine LAt.callO tOk [.rd,.rd,.rd] (f := 242) (av := #[.tmp 19,.tmp 20,.tmp 21]) (ats := #[41,3,165]) (d := (some 22)) (ty := 41) (g := none) [(19,zA.row v1)] none kr kr kr [.box 0] (zIp n v1 x2 x3 r2 er2) (zAK (row := [.sl true 3 [(Net.row x0)]]) (q := [(0,0),(0,(x1.toNat))]) kr (zY rfl (zM ev1).2) zBM) kr zBL (.inr (And.intro (zV (zA.row_mine _) zp) zAL)) ?_
  refine fA ?_
  refine oN zCM 15 zA.row ev1 fun cx => ?_
  refine sA_ 14781569 129 ⟨24,1,[(23,.adr (.box 0) [(0,0),(0,(x1.toNat))] 11 0),sV 22 (zA.row r2),sV 21 (Vec.row x3),sR 16 0 3 0 1 false,sA 15 0 3 0,sR 11 0 3 0 1 false,sA 10 0 3 0,sA 7 7 5 0,sA 0 0 3 0],[(7,(Vec.row x3)),(0,(Net.row x0))]⟩ ?_
  refine mC zCM 16 ?_
  refine LAt.storeB tOk (t := 41) (ty := 0) (ad := (.tmp 23)) (x := (.tmp 22)) (g := none) (tI 41) true (zA.row r2) 0 0 (x1.toNat) 11 0 11 x0.Bs zA.row v1 r2 kr kr kr kr kr kr kr kr (zM ev1).2 kr kr kr kr ?_
  refine fA ?_
  exact mE zCM [0] [0]
 obtain rfl := si H
 exact Fin.ofY _ [] [] _ [] _ [(0,[cL 11 (x0.Bs.set (x1.toNat) r2) zA.row,cL 4 x0.Ls Link.row,cL 7 x0.Said Say.row])] kr rfl rfl rfl kr kr kr kr rfl rfl rfl
def Qm (n : Nat) (x0 : Net) (x1 : Int) (x2 : Bool) : Option (Net) :=
  ((idx x0.Said x1).bind fun v1 => (bif (decide ((0 : Int) ≤ 0) && (decide ((0 : Int) ≤ x1) && decide ((x1 : Int) ≤ (x0.Said.length : Int)))) then (bif (decide (([] : List Say).length + ((x0.Said.drop ((0 : Int)).toNat).take (((x1 : Int)).toNat - ((0 : Int)).toNat)).length ≤ 268435456)) then (bif (decide ((0 : Int) ≤ (IntKind.wrap .i64 (x1 + 1))) && (decide (((IntKind.wrap .i64 (x1 + 1)) : Int) ≤ (x0.Said.length : Int)) && decide (((x0.Said.length : Int) : Int) ≤ (x0.Said.length : Int)))) then (bif (decide ((([] : List Say) ++ ((x0.Said.drop ((0 : Int)).toNat).take (((x1 : Int)).toNat - ((0 : Int)).toNat))).length + ((x0.Said.drop (((IntKind.wrap .i64 (x1 + 1)) : Int)).toNat).take ((((x0.Said.length : Int) : Int)).toNat - (((IntKind.wrap .i64 (x1 + 1)) : Int)).toNat)).length ≤ 268435456)) then (bif (!x2) then (some (⟨x0.Bs,x0.Ls,((([] : List Say) ++ ((x0.Said.drop ((0 : Int)).toNat).take (((x1 : Int)).toNat - ((0 : Int)).toNat))) ++ ((x0.Said.drop (((IntKind.wrap .i64 (x1 + 1)) : Int)).toNat).take ((((x0.Said.length : Int) : Int)).toNat - (((IntKind.wrap .i64 (x1 + 1)) : Int)).toNat)))⟩ : Net)) else ((Z9 n (⟨x0.Bs,x0.Ls,((([] : List Say) ++ ((x0.Said.drop ((0 : Int)).toNat).take (((x1 : Int)).toNat - ((0 : Int)).toNat))) ++ ((x0.Said.drop (((IntKind.wrap .i64 (x1 + 1)) : Int)).toNat).take ((((x0.Said.length : Int) : Int)).toNat - (((IntKind.wrap .i64 (x1 + 1)) : Int)).toNat)))⟩ : Net) v1.Link).bind fun r6 => (bif (!r6) then (some (⟨x0.Bs,x0.Ls,((([] : List Say) ++ ((x0.Said.drop ((0 : Int)).toNat).take (((x1 : Int)).toNat - ((0 : Int)).toNat))) ++ ((x0.Said.drop (((IntKind.wrap .i64 (x1 + 1)) : Int)).toNat).take ((((x0.Said.length : Int) : Int)).toNat - (((IntKind.wrap .i64 (x1 + 1)) : Int)).toNat)))⟩ : Net)) else ((idx x0.Ls v1.Link).bind fun v7 => (bif v1.Back then ((Zr n (⟨x0.Bs,x0.Ls,((([] : List Say) ++ ((x0.Said.drop ((0 : Int)).toNat).take (((x1 : Int)).toNat - ((0 : Int)).toNat))) ++ ((x0.Said.drop (((IntKind.wrap .i64 (x1 + 1)) : Int)).toNat).take ((((x0.Said.length : Int) : Int)).toNat - (((IntKind.wrap .i64 (x1 + 1)) : Int)).toNat)))⟩ : Net) v7.A v7.P v1.V).bind fun r9 => (some r9)) else ((Zr n (⟨x0.Bs,x0.Ls,((([] : List Say) ++ ((x0.Said.drop ((0 : Int)).toNat).take (((x1 : Int)).toNat - ((0 : Int)).toNat))) ++ ((x0.Said.drop (((IntKind.wrap .i64 (x1 + 1)) : Int)).toNat).take ((((x0.Said.length : Int) : Int)).toNat - (((IntKind.wrap .i64 (x1 + 1)) : Int)).toNat)))⟩ : Net) v7.B v7.Q v1.V).bind fun r8 => (some r8))))))) else none) else none) else none) else none))
def zMT : Tab := ⟨19,[0,0,2,4,8,0,48,64,0,256,512,1024,0,4096,10240,16512,65535,131071,196607],[0,0,2,4,8,0,48,64,0,256,512,1024,0,4096,10240,16512,1,65536,163840],[0,0,2,6,14,0,62,126,0,256,768,1792,0,4096,16128,32766,65535,131071,262143]⟩
noncomputable abbrev zJ5 (k : Nat) := Rg Tryz.f119 k
noncomputable abbrev zLB (k : Nat) := Rd Tryz.f119 k
theorem QV : za (rg Tryz.f119 1) zMT = true := kr
theorem zGr (n : Nat) (x0 : Net) (x1 : Int) (x2 : Bool) (r : Net) (H : Qm n x0 x1 x2 = some r) : zI Tryz.prog 119 [.ptr (Net.row x0),.val false [.lit (.int .i64 x1)],.val false [.lit (.bool x2)]] [] [(0,(Net.row r))] := by
 refine zI.of_body tOk Tryz.func119 rfl (c := (.seq (zJ5 0) (.seq (zLB 1) (.seq (.seq (zLB 2) (.cond (.tmp 43) .ret .skip)) (.seq (zLB 3) (.seq (zJ5 4) (.cond (.tmp 53) (zJ5 5) (zJ5 6)))))))) kr (Nat.le_of_ble_eq_true kr) 1 (rs := []) rfl [] .nil [] [] [(0,(Net.row r))] fun cx => ?_
 show Tr _ _ _ ⟨70,1,[sA 0 0 3 0,sI 1 x1,sB 2 x2],[(0,(Net.row x0))]⟩ _
 unfold Qm at H
 refine rA 5 ?_
 obtain ⟨v1,ev1,H⟩ := bs H
 refine oA Say.row ev1 ?_
 refine dE (tI 180) (.box 0) [(0,0),(2,(x1.toNat))] 7 0 [.sl true 3 [(Net.row x0)]] (Say.row v1) (zY rfl (zM ev1).2) ?_
 refine uA 2 71 65 ?_
 refine Tr.frzP 0 2 1 ?_
 obtain ⟨hg2,H⟩ := gs H
 obtain ⟨hg3,H⟩ := gs H
 obtain ⟨hg4,H⟩ := gs H
 obtain ⟨hg5,H⟩ := gs H
 refine Tr.draws mixed 19 kr ⟨70,1,[sA 6 6 7 0,sA 0 0 3 0,sB 2 x2],[(0,[cL 11 x0.Bs zA.row,cL 4 x0.Ls Link.row,cL 7 ((([] : List Say) ++ ((x0.Said.drop ((0 : Int)).toNat).take (((x1 : Int)).toNat - ((0 : Int)).toNat))) ++ ((x0.Said.drop (((IntKind.wrap .i64 (x1 + 1)) : Int)).toNat).take ((((x0.Said.length : Int) : Int)).toNat - (((IntKind.wrap .i64 (x1 + 1)) : Int)).toNat))) Say.row]),(6,(Say.row v1))]⟩ (fun cx => ?_) ?_
 ·refine mA QV [(0,[]),(1,[]),(2,[]),(3,[]),(4,[6,7,15,18]),(5,[]),(8,[]),(9,[]),(10,[]),(11,[14,15,18]),(12,[]),(13,[])] 7 [⟨[14,15,18],65,25,26⟩,⟨[6,7,15,18],65,18,19⟩] fun cx => ?_
  refine mB2 tOk QV 6 14 kr (And.intro kr ?_) (And.intro kr ?_)
  ·refine LAt.cutG tOk (t := 65) (ty := 65) (e := 180) (x := (.tmp 19)) (lo := none) (hi := (some (.tmp 20))) (d := 21) (g := none) (tI 180) Say.row x0.Said ⟨(.box 0),[(0,0)],2,false,7,(CV.frzEs (x0.Said.map Say.row))⟩ 0 x1 kr kr kr kr kr kr rfl kr rfl kr kr hg2 ?_
   refine fA ?_
   refine mB2 tOk QV 7 14 kr (And.intro kr ?_) (And.intro kr ?_)
   ·refine LAt.appCU tOk (t := 65) (ty := 65) (e := 180) (x := (.const (.slice none 0 0))) (y := (.tmp 21)) (d := 22) (g := none) (tI 180) Say.row ([] : List Say) ((x0.Said.drop ((0 : Int)).toNat).take (((x1 : Int)).toNat - ((0 : Int)).toNat)) ⟨(.slot 21),[],0,false,7,(CV.frzEs (((x0.Said.drop ((0 : Int)).toNat).take (((x1 : Int)).toNat - ((0 : Int)).toNat)).map Say.row))⟩ kr kr kr kr kr kr kr kr kr kr kr (.inr rfl) (fun _ => rfl) (fun _ => rfl) hg3 ?_
    refine fA ?_
    refine mC QV 14 ?_
    refine LAt.cutG tOk (t := 65) (ty := 65) (e := 180) (x := (.tmp 26)) (lo := (some (.tmp 28))) (hi := none) (d := 29) (g := none) (tI 180) Say.row x0.Said ⟨(.box 0),[(0,0)],2,false,7,(CV.frzEs (x0.Said.map Say.row))⟩ (IntKind.wrap .i64 (x1 + 1)) (x0.Said.length : Int) kr kr kr kr kr kr rfl kr rfl kr kr hg4 ?_
    refine fA ?_
    refine mC QV 15 ?_
    refine pD Say.row hg5 ?_
    refine fA ?_
    refine mA QV [(16,[]),(17,[])] 1 [⟨[14,15,18],65,25,26⟩,⟨[6,7,15,18],65,18,19⟩] fun cx => ?_
    refine mC QV 18 ?_
    refine lA 1 ?_
    refine fA ?_
    exact mE QV [6,0,2] [0,6]
   ·refine LAt.cutG tOk (t := 65) (ty := 65) (e := 180) (x := (.tmp 26)) (lo := (some (.tmp 28))) (hi := none) (d := 29) (g := none) (tI 180) Say.row x0.Said ⟨(.box 0),[(0,0)],2,false,7,(CV.frzEs (x0.Said.map Say.row))⟩ (IntKind.wrap .i64 (x1 + 1)) (x0.Said.length : Int) kr kr kr kr kr kr rfl kr rfl kr kr hg4 ?_
    refine fA ?_
    refine mC QV 7 ?_
    refine LAt.appCU tOk (t := 65) (ty := 65) (e := 180) (x := (.const (.slice none 0 0))) (y := (.tmp 21)) (d := 22) (g := none) (tI 180) Say.row ([] : List Say) ((x0.Said.drop ((0 : Int)).toNat).take (((x1 : Int)).toNat - ((0 : Int)).toNat)) ⟨(.slot 21),[],0,false,7,(CV.frzEs (((x0.Said.drop ((0 : Int)).toNat).take (((x1 : Int)).toNat - ((0 : Int)).toNat)).map Say.row))⟩ kr kr kr kr kr kr kr kr kr kr kr (.inr rfl) (fun _ => rfl) (fun _ => rfl) hg3 ?_
    refine fA ?_
    refine mC QV 15 ?_
    refine pD Say.row hg5 ?_
    refine fA ?_
    refine mA QV [(16,[]),(17,[])] 1 [⟨[14,15,18],65,25,26⟩,⟨[6,7,15,18],65,18,19⟩] fun cx => ?_
    refine mC QV 18 ?_
    refine lA 1 ?_
    refine fA ?_
    exact mE QV [6,0,2] [0,6]
  ·refine LAt.cutG tOk (t := 65) (ty := 65) (e := 180) (x := (.tmp 26)) (lo := (some (.tmp 28))) (hi := none) (d := 29) (g := none) (tI 180) Say.row x0.Said ⟨(.box 0),[(0,0)],2,false,7,(CV.frzEs (x0.Said.map Say.row))⟩ (IntKind.wrap .i64 (x1 + 1)) (x0.Said.length : Int) kr kr kr kr kr kr rfl kr rfl kr kr hg4 ?_
   refine fA ?_
   refine mC QV 6 ?_
   refine LAt.cutG tOk (t := 65) (ty := 65) (e := 180) (x := (.tmp 19)) (lo := none) (hi := (some (.tmp 20))) (d := 21) (g := none) (tI 180) Say.row x0.Said ⟨(.box 0),[(0,0)],2,false,7,(CV.frzEs (x0.Said.map Say.row))⟩ 0 x1 kr kr kr kr kr kr rfl kr rfl kr kr hg2 ?_
   refine fA ?_
   refine mC QV 7 ?_
   refine LAt.appCU tOk (t := 65) (ty := 65) (e := 180) (x := (.const (.slice none 0 0))) (y := (.tmp 21)) (d := 22) (g := none) (tI 180) Say.row ([] : List Say) ((x0.Said.drop ((0 : Int)).toNat).take (((x1 : Int)).toNat - ((0 : Int)).toNat)) ⟨(.slot 21),[],0,false,7,(CV.frzEs (((x0.Said.drop ((0 : Int)).toNat).take (((x1 : Int)).toNat - ((0 : Int)).toNat)).map Say.row))⟩ kr kr kr kr kr kr kr kr kr kr kr (.inr rfl) (fun _ => rfl) (fun _ => rfl) hg3 ?_
   refine fA ?_
   refine mC QV 15 ?_
   refine pD Say.row hg5 ?_
   refine fA ?_
   refine mA QV [(16,[]),(17,[])] 1 [⟨[14,15,18],65,25,26⟩,⟨[6,7,15,18],65,18,19⟩] fun cx => ?_
   refine mC QV 18 ?_
   refine lA 1 ?_
   refine fA ?_
   exact mE QV [6,0,2] [0,6]
 refine tS ?_
 refine sT ⟨70,1,[sA 6 6 7 0,sA 0 0 3 0,sB 2 x2],[(0,[cL 11 x0.Bs zA.row,cL 4 x0.Ls Link.row,cL 7 ((([] : List Say) ++ ((x0.Said.drop ((0 : Int)).toNat).take (((x1 : Int)).toNat - ((0 : Int)).toNat))) ++ ((x0.Said.drop (((IntKind.wrap .i64 (x1 + 1)) : Int)).toNat).take ((((x0.Said.length : Int) : Int)).toNat - (((IntKind.wrap .i64 (x1 + 1)) : Int)).toNat))) Say.row]),(6,(Say.row v1))]⟩ ?_
 cases h1 : (!x2)
 ·have H := zE h1 H
  obtain ⟨r6,er6,H⟩ := bs H
  refine Tr.draws mixed 11 kr ⟨70,1,[sB 43 (!r6),sA 6 6 7 0,sA 0 0 3 0],[(0,[cL 11 x0.Bs zA.row,cL 4 x0.Ls Link.row,cL 7 ((([] : List Say) ++ ((x0.Said.drop ((0 : Int)).toNat).take (((x1 : Int)).toNat - ((0 : Int)).toNat))) ++ ((x0.Said.drop (((IntKind.wrap .i64 (x1 + 1)) : Int)).toNat).take ((((x0.Said.length : Int) : Int)).toNat - (((IntKind.wrap .i64 (x1 + 1)) : Int)).toNat))) Say.row]),(6,(Say.row v1))]⟩ (fun cx => ?_) ?_
  ·refine aA [(0,[]),(1,[]),(2,[])] 8 [] fun cx => ?_
   refine sA_ 34359738433 65 ⟨70,1,[sB 35 (!x2),sA 6 6 7 0,sA 0 0 3 0],[(0,[cL 11 x0.Bs zA.row,cL 4 x0.Ls Link.row,cL 7 ((([] : List Say) ++ ((x0.Said.drop ((0 : Int)).toNat).take (((x1 : Int)).toNat - ((0 : Int)).toNat))) ++ ((x0.Said.drop (((IntKind.wrap .i64 (x1 + 1)) : Int)).toNat).take ((((x0.Said.length : Int) : Int)).toNat - (((IntKind.wrap .i64 (x1 + 1)) : Int)).toNat))) Say.row]),(6,(Say.row v1))]⟩ ?_
   rw [h1]
   refine aA [(3,[]),(4,[]),(5,[8]),(6,[]),(7,[8])] 3 [⟨[8],3,39,40⟩,⟨[8],67,37,38⟩] fun cx => ?_
   refine bA 8 ?_
   refine vB [.rd,.rd] [.box 0] (zDs n (⟨x0.Bs,x0.Ls,((([] : List Say) ++ ((x0.Said.drop ((0 : Int)).toNat).take (((x1 : Int)).toNat - ((0 : Int)).toNat))) ++ ((x0.Said.drop (((IntKind.wrap .i64 (x1 + 1)) : Int)).toNat).take ((((x0.Said.length : Int) : Int)).toNat - (((IntKind.wrap .i64 (x1 + 1)) : Int)).toNat)))⟩ : Net) v1.Link r6 er6) (.inr (zV (zG zK zl) zp)) ?_
   refine fA ?_
   refine aA [(9,[]),(10,[])] 0 [⟨[8],3,39,40⟩,⟨[8],67,37,38⟩] fun cx => ?_
   exact eE [43,6,0] [0,6]
  refine sT ⟨70,1,[sB 43 (!r6),sA 6 6 7 0,sA 0 0 3 0],[(0,[cL 11 x0.Bs zA.row,cL 4 x0.Ls Link.row,cL 7 ((([] : List Say) ++ ((x0.Said.drop ((0 : Int)).toNat).take (((x1 : Int)).toNat - ((0 : Int)).toNat))) ++ ((x0.Said.drop (((IntKind.wrap .i64 (x1 + 1)) : Int)).toNat).take ((((x0.Said.length : Int) : Int)).toNat - (((IntKind.wrap .i64 (x1 + 1)) : Int)).toNat))) Say.row]),(6,(Say.row v1))]⟩ ?_
  cases h2 : (!r6)
  ·have H := zE h2 H
   refine nB_ ?_
   refine tK ?_
   obtain ⟨v7,ev7,H⟩ := bs H
   refine Tr.draws mixed 10 kr ⟨70,1,[sA 7 7 4 0,sA 6 6 7 0,sA 0 0 3 0],[(7,(Link.row v7)),(0,[cL 11 x0.Bs zA.row,cL 4 x0.Ls Link.row,cL 7 ((([] : List Say) ++ ((x0.Said.drop ((0 : Int)).toNat).take (((x1 : Int)).toNat - ((0 : Int)).toNat))) ++ ((x0.Said.drop (((IntKind.wrap .i64 (x1 + 1)) : Int)).toNat).take ((((x0.Said.length : Int) : Int)).toNat - (((IntKind.wrap .i64 (x1 + 1)) : Int)).toNat))) Say.row]),(6,(Say.row v1))]⟩ (fun cx => ?_) ?_
   ·refine aA [(0,[]),(1,[]),(2,[]),(3,[9]),(4,[]),(5,[9])] 4 [⟨[9],3,48,49⟩,⟨[9],64,46,47⟩] fun cx => ?_
    refine aO tOk 6 64 0 47 49 50 none ⟨(.box 0),[(0,0)],1,true,4,(x0.Ls.map Link.row)⟩ v1.Link (v1.Link.toNat) (Link.row v7) _ kr kr kr kr kr kr rfl kr (zBH ev7) rfl rfl (fun cx => ?_)
    refine AT.big2 tOk 7 8 kr (And.intro kr ?_) (And.intro kr ?_)
    ·refine dE (tI 114) (.box 0) [(0,0),(1,(v1.Link.toNat))] 4 0 [.sl true 3 [[cL 11 x0.Bs zA.row,cL 4 x0.Ls Link.row,cL 7 ((([] : List Say) ++ ((x0.Said.drop ((0 : Int)).toNat).take (((x1 : Int)).toNat - ((0 : Int)).toNat))) ++ ((x0.Said.drop (((IntKind.wrap .i64 (x1 + 1)) : Int)).toNat).take ((((x0.Said.length : Int) : Int)).toNat - (((IntKind.wrap .i64 (x1 + 1)) : Int)).toNat))) Say.row]]] (Link.row v7) (zY rfl (zM ev7).2) ?_
     refine fA ?_
     refine bA 8 ?_
     refine lA 1 ?_
     refine fA ?_
     refine sA_ 0xbc000000000c1 193 ⟨70,1,[sA 7 7 4 0,sV 51 (Link.row v7),sI 49 v1.Link,sA 48 6 7 0,sR 47 0 3 1 1 false,sA 46 0 3 1,sA 6 6 7 0,sA 0 0 3 0],[(7,[cI 0,cI 0,cI 0,cI 0]),(0,[cL 11 x0.Bs zA.row,cL 4 x0.Ls Link.row,cL 7 ((([] : List Say) ++ ((x0.Said.drop ((0 : Int)).toNat).take (((x1 : Int)).toNat - ((0 : Int)).toNat))) ++ ((x0.Said.drop (((IntKind.wrap .i64 (x1 + 1)) : Int)).toNat).take ((((x0.Said.length : Int) : Int)).toNat - (((IntKind.wrap .i64 (x1 + 1)) : Int)).toNat))) Say.row]),(6,(Say.row v1))]⟩ ?_
     refine bA 9 ?_
     refine lA 1 ?_
     refine fA ?_
     exact eE [7,6,0] [7,0,6]
    ·refine lA 1 ?_
     refine fA ?_
     refine bA 7 ?_
     refine dE (tI 114) (.box 0) [(0,0),(1,(v1.Link.toNat))] 4 0 [.sl true 3 [[cL 11 x0.Bs zA.row,cL 4 x0.Ls Link.row,cL 7 ((([] : List Say) ++ ((x0.Said.drop ((0 : Int)).toNat).take (((x1 : Int)).toNat - ((0 : Int)).toNat))) ++ ((x0.Said.drop (((IntKind.wrap .i64 (x1 + 1)) : Int)).toNat).take ((((x0.Said.length : Int) : Int)).toNat - (((IntKind.wrap .i64 (x1 + 1)) : Int)).toNat))) Say.row]]] (Link.row v7) (zY rfl (zM ev7).2) ?_
     refine fA ?_
     refine sA_ 0xbc000000000c1 193 ⟨70,1,[sV 51 (Link.row v7),sA 7 7 4 0,sI 49 v1.Link,sA 48 6 7 0,sR 47 0 3 1 1 false,sA 46 0 3 1,sA 6 6 7 0,sA 0 0 3 0],[(7,[cI 0,cI 0,cI 0,cI 0]),(0,[cL 11 x0.Bs zA.row,cL 4 x0.Ls Link.row,cL 7 ((([] : List Say) ++ ((x0.Said.drop ((0 : Int)).toNat).take (((x1 : Int)).toNat - ((0 : Int)).toNat))) ++ ((x0.Said.drop (((IntKind.wrap .i64 (x1 + 1)) : Int)).toNat).take ((((x0.Said.length : Int) : Int)).toNat - (((IntKind.wrap .i64 (x1 + 1)) : Int)).toNat))) Say.row]),(6,(Say.row v1))]⟩ ?_
     refine bA 9 ?_
     refine lA 1 ?_
     refine fA ?_
     exact eE [7,6,0] [7,0,6]
   refine gA 2 9007199254741185 193 ?_
   refine sT ⟨70,1,[sB 53 v1.Back,sA 7 7 4 0,sA 6 6 7 0,sA 0 0 3 0],[(7,(Link.row v7)),(0,[cL 11 x0.Bs zA.row,cL 4 x0.Ls Link.row,cL 7 ((([] : List Say) ++ ((x0.Said.drop ((0 : Int)).toNat).take (((x1 : Int)).toNat - ((0 : Int)).toNat))) ++ ((x0.Said.drop (((IntKind.wrap .i64 (x1 + 1)) : Int)).toNat).take ((((x0.Said.length : Int) : Int)).toNat - (((IntKind.wrap .i64 (x1 + 1)) : Int)).toNat))) Say.row]),(6,(Say.row v1))]⟩ ?_
   cases h3 : v1.Back
   ·have H := zE h3 H
    refine nB_ ?_
    refine Tr.at ?_
    refine lA 7 ?_
    obtain ⟨r8,er8,H⟩ := bs H
    refine LAt.callL tOk [.lend,.rd,.rd,.rd] (f := 203) (av := #[.tmp 62,.tmp 64,.tmp 66,.tmp 68]) (ats := #[142,3,3,165]) (d := (some 69)) (ty := 0) (g := none) kr kr kr [] (zEk n (⟨x0.Bs,x0.Ls,((([] : List Say) ++ ((x0.Said.drop ((0 : Int)).toNat).take (((x1 : Int)).toNat - ((0 : Int)).toNat))) ++ ((x0.Said.drop (((IntKind.wrap .i64 (x1 + 1)) : Int)).toNat).take ((((x0.Said.length : Int) : Int)).toNat - (((IntKind.wrap .i64 (x1 + 1)) : Int)).toNat)))⟩ : Net) v7.B v7.Q v1.V r8 er8) kr (.inl rfl) ?_
    refine dA 1 1 ?_
    obtain rfl := si H
    exact Fin.ofY _ [] [] _ [] _ [(0,(Net.row r8))] kr rfl rfl rfl kr kr kr kr rfl rfl rfl
   have H := zF h3 H
   refine tB_ ?_
   refine Tr.at ?_
   refine lA 7 ?_
   obtain ⟨r9,er9,H⟩ := bs H
   refine LAt.callL tOk [.lend,.rd,.rd,.rd] (f := 203) (av := #[.tmp 54,.tmp 56,.tmp 58,.tmp 60]) (ats := #[142,3,3,165]) (d := (some 61)) (ty := 0) (g := none) kr kr kr [] (zEk n (⟨x0.Bs,x0.Ls,((([] : List Say) ++ ((x0.Said.drop ((0 : Int)).toNat).take (((x1 : Int)).toNat - ((0 : Int)).toNat))) ++ ((x0.Said.drop (((IntKind.wrap .i64 (x1 + 1)) : Int)).toNat).take ((((x0.Said.length : Int) : Int)).toNat - (((IntKind.wrap .i64 (x1 + 1)) : Int)).toNat)))⟩ : Net) v7.A v7.P v1.V r9 er9) kr (.inl rfl) ?_
   refine dA 1 1 ?_
   obtain rfl := si H
   exact Fin.ofY _ [] [] _ [] _ [(0,(Net.row r9))] kr rfl rfl rfl kr kr kr kr rfl rfl rfl
  have H := zF h2 H
  refine tB_ ?_
  refine te ?_
  obtain rfl := si H
  exact Fin.ofY _ [] [] _ [] _ [(0,[cL 11 x0.Bs zA.row,cL 4 x0.Ls Link.row,cL 7 ((([] : List Say) ++ ((x0.Said.drop ((0 : Int)).toNat).take (((x1 : Int)).toNat - ((0 : Int)).toNat))) ++ ((x0.Said.drop (((IntKind.wrap .i64 (x1 + 1)) : Int)).toNat).take ((((x0.Said.length : Int) : Int)).toNat - (((IntKind.wrap .i64 (x1 + 1)) : Int)).toNat))) Say.row])] kr rfl rfl rfl kr kr kr kr rfl rfl rfl
 have H := zF h1 H
 refine Tr.draws mixed 11 kr ⟨70,1,[sB 43 true,sA 6 6 7 0,sA 0 0 3 0],[(0,[cL 11 x0.Bs zA.row,cL 4 x0.Ls Link.row,cL 7 ((([] : List Say) ++ ((x0.Said.drop ((0 : Int)).toNat).take (((x1 : Int)).toNat - ((0 : Int)).toNat))) ++ ((x0.Said.drop (((IntKind.wrap .i64 (x1 + 1)) : Int)).toNat).take ((((x0.Said.length : Int) : Int)).toNat - (((IntKind.wrap .i64 (x1 + 1)) : Int)).toNat))) Say.row]),(6,(Say.row v1))]⟩ (fun cx => ?_) ?_
 ·refine aA [(0,[]),(1,[]),(2,[])] 8 [] fun cx => ?_
  refine sA_ 34359738433 65 ⟨70,1,[sB 35 (!x2),sA 6 6 7 0,sA 0 0 3 0],[(0,[cL 11 x0.Bs zA.row,cL 4 x0.Ls Link.row,cL 7 ((([] : List Say) ++ ((x0.Said.drop ((0 : Int)).toNat).take (((x1 : Int)).toNat - ((0 : Int)).toNat))) ++ ((x0.Said.drop (((IntKind.wrap .i64 (x1 + 1)) : Int)).toNat).take ((((x0.Said.length : Int) : Int)).toNat - (((IntKind.wrap .i64 (x1 + 1)) : Int)).toNat))) Say.row]),(6,(Say.row v1))]⟩ ?_
  rw [h1]
  refine aA [(3,[]),(4,[]),(5,[]),(6,[]),(7,[]),(8,[]),(9,[]),(10,[])] 0 [] fun cx => ?_
  exact eE [43,6,0] [0,6]
 refine tB_ ?_
 refine te ?_
 obtain rfl := si H
 exact Fin.ofY _ [] [] _ [] _ [(0,[cL 11 x0.Bs zA.row,cL 4 x0.Ls Link.row,cL 7 ((([] : List Say) ++ ((x0.Said.drop ((0 : Int)).toNat).take (((x1 : Int)).toNat - ((0 : Int)).toNat))) ++ ((x0.Said.drop (((IntKind.wrap .i64 (x1 + 1)) : Int)).toNat).take ((((x0.Said.length : Int) : Int)).toNat - (((IntKind.wrap .i64 (x1 + 1)) : Int)).toNat))) Say.row])] kr rfl rfl rfl kr kr kr kr rfl rfl rfl
def Qd (n : Nat) (x0 : zA) (x1 : Int) (x2 : Bool) : Option (zA) :=
  ((q9 n x0).bind fun r1 => ((JC n x0 x1).bind fun r2 => (bif r2 then ((idx x0.Ps x1).bind fun v3 => ((idx r1.Ps x1).bind fun v4 => ((qp n (⟨r1.Id,r1.Name,(r1.Ps.set (x1.toNat) (⟨x2,v3.Co,false,(⟨0,0,0,0,0⟩ : Vec)⟩ : Pt)),r1.F,r1.V,r1.Tk,r1.Pa,r1.Wo,r1.Dr,r1.Ve⟩ : zA)).bind fun r5 => (some r5)))) else (some r1))))
def zMa : Tab := ⟨13,[0,1,0,0,0,16,0,96,128,256,520,2047,4095],[0,1,0,0,0,16,0,96,128,256,520,6,3072],[0,1,0,0,0,16,0,112,240,496,1016,2047,4095]⟩
theorem zC7 : za (rg Tryz.f155 3) zMa = true := kr
theorem zE6 (n : Nat) (x0 : zA) (x1 : Int) (x2 : Bool) (r : zA) (H : Qd n x0 x1 x2 = some r) : zI Tryz.prog 155 [.val true (CV.frzRow (zA.row x0)),.val false [.lit (.int .i64 x1)],.val false [.lit (.bool x2)]] [.val true (zA.row r)] [] := by
 refine cW Tryz.func155 (fun g d => sl [g 0,g 1,sl [g 2] (cn 12 (sl [d 3] (g 4)) .skip),g 5] .ret) [.cell 6 41] fun cx => ?_
 unfold Qd at H
 refine gA 2 78 72 ?_
 refine rA 1 ?_
 obtain ⟨r1,er1,H⟩ := bs H
 refine vA [.rd] (Jx n x0 r1 er1) ?_
 refine uA 2 206 200 ?_
 refine tS ?_
 refine rA 2 ?_
 obtain ⟨r2,er2,H⟩ := bs H
 refine vA [.rd,.rd] (zFx n x0 x1 r2 er2) ?_
 refine dA 4302 200 ?_
 cases h1 : r2
 ·have H := zE h1 H
  refine nB_ ?_
  refine tK ?_
  refine gA 2 64 64 ?_
  exact te (fJ [(true,(zA.row r1))] H)
 have H := zF h1 H
 refine tB_ ?_
 obtain ⟨v3,ev3,H⟩ := bs H
 obtain ⟨v4,ev4,H⟩ := bs H
 refine Tr.draws mixed 13 kr ⟨27,0,[sA 7 7 11 0,sA 6 6 11 0],[(7,[cI r1.Id,cS r1.Name,cL 8 (r1.Ps.set (x1.toNat) (⟨x2,v3.Co,false,(⟨0,0,0,0,0⟩ : Vec)⟩ : Pt)) Pt.row,cL 5 r1.F zB.row,cL 3 r1.V.Rows zC.row,cL 1 r1.V.Pv intRow,cI r1.Tk,cI r1.Pa,cI r1.Wo,cI r1.Dr,cI r1.Ve]),(6,[cI 0,cS (⟨#[]⟩ : ByteArray),cL 8 ([] : List Pt) Pt.row,cL 5 ([] : List zB) zB.row,cL 3 ([] : List zC) zC.row,cL 1 ([] : List Int) intRow,cI 0,cI 0,cI 0,cI 0,cI 0])]⟩ (fun cx => ?_) ?_
 ·refine mA zC7 [(0,[]),(1,[12]),(2,[]),(3,[]),(4,[]),(5,[10,12]),(6,[])] 6 [⟨[10,12],35,17,18⟩,⟨[12],35,13,14⟩] fun cx => ?_
  refine iN zC7 7 Pt.row ev3 fun cx => ?_
  refine mA zC7 [(8,[]),(9,[])] 3 [⟨[10,12],35,17,18⟩,⟨[12],35,13,14⟩] fun cx => ?_
  refine mC zC7 10 ?_
  refine lA 1 ?_
  refine fA ?_
  refine oN zC7 11 Pt.row ev4 fun cx => ?_
  refine mC zC7 12 ?_
  refine LAt.storeB tOk (t := 167) (ty := 0) (ad := (.tmp 24)) (x := (.tmp 23)) (g := none) (tI 167) true [cB x2,cI v3.Co,cB false,cI 0,cI 0,cI 0,cI 0,cI 0] 7 2 (x1.toNat) 8 0 8 r1.Ps Pt.row v4 (⟨x2,v3.Co,false,(⟨0,0,0,0,0⟩ : Vec)⟩ : Pt) kr kr kr kr kr kr kr kr (zM ev4).2 kr kr kr kr ?_
  refine fA ?_
  exact mE zC7 [7,6] [7,6]
 refine Tr.at ?_
 obtain ⟨r5,er5,H⟩ := bs H
 refine LAt.callL tOk [.lend] (f := 202) (av := #[.tmp 7]) (ats := #[41]) (d := (some 25)) (ty := 0) (g := none) kr kr kr [] (zBE n (⟨r1.Id,r1.Name,(r1.Ps.set (x1.toNat) (⟨x2,v3.Co,false,(⟨0,0,0,0,0⟩ : Vec)⟩ : Pt)),r1.F,r1.V,r1.Tk,r1.Pa,r1.Wo,r1.Dr,r1.Ve⟩ : zA) r5 er5) kr (.inl rfl) ?_
 refine dA 192 192 ?_
 refine gA 2 64 64 ?_
 exact te (fJ [(true,(zA.row r5))] H)
def Y8 (n : Nat) (x0 : Net) (x1 : Int) (x2 : Bool) : Option (Net) :=
  ((Z9 n x0 x1).bind fun r1 => (bif (r1 == x2) then (some x0) else ((idx x0.Ls x1).bind fun v2 => ((idx x0.Bs v2.A).bind fun v3 => ((Qd n v3 v2.P x2).bind fun r4 => ((idx (x0.Bs.set (v2.A.toNat) r4) v2.B).bind fun v5 => ((Qd n v5 v2.Q x2).bind fun r6 => (some (⟨((x0.Bs.set (v2.A.toNat) r4).set (v2.B.toNat) r6),x0.Ls,x0.Said⟩ : Net)))))))))
def zMU : Tab := ⟨20,[0,1,2,4,0,16,0,64,128,256,0,1024,2560,4096,0,16384,0,106496,262143,524287],[0,1,2,4,0,16,0,64,128,256,0,1024,2560,4096,0,16384,0,106496,40,393216],[0,1,3,7,0,16,0,64,192,448,0,1024,4032,8128,0,16384,0,131008,262143,524287]⟩
noncomputable abbrev zMI (k : Nat) := Rg Tryz.f120 k
noncomputable abbrev zMD (k : Nat) := Rd Tryz.f120 k
theorem zCF : za (rg Tryz.f120 2) zMU = true := kr
def zMV : Tab := ⟨20,[0,1,2,4,0,16,0,64,128,256,0,1024,2560,4096,0,16384,0,106496,262143,524287],[0,1,2,4,0,16,0,64,128,256,0,1024,2560,4096,0,16384,0,106496,40,393216],[0,1,3,7,0,16,0,64,192,448,0,1024,4032,8128,0,16384,0,131008,262143,524287]⟩
theorem zCG : za (rg Tryz.f120 3) zMV = true := kr
theorem zIK (n : Nat) (x0 : Net) (x1 : Int) (x2 : Bool) (r : Net) (H : Y8 n x0 x1 x2 = some r) : zI Tryz.prog 120 [.ptr (Net.row x0),.val false [.lit (.int .i64 x1)],.val false [.lit (.bool x2)]] [] [(0,(Net.row r))] := by
 refine zI.of_body tOk Tryz.func120 rfl (c := (.seq (.seq (zMI 0) (.cond (.tmp 13) .ret .skip)) (.seq (zMI 1) (.seq (zMD 2) (zMD 3))))) kr (Nat.le_of_ble_eq_true kr) 1 (rs := []) rfl [] .nil [] [] [(0,(Net.row r))] fun cx => ?_
 show Tr _ _ _ ⟨59,1,[sA 0 0 3 0,sI 1 x1,sB 2 x2],[(0,(Net.row x0))]⟩ _
 unfold Y8 at H
 refine tS ?_
 refine rA 4 ?_
 obtain ⟨r1,er1,H⟩ := bs H
 refine vB [.rd,.rd] [.box 0] (zDs n x0 x1 r1 er1) (.inr (zV (zG zK zl) zp)) ?_
 refine uA 2 8199 1 ?_
 obtain ⟨h1,H⟩ | ⟨h1,H⟩ := bC H
 ·refine nA h1 ?_
  refine tK ?_
  refine rA 5 ?_
  obtain ⟨v2,ev2,H⟩ := bs H
  refine oA Link.row ev2 ?_
  refine dE (tI 114) (.box 0) [(0,0),(1,(x1.toNat))] 4 0 [.sl true 3 [(Net.row x0)]] (Link.row v2) (zY rfl (zM ev2).2) ?_
  refine uA 2 69 65 ?_
  obtain ⟨v3,ev3,H⟩ := bs H
  obtain ⟨r4,er4,H⟩ := bs H
  refine Tr.draws mixed 20 kr ⟨59,1,[sA 6 6 4 0,sA 0 0 3 0,sB 2 x2],[(0,[cL 11 (x0.Bs.set (v2.A.toNat) r4) zA.row,cL 4 x0.Ls Link.row,cL 7 x0.Said Say.row]),(6,(Link.row v2))]⟩ (fun cx => ?_) ?_
  ·refine mA zCF [(0,[]),(1,[]),(2,[]),(3,[19]),(4,[]),(5,[19]),(6,[]),(7,[]),(8,[]),(9,[17,19]),(10,[]),(11,[17,19])] 8 [⟨[17,19],3,31,32⟩,⟨[17,19],63,29,30⟩,⟨[19],3,25,26⟩,⟨[19],63,23,24⟩] fun cx => ?_
   refine oN zCF 12 zA.row ev3 fun cx => ?_
   refine mA zCF [(14,[]),(15,[17,19]),(16,[])] 4 [⟨[17,19],3,35,36⟩,⟨[17,19],3,31,32⟩,⟨[17,19],63,29,30⟩,⟨[19],3,25,26⟩,⟨[19],63,23,24⟩] fun cx => ?_
   refine mC zCF 13 ?_
   refine dE (tI 41) (.box 0) [(0,0),(0,(v2.A.toNat))] 11 0 [.sl true 3 [(Net.row x0)]] (zA.row v3) (zY rfl (zM ev3).2) ?_
   refine fA ?_
   refine mC zCF 17 ?_
   refine LAt.callO tOk [.rd,.rd,.rd] (f := 155) (av := #[.tmp 34,.tmp 36,.tmp 37]) (ats := #[41,3,4]) (d := (some 38)) (ty := 41) (g := none) [(34,zA.row v3)] none kr kr kr [.box 0] (zE6 n v3 v2.P x2 r4 er4) (zAK (row := [.sl true 3 [(Net.row x0)]]) (q := [(0,0),(0,(v2.A.toNat))]) kr (zY rfl (zM ev3).2) zBM) kr zBL (.inr (And.intro (zV (zA.row_mine _) zp) zAL)) ?_
   refine fA ?_
   refine oN zCF 18 zA.row ev3 fun cx => ?_
   refine sA_ 935891828805 65 ⟨59,1,[(39,.adr (.box 0) [(0,0),(0,(v2.A.toNat))] 11 0),sV 38 (zA.row r4),sI 36 v2.P,sA 35 6 4 1,sI 32 v2.A,sA 31 6 4 0,sR 30 0 3 0 1 false,sA 29 0 3 0,sI 26 v2.A,sA 25 6 4 0,sR 24 0 3 0 1 false,sA 23 0 3 0,sA 6 6 4 0,sA 0 0 3 0,sB 2 x2],[(6,(Link.row v2)),(0,(Net.row x0))]⟩ ?_
   refine mC zCF 19 ?_
   refine LAt.storeB tOk (t := 41) (ty := 0) (ad := (.tmp 39)) (x := (.tmp 38)) (g := none) (tI 41) true (zA.row r4) 0 0 (v2.A.toNat) 11 0 11 x0.Bs zA.row v3 r4 kr kr kr kr kr kr kr kr (zM ev3).2 kr kr kr kr ?_
   refine fA ?_
   exact mE zCF [6,0,2] [0,6]
  obtain ⟨v5,ev5,H⟩ := bs H
  obtain ⟨r6,er6,H⟩ := bs H
  refine Tr.draw mixed 20 kr ⟨59,1,[sA 0 0 3 0],[(0,[cL 11 ((x0.Bs.set (v2.A.toNat) r4).set (v2.B.toNat) r6) zA.row,cL 4 x0.Ls Link.row,cL 7 x0.Said Say.row])]⟩ (fun cx => ?_) ?_
  ·refine mA zCG [(0,[]),(1,[]),(2,[]),(3,[19]),(4,[]),(5,[19]),(6,[]),(7,[]),(8,[]),(9,[17,19]),(10,[]),(11,[17,19])] 8 [⟨[17,19],3,50,51⟩,⟨[17,19],63,48,49⟩,⟨[19],3,44,45⟩,⟨[19],63,42,43⟩] fun cx => ?_
   refine oN zCG 12 zA.row ev5 fun cx => ?_
   refine mA zCG [(14,[]),(15,[17,19]),(16,[])] 4 [⟨[17,19],3,54,55⟩,⟨[17,19],3,50,51⟩,⟨[17,19],63,48,49⟩,⟨[19],3,44,45⟩,⟨[19],63,42,43⟩] fun cx => ?_
   refine mC zCG 13 ?_
   refine dE (tI 41) (.box 0) [(0,0),(0,(v2.B.toNat))] 11 0 [.sl true 3 [[cL 11 (x0.Bs.set (v2.A.toNat) r4) zA.row,cL 4 x0.Ls Link.row,cL 7 x0.Said Say.row]]] (zA.row v5) (zY rfl (zM ev5).2) ?_
   refine fA ?_
   refine mC zCG 17 ?_
   refine LAt.callO tOk [.rd,.rd,.rd] (f := 155) (av := #[.tmp 53,.tmp 55,.tmp 56]) (ats := #[41,3,4]) (d := (some 57)) (ty := 41) (g := none) [(53,zA.row v5)] none kr kr kr [.box 0] (zE6 n v5 v2.Q x2 r6 er6) (zAK (row := [.sl true 3 [[cL 11 (x0.Bs.set (v2.A.toNat) r4) zA.row,cL 4 x0.Ls Link.row,cL 7 x0.Said Say.row]]]) (q := [(0,0),(0,(v2.B.toNat))]) kr (zY rfl (zM ev5).2) zBM) kr zBL (.inr (And.intro (zV (zA.row_mine _) zp) zAL)) ?_
   refine fA ?_
   refine oN zCG 18 zA.row ev5 fun cx => ?_
   refine sA_ 0x6cf3c0000000001 65 ⟨59,1,[(58,.adr (.box 0) [(0,0),(0,(v2.B.toNat))] 11 0),sV 57 (zA.row r6),sI 55 v2.Q,sA 54 6 4 3,sI 51 v2.B,sA 50 6 4 2,sR 49 0 3 0 1 false,sA 48 0 3 0,sI 45 v2.B,sA 44 6 4 2,sR 43 0 3 0 1 false,sA 42 0 3 0,sA 0 0 3 0],[(0,[cL 11 (x0.Bs.set (v2.A.toNat) r4) zA.row,cL 4 x0.Ls Link.row,cL 7 x0.Said Say.row]),(6,(Link.row v2))]⟩ ?_
   refine mC zCG 19 ?_
   refine LAt.storeB tOk (t := 41) (ty := 0) (ad := (.tmp 58)) (x := (.tmp 57)) (g := none) (tI 41) true (zA.row r6) 0 0 (v2.B.toNat) 11 0 11 (x0.Bs.set (v2.A.toNat) r4) zA.row v5 r6 kr kr kr kr kr kr kr kr (zM ev5).2 kr kr kr kr ?_
   refine fA ?_
   exact mE zCG [0] [0]
  obtain rfl := si H
  exact Fin.ofY _ [] [] _ [] _ [(0,[cL 11 ((x0.Bs.set (v2.A.toNat) r4).set (v2.B.toNat) r6) zA.row,cL 4 x0.Ls Link.row,cL 7 x0.Said Say.row])] kr rfl rfl rfl kr kr kr kr rfl rfl rfl
 refine tA h1 ?_
 refine te ?_
 obtain rfl := si H
 exact Fin.ofY _ [] [] _ [] _ [(0,(Net.row x0))] kr rfl rfl rfl kr kr kr kr rfl rfl rfl
def YU (n : Nat) (r1 : Net) (x1 : Event) (y5 : Bool) : Option (Net × Bool) :=
  (bif y5 then ((Qm n r1 x1.At (x1.Ki == 2)).bind fun r7 => (some (r7,true))) else ((Y8 n r1 x1.At (x1.Ki == 5)).bind fun r6 => (some (r6,true))))
def qw (n : Nat) (r1 : Net) (x0 : Net) (x1 : Event) (y3 : Int) : Option (Net × Bool) :=
  ((qI n x1.At 0 (IntKind.wrap .i64 (y3 - 1))).bind fun r4 => (bif (!r4) then (some (r1,false)) else (bif (x1.Ki == 1) then ((Yn n r1 x1.At).bind fun r11 => (some (r11,true))) else (bif (x1.Ki == 6) then ((idx x0.Bs x1.At).bind fun v8 => ((zAU n v8).bind fun r9 => ((idx r1.Bs x1.At).bind fun v10 => (some ((⟨(r1.Bs.set (x1.At.toNat) r9),r1.Ls,r1.Said⟩ : Net),true))))) else (bif (x1.Ki == 2) then (YU n r1 x1 true) else (YU n r1 x1 (x1.Ki == 3)))))))
def Qv (n : Nat) (r1 : Net) (x0 : Net) (x1 : Event) (y13 : Bool) : Option (Net × Bool) :=
  (bif y13 then (qw n r1 x0 x1 (x0.Said.length : Int)) else (bif (x1.Ki == 4) then (qw n r1 x0 x1 (x0.Ls.length : Int)) else (bif (x1.Ki == 5) then (qw n r1 x0 x1 (x0.Ls.length : Int)) else (qw n r1 x0 x1 0))))
def ZD (n : Nat) (r1 : Net) (x0 : Net) (x1 : Event) (y12 : Bool) : Option (Net × Bool) :=
  (bif y12 then (qw n r1 x0 x1 (x0.Bs.length : Int)) else (bif (x1.Ki == 2) then (Qv n r1 x0 x1 true) else (Qv n r1 x0 x1 (x1.Ki == 3))))
def JX (n : Nat) (x0 : Net) (x1 : Event) : Option (Net × Bool) :=
  ((Ji n x0).bind fun r1 => ((ZJ n x0).bind fun r2 => (bif (!r2) then (some (r1,false)) else (bif (x1.Ki == 1) then (ZD n r1 x0 x1 true) else (ZD n r1 x0 x1 (x1.Ki == 6))))))
def zMr : Tab := ⟨13,[0,1,0,4,0,16,0,64,160,256,512,2047,4095],[0,1,0,4,0,16,0,64,160,256,512,10,3072],[0,1,0,4,0,16,0,64,240,496,1008,2047,4095]⟩
theorem zDA : za (rg Tryz.f27 22) zMr = true := kr
theorem zE7 (n : Nat) (x0 : Net) (x1 : Event) (r : Net × Bool) (H : JX n x0 x1 = some r) : zI Tryz.prog 27 [.val true (CV.frzRow (Net.row x0)),.val true (CV.frzRow (Event.row x1))] [.val true (Net.row r.1),.val false [.lit (.bool r.2)]] [] := by
 refine cW Tryz.func27 (fun g d => sl [g 0,g 1,sl [g 2] (cn 12 (sl [g 3] .ret) .skip),g 4,sl [g 5] (.block 0 (sl [sl [g 6] (cn 16 .skip (g 7))] (cn 16 (g 8) (sl [sl [g 9] (cn 22 .skip (g 10))] (cn 22 (g 11) (sl [sl [g 12] (cn 28 .skip (g 13))] (cn 28 (g 14) .skip))))))),sl [g 15] (cn 39 (sl [g 16] .ret) .skip),sl [g 17] (.block 1 (sl [g 19] (cn 49 (g 20) (sl [g 21] (cn 54 (d 22) (sl [sl [g 23] (cn 68 .skip (g 24))] (cn 68 (g 25) (g 18)))))))),g 26] .ret) [.cell 4 67,.tmp 5] fun cx => ?_
 unfold JX at H
 refine gA 4 28 28 ?_
 refine rA 1 ?_
 obtain ⟨r1,er1,H⟩ := bs H
 refine vA [.rd] (zIt n x0 r1 er1) ?_
 refine uA 2 92 92 ?_
 refine tS ?_
 refine rA 1 ?_
 obtain ⟨r2,er2,H⟩ := bs H
 refine vA [.rd] (zES n x0 r2 er2) ?_
 refine uA 1 4188 92 ?_
 obtain ⟨h1,H⟩ | ⟨h1,H⟩ := bC H
 ·refine nA h1 ?_
  refine tK ?_
  refine gA 1 220 92 ?_
  refine tS ?_
  refine Tr.mid (ι := Int) (fun v => ⟨78,0,[sI 7 v,sA 6 6 3 0,sA 4 4 3 0,sA 3 3 2 0,sA 2 2 3 0],[(6,(Net.row r1)),(4,[cL 11 ([] : List zA) zA.row,cL 4 ([] : List Link) Link.row,cL 7 ([] : List Say) Say.row]),(3,(Event.row x1)),(2,(CV.frzRow (Net.row x0)))]⟩) (fun v => qw n r1 x0 x1 v = some r) ?_ ?_
  ·refine gA 2 32988 92 ?_
   refine tB ?_
   refine tS ?_
   refine Tr.mid (ι := Bool) (fun v => ⟨78,0,[sB 16 v,sI 15 x1.Ki,sI 7 0,sA 6 6 3 0,sA 4 4 3 0,sA 3 3 2 0,sA 2 2 3 0],[(6,(Net.row r1)),(4,[cL 11 ([] : List zA) zA.row,cL 4 ([] : List Link) Link.row,cL 7 ([] : List Say) Say.row]),(3,(Event.row x1)),(2,(CV.frzRow (Net.row x0)))]⟩) (fun v => ZD n r1 x0 x1 v = some r) ?_ ?_
   ·refine gA 2 98524 92 ?_
    refine sT ⟨78,0,[sB 16 (x1.Ki == 1),sI 15 x1.Ki,sI 7 0,sA 6 6 3 0,sA 4 4 3 0,sA 3 3 2 0,sA 2 2 3 0],[(6,(Net.row r1)),(4,[cL 11 ([] : List zA) zA.row,cL 4 ([] : List Link) Link.row,cL 7 ([] : List Say) Say.row]),(3,(Event.row x1)),(2,(CV.frzRow (Net.row x0)))]⟩ ?_
    cases h12 : (x1.Ki == 1)
    ·have H := zE h12 H
     refine nB_ ?_
     refine eA 2 98524 92 ?_
     exact jA (x1.Ki == 6) H [16,15,7,6,4,3,2] [6,4,3,2]
    have H := zF h12 H
    refine tB_ ?_
    refine tK ?_
    exact jA true H [16,15,7,6,4,3,2] [6,4,3,2]
   rintro y12 H
   have H : (ZD n r1 x0 x1 y12) = some r := H
   unfold ZD at H
   cases h7 : y12
   ·have H := zE h7 H
    refine nB_ ?_
    refine tS ?_
    refine Tr.mid (ι := Bool) (fun v => ⟨78,0,[sB 22 v,sI 15 x1.Ki,sI 7 0,sA 6 6 3 0,sA 4 4 3 0,sA 3 3 2 0,sA 2 2 3 0],[(6,(Net.row r1)),(4,[cL 11 ([] : List zA) zA.row,cL 4 ([] : List Link) Link.row,cL 7 ([] : List Say) Say.row]),(3,(Event.row x1)),(2,(CV.frzRow (Net.row x0)))]⟩) (fun v => Qv n r1 x0 x1 v = some r) ?_ ?_
    ·refine gA 2 4227292 92 ?_
     refine sT ⟨78,0,[sB 22 (x1.Ki == 2),sI 15 x1.Ki,sI 7 0,sA 6 6 3 0,sA 4 4 3 0,sA 3 3 2 0,sA 2 2 3 0],[(6,(Net.row r1)),(4,[cL 11 ([] : List zA) zA.row,cL 4 ([] : List Link) Link.row,cL 7 ([] : List Say) Say.row]),(3,(Event.row x1)),(2,(CV.frzRow (Net.row x0)))]⟩ ?_
     cases h11 : (x1.Ki == 2)
     ·have H := zE h11 H
      refine nB_ ?_
      refine eA 2 4227292 92 ?_
      exact jA (x1.Ki == 3) H [22,15,7,6,4,3,2] [6,4,3,2]
     have H := zF h11 H
     refine tB_ ?_
     refine tK ?_
     exact jA true H [22,15,7,6,4,3,2] [6,4,3,2]
    rintro y13 H
    have H : (Qv n r1 x0 x1 y13) = some r := H
    unfold Qv at H
    cases h8 : y13
    ·have H := zE h8 H
     refine nB_ ?_
     refine tS ?_
     refine gA 2 268468444 92 ?_
     refine sT ⟨78,0,[sB 28 (x1.Ki == 4),sI 15 x1.Ki,sI 7 0,sA 6 6 3 0,sA 4 4 3 0,sA 3 3 2 0,sA 2 2 3 0],[(6,(Net.row r1)),(4,[cL 11 ([] : List zA) zA.row,cL 4 ([] : List Link) Link.row,cL 7 ([] : List Say) Say.row]),(3,(Event.row x1)),(2,(CV.frzRow (Net.row x0)))]⟩ ?_
     cases h9 : (x1.Ki == 4)
     ·have H := zE h9 H
      refine nB_ ?_
      refine eA 2 268435676 92 ?_
      obtain ⟨h10,H⟩ | ⟨h10,H⟩ := bC H
      ·refine nA h10 ?_
       refine tK ?_
       exact jA 0 H [7,6,4,3,2] [6,4,3,2]
      refine tA h10 ?_
      refine Tr.at ?_
      refine lA 2 ?_
      refine kF x0.Ls Link.row ?_
      refine uA 1 220 92 ?_
      exact jA (x0.Ls.length : Int) H [7,6,4,3,2] [6,4,3,2]
     have H := zF h9 H
     refine tB_ ?_
     refine tK ?_
     refine tB_ ?_
     refine Tr.at ?_
     refine lA 2 ?_
     refine kF x0.Ls Link.row ?_
     refine uA 1 220 92 ?_
     exact jA (x0.Ls.length : Int) H [7,6,4,3,2] [6,4,3,2]
    have H := zF h8 H
    refine tB_ ?_
    refine Tr.at ?_
    refine lA 2 ?_
    refine kF x0.Said Say.row ?_
    refine uA 1 220 92 ?_
    exact jA (x0.Said.length : Int) H [7,6,4,3,2] [6,4,3,2]
   have H := zF h7 H
   refine tB_ ?_
   refine Tr.at ?_
   refine lA 2 ?_
   refine kF x0.Bs zA.row ?_
   refine uA 1 220 92 ?_
   exact jA (x0.Bs.length : Int) H [7,6,4,3,2] [6,4,3,2]
  rintro y3 H
  have H : (qw n r1 x0 x1 y3) = some r := H
  unfold qw at H
  refine tS ?_
  refine rA 4 ?_
  obtain ⟨r4,er4,H⟩ := bs H
  refine vA [.rd,.rd,.rd] (qM n x1.At 0 (IntKind.wrap .i64 (y3 - 1)) r4 er4) ?_
  refine uA 1 549755813980 92 ?_
  obtain ⟨h2,H⟩ | ⟨h2,H⟩ := bC H
  ·refine nA h2 ?_
   refine tK ?_
   refine tS ?_
   refine gA 2 4398046511196 92 ?_
   refine tB ?_
   refine gA 2 567347999932508 92 ?_
   obtain ⟨h3,H⟩ | ⟨h3,H⟩ := bC H
   ·refine nA h3 ?_
    refine gA 2 0x4004000000005c 92 ?_
    obtain ⟨h4,H⟩ | ⟨h4,H⟩ := bC H
    ·refine nA h4 ?_
     refine tS ?_
     refine Tr.mid (ι := Bool) (fun v => ⟨78,0,[sB 68 v,sA 6 6 3 0,sA 4 4 3 0,sA 3 3 2 0],[(6,(Net.row r1)),(4,[cL 11 ([] : List zA) zA.row,cL 4 ([] : List Link) Link.row,cL 7 ([] : List Say) Say.row]),(3,(Event.row x1))]⟩) (fun v => YU n r1 x1 v = some r) ?_ ?_
     ·refine gA 2 0x100000040000000058 88 ?_
      refine sT ⟨78,0,[sB 68 (x1.Ki == 2),sI 42 x1.Ki,sA 6 6 3 0,sA 4 4 3 0,sA 3 3 2 0],[(6,(Net.row r1)),(4,[cL 11 ([] : List zA) zA.row,cL 4 ([] : List Link) Link.row,cL 7 ([] : List Say) Say.row]),(3,(Event.row x1))]⟩ ?_
      cases h6 : (x1.Ki == 2)
      ·have H := zE h6 H
       refine nB_ ?_
       refine eA 2 0x100000000000000058 88 ?_
       exact jA (x1.Ki == 3) H [68,6,4,3] [6,4,3]
      have H := zF h6 H
      refine tB_ ?_
      refine tK ?_
      exact jA true H [68,6,4,3] [6,4,3]
     rintro y5 H
     have H : (YU n r1 x1 y5) = some r := H
     unfold YU at H
     cases h5 : y5
     ·have H := zE h5 H
      refine nB_ ?_
      refine Tr.at ?_
      refine lA 5 ?_
      obtain ⟨r6,er6,H⟩ := bs H
      refine LAt.callL tOk [.lend,.rd,.rd] (f := 120) (av := #[.tmp 6,.tmp 44,.tmp 47]) (ats := #[67,3,4]) (d := (some 48)) (ty := 0) (g := none) kr kr kr [] (zIK n r1 x1.At (x1.Ki == 5) r6 er6) kr (.inl rfl) ?_
      refine dA 80 80 ?_
      refine gA 3 48 16 ?_
      exact te (fJ [(true,(Net.row r6)),(false,[cB true])] H)
     have H := zF h5 H
     refine tB_ ?_
     refine Tr.at ?_
     refine lA 5 ?_
     obtain ⟨r7,er7,H⟩ := bs H
     refine LAt.callL tOk [.lend,.rd,.rd] (f := 119) (av := #[.tmp 6,.tmp 72,.tmp 75]) (ats := #[67,3,4]) (d := (some 76)) (ty := 0) (g := none) kr kr kr [] (zGr n r1 x1.At (x1.Ki == 2) r7 er7) kr (.inl rfl) ?_
     refine dA 80 80 ?_
     refine gA 3 48 16 ?_
     exact te (fJ [(true,(Net.row r7)),(false,[cB true])] H)
    refine tA h4 ?_
    obtain ⟨v8,ev8,H⟩ := bs H
    obtain ⟨r9,er9,H⟩ := bs H
    obtain ⟨v10,ev10,H⟩ := bs H
    refine Tr.draw mixed 13 kr ⟨78,0,[sA 6 6 3 0,sA 4 4 3 0],[(6,[cL 11 (r1.Bs.set (x1.At.toNat) r9) zA.row,cL 4 r1.Ls Link.row,cL 7 r1.Said Say.row]),(4,[cL 11 ([] : List zA) zA.row,cL 4 ([] : List Link) Link.row,cL 7 ([] : List Say) Say.row])]⟩ (fun cx => ?_) ?_
    ·refine mA zDA [(0,[]),(1,[12]),(2,[]),(3,[12]),(4,[]),(5,[10,12]),(6,[]),(7,[10,12])] 5 [⟨[10,12],3,62,63⟩,⟨[10,12],63,60,61⟩,⟨[12],3,58,59⟩,⟨[12],63,56,57⟩] fun cx => ?_
     refine iN zDA 8 zA.row ev8 fun cx => ?_
     refine mA zDA [(9,[])] 3 [⟨[10,12],3,62,63⟩,⟨[10,12],63,60,61⟩,⟨[12],3,58,59⟩,⟨[12],63,56,57⟩] fun cx => ?_
     refine mC zDA 10 ?_
     refine vA [.rd] (zKt n v8 r9 er9) ?_
     refine fA ?_
     refine oN zDA 11 zA.row ev10 fun cx => ?_
     refine mC zDA 12 ?_
     refine LAt.storeB tOk (t := 41) (ty := 0) (ad := (.tmp 67)) (x := (.tmp 66)) (g := none) (tI 41) true (zA.row r9) 6 0 (x1.At.toNat) 11 0 11 r1.Bs zA.row v10 r9 kr kr kr kr kr kr kr kr (zM ev10).2 kr kr kr kr ?_
     refine fA ?_
     exact mE zDA [6,4] [6,4]
    refine gA 3 48 16 ?_
    exact te (fJ [(true,[cL 11 (r1.Bs.set (x1.At.toNat) r9) zA.row,cL 4 r1.Ls Link.row,cL 7 r1.Said Say.row]),(false,[cB true])] H)
   refine tA h3 ?_
   refine Tr.at ?_
   refine lA 2 ?_
   obtain ⟨r11,er11,H⟩ := bs H
   refine LAt.callL tOk [.lend,.rd] (f := 117) (av := #[.tmp 6,.tmp 52]) (ats := #[67,3]) (d := (some 53)) (ty := 0) (g := none) kr kr kr [] (zHU n r1 x1.At r11 er11) kr (.inl rfl) ?_
   refine dA 80 80 ?_
   refine gA 3 48 16 ?_
   exact te (fJ [(true,(Net.row r11)),(false,[cB true])] H)
  refine tA h2 ?_
  refine gA 3 48 16 ?_
  exact te (fJ [(true,(Net.row r1)),(false,[cB false])] H)
 refine tA h1 ?_
 refine gA 3 48 16 ?_
 exact te (fJ [(true,(Net.row r1)),(false,[cB false])] H)
def JZ (n : Nat) : Option (Bool) :=
  (some true)
def ZA (n : Nat) : Nat → (List zC) → (List zC) → Int → Option ((Unit) ⊕ (Bool))
  | 0,_,_,_ => none
  | mo2 + 1,x0,x1,y1 => (bif (decide (y1 < (x0.length : Int))) then ((idx x0 y1).bind fun v3 => ((idx x1 y1).bind fun v4 => (bif (!((v3.Id == v4.Id) && ((v3.Members == v4.Members) && ((v3.Bare == v4.Bare) && true)))) then (some (Sum.inr false)) else (ZA n mo2 x0 x1 (IntKind.wrap .i64 (y1 + 1)))))) else (some (Sum.inl ())))
def JD (n : Nat) (x0 : (List zC)) (x1 : (List zC)) : Option (Bool) :=
  (bif ((x0.length : Int) != (x1.length : Int)) then (some false) else ((ZA n n x0 x1 0).bind fun o => match o with | .inl _ => (JZ n) | .inr r => some r))
theorem zIO (n : Nat) (x0 : (List zC)) (x1 : (List zC)) (r : Bool) (H : JD n x0 x1 = some r) : zI Tryz.prog 135 [.val false [.sl false 3 (CV.frzEs (x0.map zC.row))],.val false [.sl false 3 (CV.frzEs (x1.map zC.row))]] [.val false [.lit (.bool r)]] [] := by
 refine cW Tryz.func135 (fun g d => sl [g 0,sl [g 1] (cn 10 (sl [g 2] .ret) .skip),sl [g 3] (.block 0 (.loop (sl [g 4,cn 14 .skip (.exit 0),.block 1 (sl [g 5,d 6] (cn 24 (sl [g 7] .ret) .skip))] (g 8)))),g 9] .ret) [.tmp 4] fun cx => ?_
 unfold JD at H
 refine gA 1 3 0 ?_
 refine tS ?_
 refine rA 1 ?_
 refine kF x0 zC.row ?_
 refine lA 1 ?_
 refine kF x1 zC.row ?_
 refine uA 1 1027 0 ?_
 obtain ⟨h1,H⟩ | ⟨h1,H⟩ := bC H
 ·refine nA h1 ?_
  refine tK ?_
  refine tS ?_
  refine rA 1 ?_
  refine kF x0 zC.row ?_
  refine uA 1 12291 0 ?_
  obtain ⟨o2,eo2,Ho2⟩ := bs H
  clear H
  refine Tr.mid (ι := Unit) (fun v => ⟨26,0,[],[]⟩) (fun v => JZ n = some r) ?_ ?_
  ·refine tB ?_
   refine Tr.loop (ι := Nat × (Int)) (fun v => ⟨26,0,[sI 13 v.2,sI 12 (x0.length : Int),sC 0 (cF 3 x0 zC.row),sC 1 (cF 3 x1 zC.row)],[]⟩) (fun v => ZA n v.1 x0 x1 v.2 = some o2) (fun v => v.1) (n,0) eo2 (St.sub_of [13,12,0,1] [] kr) ?_
   rintro ⟨mo2,y1⟩ H
   have H : ZA n mo2 x0 x1 y1 = some o2 := H
   obtain _ | mo2 := mo2
   ·exact nN H
   rw [ZA] at H
   refine gA 1 28675 0 ?_
   refine tS ?_
   obtain ⟨h2,H⟩ | ⟨h2,H⟩ := bC H
   ·refine nA h2 ?_
    refine Tr.exit ?_
    refine aJ ?_
    obtain rfl := si H
    have H := Ho2
    dsimp only at H
    exact jA () H [] []
   refine tA h2 ?_
   refine tK ?_
   refine tS ?_
   refine tB ?_
   refine gA 2 12323 0 ?_
   obtain ⟨v3,ev3,H⟩ := bs H
   obtain ⟨v4,ev4,H⟩ := bs H
   refine Tr.draws mixed 9 kr ⟨26,0,[sB 24 (!((v3.Id == v4.Id) && ((v3.Members == v4.Members) && ((v3.Bare == v4.Bare) && true)))),sI 13 y1,sI 12 (x0.length : Int),sC 0 (cF 3 x0 zC.row),sC 1 (cF 3 x1 zC.row)],[]⟩ (fun cx => ?_) ?_
   ·refine aA [(0,[]),(1,[])] 7 [] fun cx => ?_
    refine aI tOk 2 37 0 16 17 18 none ⟨(.slot 16),[],0,false,3,(CV.frzEs (x0.map zC.row))⟩ y1 (zC.row v3) _ kr kr kr kr kr kr rfl (Ql ev3) rfl (fun cx => ?_)
    refine aA [(3,[]),(4,[]),(5,[])] 3 [] fun cx => ?_
    refine aI tOk 6 37 0 20 21 22 none ⟨(.slot 20),[],0,false,3,(CV.frzEs (x1.map zC.row))⟩ y1 (zC.row v4) _ kr kr kr kr kr kr rfl (Ql ev4) rfl (fun cx => ?_)
    refine aA [(7,[])] 1 [] fun cx => ?_
    refine bA 8 ?_
    refine LAt.eqSG true (t := 175) (ty := 175) (ty' := 4) (x := (.tmp 19)) (y := (.tmp 23)) (d := 24) (g := none) ((v3.Id == v4.Id) && ((v3.Members == v4.Members) && ((v3.Bare == v4.Bare) && true))) _ kr kr kr kr rfl ?_
    refine fA ?_
    exact eE [24,13,12,0,1] []
   refine sT ⟨26,0,[sB 24 (!((v3.Id == v4.Id) && ((v3.Members == v4.Members) && ((v3.Bare == v4.Bare) && true)))),sI 13 y1,sI 12 (x0.length : Int),sC 0 (cF 3 x0 zC.row),sC 1 (cF 3 x1 zC.row)],[]⟩ ?_
   cases h3 : (!((v3.Id == v4.Id) && ((v3.Members == v4.Members) && ((v3.Bare == v4.Bare) && true))))
   ·have H := zE h3 H
    refine nB_ ?_
    refine tK ?_
    refine eA 2 12291 0 ?_
    exact jB mo2 (IntKind.wrap .i64 (y1 + 1)) H [13,12,0,1] []
   have H := zF h3 H
   refine tB_ ?_
   refine gA 1 16 0 ?_
   refine te ?_
   obtain rfl := si H
   have H := Ho2
   dsimp only at H
   exact fF H
  rintro _ H
  have H : (JZ n) = some r := H
  unfold JZ at H
  refine gA 1 16 0 ?_
  exact te (fT H)
 refine tA h1 ?_
 refine gA 1 16 0 ?_
 exact te (fF H)
def Jw (n : Nat) : Option (Bool) :=
  (some true)
def ZS (n : Nat) : Nat → (List Int) → (List Int) → Int → Option ((Unit) ⊕ (Bool))
  | 0,_,_,_ => none
  | mo2 + 1,x0,x1,y1 => (bif (decide (y1 < (x0.length : Int))) then ((idx x0 y1).bind fun v3 => ((idx x1 y1).bind fun v4 => (bif (v3 != v4) then (some (Sum.inr false)) else (ZS n mo2 x0 x1 (IntKind.wrap .i64 (y1 + 1)))))) else (some (Sum.inl ())))
def Jh (n : Nat) (x0 : (List Int)) (x1 : (List Int)) : Option (Bool) :=
  (bif ((x0.length : Int) != (x1.length : Int)) then (some false) else ((ZS n n x0 x1 0).bind fun o => match o with | .inl _ => (Jw n) | .inr r => some r))
theorem zIq (n : Nat) (x0 : (List Int)) (x1 : (List Int)) (r : Bool) (H : Jh n x0 x1 = some r) : zI Tryz.prog 136 [.val false [.sl false 1 (CV.frzEs (x0.map intRow))],.val false [.sl false 1 (CV.frzEs (x1.map intRow))]] [.val false [.lit (.bool r)]] [] := by
 refine cW Tryz.func136 (fun g d => sl [g 0,sl [g 1] (cn 10 (sl [g 2] .ret) .skip),sl [g 3] (.block 0 (.loop (sl [g 4,cn 14 .skip (.exit 0),.block 1 (sl [g 5,d 6] (cn 24 (sl [g 7] .ret) .skip))] (g 8)))),g 9] .ret) [.tmp 4] fun cx => ?_
 unfold Jh at H
 refine gA 1 3 0 ?_
 refine tS ?_
 refine rA 1 ?_
 refine kF x0 intRow ?_
 refine lA 1 ?_
 refine kF x1 intRow ?_
 refine uA 1 1027 0 ?_
 obtain ⟨h1,H⟩ | ⟨h1,H⟩ := bC H
 ·refine nA h1 ?_
  refine tK ?_
  refine tS ?_
  refine rA 1 ?_
  refine kF x0 intRow ?_
  refine uA 1 12291 0 ?_
  obtain ⟨o2,eo2,Ho2⟩ := bs H
  clear H
  refine Tr.mid (ι := Unit) (fun v => ⟨26,0,[],[]⟩) (fun v => Jw n = some r) ?_ ?_
  ·refine tB ?_
   refine Tr.loop (ι := Nat × (Int)) (fun v => ⟨26,0,[sI 13 v.2,sI 12 (x0.length : Int),sC 0 (cF 1 x0 intRow),sC 1 (cF 1 x1 intRow)],[]⟩) (fun v => ZS n v.1 x0 x1 v.2 = some o2) (fun v => v.1) (n,0) eo2 (St.sub_of [13,12,0,1] [] kr) ?_
   rintro ⟨mo2,y1⟩ H
   have H : ZS n mo2 x0 x1 y1 = some o2 := H
   obtain _ | mo2 := mo2
   ·exact nN H
   rw [ZS] at H
   refine gA 1 28675 0 ?_
   refine tS ?_
   obtain ⟨h2,H⟩ | ⟨h2,H⟩ := bC H
   ·refine nA h2 ?_
    refine Tr.exit ?_
    refine aJ ?_
    obtain rfl := si H
    have H := Ho2
    dsimp only at H
    exact jA () H [] []
   refine tA h2 ?_
   refine tK ?_
   refine tS ?_
   refine tB ?_
   refine gA 2 12323 0 ?_
   obtain ⟨v3,ev3,H⟩ := bs H
   obtain ⟨v4,ev4,H⟩ := bs H
   refine Tr.draws mixed 9 kr ⟨26,0,[sB 24 (v3 != v4),sI 13 y1,sI 12 (x0.length : Int),sC 0 (cF 1 x0 intRow),sC 1 (cF 1 x1 intRow)],[]⟩ (fun cx => ?_) ?_
   ·refine aA [(0,[]),(1,[])] 7 [] fun cx => ?_
    refine aI tOk 2 25 0 16 17 18 none ⟨(.slot 16),[],0,false,1,(CV.frzEs (x0.map intRow))⟩ y1 [cI v3] _ kr kr kr kr kr kr rfl (Ql ev3) rfl (fun cx => ?_)
    refine aA [(3,[]),(4,[]),(5,[])] 3 [] fun cx => ?_
    refine aI tOk 6 25 0 20 21 22 none ⟨(.slot 20),[],0,false,1,(CV.frzEs (x1.map intRow))⟩ y1 [cI v4] _ kr kr kr kr kr kr rfl (Ql ev4) rfl (fun cx => ?_)
    refine aA [(7,[]),(8,[])] 0 [] fun cx => ?_
    exact eE [24,13,12,0,1] []
   refine sT ⟨26,0,[sB 24 (v3 != v4),sI 13 y1,sI 12 (x0.length : Int),sC 0 (cF 1 x0 intRow),sC 1 (cF 1 x1 intRow)],[]⟩ ?_
   cases h3 : (v3 != v4)
   ·have H := zE h3 H
    refine nB_ ?_
    refine tK ?_
    refine eA 2 12291 0 ?_
    exact jB mo2 (IntKind.wrap .i64 (y1 + 1)) H [13,12,0,1] []
   have H := zF h3 H
   refine tB_ ?_
   refine gA 1 16 0 ?_
   refine te ?_
   obtain rfl := si H
   have H := Ho2
   dsimp only at H
   exact fF H
  rintro _ H
  have H : (Jw n) = some r := H
  unfold Jw at H
  refine gA 1 16 0 ?_
  exact te (fT H)
 refine tA h1 ?_
 refine gA 1 16 0 ?_
 exact te (fF H)
def Qu (n : Nat) (x0 : zA) (x1 : zA) : Option (Bool) :=
  (bif (x0.Tk == x1.Tk) then (bif (x0.Pa == x1.Pa) then (bif (x0.Wo == x1.Wo) then (bif (x0.Dr == x1.Dr) then (some (x0.Ve == x1.Ve)) else (some false)) else (some false)) else (some false)) else (some false))
def qu (n : Nat) : Nat → zA → zA → Int → Option ((Unit) ⊕ (Bool))
  | 0,_,_,_ => none
  | mo5 + 1,x0,x1,y4 => (bif (decide (y4 < (x0.F.length : Int))) then ((idx x0.F y4).bind fun v6 => ((idx x1.F y4).bind fun v7 => (bif (!((v6.Tag == v7.Tag) && ((v6.Mac == v7.Mac) && ((v6.Port == v7.Port) && ((v6.Age == v7.Age) && ((v6.Sc == v7.Sc) && true)))))) then (some (Sum.inr false)) else (qu n mo5 x0 x1 (IntKind.wrap .i64 (y4 + 1)))))) else (some (Sum.inl ())))
def Qt (n : Nat) (x0 : zA) (x1 : zA) : Option (Bool) :=
  ((qu n n x0 x1 0).bind fun o => match o with | .inl _ => (Qu n x0 x1) | .inr r => some r)
def qv (n : Nat) : Nat → zA → zA → Int → Option ((Unit) ⊕ (Bool))
  | 0,_,_,_ => none
  | mo8 + 1,x0,x1,y3 => (bif (decide (y3 < (x0.Ps.length : Int))) then ((idx x0.Ps y3).bind fun v9 => ((idx x1.Ps y3).bind fun v10 => (bif (!((v9.Up == v10.Up) && ((v9.Co == v10.Co) && ((v9.Has == v10.Has) && (((v9.Hd.Root == v10.Hd.Root) && ((v9.Hd.Co == v10.Hd.Co) && ((v9.Hd.Hops == v10.Hd.Hops) && ((v9.Hd.Bridge == v10.Hd.Bridge) && ((v9.Hd.Port == v10.Hd.Port) && true))))) && true))))) then (some (Sum.inr false)) else (qv n mo8 x0 x1 (IntKind.wrap .i64 (y3 + 1)))))) else (some (Sum.inl ())))
def YT (n : Nat) (x0 : zA) (x1 : zA) : Option (Bool) :=
  (bif (x0.Id != x1.Id) then (some false) else (bif (!(x0.Name.toList == x1.Name.toList)) then (some false) else (bif ((x0.Ps.length : Int) != (x1.Ps.length : Int)) then (some false) else (bif ((x0.F.length : Int) != (x1.F.length : Int)) then (some false) else ((JD n x0.V.Rows x1.V.Rows).bind fun r1 => (bif (!r1) then (some false) else ((Jh n x0.V.Pv x1.V.Pv).bind fun r2 => (bif (!r2) then (some false) else ((qv n n x0 x1 0).bind fun o => match o with | .inl _ => (Qt n x0 x1) | .inr r => some r)))))))))
theorem zGt (n : Nat) (x0 : zA) (x1 : zA) (r : Bool) (H : YT n x0 x1 = some r) : zI Tryz.prog 39 [.val true (CV.frzRow (zA.row x0)),.val true (CV.frzRow (zA.row x1))] [.val false [.lit (.bool r)]] [] := by
 refine cW Tryz.func39 (fun g d => sl [g 0,sl [g 1] (cn 56 (sl [g 2] .ret) .skip),sl [g 3] (.block 0 (.loop (sl [g 4,cn 61 .skip (.exit 0),.block 1 (sl [g 5,d 6] (cn 73 (sl [g 7] .ret) .skip))] (g 8)))),sl [g 9] (.block 2 (.loop (sl [g 10,cn 79 .skip (.exit 2),.block 3 (sl [g 11,d 12] (cn 91 (sl [g 13] .ret) .skip))] (g 14)))),g 15] .ret) [.tmp 4] fun cx => ?_
 unfold YT at H
 refine gA 3 12 12 ?_
 refine tS ?_
 refine rA 6 ?_
 refine sL 4108 12 ⟨126,0,[sB 12 (x0.Id != x1.Id),sA 3 3 11 0,sA 2 2 11 0],[(3,(CV.frzRow (zA.row x1))),(2,(CV.frzRow (zA.row x0)))]⟩ ?_
 cases h1 : (x0.Id != x1.Id)
 ·have H := zE h1 H
  refine lA 7 ?_
  refine sL 524300 12 ⟨126,0,[sB 19 (!(x0.Name.toList == x1.Name.toList)),sA 3 3 11 0,sA 2 2 11 0],[(3,(CV.frzRow (zA.row x1))),(2,(CV.frzRow (zA.row x0)))]⟩ ?_
  cases h2 : (!(x0.Name.toList == x1.Name.toList))
  ·have H := zE h2 H
   refine lA 2 ?_
   refine kF x0.Ps Pt.row ?_
   refine lA 2 ?_
   refine kF x1.Ps Pt.row ?_
   refine lA 3 ?_
   refine sL 268435468 12 ⟨126,0,[sB 28 ((x0.Ps.length : Int) != (x1.Ps.length : Int)),sA 3 3 11 0,sA 2 2 11 0],[(3,(CV.frzRow (zA.row x1))),(2,(CV.frzRow (zA.row x0)))]⟩ ?_
   cases h3 : ((x0.Ps.length : Int) != (x1.Ps.length : Int))
   ·have H := zE h3 H
    refine lA 2 ?_
    refine kF x0.F zB.row ?_
    refine lA 2 ?_
    refine kF x1.F zB.row ?_
    refine lA 3 ?_
    refine sL 137438953484 12 ⟨126,0,[sB 37 ((x0.F.length : Int) != (x1.F.length : Int)),sA 3 3 11 0,sA 2 2 11 0],[(3,(CV.frzRow (zA.row x1))),(2,(CV.frzRow (zA.row x0)))]⟩ ?_
    cases h4 : ((x0.F.length : Int) != (x1.F.length : Int))
    ·have H := zE h4 H
     refine lA 6 ?_
     obtain ⟨r1,er1,H⟩ := bs H
     refine vA [.rd,.rd] (zIO n x0.V.Rows x1.V.Rows r1 er1) ?_
     refine lA 3 ?_
     refine sL 0x80000000000c 12 ⟨126,0,[sB 47 (!r1),sA 3 3 11 0,sA 2 2 11 0],[(3,(CV.frzRow (zA.row x1))),(2,(CV.frzRow (zA.row x0)))]⟩ ?_
     cases h5 : (!r1)
     ·have H := zE h5 H
      refine lA 6 ?_
      obtain ⟨r2,er2,H⟩ := bs H
      refine vA [.rd,.rd] (zIq n x0.V.Pv x1.V.Pv r2 er2) ?_
      refine uA 2 72057594037927948 12 ?_
      obtain ⟨h6,H⟩ | ⟨h6,H⟩ := bC H
      ·refine nA h6 ?_
       refine tK ?_
       refine tS ?_
       refine rA 2 ?_
       refine kF x0.Ps Pt.row ?_
       refine uA 1 0x180000000000000c 12 ?_
       obtain ⟨o8,eo8,Ho8⟩ := bs H
       clear H
       refine Tr.mid (ι := Unit) (fun v => ⟨126,0,[sA 3 3 11 0,sA 2 2 11 0],[(3,(CV.frzRow (zA.row x1))),(2,(CV.frzRow (zA.row x0)))]⟩) (fun v => Qt n x0 x1 = some r) ?_ ?_
       ·refine tB ?_
        refine Tr.loop (ι := Nat × (Int)) (fun v => ⟨126,0,[sI 60 v.2,sI 59 (x0.Ps.length : Int),sA 3 3 11 0,sA 2 2 11 0],[(3,(CV.frzRow (zA.row x1))),(2,(CV.frzRow (zA.row x0)))]⟩) (fun v => qv n v.1 x0 x1 v.2 = some o8) (fun v => v.1) (n,0) eo8 (St.sub_of [60,59,3,2] [3,2] kr) ?_
        rintro ⟨mo8,y3⟩ H
        have H : qv n mo8 x0 x1 y3 = some o8 := H
        obtain _ | mo8 := mo8
        ·exact nN H
        rw [qv] at H
        refine gA 1 0x380000000000000c 12 ?_
        refine tS ?_
        obtain ⟨h13,H⟩ | ⟨h13,H⟩ := bC H
        ·refine nA h13 ?_
         refine Tr.exit ?_
         refine aJ ?_
         obtain rfl := si H
         have H := Ho8
         dsimp only at H
         exact jA () H [3,2] [3,2]
        refine tA h13 ?_
        refine tK ?_
        refine tS ?_
        refine tB ?_
        refine gA 2 0x180000000000002c 12 ?_
        obtain ⟨v9,ev9,H⟩ := bs H
        obtain ⟨v10,ev10,H⟩ := bs H
        refine Tr.draws mixed 11 kr ⟨126,0,[sB 73 (!((v9.Up == v10.Up) && ((v9.Co == v10.Co) && ((v9.Has == v10.Has) && (((v9.Hd.Root == v10.Hd.Root) && ((v9.Hd.Co == v10.Hd.Co) && ((v9.Hd.Hops == v10.Hd.Hops) && ((v9.Hd.Bridge == v10.Hd.Bridge) && ((v9.Hd.Port == v10.Hd.Port) && true))))) && true))))),sI 60 y3,sI 59 (x0.Ps.length : Int),sA 3 3 11 0,sA 2 2 11 0],[(3,(CV.frzRow (zA.row x1))),(2,(CV.frzRow (zA.row x0)))]⟩ (fun cx => ?_) ?_
        ·refine aA [(0,[]),(1,[10]),(2,[])] 8 [⟨[10],35,63,64⟩] fun cx => ?_
         refine aI tOk 3 35 0 64 65 66 none ⟨(.box 2),[(0,0)],2,false,8,(CV.frzEs (x0.Ps.map Pt.row))⟩ y3 (Pt.row v9) _ kr kr kr kr kr kr rfl (Ql ev9) rfl (fun cx => ?_)
         refine aA [(4,[]),(5,[]),(6,[10]),(7,[])] 3 [⟨[10],35,68,69⟩,⟨[10],35,63,64⟩] fun cx => ?_
         refine aI tOk 8 35 0 69 70 71 none ⟨(.box 3),[(0,0)],2,false,8,(CV.frzEs (x1.Ps.map Pt.row))⟩ y3 (Pt.row v10) _ kr kr kr kr kr kr rfl (Ql ev10) rfl (fun cx => ?_)
         refine aA [(9,[])] 1 [⟨[10],35,68,69⟩,⟨[10],35,63,64⟩] fun cx => ?_
         refine bA 10 ?_
         refine LAt.eqSG true (t := 167) (ty := 167) (ty' := 4) (x := (.tmp 67)) (y := (.tmp 72)) (d := 73) (g := none) ((v9.Up == v10.Up) && ((v9.Co == v10.Co) && ((v9.Has == v10.Has) && (((v9.Hd.Root == v10.Hd.Root) && ((v9.Hd.Co == v10.Hd.Co) && ((v9.Hd.Hops == v10.Hd.Hops) && ((v9.Hd.Bridge == v10.Hd.Bridge) && ((v9.Hd.Port == v10.Hd.Port) && true))))) && true)))) _ kr kr kr kr rfl ?_
         refine fA ?_
         exact eE [73,60,59,3,2] [3,2]
        refine sT ⟨126,0,[sB 73 (!((v9.Up == v10.Up) && ((v9.Co == v10.Co) && ((v9.Has == v10.Has) && (((v9.Hd.Root == v10.Hd.Root) && ((v9.Hd.Co == v10.Hd.Co) && ((v9.Hd.Hops == v10.Hd.Hops) && ((v9.Hd.Bridge == v10.Hd.Bridge) && ((v9.Hd.Port == v10.Hd.Port) && true))))) && true))))),sI 60 y3,sI 59 (x0.Ps.length : Int),sA 3 3 11 0,sA 2 2 11 0],[(3,(CV.frzRow (zA.row x1))),(2,(CV.frzRow (zA.row x0)))]⟩ ?_
        cases h14 : (!((v9.Up == v10.Up) && ((v9.Co == v10.Co) && ((v9.Has == v10.Has) && (((v9.Hd.Root == v10.Hd.Root) && ((v9.Hd.Co == v10.Hd.Co) && ((v9.Hd.Hops == v10.Hd.Hops) && ((v9.Hd.Bridge == v10.Hd.Bridge) && ((v9.Hd.Port == v10.Hd.Port) && true))))) && true)))))
        ·have H := zE h14 H
         refine nB_ ?_
         refine tK ?_
         refine eA 2 0x180000000000000c 12 ?_
         exact jB mo8 (IntKind.wrap .i64 (y3 + 1)) H [60,59,3,2] [3,2]
        have H := zF h14 H
        refine tB_ ?_
        refine gA 1 16 0 ?_
        refine te ?_
        obtain rfl := si H
        have H := Ho8
        dsimp only at H
        exact fF H
       rintro _ H
       have H : (Qt n x0 x1) = some r := H
       unfold Qt at H
       refine tS ?_
       refine rA 2 ?_
       refine kF x0.F zB.row ?_
       refine uA 1 0x6000000000000000000c 12 ?_
       obtain ⟨o5,eo5,Ho5⟩ := bs H
       clear H
       refine Tr.mid (ι := Unit) (fun v => ⟨126,0,[sA 3 3 11 0,sA 2 2 11 0],[(3,(CV.frzRow (zA.row x1))),(2,(CV.frzRow (zA.row x0)))]⟩) (fun v => Qu n x0 x1 = some r) ?_ ?_
       ·refine tB ?_
        refine Tr.loop (ι := Nat × (Int)) (fun v => ⟨126,0,[sI 78 v.2,sI 77 (x0.F.length : Int),sA 3 3 11 0,sA 2 2 11 0],[(3,(CV.frzRow (zA.row x1))),(2,(CV.frzRow (zA.row x0)))]⟩) (fun v => qu n v.1 x0 x1 v.2 = some o5) (fun v => v.1) (n,0) eo5 (St.sub_of [78,77,3,2] [3,2] kr) ?_
        rintro ⟨mo5,y4⟩ H
        have H : qu n mo5 x0 x1 y4 = some o5 := H
        obtain _ | mo5 := mo5
        ·exact nN H
        rw [qu] at H
        refine gA 1 0xe000000000000000000c 12 ?_
        refine tS ?_
        obtain ⟨h11,H⟩ | ⟨h11,H⟩ := bC H
        ·refine nA h11 ?_
         refine Tr.exit ?_
         refine aJ ?_
         obtain rfl := si H
         have H := Ho5
         dsimp only at H
         exact jA () H [3,2] [3,2]
        refine tA h11 ?_
        refine tK ?_
        refine tS ?_
        refine tB ?_
        refine gA 2 0x6000000000000000004c 12 ?_
        obtain ⟨v6,ev6,H⟩ := bs H
        obtain ⟨v7,ev7,H⟩ := bs H
        refine Tr.draws mixed 11 kr ⟨126,0,[sB 91 (!((v6.Tag == v7.Tag) && ((v6.Mac == v7.Mac) && ((v6.Port == v7.Port) && ((v6.Age == v7.Age) && ((v6.Sc == v7.Sc) && true)))))),sI 78 y4,sI 77 (x0.F.length : Int),sA 3 3 11 0,sA 2 2 11 0],[(3,(CV.frzRow (zA.row x1))),(2,(CV.frzRow (zA.row x0)))]⟩ (fun cx => ?_) ?_
        ·refine aA [(0,[]),(1,[10]),(2,[])] 8 [⟨[10],36,81,82⟩] fun cx => ?_
         refine aI tOk 3 36 0 82 83 84 none ⟨(.box 2),[(0,0)],3,false,5,(CV.frzEs (x0.F.map zB.row))⟩ y4 (zB.row v6) _ kr kr kr kr kr kr rfl (Ql ev6) rfl (fun cx => ?_)
         refine aA [(4,[]),(5,[]),(6,[10]),(7,[])] 3 [⟨[10],36,86,87⟩,⟨[10],36,81,82⟩] fun cx => ?_
         refine aI tOk 8 36 0 87 88 89 none ⟨(.box 3),[(0,0)],3,false,5,(CV.frzEs (x1.F.map zB.row))⟩ y4 (zB.row v7) _ kr kr kr kr kr kr rfl (Ql ev7) rfl (fun cx => ?_)
         refine aA [(9,[])] 1 [⟨[10],36,86,87⟩,⟨[10],36,81,82⟩] fun cx => ?_
         refine bA 10 ?_
         refine LAt.eqSG true (t := 169) (ty := 169) (ty' := 4) (x := (.tmp 85)) (y := (.tmp 90)) (d := 91) (g := none) ((v6.Tag == v7.Tag) && ((v6.Mac == v7.Mac) && ((v6.Port == v7.Port) && ((v6.Age == v7.Age) && ((v6.Sc == v7.Sc) && true))))) _ kr kr kr kr rfl ?_
         refine fA ?_
         exact eE [91,78,77,3,2] [3,2]
        refine sT ⟨126,0,[sB 91 (!((v6.Tag == v7.Tag) && ((v6.Mac == v7.Mac) && ((v6.Port == v7.Port) && ((v6.Age == v7.Age) && ((v6.Sc == v7.Sc) && true)))))),sI 78 y4,sI 77 (x0.F.length : Int),sA 3 3 11 0,sA 2 2 11 0],[(3,(CV.frzRow (zA.row x1))),(2,(CV.frzRow (zA.row x0)))]⟩ ?_
        cases h12 : (!((v6.Tag == v7.Tag) && ((v6.Mac == v7.Mac) && ((v6.Port == v7.Port) && ((v6.Age == v7.Age) && ((v6.Sc == v7.Sc) && true))))))
        ·have H := zE h12 H
         refine nB_ ?_
         refine tK ?_
         refine eA 2 0x6000000000000000000c 12 ?_
         exact jB mo5 (IntKind.wrap .i64 (y4 + 1)) H [78,77,3,2] [3,2]
        have H := zF h12 H
        refine tB_ ?_
        refine gA 1 16 0 ?_
        refine te ?_
        obtain rfl := si H
        have H := Ho5
        dsimp only at H
        exact fF H
       rintro _ H
       have H : (Qu n x0 x1) = some r := H
       unfold Qu at H
       refine rA 6 ?_
       refine sL 0x400000000000000000000000c 12 ⟨126,0,[sB 98 (x0.Tk == x1.Tk),sA 3 3 11 0,sA 2 2 11 0],[(3,(CV.frzRow (zA.row x1))),(2,(CV.frzRow (zA.row x0)))]⟩ ?_
       cases h7 : (x0.Tk == x1.Tk)
       ·have H := zE h7 H
        refine uA 28 16 0 ?_
        exact te (fF H)
       have H := zF h7 H
       refine lA 7 ?_
       refine sL 0x20000000000000000000000000c 12 ⟨126,0,[sB 105 (x0.Pa == x1.Pa),sA 3 3 11 0,sA 2 2 11 0],[(3,(CV.frzRow (zA.row x1))),(2,(CV.frzRow (zA.row x0)))]⟩ ?_
       cases h8 : (x0.Pa == x1.Pa)
       ·have H := zE h8 H
        refine uA 21 16 0 ?_
        exact te (fF H)
       have H := zF h8 H
       refine lA 7 ?_
       refine sL 0x1000000000000000000000000000c 12 ⟨126,0,[sB 112 (x0.Wo == x1.Wo),sA 3 3 11 0,sA 2 2 11 0],[(3,(CV.frzRow (zA.row x1))),(2,(CV.frzRow (zA.row x0)))]⟩ ?_
       cases h9 : (x0.Wo == x1.Wo)
       ·have H := zE h9 H
        refine uA 14 16 0 ?_
        exact te (fF H)
       have H := zF h9 H
       refine lA 7 ?_
       refine sL 0x80000000000000000000000000000c 12 ⟨126,0,[sB 119 (x0.Dr == x1.Dr),sA 3 3 11 0,sA 2 2 11 0],[(3,(CV.frzRow (zA.row x1))),(2,(CV.frzRow (zA.row x0)))]⟩ ?_
       cases h10 : (x0.Dr == x1.Dr)
       ·have H := zE h10 H
        refine uA 7 16 0 ?_
        exact te (fF H)
       have H := zF h10 H
       refine uA 7 16 0 ?_
       exact te (fJ [(false,[cB (x0.Ve == x1.Ve)])] H)
      refine tA h6 ?_
      refine gA 1 16 0 ?_
      exact te (fF H)
     have H := zF h5 H
     refine uA 9 72057594037927948 12 ?_
     refine tB_ ?_
     refine gA 1 16 0 ?_
     exact te (fF H)
    have H := zF h4 H
    refine uA 19 72057594037927948 12 ?_
    refine tB_ ?_
    refine gA 1 16 0 ?_
    exact te (fF H)
   have H := zF h3 H
   refine uA 28 72057594037927948 12 ?_
   refine tB_ ?_
   refine gA 1 16 0 ?_
   exact te (fF H)
  have H := zF h2 H
  refine uA 37 72057594037927948 12 ?_
  refine tB_ ?_
  refine gA 1 16 0 ?_
  exact te (fF H)
 have H := zF h1 H
 refine uA 44 72057594037927948 12 ?_
 refine tB_ ?_
 refine gA 1 16 0 ?_
 exact te (fF H)
def J0 (n : Nat) : Option (Bool) :=
  (some true)
def ZU (n : Nat) : Nat → Net → Net → Int → Option ((Unit) ⊕ (Bool))
  | 0,_,_,_ => none
  | mo4 + 1,x0,x1,y3 => (bif (decide (y3 < (x0.Said.length : Int))) then ((idx x0.Said y3).bind fun v5 => ((idx x1.Said y3).bind fun v6 => (bif (!((v5.Link == v6.Link) && ((v5.Back == v6.Back) && (((v5.V.Root == v6.V.Root) && ((v5.V.Co == v6.V.Co) && ((v5.V.Hops == v6.V.Hops) && ((v5.V.Bridge == v6.V.Bridge) && ((v5.V.Port == v6.V.Port) && true))))) && true)))) then (some (Sum.inr false)) else (ZU n mo4 x0 x1 (IntKind.wrap .i64 (y3 + 1)))))) else (some (Sum.inl ())))
def Yq (n : Nat) (x0 : Net) (x1 : Net) : Option (Bool) :=
  ((ZU n n x0 x1 0).bind fun o => match o with | .inl _ => (J0 n) | .inr r => some r)
def ZV (n : Nat) : Nat → Net → Net → Int → Option ((Unit) ⊕ (Bool))
  | 0,_,_,_ => none
  | mo7 + 1,x0,x1,y2 => (bif (decide (y2 < (x0.Ls.length : Int))) then ((idx x0.Ls y2).bind fun v8 => ((idx x1.Ls y2).bind fun v9 => (bif (!((v8.A == v9.A) && ((v8.P == v9.P) && ((v8.B == v9.B) && ((v8.Q == v9.Q) && true))))) then (some (Sum.inr false)) else (ZV n mo7 x0 x1 (IntKind.wrap .i64 (y2 + 1)))))) else (some (Sum.inl ())))
def Yp (n : Nat) (x0 : Net) (x1 : Net) : Option (Bool) :=
  ((ZV n n x0 x1 0).bind fun o => match o with | .inl _ => (Yq n x0 x1) | .inr r => some r)
def ZW (n : Nat) : Nat → Net → Net → Int → Option ((Unit) ⊕ (Bool))
  | 0,_,_,_ => none
  | mo10 + 1,x0,x1,y1 => (bif (decide (y1 < (x0.Bs.length : Int))) then ((idx x0.Bs y1).bind fun v11 => ((idx x1.Bs y1).bind fun v12 => ((YT n v11 v12).bind fun r13 => (bif (!r13) then (some (Sum.inr false)) else (ZW n mo10 x0 x1 (IntKind.wrap .i64 (y1 + 1))))))) else (some (Sum.inl ())))
def YB (n : Nat) (x0 : Net) (x1 : Net) : Option (Bool) :=
  (bif ((x0.Bs.length : Int) != (x1.Bs.length : Int)) then (some false) else (bif ((x0.Ls.length : Int) != (x1.Ls.length : Int)) then (some false) else (bif ((x0.Said.length : Int) != (x1.Said.length : Int)) then (some false) else ((ZW n n x0 x1 0).bind fun o => match o with | .inl _ => (Yp n x0 x1) | .inr r => some r))))
def zM7 : Tab := ⟨12,[0,1,0,6,8,0,32,0,192,256,528,1024],[0,1,0,6,8,0,32,0,192,256,528,1024],[0,1,0,7,15,0,32,0,224,480,1023,2047]⟩
theorem zDW : za (rg Tryz.f51 6) zM7 = true := kr
theorem zFA (n : Nat) (x0 : Net) (x1 : Net) (r : Bool) (H : YB n x0 x1 = some r) : zI Tryz.prog 51 [.val true (CV.frzRow (Net.row x0)),.val true (CV.frzRow (Net.row x1))] [.val false [.lit (.bool r)]] [] := by
 refine cW Tryz.func51 (fun g d => sl [g 0,sl [g 1] (cn 32 (sl [g 2] .ret) .skip),sl [g 3] (.block 0 (.loop (sl [sl [g 4] (cn 37 .skip (.exit 0)),.block 1 (sl [d 6] (cn 51 (sl [g 7] .ret) .skip))] (g 5)))),sl [g 8] (.block 2 (.loop (sl [sl [g 9] (cn 56 .skip (.exit 2)),.block 3 (sl [d 11] (cn 69 (sl [g 12] .ret) .skip))] (g 10)))),sl [g 13] (.block 4 (.loop (sl [sl [g 14] (cn 74 .skip (.exit 4)),.block 5 (sl [d 16] (cn 87 (sl [g 17] .ret) .skip))] (g 15)))),g 18] .ret) [.tmp 4] fun cx => ?_
 unfold YB at H
 refine gA 3 12 12 ?_
 refine tS ?_
 refine rA 2 ?_
 refine kF x0.Bs zA.row ?_
 refine lA 2 ?_
 refine kF x1.Bs zA.row ?_
 refine lA 2 ?_
 refine sL 32780 12 ⟨88,0,[sB 15 ((x0.Bs.length : Int) != (x1.Bs.length : Int)),sA 3 3 3 0,sA 2 2 3 0],[(3,(CV.frzRow (Net.row x1))),(2,(CV.frzRow (Net.row x0)))]⟩ ?_
 cases h1 : ((x0.Bs.length : Int) != (x1.Bs.length : Int))
 ·have H := zE h1 H
  refine lA 2 ?_
  refine kF x0.Ls Link.row ?_
  refine lA 2 ?_
  refine kF x1.Ls Link.row ?_
  refine lA 3 ?_
  refine sL 16777228 12 ⟨88,0,[sB 24 ((x0.Ls.length : Int) != (x1.Ls.length : Int)),sA 3 3 3 0,sA 2 2 3 0],[(3,(CV.frzRow (Net.row x1))),(2,(CV.frzRow (Net.row x0)))]⟩ ?_
  cases h2 : ((x0.Ls.length : Int) != (x1.Ls.length : Int))
  ·have H := zE h2 H
   refine lA 2 ?_
   refine kF x0.Said Say.row ?_
   refine lA 2 ?_
   refine kF x1.Said Say.row ?_
   refine uA 2 4294967308 12 ?_
   obtain ⟨h3,H⟩ | ⟨h3,H⟩ := bC H
   ·refine nA h3 ?_
    refine tK ?_
    refine tS ?_
    refine gA 1 44 12 ?_
    obtain ⟨o10,eo10,Ho10⟩ := bs H
    clear H
    refine Tr.mid (ι := Unit) (fun v => ⟨88,0,[sA 3 3 3 0,sA 2 2 3 0],[(3,(CV.frzRow (Net.row x1))),(2,(CV.frzRow (Net.row x0)))]⟩) (fun v => Yp n x0 x1 = some r) ?_ ?_
    ·refine tB ?_
     refine Tr.loop (ι := Nat × (Int)) (fun v => ⟨88,0,[sI 5 v.2,sA 3 3 3 0,sA 2 2 3 0],[(3,(CV.frzRow (Net.row x1))),(2,(CV.frzRow (Net.row x0)))]⟩) (fun v => ZW n v.1 x0 x1 v.2 = some o10) (fun v => v.1) (n,0) eo10 (St.sub_of [5,3,2] [3,2] kr) ?_
     rintro ⟨mo10,y1⟩ H
     have H : ZW n mo10 x0 x1 y1 = some o10 := H
     obtain _ | mo10 := mo10
     ·exact nN H
     rw [ZW] at H
     refine tS ?_
     refine rA 3 ?_
     refine kF x0.Bs zA.row ?_
     refine uA 1 137438953516 12 ?_
     obtain ⟨h8,H⟩ | ⟨h8,H⟩ := bC H
     ·refine nA h8 ?_
      refine Tr.exit ?_
      refine aJ ?_
      obtain rfl := si H
      have H := Ho10
      dsimp only at H
      exact jA () H [3,2] [3,2]
     refine tA h8 ?_
     refine tK ?_
     refine tS ?_
     refine tB ?_
     obtain ⟨v11,ev11,H⟩ := bs H
     obtain ⟨v12,ev12,H⟩ := bs H
     obtain ⟨r13,er13,H⟩ := bs H
     refine Tr.draws mixed 12 kr ⟨88,0,[sB 51 (!r13),sI 5 y1,sA 3 3 3 0,sA 2 2 3 0],[(3,(CV.frzRow (Net.row x1))),(2,(CV.frzRow (Net.row x0)))]⟩ (fun cx => ?_) ?_
     ·refine mA zDW [(0,[]),(1,[10]),(2,[])] 9 [⟨[10],63,40,41⟩] fun cx => ?_
      refine iN zDW 3 zA.row ev11 fun cx => ?_
      refine mA zDW [(4,[]),(5,[]),(6,[10]),(7,[])] 4 [⟨[10],63,45,46⟩,⟨[10],63,40,41⟩] fun cx => ?_
      refine iN zDW 8 zA.row ev12 fun cx => ?_
      refine mA zDW [(9,[])] 2 [⟨[10],63,45,46⟩,⟨[10],63,40,41⟩] fun cx => ?_
      refine mC zDW 10 ?_
      refine vA [.rd,.rd] (zGt n v11 v12 r13 er13) ?_
      refine fA ?_
      refine mA zDW [(11,[])] 0 [⟨[10],63,45,46⟩,⟨[10],63,40,41⟩] fun cx => ?_
      exact mE zDW [51,5,3,2] [3,2]
     refine sT ⟨88,0,[sB 51 (!r13),sI 5 y1,sA 3 3 3 0,sA 2 2 3 0],[(3,(CV.frzRow (Net.row x1))),(2,(CV.frzRow (Net.row x0)))]⟩ ?_
     cases h9 : (!r13)
     ·have H := zE h9 H
      refine nB_ ?_
      refine tK ?_
      refine eA 3 44 12 ?_
      exact jB mo10 (IntKind.wrap .i64 (y1 + 1)) H [5,3,2] [3,2]
     have H := zF h9 H
     refine tB_ ?_
     refine gA 1 16 0 ?_
     refine te ?_
     obtain rfl := si H
     have H := Ho10
     dsimp only at H
     exact fF H
    rintro _ H
    have H : (Yp n x0 x1) = some r := H
    unfold Yp at H
    refine tS ?_
    refine gA 1 76 12 ?_
    obtain ⟨o7,eo7,Ho7⟩ := bs H
    clear H
    refine Tr.mid (ι := Unit) (fun v => ⟨88,0,[sA 3 3 3 0,sA 2 2 3 0],[(3,(CV.frzRow (Net.row x1))),(2,(CV.frzRow (Net.row x0)))]⟩) (fun v => Yq n x0 x1 = some r) ?_ ?_
    ·refine tB ?_
     refine Tr.loop (ι := Nat × (Int)) (fun v => ⟨88,0,[sI 6 v.2,sA 3 3 3 0,sA 2 2 3 0],[(3,(CV.frzRow (Net.row x1))),(2,(CV.frzRow (Net.row x0)))]⟩) (fun v => ZV n v.1 x0 x1 v.2 = some o7) (fun v => v.1) (n,0) eo7 (St.sub_of [6,3,2] [3,2] kr) ?_
     rintro ⟨mo7,y2⟩ H
     have H : ZV n mo7 x0 x1 y2 = some o7 := H
     obtain _ | mo7 := mo7
     ·exact nN H
     rw [ZV] at H
     refine tS ?_
     refine rA 3 ?_
     refine kF x0.Ls Link.row ?_
     refine uA 1 72057594037928012 12 ?_
     obtain ⟨h6,H⟩ | ⟨h6,H⟩ := bC H
     ·refine nA h6 ?_
      refine Tr.exit ?_
      refine aJ ?_
      obtain rfl := si H
      have H := Ho7
      dsimp only at H
      exact jA () H [3,2] [3,2]
     refine tA h6 ?_
     refine tK ?_
     refine tS ?_
     refine tB ?_
     obtain ⟨v8,ev8,H⟩ := bs H
     obtain ⟨v9,ev9,H⟩ := bs H
     refine Tr.draws mixed 11 kr ⟨88,0,[sB 69 (!((v8.A == v9.A) && ((v8.P == v9.P) && ((v8.B == v9.B) && ((v8.Q == v9.Q) && true))))),sI 6 y2,sA 3 3 3 0,sA 2 2 3 0],[(3,(CV.frzRow (Net.row x1))),(2,(CV.frzRow (Net.row x0)))]⟩ (fun cx => ?_) ?_
     ·refine aA [(0,[]),(1,[10]),(2,[])] 8 [⟨[10],64,59,60⟩] fun cx => ?_
      refine aI tOk 3 64 0 60 61 62 none ⟨(.box 2),[(0,0)],1,false,4,(CV.frzEs (x0.Ls.map Link.row))⟩ y2 (Link.row v8) _ kr kr kr kr kr kr rfl (Ql ev8) rfl (fun cx => ?_)
      refine aA [(4,[]),(5,[]),(6,[10]),(7,[])] 3 [⟨[10],64,64,65⟩,⟨[10],64,59,60⟩] fun cx => ?_
      refine aI tOk 8 64 0 65 66 67 none ⟨(.box 3),[(0,0)],1,false,4,(CV.frzEs (x1.Ls.map Link.row))⟩ y2 (Link.row v9) _ kr kr kr kr kr kr rfl (Ql ev9) rfl (fun cx => ?_)
      refine aA [(9,[])] 1 [⟨[10],64,64,65⟩,⟨[10],64,59,60⟩] fun cx => ?_
      refine bA 10 ?_
      refine LAt.eqSG true (t := 114) (ty := 114) (ty' := 4) (x := (.tmp 63)) (y := (.tmp 68)) (d := 69) (g := none) ((v8.A == v9.A) && ((v8.P == v9.P) && ((v8.B == v9.B) && ((v8.Q == v9.Q) && true)))) _ kr kr kr kr rfl ?_
      refine fA ?_
      exact eE [69,6,3,2] [3,2]
     refine sT ⟨88,0,[sB 69 (!((v8.A == v9.A) && ((v8.P == v9.P) && ((v8.B == v9.B) && ((v8.Q == v9.Q) && true))))),sI 6 y2,sA 3 3 3 0,sA 2 2 3 0],[(3,(CV.frzRow (Net.row x1))),(2,(CV.frzRow (Net.row x0)))]⟩ ?_
     cases h7 : (!((v8.A == v9.A) && ((v8.P == v9.P) && ((v8.B == v9.B) && ((v8.Q == v9.Q) && true)))))
     ·have H := zE h7 H
      refine nB_ ?_
      refine tK ?_
      refine eA 3 76 12 ?_
      exact jB mo7 (IntKind.wrap .i64 (y2 + 1)) H [6,3,2] [3,2]
     have H := zF h7 H
     refine tB_ ?_
     refine gA 1 16 0 ?_
     refine te ?_
     obtain rfl := si H
     have H := Ho7
     dsimp only at H
     exact fF H
    rintro _ H
    have H : (Yq n x0 x1) = some r := H
    unfold Yq at H
    refine tS ?_
    refine gA 1 140 12 ?_
    obtain ⟨o4,eo4,Ho4⟩ := bs H
    clear H
    refine Tr.mid (ι := Unit) (fun v => ⟨88,0,[],[]⟩) (fun v => J0 n = some r) ?_ ?_
    ·refine tB ?_
     refine Tr.loop (ι := Nat × (Int)) (fun v => ⟨88,0,[sI 7 v.2,sA 3 3 3 0,sA 2 2 3 0],[(3,(CV.frzRow (Net.row x1))),(2,(CV.frzRow (Net.row x0)))]⟩) (fun v => ZU n v.1 x0 x1 v.2 = some o4) (fun v => v.1) (n,0) eo4 (St.sub_of [7,3,2] [3,2] kr) ?_
     rintro ⟨mo4,y3⟩ H
     have H : ZU n mo4 x0 x1 y3 = some o4 := H
     obtain _ | mo4 := mo4
     ·exact nN H
     rw [ZU] at H
     refine tS ?_
     refine rA 3 ?_
     refine kF x0.Said Say.row ?_
     refine uA 1 0x400000000000000008c 12 ?_
     obtain ⟨h4,H⟩ | ⟨h4,H⟩ := bC H
     ·refine nA h4 ?_
      refine Tr.exit ?_
      refine aJ ?_
      obtain rfl := si H
      have H := Ho4
      dsimp only at H
      exact jA () H [] []
     refine tA h4 ?_
     refine tK ?_
     refine tS ?_
     refine tB ?_
     obtain ⟨v5,ev5,H⟩ := bs H
     obtain ⟨v6,ev6,H⟩ := bs H
     refine Tr.draws mixed 11 kr ⟨88,0,[sB 87 (!((v5.Link == v6.Link) && ((v5.Back == v6.Back) && (((v5.V.Root == v6.V.Root) && ((v5.V.Co == v6.V.Co) && ((v5.V.Hops == v6.V.Hops) && ((v5.V.Bridge == v6.V.Bridge) && ((v5.V.Port == v6.V.Port) && true))))) && true)))),sI 7 y3,sA 3 3 3 0,sA 2 2 3 0],[(3,(CV.frzRow (Net.row x1))),(2,(CV.frzRow (Net.row x0)))]⟩ (fun cx => ?_) ?_
     ·refine aA [(0,[]),(1,[10]),(2,[])] 8 [⟨[10],65,77,78⟩] fun cx => ?_
      refine aI tOk 3 65 0 78 79 80 none ⟨(.box 2),[(0,0)],2,false,7,(CV.frzEs (x0.Said.map Say.row))⟩ y3 (Say.row v5) _ kr kr kr kr kr kr rfl (Ql ev5) rfl (fun cx => ?_)
      refine aA [(4,[]),(5,[]),(6,[10]),(7,[])] 3 [⟨[10],65,82,83⟩,⟨[10],65,77,78⟩] fun cx => ?_
      refine aI tOk 8 65 0 83 84 85 none ⟨(.box 3),[(0,0)],2,false,7,(CV.frzEs (x1.Said.map Say.row))⟩ y3 (Say.row v6) _ kr kr kr kr kr kr rfl (Ql ev6) rfl (fun cx => ?_)
      refine aA [(9,[])] 1 [⟨[10],65,82,83⟩,⟨[10],65,77,78⟩] fun cx => ?_
      refine bA 10 ?_
      refine LAt.eqSG true (t := 180) (ty := 180) (ty' := 4) (x := (.tmp 81)) (y := (.tmp 86)) (d := 87) (g := none) ((v5.Link == v6.Link) && ((v5.Back == v6.Back) && (((v5.V.Root == v6.V.Root) && ((v5.V.Co == v6.V.Co) && ((v5.V.Hops == v6.V.Hops) && ((v5.V.Bridge == v6.V.Bridge) && ((v5.V.Port == v6.V.Port) && true))))) && true))) _ kr kr kr kr rfl ?_
      refine fA ?_
      exact eE [87,7,3,2] [3,2]
     refine sT ⟨88,0,[sB 87 (!((v5.Link == v6.Link) && ((v5.Back == v6.Back) && (((v5.V.Root == v6.V.Root) && ((v5.V.Co == v6.V.Co) && ((v5.V.Hops == v6.V.Hops) && ((v5.V.Bridge == v6.V.Bridge) && ((v5.V.Port == v6.V.Port) && true))))) && true)))),sI 7 y3,sA 3 3 3 0,sA 2 2 3 0],[(3,(CV.frzRow (Net.row x1))),(2,(CV.frzRow (Net.row x0)))]⟩ ?_
     cases h5 : (!((v5.Link == v6.Link) && ((v5.Back == v6.Back) && (((v5.V.Root == v6.V.Root) && ((v5.V.Co == v6.V.Co) && ((v5.V.Hops == v6.V.Hops) && ((v5.V.Bridge == v6.V.Bridge) && ((v5.V.Port == v6.V.Port) && true))))) && true))))
     ·have H := zE h5 H
      refine nB_ ?_
      refine tK ?_
      refine eA 3 140 12 ?_
      exact jB mo4 (IntKind.wrap .i64 (y3 + 1)) H [7,3,2] [3,2]
     have H := zF h5 H
     refine tB_ ?_
     refine gA 1 16 0 ?_
     refine te ?_
     obtain rfl := si H
     have H := Ho4
     dsimp only at H
     exact fF H
    rintro _ H
    have H : (J0 n) = some r := H
    unfold J0 at H
    refine gA 1 16 0 ?_
    exact te (fT H)
   refine tA h3 ?_
   refine gA 1 16 0 ?_
   exact te (fF H)
  have H := zF h2 H
  refine uA 8 4294967308 12 ?_
  refine tB_ ?_
  refine gA 1 16 0 ?_
  exact te (fF H)
 have H := zF h1 H
 refine uA 17 4294967308 12 ?_
 refine tB_ ?_
 refine gA 1 16 0 ?_
 exact te (fF H)
def Yo (n : Nat) (y7 : (List zA)) (y8 : (List Link)) (y9 : (List Say)) : Option (Bool) :=
  ((ZJ n (⟨y7,y8,y9⟩ : Net)).bind fun r10 => (some r10))
def ZT (n : Nat) : Nat → Net × (List Event) → Int → (List zA) → (List Link) → (List Say) → Option (((List zA) × (List Link) × (List Say)) ⊕ (Bool))
  | 0,_,_,_,_,_ => none
  | mo11 + 1,r2,y3,y4,y5,y6 => (bif (decide (y3 < (r2.2.length : Int))) then ((idx r2.2 y3).bind fun v12 => ((JX n (⟨y4,y5,y6⟩ : Net) v12).bind fun r13 => ((YH n (⟨y4,y5,y6⟩ : Net) v12).bind fun r14 => (bif (!(r13.2 == r14.2)) then (some (Sum.inr false)) else ((YB n r13.1 r14.1).bind fun r15 => (bif (!r15) then (some (Sum.inr false)) else ((ZJ n r13.1).bind fun r16 => (bif (!r16) then (some (Sum.inr false)) else (bif (!r13.2) then ((YB n r13.1 (⟨y4,y5,y6⟩ : Net)).bind fun r17 => (bif (!r17) then (some (Sum.inr false)) else (ZT n mo11 r2 (IntKind.wrap .i64 (y3 + 1)) r13.1.Bs r13.1.Ls r13.1.Said))) else (ZT n mo11 r2 (IntKind.wrap .i64 (y3 + 1)) r13.1.Bs r13.1.Ls r13.1.Said)))))))))) else (some (Sum.inl (y4,y5,y6))))
def zA6 (n : Nat) (x0 : (List Int)) : Option (Bool) :=
  ((zDf n x0).bind fun r1 => (bif r1 then (some true) else ((Jk n x0).bind fun r2 => ((ZT n n r2 0 r2.1.Bs r2.1.Ls r2.1.Said).bind fun o => match o with | .inl (y7,y8,y9) => (Yo n y7 y8 y9) | .inr r => some r))))
def T7x7 : Tab := ⟨12,[0,0,0,6,8,17,32,64,64,0,767,2047],[0,0,0,6,8,17,32,64,64,0,640,256],[0,0,0,6,14,31,63,127,127,0,767,2047]⟩
theorem Qp : za (rg Tryz.f7 7) T7x7 = true := kr
def T7x8 : Tab := ⟨12,[0,0,0,6,8,17,32,64,64,0,767,2047],[0,0,0,6,8,17,32,64,64,0,640,256],[0,0,0,6,14,31,63,127,127,0,767,2047]⟩
theorem Qq : za (rg Tryz.f7 8) T7x8 = true := kr
theorem zGy (n : Nat) (y3 : Int) (r2 : Net × (List Event)) (v12 : Event) (y4 : (List zA)) (y5 : (List Link)) (y6 : (List Say)) (r13 : Net × Bool) (ev12 : (idx r2.2 y3) = some v12) (er13 : (JX n (⟨y4,y5,y6⟩ : Net) v12) = some r13) (cx : Cx) : AT Tryz.prog cx (rg Tryz.f7 7) [] 12 [] ⟨68,0,[sB 20 (decide (y3 < (r2.2.length : Int))),sI 5 y3,sC 4 (cL 2 r2.2 Event.row),sA 3 3 3 0],[(3,[cL 11 y4 zA.row,cL 4 y5 Link.row,cL 7 y6 Say.row])]⟩ (fun s => s = ⟨68,0,[sB 7 r13.2,sA 6 6 3 0,sI 5 y3,sC 4 (cL 2 r2.2 Event.row),sA 3 3 3 0],[(6,(Net.row r13.1)),(3,[cL 11 y4 zA.row,cL 4 y5 Link.row,cL 7 y6 Say.row])]⟩) := by
 refine mA Qp [(0,[5,10]),(1,[]),(2,[])] 9 [⟨[5,10],67,3,24⟩] fun cx => ?_
 refine oN Qp 3 Event.row ev12 fun cx => ?_
 refine mB2 tOk Qp 4 9 kr (And.intro kr ?_) (And.intro kr ?_)
 ·refine dE (tI 71) (.slot 4) [(0,(y3.toNat))] 2 0 [cL 2 r2.2 Event.row] (Event.row v12) (zCS rfl (zM ev12).2) ?_
  refine fA ?_
  refine mB2 tOk Qp 5 9 kr (And.intro kr ?_) (And.intro kr ?_)
  ·refine vB [.rd,.rd] [.box 3] (zE7 n (⟨y4,y5,y6⟩ : Net) v12 r13 er13) (.inr (zV (Net.row_mine _) (zV (zG zK zl) zp))) ?_
   refine fA ?_
   refine AT.movT tOk 6 (ty := 68) (t := 29) (d := 23) (g := none) [(true,(Net.row r13.1)),(false,[cB r13.2])] _ kr (oM Qp kr) (dM Qp kr) (.inl rfl) kr kr kr kr rfl (fun cx => ?_)
   refine mA Qp [(7,[]),(8,[])] 3 [⟨[5,10],67,3,24⟩] fun cx => ?_
   refine mC Qp 9 ?_
   refine lA 1 ?_
   refine fA ?_
   refine sA_ 3238002808 72 ⟨68,0,[sA 6 6 3 0,sB 31 r13.2,sV 30 (Net.row r13.1),sR 24 3 3 0 3 true,sI 5 y3,sC 4 (cL 2 r2.2 Event.row),sA 3 3 3 0],[(6,[cL 11 ([] : List zA) zA.row,cL 4 ([] : List Link) Link.row,cL 7 ([] : List Say) Say.row]),(3,[cL 11 y4 zA.row,cL 4 y5 Link.row,cL 7 y6 Say.row])]⟩ ?_
   refine mC Qp 10 ?_
   refine lA 1 ?_
   refine fA ?_
   refine mA Qp [(11,[])] 0 [⟨[5,10],67,3,24⟩] fun cx => ?_
   exact mE Qp [7,6,5,4,3] [6,3]
  ·refine lA 1 ?_
   refine fA ?_
   refine mC Qp 5 ?_
   refine vB [.rd,.rd] [.box 3] (zE7 n (⟨y4,y5,y6⟩ : Net) v12 r13 er13) (.inr (zV (Net.row_mine _) (zV (zG zK zl) zp))) ?_
   refine fA ?_
   refine AT.movT tOk 6 (ty := 68) (t := 29) (d := 23) (g := none) [(true,(Net.row r13.1)),(false,[cB r13.2])] _ kr (oM Qp kr) (dM Qp kr) (.inl rfl) kr kr kr kr rfl (fun cx => ?_)
   refine mA Qp [(7,[]),(8,[])] 2 [⟨[5,10],67,3,24⟩] fun cx => ?_
   refine sA_ 3238002808 72 ⟨68,0,[sB 31 r13.2,sV 30 (Net.row r13.1),sA 6 6 3 0,sR 24 3 3 0 3 true,sI 5 y3,sC 4 (cL 2 r2.2 Event.row),sA 3 3 3 0],[(6,[cL 11 ([] : List zA) zA.row,cL 4 ([] : List Link) Link.row,cL 7 ([] : List Say) Say.row]),(3,[cL 11 y4 zA.row,cL 4 y5 Link.row,cL 7 y6 Say.row])]⟩ ?_
   refine mC Qp 10 ?_
   refine lA 1 ?_
   refine fA ?_
   refine mA Qp [(11,[])] 0 [⟨[5,10],67,3,24⟩] fun cx => ?_
   exact mE Qp [7,6,5,4,3] [6,3]
 ·refine lA 1 ?_
  refine fA ?_
  refine mC Qp 4 ?_
  refine dE (tI 71) (.slot 4) [(0,(y3.toNat))] 2 0 [cL 2 r2.2 Event.row] (Event.row v12) (zCS rfl (zM ev12).2) ?_
  refine fA ?_
  refine mC Qp 5 ?_
  refine vB [.rd,.rd] [.box 3] (zE7 n (⟨y4,y5,y6⟩ : Net) v12 r13 er13) (.inr (zV (Net.row_mine _) (zV (zG zK zl) zp))) ?_
  refine fA ?_
  refine AT.movT tOk 6 (ty := 68) (t := 29) (d := 23) (g := none) [(true,(Net.row r13.1)),(false,[cB r13.2])] _ kr (oM Qp kr) (dM Qp kr) (.inl rfl) kr kr kr kr rfl (fun cx => ?_)
  refine mA Qp [(7,[]),(8,[])] 2 [⟨[5,10],67,3,24⟩] fun cx => ?_
  refine sA_ 3238002808 72 ⟨68,0,[sB 31 r13.2,sV 30 (Net.row r13.1),sA 6 6 3 0,sR 24 3 3 0 3 true,sI 5 y3,sC 4 (cL 2 r2.2 Event.row),sA 3 3 3 0],[(6,[cL 11 ([] : List zA) zA.row,cL 4 ([] : List Link) Link.row,cL 7 ([] : List Say) Say.row]),(3,[cL 11 y4 zA.row,cL 4 y5 Link.row,cL 7 y6 Say.row])]⟩ ?_
  refine mC Qp 10 ?_
  refine lA 1 ?_
  refine fA ?_
  refine mA Qp [(11,[])] 0 [⟨[5,10],67,3,24⟩] fun cx => ?_
  exact mE Qp [7,6,5,4,3] [6,3]
theorem zGz (n : Nat) (y3 : Int) (r2 : Net × (List Event)) (v12 : Event) (y4 : (List zA)) (y5 : (List Link)) (y6 : (List Say)) (r14 : Net × Bool) (r13 : Net × Bool) (ev12 : (idx r2.2 y3) = some v12) (er14 : (YH n (⟨y4,y5,y6⟩ : Net) v12) = some r14) (cx : Cx) : AT Tryz.prog cx (rg Tryz.f7 8) [] 12 [] ⟨68,0,[sB 7 r13.2,sA 6 6 3 0,sI 5 y3,sC 4 (cL 2 r2.2 Event.row),sA 3 3 3 0],[(6,(Net.row r13.1)),(3,[cL 11 y4 zA.row,cL 4 y5 Link.row,cL 7 y6 Say.row])]⟩ (fun s => s = ⟨68,0,[sB 9 r14.2,sA 8 8 3 0,sB 7 r13.2,sA 6 6 3 0,sI 5 y3,sC 4 (cL 2 r2.2 Event.row),sA 3 3 3 0],[(8,(Net.row r14.1)),(6,(Net.row r13.1)),(3,[cL 11 y4 zA.row,cL 4 y5 Link.row,cL 7 y6 Say.row])]⟩) := by
 refine mA Qq [(0,[5,10]),(1,[]),(2,[])] 9 [⟨[5,10],67,3,33⟩] fun cx => ?_
 refine oN Qq 3 Event.row ev12 fun cx => ?_
 refine mB2 tOk Qq 4 9 kr (And.intro kr ?_) (And.intro kr ?_)
 ·refine dE (tI 71) (.slot 4) [(0,(y3.toNat))] 2 0 [cL 2 r2.2 Event.row] (Event.row v12) (zCS rfl (zM ev12).2) ?_
  refine fA ?_
  refine mB2 tOk Qq 5 9 kr (And.intro kr ?_) (And.intro kr ?_)
  ·refine vB [.rd,.rd] [.box 3] (zDl n (⟨y4,y5,y6⟩ : Net) v12 r14 er14) (.inr (zV (Net.row_mine _) (zV (zG zK zl) zp))) ?_
   refine fA ?_
   refine AT.movT tOk 6 (ty := 68) (t := 38) (d := 32) (g := none) [(true,(Net.row r14.1)),(false,[cB r14.2])] _ kr (oM Qq kr) (dM Qq kr) (.inl rfl) kr kr kr kr rfl (fun cx => ?_)
   refine mA Qq [(7,[]),(8,[])] 3 [⟨[5,10],67,3,33⟩] fun cx => ?_
   refine mC Qq 9 ?_
   refine lA 1 ?_
   refine fA ?_
   refine sA_ 1657857376760 328 ⟨68,0,[sA 8 8 3 0,sB 40 r14.2,sV 39 (Net.row r14.1),sR 33 3 3 0 3 true,sB 7 r13.2,sA 6 6 3 0,sI 5 y3,sC 4 (cL 2 r2.2 Event.row),sA 3 3 3 0],[(8,[cL 11 ([] : List zA) zA.row,cL 4 ([] : List Link) Link.row,cL 7 ([] : List Say) Say.row]),(6,(Net.row r13.1)),(3,[cL 11 y4 zA.row,cL 4 y5 Link.row,cL 7 y6 Say.row])]⟩ ?_
   refine mC Qq 10 ?_
   refine lA 1 ?_
   refine fA ?_
   refine mA Qq [(11,[])] 0 [⟨[5,10],67,3,33⟩] fun cx => ?_
   exact mE Qq [9,8,7,6,5,4,3] [8,6,3]
  ·refine lA 1 ?_
   refine fA ?_
   refine mC Qq 5 ?_
   refine vB [.rd,.rd] [.box 3] (zDl n (⟨y4,y5,y6⟩ : Net) v12 r14 er14) (.inr (zV (Net.row_mine _) (zV (zG zK zl) zp))) ?_
   refine fA ?_
   refine AT.movT tOk 6 (ty := 68) (t := 38) (d := 32) (g := none) [(true,(Net.row r14.1)),(false,[cB r14.2])] _ kr (oM Qq kr) (dM Qq kr) (.inl rfl) kr kr kr kr rfl (fun cx => ?_)
   refine mA Qq [(7,[]),(8,[])] 2 [⟨[5,10],67,3,33⟩] fun cx => ?_
   refine sA_ 1657857376760 328 ⟨68,0,[sB 40 r14.2,sV 39 (Net.row r14.1),sA 8 8 3 0,sR 33 3 3 0 3 true,sB 7 r13.2,sA 6 6 3 0,sI 5 y3,sC 4 (cL 2 r2.2 Event.row),sA 3 3 3 0],[(8,[cL 11 ([] : List zA) zA.row,cL 4 ([] : List Link) Link.row,cL 7 ([] : List Say) Say.row]),(6,(Net.row r13.1)),(3,[cL 11 y4 zA.row,cL 4 y5 Link.row,cL 7 y6 Say.row])]⟩ ?_
   refine mC Qq 10 ?_
   refine lA 1 ?_
   refine fA ?_
   refine mA Qq [(11,[])] 0 [⟨[5,10],67,3,33⟩] fun cx => ?_
   exact mE Qq [9,8,7,6,5,4,3] [8,6,3]
 ·refine lA 1 ?_
  refine fA ?_
  refine mC Qq 4 ?_
  refine dE (tI 71) (.slot 4) [(0,(y3.toNat))] 2 0 [cL 2 r2.2 Event.row] (Event.row v12) (zCS rfl (zM ev12).2) ?_
  refine fA ?_
  refine mC Qq 5 ?_
  refine vB [.rd,.rd] [.box 3] (zDl n (⟨y4,y5,y6⟩ : Net) v12 r14 er14) (.inr (zV (Net.row_mine _) (zV (zG zK zl) zp))) ?_
  refine fA ?_
  refine AT.movT tOk 6 (ty := 68) (t := 38) (d := 32) (g := none) [(true,(Net.row r14.1)),(false,[cB r14.2])] _ kr (oM Qq kr) (dM Qq kr) (.inl rfl) kr kr kr kr rfl (fun cx => ?_)
  refine mA Qq [(7,[]),(8,[])] 2 [⟨[5,10],67,3,33⟩] fun cx => ?_
  refine sA_ 1657857376760 328 ⟨68,0,[sB 40 r14.2,sV 39 (Net.row r14.1),sA 8 8 3 0,sR 33 3 3 0 3 true,sB 7 r13.2,sA 6 6 3 0,sI 5 y3,sC 4 (cL 2 r2.2 Event.row),sA 3 3 3 0],[(8,[cL 11 ([] : List zA) zA.row,cL 4 ([] : List Link) Link.row,cL 7 ([] : List Say) Say.row]),(6,(Net.row r13.1)),(3,[cL 11 y4 zA.row,cL 4 y5 Link.row,cL 7 y6 Say.row])]⟩ ?_
  refine mC Qq 10 ?_
  refine lA 1 ?_
  refine fA ?_
  refine mA Qq [(11,[])] 0 [⟨[5,10],67,3,33⟩] fun cx => ?_
  exact mE Qq [9,8,7,6,5,4,3] [8,6,3]
theorem zIw (n : Nat) (x0 : (List Int)) (r : Bool) (H : zA6 n x0 = some r) : zI Tryz.prog 7 [.val false [.sl false 1 (CV.frzEs (x0.map zu))]] [.val false [.lit (.bool r)]] [] := by
 refine cW Tryz.func7 (fun g d => sl [g 0,sl [g 1] (cn 11 (sl [g 2] .ret) .skip),g 3,sl [g 4] (.block 0 (.loop (sl [sl [g 5] (cn 20 .skip (.exit 0)),.block 1 (sl [d 7,d 8,sl [g 9] (cn 64 (sl [g 10] .ret) .skip)] (g 11))] (g 6)))),g 12] .ret) [.tmp 2] fun cx => ?_
 unfold zA6 at H
 refine gA 1 1 0 ?_
 refine tS ?_
 refine rA 1 ?_
 obtain ⟨r1,er1,H⟩ := bs H
 refine vA [.rd] (zLO n x0 r1 er1) ?_
 refine dA 2049 0 ?_
 cases h1 : r1
 ·have H := zE h1 H
  refine nB_ ?_
  refine tK ?_
  refine rA 1 ?_
  obtain ⟨r2,er2,H⟩ := bs H
  refine vA [.rd] (zJE n x0 r2 er2) ?_
  refine LAt.movT tOk (ty := 99) (t := 14) (d := 12) (g := none) [(true,(Net.row r2.1)),(false,[cL 2 r2.2 Event.row])] _ kr (.inl rfl) kr kr kr kr rfl ?_
  refine lA 4 ?_
  refine LAt.moveU (T := lk tab) (ty := 79) (x := (.tmp 16)) (d := 4) (g := none) false [cL 2 r2.2 Event.row] kr kr kr kr kr ?_
  refine dA 24 8 ?_
  refine tS ?_
  refine gA 1 56 8 ?_
  obtain ⟨o11,eo11,Ho11⟩ := bs H
  clear H
  refine Tr.mid (ι := (List zA) × (List Link) × (List Say)) (fun v => ⟨68,0,[sA 3 3 3 0],[(3,[cL 11 v.1 zA.row,cL 4 v.2.1 Link.row,cL 7 v.2.2 Say.row])]⟩) (fun v => Yo n v.1 v.2.1 v.2.2 = some r) ?_ ?_
  ·refine tB ?_
   refine Tr.loop (ι := Nat × (Int × (List zA) × (List Link) × (List Say))) (fun v => ⟨68,0,[sI 5 v.2.1,sC 4 (cL 2 r2.2 Event.row),sA 3 3 3 0],[(3,[cL 11 v.2.2.1 zA.row,cL 4 v.2.2.2.1 Link.row,cL 7 v.2.2.2.2 Say.row])]⟩) (fun v => ZT n v.1 r2 v.2.1 v.2.2.1 v.2.2.2.1 v.2.2.2.2 = some o11) (fun v => v.1) (n,(0,r2.1.Bs,r2.1.Ls,r2.1.Said)) eo11 (St.sub_of [5,4,3] [3] kr) ?_
   rintro ⟨mo11,y3,y4,y5,y6⟩ H
   have H : ZT n mo11 r2 y3 y4 y5 y6 = some o11 := H
   obtain _ | mo11 := mo11
   ·exact nN H
   rw [ZT] at H
   refine tS ?_
   refine rA 2 ?_
   refine kO r2.2 Event.row ?_
   refine uA 1 1048632 8 ?_
   obtain ⟨h2,H⟩ | ⟨h2,H⟩ := bC H
   ·refine nA h2 ?_
    refine Tr.exit ?_
    refine aJ ?_
    obtain rfl := si H
    have H := Ho11
    dsimp only at H
    exact jA (y4,y5,y6) H [3] [3]
   refine tA h2 ?_
   refine tK ?_
   refine tS ?_
   refine tB ?_
   obtain ⟨v12,ev12,H⟩ := bs H
   obtain ⟨r13,er13,H⟩ := bs H
   refine sT ⟨68,0,[sB 20 (decide (y3 < (r2.2.length : Int))),sI 5 y3,sC 4 (cL 2 r2.2 Event.row),sA 3 3 3 0],[(3,[cL 11 y4 zA.row,cL 4 y5 Link.row,cL 7 y6 Say.row])]⟩ ?_
   refine Tr.draws mixed 12 kr ⟨68,0,[sB 7 r13.2,sA 6 6 3 0,sI 5 y3,sC 4 (cL 2 r2.2 Event.row),sA 3 3 3 0],[(6,(Net.row r13.1)),(3,[cL 11 y4 zA.row,cL 4 y5 Link.row,cL 7 y6 Say.row])]⟩ (zGy n y3 r2 v12 y4 y5 y6 r13 ev12 er13) ?_
   obtain ⟨r14,er14,H⟩ := bs H
   refine sT ⟨68,0,[sB 7 r13.2,sA 6 6 3 0,sI 5 y3,sC 4 (cL 2 r2.2 Event.row),sA 3 3 3 0],[(6,(Net.row r13.1)),(3,[cL 11 y4 zA.row,cL 4 y5 Link.row,cL 7 y6 Say.row])]⟩ ?_
   refine Tr.draws mixed 12 kr ⟨68,0,[sB 9 r14.2,sA 8 8 3 0,sB 7 r13.2,sA 6 6 3 0,sI 5 y3,sC 4 (cL 2 r2.2 Event.row),sA 3 3 3 0],[(8,(Net.row r14.1)),(6,(Net.row r13.1)),(3,[cL 11 y4 zA.row,cL 4 y5 Link.row,cL 7 y6 Say.row])]⟩ (zGz n y3 r2 v12 y4 y5 y6 r14 r13 ev12 er14) ?_
   refine tS ?_
   refine rA 4 ?_
   refine sL 17592186044920 328 ⟨68,0,[sB 44 (!(r13.2 == r14.2)),sA 8 8 3 0,sB 7 r13.2,sA 6 6 3 0,sI 5 y3,sC 4 (cL 2 r2.2 Event.row),sA 3 3 3 0],[(8,(Net.row r14.1)),(6,(Net.row r13.1)),(3,[cL 11 y4 zA.row,cL 4 y5 Link.row,cL 7 y6 Say.row])]⟩ ?_
   cases h3 : (!(r13.2 == r14.2))
   ·have H := zE h3 H
    refine lA 2 ?_
    obtain ⟨r15,er15,H⟩ := bs H
    refine vB [.rd,.rd] [.box 6,.box 8] (zFA n r13.1 r14.1 r15 er15) (.inr (zV (zG zK zl) zp)) ?_
    refine lA 3 ?_
    refine sL 0x40000000000f8 72 ⟨68,0,[sB 50 (!r15),sB 7 r13.2,sA 6 6 3 0,sI 5 y3,sC 4 (cL 2 r2.2 Event.row),sA 3 3 3 0],[(6,(Net.row r13.1)),(3,[cL 11 y4 zA.row,cL 4 y5 Link.row,cL 7 y6 Say.row])]⟩ ?_
    cases h4 : (!r15)
    ·have H := zE h4 H
     refine lA 1 ?_
     obtain ⟨r16,er16,H⟩ := bs H
     refine vB [.rd] [.box 6] (zES n r13.1 r16 er16) (.inr (zV (zG zK zl) zp)) ?_
     refine lA 3 ?_
     refine sL 0x800000000000f8 72 ⟨68,0,[sB 55 (!r16),sB 7 r13.2,sA 6 6 3 0,sI 5 y3,sC 4 (cL 2 r2.2 Event.row),sA 3 3 3 0],[(6,(Net.row r13.1)),(3,[cL 11 y4 zA.row,cL 4 y5 Link.row,cL 7 y6 Say.row])]⟩ ?_
     cases h5 : (!r16)
     ·have H := zE h5 H
      refine lA 3 ?_
      refine sL 0x480000000000078 72 ⟨68,0,[sB 58 (!r13.2),sB 55 false,sA 6 6 3 0,sI 5 y3,sC 4 (cL 2 r2.2 Event.row),sA 3 3 3 0],[(6,(Net.row r13.1)),(3,[cL 11 y4 zA.row,cL 4 y5 Link.row,cL 7 y6 Say.row])]⟩ ?_
      cases h6 : (!r13.2)
      ·have H := zE h6 H
       refine uA 6 0x10000000000000078 72 ?_
       refine nB_ ?_
       refine tK ?_
       refine eA 2 56 8 ?_
       refine eA 3 56 8 ?_
       exact jB mo11 ((IntKind.wrap .i64 (y3 + 1)),r13.1.Bs,r13.1.Ls,r13.1.Said) H [5,4,3] [3]
      have H := zF h6 H
      refine lA 2 ?_
      obtain ⟨r17,er17,H⟩ := bs H
      refine vB [.rd,.rd] [.box 6,.box 3] (zFA n r13.1 (⟨y4,y5,y6⟩ : Net) r17 er17) (.inr (zV (zG zK zl) zp)) ?_
      refine uA 3 0x10000000000000078 72 ?_
      obtain ⟨h7,H⟩ | ⟨h7,H⟩ := bC H
      ·refine nA h7 ?_
       refine tK ?_
       refine eA 2 56 8 ?_
       refine eA 3 56 8 ?_
       exact jB mo11 ((IntKind.wrap .i64 (y3 + 1)),r13.1.Bs,r13.1.Ls,r13.1.Said) H [5,4,3] [3]
      refine tA h7 ?_
      refine gA 1 4 0 ?_
      refine te ?_
      obtain rfl := si H
      have H := Ho11
      dsimp only at H
      exact fF H
     have H := zF h5 H
     refine uA 9 0x10000000000000078 72 ?_
     refine tB_ ?_
     refine gA 1 4 0 ?_
     refine te ?_
     obtain rfl := si H
     have H := Ho11
     dsimp only at H
     exact fF H
    have H := zF h4 H
    refine uA 14 0x10000000000000078 72 ?_
    refine tB_ ?_
    refine gA 1 4 0 ?_
    refine te ?_
    obtain rfl := si H
    have H := Ho11
    dsimp only at H
    exact fF H
   have H := zF h3 H
   refine uA 20 0x10000000000000078 72 ?_
   refine tB_ ?_
   refine gA 1 4 0 ?_
   refine te ?_
   obtain rfl := si H
   have H := Ho11
   dsimp only at H
   exact fF H
  rintro ⟨y7,y8,y9⟩ H
  have H : (Yo n y7 y8 y9) = some r := H
  unfold Yo at H
  refine rA 1 ?_
  obtain ⟨r10,er10,H⟩ := bs H
  refine vB [.rd] [.box 3] (zES n (⟨y7,y8,y9⟩ : Net) r10 er10) (.inr (zV (zG zK zl) zp)) ?_
  refine uA 1 4 0 ?_
  exact te (fJ [(false,[cB r10])] H)
 have H := zF h1 H
 refine tB_ ?_
 refine gA 1 4 0 ?_
 exact te (fT H)
end Go.Proofs.YtcegokjpmppdbaaGreat.Tw
