import Derived.Test.YtajadnlejdpceaaGreatProg
import Derived.Test.YtajadnlejdpceaaGreatTlRule
import Derived.Test.YtajadnlejdpceaaGreatTlU14
import Derived.Test.YtajadnlejdpceaaGreatTwAT1
import Derived.WalkKit
set_option linter.unusedVariables false
set_option linter.unusedSimpArgs false
set_option maxRecDepth 100000
set_option maxHeartbeats 1000000
namespace Go.Proofs.YtajadnlejdpceaaGreat.Tw
open Go Go.TL Go.Proofs
def zAN (n : Nat) : Option (Bool) :=
  (some true)
def qR (n : Nat) : Nat → Net → Int → Option ((Unit) ⊕ (Bool))
  | 0,_,_ => none
  | mo2 + 1,x0,y1 => (bif (decide (y1 < (x0.Ls.length : Int))) then ((idx x0.Ls y1).bind fun v3 => ((ZM n x0 v3.A v3.P).bind fun r4 => ((ZM n x0 v3.B v3.Q).bind fun r5 => (bif (decide (y1 ≥ 9)) then (some (Sum.inr false)) else (bif (!r4.2) then (some (Sum.inr false)) else (bif (!r5.2) then (some (Sum.inr false)) else (bif (v3.A == v3.B) then (some (Sum.inr false)) else (bif (!(r4.1.Up == r5.1.Up)) then (some (Sum.inr false)) else (bif (decide ((0 : Int) ≤ 0) && (decide ((0 : Int) ≤ y1) && decide ((y1 : Int) ≤ (x0.Ls.length : Int)))) then ((J1 n ((x0.Ls.drop ((0 : Int)).toNat).take (((y1 : Int)).toNat - ((0 : Int)).toNat)) v3.A v3.P).bind fun r7 => (bif r7 then (some (Sum.inr false)) else (bif (decide ((0 : Int) ≤ 0) && (decide ((0 : Int) ≤ y1) && decide ((y1 : Int) ≤ (x0.Ls.length : Int)))) then ((J1 n ((x0.Ls.drop ((0 : Int)).toNat).take (((y1 : Int)).toNat - ((0 : Int)).toNat)) v3.B v3.Q).bind fun r9 => (bif r9 then (some (Sum.inr false)) else (qR n mo2 x0 (IntKind.wrap .i64 (y1 + 1))))) else none))) else none))))))))) else (some (Sum.inl ())))
def Ya (n : Nat) (x0 : Net) : Option (Bool) :=
  ((qR n n x0 0).bind fun o => match o with | .inl _ => (zAN n) | .inr r => some r)
def zNs : Tab := ⟨20,[0,1,0,6,0,16,0,64,168,256,512,1536,512,6656,512,16896,512,66048,172544,262656],[0,1,0,6,0,16,0,64,168,256,512,1536,512,6656,512,16896,512,66048,172544,262656],[0,1,0,7,0,16,0,64,255,511,1023,2047,1023,8191,1023,17407,1023,66559,262143,524287]⟩
theorem Yo : za (rg Tryz.f124 8) zNs = true := kr
theorem zJ2 (n : Nat) (x0 : Net) (r : Bool) (H : Ya n x0 = some r) : zH Tryz.prog 124 [.val true (fR (Net.row x0))] [.val false [.lit (.bool r)]] [] := by
 refine cW Tryz.func124 (fun g d => sl [g 0,sl [g 1] (.block 0 (.loop (sl [g 2,cn 13 .skip (.exit 0),.block 1 (sl [g 3,g 4,g 5,sl [g 6] (cn 58 (sl [g 7] .ret) .skip),d 8] (cn 78 (sl [g 9] .ret) .skip))] (g 10)))),g 11] .ret) [.tmp 2] fun cx=>?_
 unfold Ya at H
 refine gA 2 2 2<|tS<|rA 2<|kF x0.Ls Link.row<|uA 1 7170 2 ?_
 obtain ⟨o2,eo2,Ho2⟩ := bs H
 clear H
 refine Tr.mid (ι := Unit) (fun v => ⟨80,0,[],[]⟩) (fun v => zAN n = some r) ?_ ?_
 ·refine tB<|Tr.loop (ι := Nat × (Int)) (fun v => ⟨80,0,[sI 12 v.2,sI 11 (x0.Ls.length : Int),sC 10 (cF 4 x0.Ls Link.row),sA 1 1 3 0],[(1,(fR (Net.row x0)))]⟩) (fun v => qR n v.1 x0 v.2 = some o2) (fun v => v.1) (n,0) eo2 (St.sub_of [12,11,10,1] [1] kr) ?_
  rintro ⟨mo2,y1⟩ H
  have H : qR n mo2 x0 y1 = some o2 := H
  obtain _ | mo2 := mo2
  ·exact nN H
  rw [qR] at H
  refine gA 1 15362 2<|tS ?_
  obtain ⟨h1,H⟩ | ⟨h1,H⟩ := bC H
  ·refine nA h1<|Tr.exit<|aJ ?_
   obtain rfl := si H
   have H := Ho2
   dsimp only at H
   exact jA () H [] []
  refine tA h1<|tK<|tS<|tB<|rA 1<|bE H fun v3 ev3 H=> iA Link.row ev3<|uA 4 7194 18<|rA 5<|bE H fun r4 er4 H=> vA [.rd,.rd,.rd] (JO n x0 v3.A v3.P r4 er4)<|LAt.movT tOk (ty := 129) (t := 23) (d := 17) (g := none) [(true,(Pt.row r4.1)),(false,[cB r4.2])] _ kr (.inl rfl) kr kr kr kr rfl<|uA 5 7290 50<|rA 5<|bE H fun r5 er5 H=> vA [.rd,.rd,.rd] (JO n x0 v3.B v3.Q r5 er5)<|LAt.movT tOk (ty := 129) (t := 32) (d := 26) (g := none) [(true,(Pt.row r5.1)),(false,[cB r5.2])] _ kr (.inl rfl) kr kr kr kr rfl<|uA 5 7674 178<|tS<|rA 3<|sL 137438961146 178 ⟨80,0,[sB 37 (decide (y1 ≥ 9)),sB 8 r5.2,sA 7 7 8 0,sB 6 r4.2,sA 5 5 8 0,sI 3 y1,sA 4 4 4 0,sI 12 y1,sI 11 (x0.Ls.length : Int),sC 10 (cF 4 x0.Ls Link.row),sA 1 1 3 0],[(7,(Pt.row r5.1)),(5,(Pt.row r4.1)),(4,(Link.row v3)),(1,(fR (Net.row x0)))]⟩ ?_
  cases h2 : (decide (y1 ≥ 9))
  ·have H := zF h2 H
   refine lA 4<|sL 2199023263162 178 ⟨80,0,[sB 41 (!r4.2),sB 8 r5.2,sA 7 7 8 0,sA 5 5 8 0,sI 3 y1,sA 4 4 4 0,sI 12 y1,sI 11 (x0.Ls.length : Int),sC 10 (cF 4 x0.Ls Link.row),sA 1 1 3 0],[(7,(Pt.row r5.1)),(5,(Pt.row r4.1)),(4,(Link.row v3)),(1,(fR (Net.row x0)))]⟩ ?_
   cases h3 : (!r4.2)
   ·have H := zF h3 H
    refine lA 4<|sL 35184372096186 178 ⟨80,0,[sB 45 (!r5.2),sA 7 7 8 0,sA 5 5 8 0,sI 3 y1,sA 4 4 4 0,sI 12 y1,sI 11 (x0.Ls.length : Int),sC 10 (cF 4 x0.Ls Link.row),sA 1 1 3 0],[(7,(Pt.row r5.1)),(5,(Pt.row r4.1)),(4,(Link.row v3)),(1,(fR (Net.row x0)))]⟩ ?_
    cases h4 : (!r5.2)
    ·have H := zF h4 H
     refine lA 7<|sL 4503599627377850 178 ⟨80,0,[sB 52 (v3.A == v3.B),sA 7 7 8 0,sA 5 5 8 0,sI 3 y1,sA 4 4 4 0,sI 12 y1,sI 11 (x0.Ls.length : Int),sC 10 (cF 4 x0.Ls Link.row),sA 1 1 3 0],[(7,(Pt.row r5.1)),(5,(Pt.row r4.1)),(4,(Link.row v3)),(1,(fR (Net.row x0)))]⟩ ?_
     cases h5 : (v3.A == v3.B)
     ·have H := zF h5 H
      refine uA 6 0x400000000001c1a 18 ?_
      obtain ⟨h6,H⟩ | ⟨h6,H⟩ := bC H
      ·refine nA h6<|tK<|gE H fun hg6 H=> bE H fun r7 er7 H=> sT ⟨80,0,[sB 58 (!(r4.1.Up == r5.1.Up)),sI 3 y1,sA 4 4 4 0,sI 12 y1,sI 11 (x0.Ls.length : Int),sC 10 (cF 4 x0.Ls Link.row),sA 1 1 3 0],[(4,(Link.row v3)),(1,(fR (Net.row x0)))]⟩ ?_
       cases h7 : r7
       ·have H := zF h7 H
        refine gE H fun hg8 H=> bE H fun r9 er9 H=> Tr.draws mixed 20 kr ⟨80,0,[sB 78 r9,sI 12 y1,sI 11 (x0.Ls.length : Int),sC 10 (cF 4 x0.Ls Link.row),sA 1 1 3 0],[(1,(fR (Net.row x0)))]⟩ (fun cx=>?_) ?_
        ·refine mA Yo [(0,[]),(1,[3,8,13,18]),(2,[]),(4,[]),(5,[8,13,18]),(6,[]),(7,[8,13,18])] 13 [⟨[8,13,18],3,65,66⟩,⟨[8,13,18],3,63,64⟩,⟨[3,8,13,18],50,59,60⟩] fun cx=>mC Yo 3<|LAt.cutG tOk (t := 50) (ty := 50) (e := 78) (x := (.tmp 60)) (lo := none) (hi := (some (.tmp 61))) (d := 62) (g := none) (tI 78) Link.row x0.Ls ⟨(.box 1),[(0,0)],1,false,4,(CV.frzEs (x0.Ls.map Link.row))⟩ 0 y1 kr kr kr kr kr kr rfl kr rfl kr kr hg6<|fA<|mC Yo 8<|vA [.rd,.rd,.rd] (zEY n ((x0.Ls.drop ((0 : Int)).toNat).take (((y1 : Int)).toNat - ((0 : Int)).toNat)) v3.A v3.P r7 er7)<|fA<|mA Yo [(9,[])] 10 [⟨[8,13,18],3,65,66⟩,⟨[8,13,18],3,63,64⟩,⟨[3,8,13,18],50,59,60⟩] fun cx=>sA_ 0x179800000000001c1a 18 ⟨80,0,[sB 68 r7,sI 66 v3.P,sA 65 4 4 1,sI 64 v3.A,sA 63 4 4 0,sR 60 1 3 1 1 false,sA 59 1 3 1,sI 3 y1,sA 4 4 4 0,sI 12 y1,sI 11 (x0.Ls.length : Int),sC 10 (cF 4 x0.Ls Link.row),sA 1 1 3 0],[(4,(Link.row v3)),(1,(fR (Net.row x0)))]⟩ ?_
         rw [h7]
         exact mA Yo [(10,[]),(11,[13,18]),(12,[]),(14,[]),(15,[18]),(16,[]),(17,[18])] 3 [⟨[18],3,75,76⟩,⟨[18],3,73,74⟩,⟨[13,18],50,69,70⟩,⟨[8,13,18],3,65,66⟩,⟨[8,13,18],3,63,64⟩,⟨[3,8,13,18],50,59,60⟩] fun cx=>mC Yo 13<|LAt.cutG tOk (t := 50) (ty := 50) (e := 78) (x := (.tmp 70)) (lo := none) (hi := (some (.tmp 71))) (d := 72) (g := (some (9,false))) (tI 78) Link.row x0.Ls ⟨(.box 1),[(0,0)],1,false,4,(CV.frzEs (x0.Ls.map Link.row))⟩ 0 y1 kr kr kr kr kr kr rfl kr rfl kr kr hg8<|fA<|mC Yo 18<|vA [.rd,.rd,.rd] (zEY n ((x0.Ls.drop ((0 : Int)).toNat).take (((y1 : Int)).toNat - ((0 : Int)).toNat)) v3.B v3.Q r9 er9)<|fA<|mA Yo [(19,[])] 0 [⟨[18],3,75,76⟩,⟨[18],3,73,74⟩,⟨[13,18],50,69,70⟩,⟨[8,13,18],3,65,66⟩,⟨[8,13,18],3,63,64⟩,⟨[3,8,13,18],50,59,60⟩] fun cx=>mE Yo [78,12,11,10,1] [1]
        cases h8 : r9
        ·have H := zF h8 H
         exact nB_<|tK<|eA 2 7170 2<|jB mo2 (wI (y1 + 1)) H [12,11,10,1] [1]
        have H := zG h8 H
        refine tB_<|gA 1 4 0<|te ?_
        obtain rfl := si H
        have H := Ho2
        dsimp only at H
        exact fF H
       have H := zG h7 H
       refine Tr.draws mixed 20 kr ⟨80,0,[sB 78 true,sI 12 y1,sI 11 (x0.Ls.length : Int),sC 10 (cF 4 x0.Ls Link.row),sA 1 1 3 0],[(1,(fR (Net.row x0)))]⟩ (fun cx=>?_) ?_
       ·refine mA Yo [(0,[]),(1,[3,8]),(2,[]),(4,[]),(5,[8]),(6,[]),(7,[8])] 13 [⟨[8],3,65,66⟩,⟨[8],3,63,64⟩,⟨[3,8],50,59,60⟩] fun cx=>mC Yo 3<|LAt.cutG tOk (t := 50) (ty := 50) (e := 78) (x := (.tmp 60)) (lo := none) (hi := (some (.tmp 61))) (d := 62) (g := none) (tI 78) Link.row x0.Ls ⟨(.box 1),[(0,0)],1,false,4,(CV.frzEs (x0.Ls.map Link.row))⟩ 0 y1 kr kr kr kr kr kr rfl kr rfl kr kr hg6<|fA<|mC Yo 8<|vA [.rd,.rd,.rd] (zEY n ((x0.Ls.drop ((0 : Int)).toNat).take (((y1 : Int)).toNat - ((0 : Int)).toNat)) v3.A v3.P r7 er7)<|fA<|mA Yo [(9,[])] 10 [⟨[8],3,65,66⟩,⟨[8],3,63,64⟩,⟨[3,8],50,59,60⟩] fun cx=>sA_ 0x179800000000001c1a 18 ⟨80,0,[sB 68 r7,sI 66 v3.P,sA 65 4 4 1,sI 64 v3.A,sA 63 4 4 0,sR 60 1 3 1 1 false,sA 59 1 3 1,sI 3 y1,sA 4 4 4 0,sI 12 y1,sI 11 (x0.Ls.length : Int),sC 10 (cF 4 x0.Ls Link.row),sA 1 1 3 0],[(4,(Link.row v3)),(1,(fR (Net.row x0)))]⟩ ?_
        rw [h7]
        exact mA Yo [(10,[]),(11,[]),(12,[]),(13,[]),(14,[]),(15,[]),(16,[]),(17,[]),(18,[]),(19,[])] 0 [⟨[8],3,65,66⟩,⟨[8],3,63,64⟩,⟨[3,8],50,59,60⟩] fun cx=>mE Yo [78,12,11,10,1] [1]
       refine tB_<|gA 1 4 0<|te ?_
       obtain rfl := si H
       have H := Ho2
       dsimp only at H
       exact fF H
      refine tA h6<|gA 1 4 0<|te ?_
      obtain rfl := si H
      have H := Ho2
      dsimp only at H
      exact fF H
     have H := zG h5 H
     refine uA 6 0x400000000001c1a 18<|tB_<|gA 1 4 0<|te ?_
     obtain rfl := si H
     have H := Ho2
     dsimp only at H
     exact fF H
    have H := zG h4 H
    refine uA 13 0x400000000001c1a 18<|tB_<|gA 1 4 0<|te ?_
    obtain rfl := si H
    have H := Ho2
    dsimp only at H
    exact fF H
   have H := zG h3 H
   refine uA 17 0x400000000001c1a 18<|tB_<|gA 1 4 0<|te ?_
   obtain rfl := si H
   have H := Ho2
   dsimp only at H
   exact fF H
  have H := zG h2 H
  refine uA 21 0x400000000001c1a 18<|tB_<|gA 1 4 0<|te ?_
  obtain rfl := si H
  have H := Ho2
  dsimp only at H
  exact fF H
 rintro _ H
 have H : (zAN n) = some r := H
 unfold zAN at H
 exact gA 1 4 0<|te (fT H)
def Y5 (n : Nat) (x0 : Net) : Option (Bool) :=
  ((Ya n x0).bind fun r4 => (some r4))
def qU (n : Nat) : Nat → Net → Int → Option ((Unit) ⊕ (Bool))
  | 0,_,_ => none
  | mo5 + 1,x0,y3 => (bif (decide (y3 < (x0.Said.length : Int))) then ((idx x0.Said y3).bind fun v6 => ((zu n v6.Link 0 (IntKind.wrap .i64 ((x0.Ls.length : Int) - 1))).bind fun r7 => (bif (!r7) then (some (Sum.inr false)) else ((Yi n v6.V).bind fun r8 => (bif (!r8) then (some (Sum.inr false)) else (qU n mo5 x0 (IntKind.wrap .i64 (y3 + 1)))))))) else (some (Sum.inl ())))
def Q5 (n : Nat) (x0 : Net) : Option (Bool) :=
  ((qU n n x0 0).bind fun o => match o with | .inl _ => (Y5 n x0) | .inr r => some r)
def zAA (n : Nat) (k : (Int → Option ((Unit) ⊕ (Bool)))) (y2 : Int) (y16 : Int) : Option ((Unit) ⊕ (Bool)) :=
  (k (IntKind.wrap .i64 (y2 + 1)))
def ZV (n : Nat) : Nat → zA → Net → Int → Int → Option ((Int) ⊕ (Bool))
  | 0,_,_,_,_ => none
  | mo17 + 1,v10,x0,y2,y15 => (bif (decide (y15 < (v10.Ps.length : Int))) then ((idx v10.Ps y15).bind fun v18 => (bif v18.Has then ((J1 n x0.Ls y2 y15).bind fun r19 => (bif (!r19) then (some (Sum.inr false)) else (ZV n mo17 v10 x0 y2 (IntKind.wrap .i64 (y15 + 1))))) else (ZV n mo17 v10 x0 y2 (IntKind.wrap .i64 (y15 + 1))))) else (some (Sum.inl y15)))
def J9 (n : Nat) (k : (Int → Option ((Unit) ⊕ (Bool)))) (v10 : zA) (x0 : Net) (y2 : Int) (y14 : Int) : Option ((Unit) ⊕ (Bool)) :=
  ((ZV n n v10 x0 y2 0).bind fun o => match o with | .inl y16 => (zAA n k y2 y16) | .inr r => some (Sum.inr r))
def Zu (n : Nat) : Nat → zA → Net → Int → Int → Option ((Int) ⊕ (Bool))
  | 0,_,_,_,_ => none
  | mo20 + 1,v10,x0,y2,y13 => (bif (decide (y13 < (((x0.Bs.drop ((0 : Int)).toNat).take (((y2 : Int)).toNat - ((0 : Int)).toNat)).length : Int))) then ((idx ((x0.Bs.drop ((0 : Int)).toNat).take (((y2 : Int)).toNat - ((0 : Int)).toNat)) y13).bind fun v21 => (bif (v21.Id == v10.Id) then (some (Sum.inr false)) else (Zu n mo20 v10 x0 y2 (IntKind.wrap .i64 (y13 + 1))))) else (some (Sum.inl y13)))
def qH (n : Nat) : Nat → Net → Int → Option ((Unit) ⊕ (Bool))
  | 0,_,_ => none
  | mo9 + 1,x0,y2 => (bif (decide (y2 < (x0.Bs.length : Int))) then ((idx x0.Bs y2).bind fun v10 => ((Qk n v10).bind fun r11 => (bif (!r11) then (some (Sum.inr false)) else (bif (decide ((0 : Int) ≤ 0) && (decide ((0 : Int) ≤ y2) && decide ((y2 : Int) ≤ (x0.Bs.length : Int)))) then ((Zu n n v10 x0 y2 0).bind fun o => match o with | .inl y14 => (J9 n (fun v => qH n mo9 x0 v) v10 x0 y2 y14) | .inr r => some (Sum.inr r)) else none)))) else (some (Sum.inl ())))
def QQ (n : Nat) (x0 : Net) : Option (Bool) :=
  ((zu n (x0.Bs.length : Int) 1 6).bind fun r1 => (bif (!r1) then (some false) else (bif (decide ((x0.Said.length : Int) > 40)) then (some false) else ((qH n n x0 0).bind fun o => match o with | .inl _ => (Q5 n x0) | .inr r => some r))))
theorem zLd (n : Nat) (x0 : Net) (r : Bool) (H : QQ n x0 = some r) : zH Tryz.prog 47 [.val true (fR (Net.row x0))] [.val false [.lit (.bool r)]] [] := by
 refine cW Tryz.func47 (fun g d => sl [g 0,sl [g 1] (cn 21 (sl [g 2] .ret) .skip),sl [g 3] (.block 0 (.loop (sl [g 4,cn 26 .skip (.exit 0),.block 1 (sl [g 5,sl [g 6] (cn 32 (sl [g 7] .ret) .skip),sl [g 8] (.block 2 (.loop (sl [g 9,cn 39 .skip (.exit 2),.block 3 (sl [g 10,g 11] (cn 46 (sl [g 12] .ret) .skip))] (g 13)))),g 14] (.block 4 (.loop (sl [g 15,cn 52 .skip (.exit 4),.block 5 (sl [g 16,g 17] (cn 65 (sl [g 18] .ret) .skip))] (g 19)))))] (g 20)))),sl [g 21] (.block 6 (.loop (sl [g 22,cn 72 .skip (.exit 6),.block 7 (sl [g 23,g 24] (cn 88 (sl [g 25] .ret) .skip))] (g 26)))),g 27] .ret) [.tmp 2] fun cx=>?_
 unfold QQ at H
 refine gA 2 6 2<|tS<|rA 2<|kF x0.Bs zA.row<|bE H fun r1 er1 H=> vA [.rd,.rd,.rd] (qC n (x0.Bs.length : Int) 1 6 r1 er1)<|lA 2<|sL 65542 2 ⟨92,0,[sB 16 (!r1),sB 2 false,sA 1 1 3 0],[(1,(fR (Net.row x0)))]⟩ ?_
 cases h1 : (!r1)
 ·have H := zF h1 H
  refine lA 2<|kF x0.Said Say.row<|uA 2 2097158 2 ?_
  obtain ⟨h2,H⟩ | ⟨h2,H⟩ := bC H
  ·refine nA h2<|tK<|tS<|rA 2<|kF x0.Bs zA.row<|uA 1 58720262 2 ?_
   obtain ⟨o9,eo9,Ho9⟩ := bs H
   clear H
   refine Tr.mid (ι := Unit) (fun v => ⟨92,0,[sB 2 false,sA 1 1 3 0],[(1,(fR (Net.row x0)))]⟩) (fun v => Q5 n x0 = some r) ?_ ?_
   ·refine tB<|Tr.loop (ι := Nat × (Int)) (fun v => ⟨92,0,[sI 25 v.2,sI 24 (x0.Bs.length : Int),sC 23 (cF 11 x0.Bs zA.row),sB 2 false,sA 1 1 3 0],[(1,(fR (Net.row x0)))]⟩) (fun v => qH n v.1 x0 v.2 = some o9) (fun v => v.1) (n,0) eo9 (St.sub_of [25,24,23,2,1] [1] kr) ?_
    rintro ⟨mo9,y2⟩ H
    have H : qH n mo9 x0 y2 = some o9 := H
    obtain _ | mo9 := mo9
    ·exact nN H
    rw [qH] at H
    refine gA 1 125829126 2<|tS ?_
    obtain ⟨h6,H⟩ | ⟨h6,H⟩ := bC H
    ·refine nA h6<|Tr.exit<|aJ ?_
     obtain rfl := si H
     have H := Ho9
     dsimp only at H
     exact jA () H [2,1] [1]
    refine tA h6<|tK<|tS<|tB<|rA 1<|bE H fun v10 ev10 H=> iA zA.row ev10<|uA 4 1065353246 18<|tS<|rA 1<|bE H fun r11 er11 H=> vA [.rd] (zFp n v10 r11 er11)<|uA 1 8581546014 18 ?_
    obtain ⟨h7,H⟩ | ⟨h7,H⟩ := bC H
    ·refine nA h7<|tK<|tS<|rA 3<|gE H fun hg12 H=> LAt.cutG tOk (t := 49) (ty := 49) (e := 31) (x := (.tmp 34)) (lo := none) (hi := (some (.tmp 35))) (d := 36) (g := none) (tI 31) zA.row x0.Bs ⟨(.slot 34),[],0,false,11,(CV.frzEs (x0.Bs.map zA.row))⟩ 0 y2 kr kr kr kr kr kr rfl kr rfl kr kr hg12<|kF ((x0.Bs.drop ((0 : Int)).toNat).take (((y2 : Int)).toNat - ((0 : Int)).toNat)) zA.row<|uA 1 549747425310 18<|sT ⟨92,0,[sI 38 0,sI 37 (((x0.Bs.drop ((0 : Int)).toNat).take (((y2 : Int)).toNat - ((0 : Int)).toNat)).length : Int),sC 36 (cF 11 ((x0.Bs.drop ((0 : Int)).toNat).take (((y2 : Int)).toNat - ((0 : Int)).toNat)) zA.row),sI 35 y2,sC 34 (cF 11 x0.Bs zA.row),sA 33 1 3 0,sB 32 (!r11),sB 31 r11,sV 30 (fR (zA.row v10)),sI 3 y2,sA 4 4 11 0,sV 29 (fR (zA.row v10)),(28,.fad ((fR (zA.row v10)))),sI 27 y2,sB 26 (decide (y2 < (x0.Bs.length : Int))),sI 25 y2,sI 24 (x0.Bs.length : Int),sC 23 (cF 11 x0.Bs zA.row),sB 2 false,sA 1 1 3 0],[(4,(fR (zA.row v10))),(1,(fR (Net.row x0)))]⟩ ?_
     rw [h6]
     rw [h7]
     obtain ⟨o20,eo20,Ho20⟩ := bs H
     clear H
     refine Tr.mid (ι := Int) (fun v => ⟨92,0,[sB 39 false,sI 38 v,sI 37 (((x0.Bs.drop ((0 : Int)).toNat).take (((y2 : Int)).toNat - ((0 : Int)).toNat)).length : Int),sC 36 (cF 11 ((x0.Bs.drop ((0 : Int)).toNat).take (((y2 : Int)).toNat - ((0 : Int)).toNat)) zA.row),sI 35 y2,sC 34 (cF 11 x0.Bs zA.row),sA 33 1 3 0,sB 32 false,sB 31 r11,sV 30 (fR (zA.row v10)),sI 3 y2,sA 4 4 11 0,sV 29 (fR (zA.row v10)),(28,.fad ((fR (zA.row v10)))),sI 27 y2,sB 26 true,sI 25 y2,sI 24 (x0.Bs.length : Int),sC 23 (cF 11 x0.Bs zA.row),sB 2 false,sA 1 1 3 0],[(4,(fR (zA.row v10))),(1,(fR (Net.row x0)))]⟩) (fun v => J9 n (fun v => qH n mo9 x0 v) v10 x0 y2 v = some o9) ?_ ?_
     ·refine tB<|Tr.loop (ι := Nat × (Int)) (fun v => ⟨92,0,[sI 38 v.2,sI 37 (((x0.Bs.drop ((0 : Int)).toNat).take (((y2 : Int)).toNat - ((0 : Int)).toNat)).length : Int),sC 36 (cF 11 ((x0.Bs.drop ((0 : Int)).toNat).take (((y2 : Int)).toNat - ((0 : Int)).toNat)) zA.row),sI 35 y2,sC 34 (cF 11 x0.Bs zA.row),sA 33 1 3 0,sB 32 false,sB 31 r11,sV 30 (fR (zA.row v10)),sI 3 y2,sA 4 4 11 0,sV 29 (fR (zA.row v10)),(28,.fad ((fR (zA.row v10)))),sI 27 y2,sB 26 true,sI 25 y2,sI 24 (x0.Bs.length : Int),sC 23 (cF 11 x0.Bs zA.row),sB 2 false,sA 1 1 3 0],[(4,(fR (zA.row v10))),(1,(fR (Net.row x0)))]⟩) (fun v => Zu n v.1 v10 x0 y2 v.2 = some o20) (fun v => v.1) (n,0) eo20 (St.sub_of [38,37,36,35,34,33,32,31,30,3,4,29,28,27,26,25,24,23,2,1] [4,1] kr) ?_
      rintro ⟨mo20,y13⟩ H
      have H : Zu n mo20 v10 x0 y2 y13 = some o20 := H
      obtain _ | mo20 := mo20
      ·exact nN H
      rw [Zu] at H
      refine gA 1 0xffff80001e 18<|tS ?_
      obtain ⟨h11,H⟩ | ⟨h11,H⟩ := bC H
      ·refine nA h11<|Tr.exit<|aJ ?_
       obtain rfl := si H
       have H := Ho20
       dsimp only at H
       refine sB' 0xffff80001e 18 ⟨92,0,[sB 39 (decide (y13 < (((x0.Bs.drop ((0 : Int)).toNat).take (((y2 : Int)).toNat - ((0 : Int)).toNat)).length : Int))),sI 38 y13,sI 37 (((x0.Bs.drop ((0 : Int)).toNat).take (((y2 : Int)).toNat - ((0 : Int)).toNat)).length : Int),sC 36 (cF 11 ((x0.Bs.drop ((0 : Int)).toNat).take (((y2 : Int)).toNat - ((0 : Int)).toNat)) zA.row),sI 35 y2,sC 34 (cF 11 x0.Bs zA.row),sA 33 1 3 0,sB 32 false,sB 31 r11,sV 30 (fR (zA.row v10)),sI 3 y2,sA 4 4 11 0,sV 29 (fR (zA.row v10)),(28,.fad ((fR (zA.row v10)))),sI 27 y2,sB 26 true,sI 25 y2,sI 24 (x0.Bs.length : Int),sC 23 (cF 11 x0.Bs zA.row),sB 2 false,sA 1 1 3 0],[(4,(fR (zA.row v10))),(1,(fR (Net.row x0)))]⟩ ?_
       rw [h11]
       exact jA y13 H [39,38,37,36,35,34,33,32,31,30,3,4,29,28,27,26,25,24,23,2,1] [4,1]
      refine tA h11<|tK<|tS<|tB<|tR<|bE H fun v21 ev21 H=> iA zA.row ev21<|uA 3 4398038122590 82<|gA 5 0x7fffff80005e 82 ?_
      obtain ⟨h12,H⟩ | ⟨h12,H⟩ := bC H
      ·exact nA h12<|tK<|eA 2 0xffffff80005e 82<|jB mo20 (wI (y13 + 1)) H [38,37,36,35,34,33,32,31,30,3,4,29,28,27,26,25,24,23,2,1] [4,1]
      refine tA h12<|gA 1 0x7fffff80005e 82<|te ?_
      obtain rfl := si H
      have H := Ho20
      dsimp only at H
      obtain rfl := si H
      have H := Ho9
      dsimp only at H
      exact fF H
     rintro y14 H
     have H : (J9 n (fun v => qH n mo9 x0 v) v10 x0 y2 y14) = some o9 := H
     unfold J9 at H
     refine rA 2<|kF v10.Ps Pt.row<|uA 1 0xf00ffff80001e 18 ?_
     obtain ⟨o17,eo17,Ho17⟩ := bs H
     clear H
     refine Tr.mid (ι := Int) (fun v => ⟨92,0,[sB 52 false,sI 51 v,sI 50 (v10.Ps.length : Int),sC 49 (cF 8 v10.Ps Pt.row),sA 48 4 11 2,sB 39 false,sI 38 y14,sI 37 (((x0.Bs.drop ((0 : Int)).toNat).take (((y2 : Int)).toNat - ((0 : Int)).toNat)).length : Int),sC 36 (cF 11 ((x0.Bs.drop ((0 : Int)).toNat).take (((y2 : Int)).toNat - ((0 : Int)).toNat)) zA.row),sI 35 y2,sC 34 (cF 11 x0.Bs zA.row),sA 33 1 3 0,sB 32 false,sB 31 r11,sV 30 (fR (zA.row v10)),sI 3 y2,sA 4 4 11 0,sV 29 (fR (zA.row v10)),(28,.fad ((fR (zA.row v10)))),sI 27 y2,sB 26 true,sI 25 y2,sI 24 (x0.Bs.length : Int),sC 23 (cF 11 x0.Bs zA.row),sB 2 false,sA 1 1 3 0],[(4,(fR (zA.row v10))),(1,(fR (Net.row x0)))]⟩) (fun v => zAA n (fun v => qH n mo9 x0 v) y2 v = some o9) ?_ ?_
     ·refine tB<|Tr.loop (ι := Nat × (Int)) (fun v => ⟨92,0,[sI 51 v.2,sI 50 (v10.Ps.length : Int),sC 49 (cF 8 v10.Ps Pt.row),sA 48 4 11 2,sB 39 false,sI 38 y14,sI 37 (((x0.Bs.drop ((0 : Int)).toNat).take (((y2 : Int)).toNat - ((0 : Int)).toNat)).length : Int),sC 36 (cF 11 ((x0.Bs.drop ((0 : Int)).toNat).take (((y2 : Int)).toNat - ((0 : Int)).toNat)) zA.row),sI 35 y2,sC 34 (cF 11 x0.Bs zA.row),sA 33 1 3 0,sB 32 false,sB 31 r11,sV 30 (fR (zA.row v10)),sI 3 y2,sA 4 4 11 0,sV 29 (fR (zA.row v10)),(28,.fad ((fR (zA.row v10)))),sI 27 y2,sB 26 true,sI 25 y2,sI 24 (x0.Bs.length : Int),sC 23 (cF 11 x0.Bs zA.row),sB 2 false,sA 1 1 3 0],[(4,(fR (zA.row v10))),(1,(fR (Net.row x0)))]⟩) (fun v => ZV n v.1 v10 x0 y2 v.2 = some o17) (fun v => v.1) (n,0) eo17 (St.sub_of [51,50,49,48,39,38,37,36,35,34,33,32,31,30,3,4,29,28,27,26,25,24,23,2,1] [4,1] kr) ?_
      rintro ⟨mo17,y15⟩ H
      have H : ZV n mo17 v10 x0 y2 y15 = some o17 := H
      obtain _ | mo17 := mo17
      ·exact nN H
      rw [ZV] at H
      refine gA 1 8726823781269534 18<|tS ?_
      obtain ⟨h8,H⟩ | ⟨h8,H⟩ := bC H
      ·refine nA h8<|Tr.exit<|aJ ?_
       obtain rfl := si H
       have H := Ho17
       dsimp only at H
       refine sB' 8726823781269534 18 ⟨92,0,[sB 52 (decide (y15 < (v10.Ps.length : Int))),sI 51 y15,sI 50 (v10.Ps.length : Int),sC 49 (cF 8 v10.Ps Pt.row),sA 48 4 11 2,sB 39 false,sI 38 y14,sI 37 (((x0.Bs.drop ((0 : Int)).toNat).take (((y2 : Int)).toNat - ((0 : Int)).toNat)).length : Int),sC 36 (cF 11 ((x0.Bs.drop ((0 : Int)).toNat).take (((y2 : Int)).toNat - ((0 : Int)).toNat)) zA.row),sI 35 y2,sC 34 (cF 11 x0.Bs zA.row),sA 33 1 3 0,sB 32 false,sB 31 r11,sV 30 (fR (zA.row v10)),sI 3 y2,sA 4 4 11 0,sV 29 (fR (zA.row v10)),(28,.fad ((fR (zA.row v10)))),sI 27 y2,sB 26 true,sI 25 y2,sI 24 (x0.Bs.length : Int),sC 23 (cF 11 x0.Bs zA.row),sB 2 false,sA 1 1 3 0],[(4,(fR (zA.row v10))),(1,(fR (Net.row x0)))]⟩ ?_
       rw [h8]
       exact jA y15 H [52,51,50,49,48,39,38,37,36,35,34,33,32,31,30,3,4,29,28,27,26,25,24,23,2,1] [4,1]
      refine tA h8<|tK<|tS<|tB<|rA 1<|bE H fun v18 ev18 H=> iA Pt.row ev18<|uA 4 0xff00ffff80019e 274<|rA 3<|sL 0x7ff00ffff80019e 274 ⟨92,0,[sB 58 v18.Has,sB 57 v18.Has,sA 56 8 8 2,sI 7 y15,sA 8 8 8 0,sV 55 (Pt.row v18),(54,.fad ((Pt.row v18))),sI 53 y15,sB 52 (decide (y15 < (v10.Ps.length : Int))),sI 51 y15,sI 50 (v10.Ps.length : Int),sC 49 (cF 8 v10.Ps Pt.row),sA 48 4 11 2,sB 39 false,sI 38 y14,sI 37 (((x0.Bs.drop ((0 : Int)).toNat).take (((y2 : Int)).toNat - ((0 : Int)).toNat)).length : Int),sC 36 (cF 11 ((x0.Bs.drop ((0 : Int)).toNat).take (((y2 : Int)).toNat - ((0 : Int)).toNat)) zA.row),sI 35 y2,sC 34 (cF 11 x0.Bs zA.row),sA 33 1 3 0,sB 32 false,sB 31 r11,sV 30 (fR (zA.row v10)),sI 3 y2,sA 4 4 11 0,sV 29 (fR (zA.row v10)),(28,.fad ((fR (zA.row v10)))),sI 27 y2,sB 26 true,sI 25 y2,sI 24 (x0.Bs.length : Int),sC 23 (cF 11 x0.Bs zA.row),sB 2 false,sA 1 1 3 0],[(8,(Pt.row v18)),(4,(fR (zA.row v10))),(1,(fR (Net.row x0)))]⟩ ?_
      cases h9 : v18.Has
      ·have H := zF h9 H
       exact uA 7 0x3ffff00ffff80019e 274<|nB_<|tK<|eA 2 0x7ffff00ffff80019e 274<|jB mo17 (wI (y15 + 1)) H [51,50,49,48,39,38,37,36,35,34,33,32,31,30,3,4,29,28,27,26,25,24,23,2,1] [4,1]
      have H := zG h9 H
      refine lA 4<|bE H fun r19 er19 H=> vA [.rd,.rd,.rd] (zEY n x0.Ls y2 y15 r19 er19)<|uA 2 0x3ffff00ffff80019e 274 ?_
      obtain ⟨h10,H⟩ | ⟨h10,H⟩ := bC H
      ·exact nA h10<|tK<|eA 2 0x7ffff00ffff80019e 274<|jB mo17 (wI (y15 + 1)) H [51,50,49,48,39,38,37,36,35,34,33,32,31,30,3,4,29,28,27,26,25,24,23,2,1] [4,1]
      refine tA h10<|gA 1 0x3ffff00ffff80019e 274<|te ?_
      obtain rfl := si H
      have H := Ho17
      dsimp only at H
      obtain rfl := si H
      have H := Ho9
      dsimp only at H
      exact fF H
     rintro y16 H
     have H : (zAA n (fun v => qH n mo9 x0 v) y2 y16) = some o9 := H
     unfold zAA at H
     exact eA 2 0x8001f00ffff80001e 18<|jB mo9 (wI (y2 + 1)) H [25,24,23,2,1] [1]
    refine tA h7<|gA 1 8581546014 18<|te ?_
    obtain rfl := si H
    have H := Ho9
    dsimp only at H
    exact fF H
   rintro _ H
   have H : (Q5 n x0) = some r := H
   unfold Q5 at H
   refine tS<|rA 2<|kF x0.Said Say.row<|uA 1 0xe00000000000000006 2 ?_
   obtain ⟨o5,eo5,Ho5⟩ := bs H
   clear H
   refine Tr.mid (ι := Unit) (fun v => ⟨92,0,[sB 2 false,sA 1 1 3 0],[(1,(fR (Net.row x0)))]⟩) (fun v => Y5 n x0 = some r) ?_ ?_
   ·refine tB<|Tr.loop (ι := Nat × (Int)) (fun v => ⟨92,0,[sI 71 v.2,sI 70 (x0.Said.length : Int),sC 69 (cF 7 x0.Said Say.row),sB 2 false,sA 1 1 3 0],[(1,(fR (Net.row x0)))]⟩) (fun v => qU n v.1 x0 v.2 = some o5) (fun v => v.1) (n,0) eo5 (St.sub_of [71,70,69,2,1] [1] kr) ?_
    rintro ⟨mo5,y3⟩ H
    have H : qU n mo5 x0 y3 = some o5 := H
    obtain _ | mo5 := mo5
    ·exact nN H
    rw [qU] at H
    refine gA 1 0x1e00000000000000006 2<|tS ?_
    obtain ⟨h3,H⟩ | ⟨h3,H⟩ := bC H
    ·refine nA h3<|Tr.exit<|aJ ?_
     obtain rfl := si H
     have H := Ho5
     dsimp only at H
     exact jA () H [2,1] [1]
    refine tA h3<|tK<|tS<|tB<|tR<|bE H fun v6 ev6 H=> iA Say.row ev6<|uA 3 0x7e00000000000000406 1026<|rA 4<|kF x0.Ls Link.row<|lA 1<|bE H fun r7 er7 H=> vA [.rd,.rd,.rd] (qC n v6.Link 0 (wI ((x0.Ls.length : Int) - 1)) r7 er7)<|lA 2<|sL 0xfffe00000000000000406 1026 ⟨92,0,[sB 83 (!r7),sB 82 (!r7),sB 81 r7,sI 80 (wI ((x0.Ls.length : Int) - 1)),sI 79 (x0.Ls.length : Int),sC 78 (cF 4 x0.Ls Link.row),sA 77 1 3 1,sI 76 v6.Link,sA 75 10 7 0,sA 10 10 7 0,sV 74 (Say.row v6),(73,.fad ((Say.row v6))),sB 72 (decide (y3 < (x0.Said.length : Int))),sI 71 y3,sI 70 (x0.Said.length : Int),sC 69 (cF 7 x0.Said Say.row),sB 2 false,sA 1 1 3 0],[(10,(Say.row v6)),(1,(fR (Net.row x0)))]⟩ ?_
    cases h4 : (!r7)
    ·have H := zF h4 H
     refine lA 2<|bE H fun r8 er8 H=> vA [.rd] (zB8 n v6.V r8 er8)<|uA 2 0x1ffffe00000000000000406 1026 ?_
     obtain ⟨h5,H⟩ | ⟨h5,H⟩ := bC H
     ·exact nA h5<|tK<|eA 2 0x3ffffe00000000000000406 1026<|jB mo5 (wI (y3 + 1)) H [71,70,69,2,1] [1]
     refine tA h5<|gA 1 0x1ffffe00000000000000406 1026<|te ?_
     obtain rfl := si H
     have H := Ho5
     dsimp only at H
     exact fF H
    have H := zG h4 H
    refine uA 5 0x1ffffe00000000000000406 1026<|tB_<|gA 1 0x1ffffe00000000000000406 1026<|te ?_
    obtain rfl := si H
    have H := Ho5
    dsimp only at H
    exact fF H
   rintro _ H
   have H : (Y5 n x0) = some r := H
   unfold Y5 at H
   exact rA 1<|bE H fun r4 er4 H=> vA [.rd] (zJ2 n x0 r4 er4)<|uA 1 4 0<|te (fJ [(false,[cB r4])] H)
  exact tA h2<|gA 1 6 2<|te (fF H)
 have H := zG h1 H
 exact uA 5 2097158 2<|tB_<|gA 1 6 2<|te (fF H)
def zU (n : Nat) (x0 : Net) (x1 : Int) : Option (Bool) :=
  ((zu n x1 0 (IntKind.wrap .i64 ((x0.Ls.length : Int) - 1))).bind fun r1 => (bif (!r1) then (some false) else ((idx x0.Ls x1).bind fun v2 => ((idx x0.Ls x1).bind fun v3 => ((ZM n x0 v2.A v3.P).bind fun r4 => ((idx x0.Ls x1).bind fun v5 => ((idx x0.Ls x1).bind fun v6 => ((ZM n x0 v5.B v6.Q).bind fun r7 => (bif r4.2 then (bif r7.2 then (bif r4.1.Up then (some r7.1.Up) else (some false)) else (some false)) else (some false))))))))))
def zOX : Tab := ⟨20,[0,0,2,0,12,16,32,0,128,0,768,1024,2048,4161,8192,16384,16384,0,196607,524287],[0,0,2,0,12,16,32,0,128,0,768,1024,2048,4161,8192,16384,16384,0,163840,65536],[0,0,2,0,14,30,62,0,128,0,896,1920,3968,8191,16383,32767,32767,0,196607,524287]⟩
theorem YS : za (rg Tryz.f49 3) zOX = true := kr
def zOY : Tab := ⟨20,[0,0,2,0,12,16,32,0,128,0,768,1024,2048,4161,8192,16384,16384,0,196607,524287],[0,0,2,0,12,16,32,0,128,0,768,1024,2048,4161,8192,16384,16384,0,163840,65536],[0,0,2,0,14,30,62,0,128,0,896,1920,3968,8191,16383,32767,32767,0,196607,524287]⟩
theorem YT : za (rg Tryz.f49 4) zOY = true := kr
theorem zAH (n : Nat) (x0 : Net) (x1 : Int) (r : Bool) (H : zU n x0 x1 = some r) : zH Tryz.prog 49 [.val true (fR (Net.row x0)),.val false [.lit (.int .i64 x1)]] [.val false [.lit (.bool r)]] [] := by
 refine cW Tryz.func49 (fun g d => sl [g 0,sl [g 1] (cn 15 (sl [g 2] .ret) .skip),d 3,d 4,g 5] .ret) [.tmp 4] fun cx=>?_
 unfold zU at H
 refine gA 2 6 4<|tS<|rA 3<|kF x0.Ls Link.row<|lA 1<|bE H fun r1 er1 H=> vA [.rd,.rd,.rd] (qC n x1 0 (wI ((x0.Ls.length : Int) - 1)) r1 er1)<|uA 1 32774 4 ?_
 obtain ⟨h1,H⟩ | ⟨h1,H⟩ := bC H
 ·refine nA h1<|tK<|bE H fun v2 ev2 H=> bE H fun v3 ev3 H=> bE H fun r4 er4 H=> Tr.draws mixed 20 kr ⟨62,0,[sB 6 r4.2,sA 5 5 8 0,sA 2 2 3 0,sI 1 x1],[(5,(Pt.row r4.1)),(2,(fR (Net.row x0)))]⟩ (fun cx=>?_) ?_
  ·refine mA YS [(0,[13,18]),(1,[]),(2,[13,18]),(3,[])] 16 [⟨[13,18],50,18,19⟩,⟨[13,18],53,2,17⟩] fun cx=>iN YS 4 Link.row ev2 fun cx=>mA YS [(5,[]),(6,[]),(7,[]),(8,[13,18]),(9,[])] 10 [⟨[13,18],50,24,25⟩,⟨[13,18],50,18,19⟩,⟨[13,18],53,2,17⟩] fun cx=>iN YS 10 Link.row ev3 fun cx=>mA YS [(11,[]),(12,[])] 7 [⟨[13,18],50,24,25⟩,⟨[13,18],50,18,19⟩,⟨[13,18],53,2,17⟩] fun cx=>mB2 tOk YS 13 17 kr (And.intro kr ?_) (And.intro kr ?_)
   ·refine vA [.rd,.rd,.rd] (JO n x0 v2.A v3.P r4 er4)<|fA<|AT.movT tOk 14 (ty := 129) (t := 30) (d := 16) (g := none) [(true,(Pt.row r4.1)),(false,[cB r4.2])] _ kr (oM YS kr) (dM YS kr) (.inl rfl) kr kr kr kr rfl (fun cx=>?_)
    exact mA YS [(15,[]),(16,[])] 3 [⟨[13,18],50,24,25⟩,⟨[13,18],50,18,19⟩,⟨[13,18],53,2,17⟩] fun cx=>mC YS 17<|lA 1<|fA<|mC YS 18<|lA 1<|fA<|mA YS [(19,[])] 0 [⟨[13,18],50,24,25⟩,⟨[13,18],50,18,19⟩,⟨[13,18],53,2,17⟩] fun cx=>mE YS [6,5,2,1] [5,2]
   ·refine lA 1<|fA<|mC YS 13<|vA [.rd,.rd,.rd] (JO n x0 v2.A v3.P r4 er4)<|fA<|AT.movT tOk 14 (ty := 129) (t := 30) (d := 16) (g := none) [(true,(Pt.row r4.1)),(false,[cB r4.2])] _ kr (oM YS kr) (dM YS kr) (.inl rfl) kr kr kr kr rfl (fun cx=>?_)
    exact mA YS [(15,[]),(16,[])] 2 [⟨[13,18],50,24,25⟩,⟨[13,18],50,18,19⟩,⟨[13,18],53,2,17⟩] fun cx=>mC YS 18<|lA 1<|fA<|mA YS [(19,[])] 0 [⟨[13,18],50,24,25⟩,⟨[13,18],50,18,19⟩,⟨[13,18],53,2,17⟩] fun cx=>mE YS [6,5,2,1] [5,2]
  refine bE H fun v5 ev5 H=> bE H fun v6 ev6 H=> bE H fun r7 er7 H=> Tr.draws mixed 20 kr ⟨62,0,[sB 8 r7.2,sA 7 7 8 0,sB 6 r4.2,sA 5 5 8 0],[(7,(Pt.row r7.1)),(5,(Pt.row r4.1))]⟩ (fun cx=>?_) ?_
  ·refine mA YT [(0,[13,18]),(1,[]),(2,[13,18]),(3,[])] 16 [⟨[13,18],50,35,36⟩,⟨[13,18],53,2,34⟩] fun cx=>iN YT 4 Link.row ev5 fun cx=>mA YT [(5,[]),(6,[]),(7,[]),(8,[13,18]),(9,[])] 10 [⟨[13,18],50,41,42⟩,⟨[13,18],50,35,36⟩,⟨[13,18],53,2,34⟩] fun cx=>iN YT 10 Link.row ev6 fun cx=>mA YT [(11,[]),(12,[])] 7 [⟨[13,18],50,41,42⟩,⟨[13,18],50,35,36⟩,⟨[13,18],53,2,34⟩] fun cx=>mB2 tOk YT 13 17 kr (And.intro kr ?_) (And.intro kr ?_)
   ·refine vA [.rd,.rd,.rd] (JO n x0 v5.B v6.Q r7 er7)<|fA<|AT.movT tOk 14 (ty := 129) (t := 47) (d := 33) (g := none) [(true,(Pt.row r7.1)),(false,[cB r7.2])] _ kr (oM YT kr) (dM YT kr) (.inl rfl) kr kr kr kr rfl (fun cx=>?_)
    exact mA YT [(15,[]),(16,[])] 3 [⟨[13,18],50,41,42⟩,⟨[13,18],50,35,36⟩,⟨[13,18],53,2,34⟩] fun cx=>mC YT 17<|lA 1<|fA<|mC YT 18<|lA 1<|fA<|mA YT [(19,[])] 0 [⟨[13,18],50,41,42⟩,⟨[13,18],50,35,36⟩,⟨[13,18],53,2,34⟩] fun cx=>mE YT [8,7,6,5] [7,5]
   ·refine lA 1<|fA<|mC YT 13<|vA [.rd,.rd,.rd] (JO n x0 v5.B v6.Q r7 er7)<|fA<|AT.movT tOk 14 (ty := 129) (t := 47) (d := 33) (g := none) [(true,(Pt.row r7.1)),(false,[cB r7.2])] _ kr (oM YT kr) (dM YT kr) (.inl rfl) kr kr kr kr rfl (fun cx=>?_)
    exact mA YT [(15,[]),(16,[])] 2 [⟨[13,18],50,41,42⟩,⟨[13,18],50,35,36⟩,⟨[13,18],53,2,34⟩] fun cx=>mC YT 18<|lA 1<|fA<|mA YT [(19,[])] 0 [⟨[13,18],50,41,42⟩,⟨[13,18],50,35,36⟩,⟨[13,18],53,2,34⟩] fun cx=>mE YT [8,7,6,5] [7,5]
  refine rA 2<|sL 0x80000000001a0 160 ⟨62,0,[sB 51 r4.2,sB 8 r7.2,sA 7 7 8 0,sA 5 5 8 0],[(7,(Pt.row r7.1)),(5,(Pt.row r4.1))]⟩ ?_
  cases h2 : r4.2
  ·have H := zF h2 H
   exact uA 11 16 0<|te (fF H)
  have H := zG h2 H
  refine lA 3<|sL 0x400000000000a0 160 ⟨62,0,[sB 54 r7.2,sA 7 7 8 0,sA 5 5 8 0],[(7,(Pt.row r7.1)),(5,(Pt.row r4.1))]⟩ ?_
  cases h3 : r7.2
  ·have H := zF h3 H
   exact uA 8 16 0<|te (fF H)
  have H := zG h3 H
  refine lA 4<|sL 0x400000000000080 128 ⟨62,0,[sB 58 r4.1.Up,sA 7 7 8 0],[(7,(Pt.row r7.1))]⟩ ?_
  cases h4 : r4.1.Up
  ·have H := zF h4 H
   exact uA 4 16 0<|te (fF H)
  have H := zG h4 H
  exact uA 4 16 0<|te (fJ [(false,[cB r7.1.Up])] H)
 exact tA h1<|gA 1 16 0<|te (fF H)
def zBc (n : Nat) (x0 : Vec) (x1 : Int) : Option (Vec × Bool) :=
  ((Yi n x0).bind fun r1 => (bif (!r1) then (some (x0,false)) else ((zu n x1 1 1000).bind fun r2 => (bif (!r2) then (some (x0,false)) else ((Yi n (⟨x0.Root,(IntKind.wrap .i64 (x0.Co + x1)),(IntKind.wrap .i64 (x0.Hops + 1)),x0.Bridge,x0.Port⟩ : Vec)).bind fun r3 => (bif (!r3) then (some (x0,false)) else (some ((⟨x0.Root,(IntKind.wrap .i64 (x0.Co + x1)),(IntKind.wrap .i64 (x0.Hops + 1)),x0.Bridge,x0.Port⟩ : Vec),true))))))))
theorem zJ0 (n : Nat) (x0 : Vec) (x1 : Int) (r : Vec × Bool) (H : zBc n x0 x1 = some r) : zH Tryz.prog 176 [.val true (fR (Vec.row x0)),.val false [.lit (.int .i64 x1)]] [.val true (Vec.row r.1),.val false [.lit (.bool r.2)]] [] := by
 refine cW Tryz.func176 (fun g d => sl [g 0,sl [g 1] (cn 14 (sl [g 2] .ret) .skip),g 3,g 4,g 5,sl [g 6] (cn 28 (sl [g 7] .ret) .skip),g 8] .ret) [.cell 4 33,.tmp 5] fun cx=>?_
 unfold zBc at H
 refine gA 3 22 20<|tS<|rA 1<|bE H fun r1 er1 H=> vA [.rd] (zB8 n x0 r1 er1)<|lA 2<|sL 1046 20 ⟨31,0,[sB 10 (!r1),sA 4 4 5 0,sA 2 2 5 0,sI 1 x1],[(4,[cI 0,cI 0,cI 0,cI 0,cI 0]),(2,(Vec.row x0))]⟩ ?_
 cases h1 : (!r1)
 ·have H := zF h1 H
  refine lA 1<|bE H fun r2 er2 H=> vA [.rd,.rd,.rd] (qC n x1 1 1000 r2 er2)<|uA 2 16406 20 ?_
  obtain ⟨h2,H⟩ | ⟨h2,H⟩ := bC H
  ·refine nA h2<|tK<|gA 3 86 84<|gA 6 84 84<|gA 5 84 84<|tS<|rA 1<|bE H fun r3 er3 H=> vA [.rd] (zB8 n (⟨x0.Root,(wI (x0.Co + x1)),(wI (x0.Hops + 1)),x0.Bridge,x0.Port⟩ : Vec) r3 er3)<|uA 1 268435540 84 ?_
   obtain ⟨h3,H⟩ | ⟨h3,H⟩ := bC H
   ·exact nA h3<|tK<|gA 3 48 16<|te (fJ [(true,[cI x0.Root,cI (wI (x0.Co + x1)),cI (wI (x0.Hops + 1)),cI x0.Bridge,cI x0.Port]),(false,[cB true])] H)
   exact tA h3<|gA 3 48 16<|te (fJ [(true,(Vec.row x0)),(false,[cB false])] H)
  exact tA h2<|gA 3 48 16<|te (fJ [(true,(Vec.row x0)),(false,[cB false])] H)
 have H := zG h1 H
 exact uA 4 16406 20<|tB_<|gA 3 48 16<|te (fJ [(true,(Vec.row x0)),(false,[cB false])] H)
def J8 (n : Nat) (x0 : Vec) (x1 : Vec) : Option (Bool) :=
  (bif (x0.Root != x1.Root) then (some (decide (x0.Root < x1.Root))) else (bif (x0.Co != x1.Co) then (some (decide (x0.Co < x1.Co))) else (bif (x0.Bridge != x1.Bridge) then (some (decide (x0.Bridge < x1.Bridge))) else (some (decide (x0.Port < x1.Port))))))
theorem zGE (n : Nat) (x0 : Vec) (x1 : Vec) (r : Bool) (H : J8 n x0 x1 = some r) : zH Tryz.prog 177 [.val true (fR (Vec.row x0)),.val true (fR (Vec.row x1))] [.val false [.lit (.bool r)]] [] := by
 refine cW Tryz.func177 (fun g d => sl [g 0,.block 0 (sl [g 1] (cn 5 (sl [g 2] .ret) (sl [g 3] (cn 16 (sl [g 4] .ret) (sl [g 5] (cn 27 (sl [g 6] .ret) .skip)))))),g 7] .ret) [.tmp 4] fun cx=>?_
 unfold J8 at H
 refine gA 3 12 12<|tS<|tB<|gA 6 44 12 ?_
 obtain ⟨h1,H⟩ | ⟨h1,H⟩ := bC H
 ·refine nA h1<|gA 6 65548 12 ?_
  obtain ⟨h2,H⟩ | ⟨h2,H⟩ := bC H
  ·refine nA h2<|gA 6 134217740 12 ?_
   obtain ⟨h3,H⟩ | ⟨h3,H⟩ := bC H
   ·exact nA h3<|tK<|gA 6 16 0<|te (fJ [(false,[cB (decide (x0.Port < x1.Port))])] H)
   exact tA h3<|gA 6 16 0<|te (fJ [(false,[cB (decide (x0.Bridge < x1.Bridge))])] H)
  exact tA h2<|gA 6 16 0<|te (fJ [(false,[cB (decide (x0.Co < x1.Co))])] H)
 exact tA h1<|gA 6 16 0<|te (fJ [(false,[cB (decide (x0.Root < x1.Root))])] H)
def zAL (n : Nat) (x0 : Int) (y11 : Int) (y12 : Int) (y13 : Int) (y14 : Int) : Option (Vec × Int) :=
  (some ((⟨y12,y13,y14,x0,0⟩ : Vec),y11))
def QJ (n : Nat) (k : (Int × Int × Int × Int × Int × Int × Int × Int × Int × Int → Option ((Int × Int × Int × Int) ⊕ (Vec × Int)))) (r17 : Vec × Bool) (y1 : Int) (y10 : Int) (y2 : Int) (y3 : Int) (y4 : Int) (y5 : Int) (y6 : Int) (y7 : Int) (y8 : Int) (y9 : Int) (y18 : Bool) (y19 : Bool) (y20 : Bool) (y21 : Bool) (y22 : Bool) (y23 : Bool) (y24 : Bool) : Option ((Int × Int × Int × Int) ⊕ (Vec × Int)) :=
  (bif y18 then (k ((IntKind.wrap .i64 (y1 + 1)),y1,r17.1.Root,r17.1.Co,r17.1.Hops,r17.1.Bridge,r17.1.Port,r17.1.Root,r17.1.Co,r17.1.Hops)) else (k ((IntKind.wrap .i64 (y1 + 1)),y2,y3,y4,y5,y6,y7,y8,y9,y10)))
def qh (n : Nat) : Nat → Int → (List Pt) → Int → Int → Int → Int → Int → Int → Int → Int → Int → Int → Option ((Int × Int × Int × Int) ⊕ (Vec × Int))
  | 0,_,_,_,_,_,_,_,_,_,_,_,_ => none
  | mo15 + 1,x0,x1,y1,y2,y3,y4,y5,y6,y7,y8,y9,y10 => (bif (decide (y1 < (x1.length : Int))) then ((idx x1 y1).bind fun v16 => (bif (!v16.Up) then (qh n mo15 x0 x1 (IntKind.wrap .i64 (y1 + 1)) y2 y3 y4 y5 y6 y7 y8 y9 y10) else (bif (!v16.Has) then (qh n mo15 x0 x1 (IntKind.wrap .i64 (y1 + 1)) y2 y3 y4 y5 y6 y7 y8 y9 y10) else ((zBc n v16.Hd v16.Co).bind fun r17 => (bif r17.2 then (bif (decide (r17.1.Root < x0)) then (bif (decide (y2 < 0)) then (QJ n (fun v => qh n mo15 x0 x1 v.1 v.2.1 v.2.2.1 v.2.2.2.1 v.2.2.2.2.1 v.2.2.2.2.2.1 v.2.2.2.2.2.2.1 v.2.2.2.2.2.2.2.1 v.2.2.2.2.2.2.2.2.1 v.2.2.2.2.2.2.2.2.2) r17 y1 y10 y2 y3 y4 y5 y6 y7 y8 y9 true true true true true true true) else ((J8 n r17.1 (⟨y3,y4,y5,y6,y7⟩ : Vec)).bind fun r25 => (QJ n (fun v => qh n mo15 x0 x1 v.1 v.2.1 v.2.2.1 v.2.2.2.1 v.2.2.2.2.1 v.2.2.2.2.2.1 v.2.2.2.2.2.2.1 v.2.2.2.2.2.2.2.1 v.2.2.2.2.2.2.2.2.1 v.2.2.2.2.2.2.2.2.2) r17 y1 y10 y2 y3 y4 y5 y6 y7 y8 y9 r25 true true true true true true))) else (QJ n (fun v => qh n mo15 x0 x1 v.1 v.2.1 v.2.2.1 v.2.2.2.1 v.2.2.2.2.1 v.2.2.2.2.2.1 v.2.2.2.2.2.2.1 v.2.2.2.2.2.2.2.1 v.2.2.2.2.2.2.2.2.1 v.2.2.2.2.2.2.2.2.2) r17 y1 y10 y2 y3 y4 y5 y6 y7 y8 y9 false false false true true true true)) else (QJ n (fun v => qh n mo15 x0 x1 v.1 v.2.1 v.2.2.1 v.2.2.2.1 v.2.2.2.2.1 v.2.2.2.2.2.1 v.2.2.2.2.2.2.1 v.2.2.2.2.2.2.2.1 v.2.2.2.2.2.2.2.2.1 v.2.2.2.2.2.2.2.2.2) r17 y1 y10 y2 y3 y4 y5 y6 y7 y8 y9 false false false false false false false)))))) else (some (Sum.inl (y2,y8,y9,y10))))
def Y3 (n : Nat) (x0 : Int) (x1 : (List Pt)) : Option (Vec × Int) :=
  ((qh n n x0 x1 0 (-1) 0 0 0 0 0 x0 0 0).bind fun o => match o with | .inl (y11,y12,y13,y14) => (zAL n x0 y11 y12 y13 y14) | .inr r => some r)
theorem zGC (n : Nat) (x0 : Int) (x1 : (List Pt)) (r : Vec × Int) (H : Y3 n x0 x1 = some r) : zH Tryz.prog 137 [.val false [.lit (.int .i64 x0)],.val false [.sl false 8 (CV.frzEs (x1.map Pt.row))]] [.val true (Vec.row r.1),.val false [.lit (.int .i64 r.2)]] [] := by
 refine cW Tryz.func137 (fun g d => sl [g 0,g 1,g 2,sl [g 3] (.block 0 (.loop (sl [g 4,cn 19 .skip (.exit 0),.block 1 (sl [g 5,sl [g 6] (cn 30 (.exit 1) .skip),g 7,g 8] (cn 54 (sl [g 9] (g 10)) .skip))] (g 11)))),g 12] .ret) [.cell 4 33,.tmp 5] fun cx=>?_
 unfold Y3 at H
 refine gA 2 51 16<|gA 6 243 80<|gA 1 499 336<|tS<|rA 1<|kF x1 Pt.row<|uA 1 459249 336 ?_
 obtain ⟨o15,eo15,Ho15⟩ := bs H
 clear H
 refine Tr.mid (ι := Int × Int × Int × Int) (fun v => ⟨68,0,[sI 7 v.1,sA 6 6 5 0,sI 5 0,sA 4 4 5 0],[(6,[cI v.2.1,cI v.2.2.1,cI v.2.2.2,cI x0,cI 0]),(4,[cI 0,cI 0,cI 0,cI 0,cI 0])]⟩) (fun v => zAL n x0 v.1 v.2.1 v.2.2.1 v.2.2.2 = some r) ?_ ?_
 ·refine tB<|Tr.loop (ι := Nat × (Int × Int × Int × Int × Int × Int × Int × Int × Int × Int)) (fun v => ⟨68,0,[sI 18 v.2.1,sI 17 (x1.length : Int),sC 16 (cF 8 x1 Pt.row),sA 8 8 5 0,sI 7 v.2.2.1,sA 6 6 5 0,sI 5 0,sA 4 4 5 0,sI 0 x0],[(8,[cI v.2.2.2.1,cI v.2.2.2.2.1,cI v.2.2.2.2.2.1,cI v.2.2.2.2.2.2.1,cI v.2.2.2.2.2.2.2.1]),(6,[cI v.2.2.2.2.2.2.2.2.1,cI v.2.2.2.2.2.2.2.2.2.1,cI v.2.2.2.2.2.2.2.2.2.2,cI x0,cI 0]),(4,[cI 0,cI 0,cI 0,cI 0,cI 0])]⟩) (fun v => qh n v.1 x0 x1 v.2.1 v.2.2.1 v.2.2.2.1 v.2.2.2.2.1 v.2.2.2.2.2.1 v.2.2.2.2.2.2.1 v.2.2.2.2.2.2.2.1 v.2.2.2.2.2.2.2.2.1 v.2.2.2.2.2.2.2.2.2.1 v.2.2.2.2.2.2.2.2.2.2 = some o15) (fun v => v.1) (n,(0,(-1),0,0,0,0,0,x0,0,0)) eo15 (St.sub_of [18,17,16,8,7,6,5,4,0] [8,6,4] kr) ?_
  rintro ⟨mo15,y1,y2,y3,y4,y5,y6,y7,y8,y9,y10⟩ H
  have H : qh n mo15 x0 x1 y1 y2 y3 y4 y5 y6 y7 y8 y9 y10 = some o15 := H
  obtain _ | mo15 := mo15
  ·exact nN H
  rw [qh] at H
  refine gA 1 983537 336<|tS ?_
  obtain ⟨h1,H⟩ | ⟨h1,H⟩ := bC H
  ·refine nA h1<|Tr.exit<|aJ ?_
   obtain rfl := si H
   have H := Ho15
   dsimp only at H
   exact jA (y2,y8,y9,y10) H [7,6,5,4] [6,4]
  refine tA h1<|tK<|tS<|tB<|rA 1<|bE H fun v16 ev16 H=> iA Pt.row ev16<|uA 4 8325105 1360<|tS<|rA 4<|sL 134154225 1360 ⟨68,0,[sB 26 (!v16.Up),sB 25 (!v16.Up),sB 24 v16.Up,sA 23 10 8 0,sI 9 y1,sA 10 10 8 0,sV 22 (Pt.row v16),(21,.fad ((Pt.row v16))),sI 20 y1,sB 19 (decide (y1 < (x1.length : Int))),sI 18 y1,sI 17 (x1.length : Int),sC 16 (cF 8 x1 Pt.row),sA 8 8 5 0,sI 7 y2,sA 6 6 5 0,sI 5 0,sA 4 4 5 0,sI 0 x0],[(10,(Pt.row v16)),(8,[cI y3,cI y4,cI y5,cI y6,cI y7]),(6,[cI y8,cI y9,cI y10,cI x0,cI 0]),(4,[cI 0,cI 0,cI 0,cI 0,cI 0])]⟩ ?_
  cases h2 : (!v16.Up)
  ·have H := zF h2 H
   refine uA 4 2147420145 1360 ?_
   obtain ⟨h3,H⟩ | ⟨h3,H⟩ := bC H
   ·refine nA h3<|tK<|rA 4<|bE H fun r17 er17 H=> vA [.rd,.rd] (zJ0 n v16.Hd v16.Co r17 er17)<|LAt.movT tOk (ty := 167) (t := 36) (d := 31) (g := none) [(true,(Vec.row r17.1)),(false,[cB r17.2])] _ kr (.inl rfl) kr kr kr kr rfl<|uA 5 481036279793 3408<|tS<|Tr.mid (ι := Bool × Bool × Bool × Bool × Bool × Bool × Bool) (fun v => ⟨68,0,[sB 54 v.1,sB 46 v.2.1,sB 45 v.2.2.1,sB 40 v.2.2.2.1,sB 39 v.2.2.2.2.1,sB 12 v.2.2.2.2.2.1,sA 11 11 5 0,sB 38 v.2.2.2.2.2.2,(31,.tup [(true,[.dead,.dead,.dead,.dead,.dead]),(false,[.dead])]),sV 37 (Vec.row r17.1),sI 35 v16.Co,sA 34 10 8 1,sV 33 ((Pt.row v16).drop 3),sA 32 10 8 3,sB 30 false,sB 29 false,sB 28 v16.Has,sA 27 10 8 2,sB 26 false,sB 25 false,sB 24 v16.Up,sA 23 10 8 0,sI 9 y1,sA 10 10 8 0,sV 22 (Pt.row v16),(21,.fad ((Pt.row v16))),sI 20 y1,sB 19 true,sI 18 y1,sI 17 (x1.length : Int),sC 16 (cF 8 x1 Pt.row),sA 8 8 5 0,sI 7 y2,sA 6 6 5 0,sI 5 0,sA 4 4 5 0,sI 0 x0],[(11,(Vec.row r17.1)),(10,(Pt.row v16)),(8,[cI y3,cI y4,cI y5,cI y6,cI y7]),(6,[cI y8,cI y9,cI y10,cI x0,cI 0]),(4,[cI 0,cI 0,cI 0,cI 0,cI 0])]⟩) (fun v => QJ n (fun v => qh n mo15 x0 x1 v.1 v.2.1 v.2.2.1 v.2.2.2.1 v.2.2.2.2.1 v.2.2.2.2.2.1 v.2.2.2.2.2.2.1 v.2.2.2.2.2.2.2.1 v.2.2.2.2.2.2.2.2.1 v.2.2.2.2.2.2.2.2.2) r17 y1 y10 y2 y3 y4 y5 y6 y7 y8 y9 v.1 v.2.1 v.2.2.1 v.2.2.2.1 v.2.2.2.2.1 v.2.2.2.2.2.1 v.2.2.2.2.2.2 = some o15) ?_ ?_
    ·refine Tr.at<|lA 2<|sL 2130303721457 3408 ⟨68,0,[sB 40 r17.2,sB 39 r17.2,sB 12 r17.2,sA 11 11 5 0,sB 38 r17.2,(31,.tup [(true,[.dead,.dead,.dead,.dead,.dead]),(false,[.dead])]),sV 37 (Vec.row r17.1),sI 35 v16.Co,sA 34 10 8 1,sV 33 ((Pt.row v16).drop 3),sA 32 10 8 3,sB 30 (!v16.Has),sB 29 (!v16.Has),sB 28 v16.Has,sA 27 10 8 2,sB 26 false,sB 25 false,sB 24 v16.Up,sA 23 10 8 0,sI 9 y1,sA 10 10 8 0,sV 22 (Pt.row v16),(21,.fad ((Pt.row v16))),sI 20 y1,sB 19 (decide (y1 < (x1.length : Int))),sI 18 y1,sI 17 (x1.length : Int),sC 16 (cF 8 x1 Pt.row),sA 8 8 5 0,sI 7 y2,sA 6 6 5 0,sI 5 0,sA 4 4 5 0,sI 0 x0],[(11,(Vec.row r17.1)),(10,(Pt.row v16)),(8,[cI y3,cI y4,cI y5,cI y6,cI y7]),(6,[cI y8,cI y9,cI y10,cI x0,cI 0]),(4,[cI 0,cI 0,cI 0,cI 0,cI 0])]⟩ ?_
     cases h5 : r17.2
     ·have H := zF h5 H
      refine uA 14 0x7fffefffff1ff1 3408<|sB' 0x7fffefffff1ff1 3408 ⟨68,0,[sB 54 false,(53,.tup []),(52,.tup []),(51,.tup []),(50,.tup []),(49,.tup []),(48,.tup []),(47,.tup []),sB 46 false,sB 45 false,(44,.tup []),(43,.tup []),(42,.tup []),(41,.tup []),sB 40 false,sB 39 false,sB 12 false,sA 11 11 5 0,sB 38 false,(31,.tup [(true,[.dead,.dead,.dead,.dead,.dead]),(false,[.dead])]),sV 37 (Vec.row r17.1),sI 35 v16.Co,sA 34 10 8 1,sV 33 ((Pt.row v16).drop 3),sA 32 10 8 3,sB 30 (!v16.Has),sB 29 (!v16.Has),sB 28 v16.Has,sA 27 10 8 2,sB 26 false,sB 25 false,sB 24 v16.Up,sA 23 10 8 0,sI 9 y1,sA 10 10 8 0,sV 22 (Pt.row v16),(21,.fad ((Pt.row v16))),sI 20 y1,sB 19 (decide (y1 < (x1.length : Int))),sI 18 y1,sI 17 (x1.length : Int),sC 16 (cF 8 x1 Pt.row),sA 8 8 5 0,sI 7 y2,sA 6 6 5 0,sI 5 0,sA 4 4 5 0,sI 0 x0],[(11,(Vec.row r17.1)),(10,(Pt.row v16)),(8,[cI y3,cI y4,cI y5,cI y6,cI y7]),(6,[cI y8,cI y9,cI y10,cI x0,cI 0]),(4,[cI 0,cI 0,cI 0,cI 0,cI 0])]⟩ ?_
      rw [h1]
      rw [h3]
      exact jA (false,false,false,false,false,false,false) H [54,46,45,40,39,12,11,38,31,37,35,34,33,32,30,29,28,27,26,25,24,23,9,10,22,21,20,19,18,17,16,8,7,6,5,4,0] [11,10,8,6,4]
     have H := zG h5 H
     refine lA 6<|sL 0x7fefffff1ff1 3408 ⟨68,0,[sB 46 (decide (r17.1.Root < x0)),sB 45 (decide (r17.1.Root < x0)),sB 44 (decide (r17.1.Root < x0)),sI 43 x0,sI 42 r17.1.Root,sA 41 11 5 0,sB 40 true,sB 39 true,sB 12 true,sA 11 11 5 0,sB 38 true,(31,.tup [(true,[.dead,.dead,.dead,.dead,.dead]),(false,[.dead])]),sV 37 (Vec.row r17.1),sI 35 v16.Co,sA 34 10 8 1,sV 33 ((Pt.row v16).drop 3),sA 32 10 8 3,sB 30 (!v16.Has),sB 29 (!v16.Has),sB 28 v16.Has,sA 27 10 8 2,sB 26 false,sB 25 false,sB 24 v16.Up,sA 23 10 8 0,sI 9 y1,sA 10 10 8 0,sV 22 (Pt.row v16),(21,.fad ((Pt.row v16))),sI 20 y1,sB 19 (decide (y1 < (x1.length : Int))),sI 18 y1,sI 17 (x1.length : Int),sC 16 (cF 8 x1 Pt.row),sA 8 8 5 0,sI 7 y2,sA 6 6 5 0,sI 5 0,sA 4 4 5 0,sI 0 x0],[(11,(Vec.row r17.1)),(10,(Pt.row v16)),(8,[cI y3,cI y4,cI y5,cI y6,cI y7]),(6,[cI y8,cI y9,cI y10,cI x0,cI 0]),(4,[cI 0,cI 0,cI 0,cI 0,cI 0])]⟩ ?_
     cases h6 : (decide (r17.1.Root < x0))
     ·have H := zF h6 H
      refine uA 8 0x7fffefffff1ff1 3408<|sB' 0x7fffefffff1ff1 3408 ⟨68,0,[sB 54 false,(53,.tup []),(52,.tup []),(51,.tup []),(50,.tup []),(49,.tup []),(48,.tup []),(47,.tup []),sB 46 false,sB 45 false,sB 44 false,sI 43 x0,sI 42 r17.1.Root,sA 41 11 5 0,sB 40 true,sB 39 true,sB 12 true,sA 11 11 5 0,sB 38 true,(31,.tup [(true,[.dead,.dead,.dead,.dead,.dead]),(false,[.dead])]),sV 37 (Vec.row r17.1),sI 35 v16.Co,sA 34 10 8 1,sV 33 ((Pt.row v16).drop 3),sA 32 10 8 3,sB 30 (!v16.Has),sB 29 (!v16.Has),sB 28 v16.Has,sA 27 10 8 2,sB 26 false,sB 25 false,sB 24 v16.Up,sA 23 10 8 0,sI 9 y1,sA 10 10 8 0,sV 22 (Pt.row v16),(21,.fad ((Pt.row v16))),sI 20 y1,sB 19 (decide (y1 < (x1.length : Int))),sI 18 y1,sI 17 (x1.length : Int),sC 16 (cF 8 x1 Pt.row),sA 8 8 5 0,sI 7 y2,sA 6 6 5 0,sI 5 0,sA 4 4 5 0,sI 0 x0],[(11,(Vec.row r17.1)),(10,(Pt.row v16)),(8,[cI y3,cI y4,cI y5,cI y6,cI y7]),(6,[cI y8,cI y9,cI y10,cI x0,cI 0]),(4,[cI 0,cI 0,cI 0,cI 0,cI 0])]⟩ ?_
      rw [h1]
      rw [h3]
      exact jA (false,false,false,true,true,true,true) H [54,46,45,40,39,12,11,38,31,37,35,34,33,32,30,29,28,27,26,25,24,23,9,10,22,21,20,19,18,17,16,8,7,6,5,4,0] [11,10,8,6,4]
     have H := zG h6 H
     refine lA 3<|sL 0x3ffefffff1ff1 3408 ⟨68,0,[sB 49 (decide (y2 < 0)),sB 48 (decide (y2 < 0)),sI 47 y2,sB 46 true,sB 45 true,sB 44 true,sI 43 x0,sI 42 r17.1.Root,sA 41 11 5 0,sB 40 true,sB 39 true,sB 12 true,sA 11 11 5 0,sB 38 true,(31,.tup [(true,[.dead,.dead,.dead,.dead,.dead]),(false,[.dead])]),sV 37 (Vec.row r17.1),sI 35 v16.Co,sA 34 10 8 1,sV 33 ((Pt.row v16).drop 3),sA 32 10 8 3,sB 30 (!v16.Has),sB 29 (!v16.Has),sB 28 v16.Has,sA 27 10 8 2,sB 26 false,sB 25 false,sB 24 v16.Up,sA 23 10 8 0,sI 9 y1,sA 10 10 8 0,sV 22 (Pt.row v16),(21,.fad ((Pt.row v16))),sI 20 y1,sB 19 (decide (y1 < (x1.length : Int))),sI 18 y1,sI 17 (x1.length : Int),sC 16 (cF 8 x1 Pt.row),sA 8 8 5 0,sI 7 y2,sA 6 6 5 0,sI 5 0,sA 4 4 5 0,sI 0 x0],[(11,(Vec.row r17.1)),(10,(Pt.row v16)),(8,[cI y3,cI y4,cI y5,cI y6,cI y7]),(6,[cI y8,cI y9,cI y10,cI x0,cI 0]),(4,[cI 0,cI 0,cI 0,cI 0,cI 0])]⟩ ?_
     cases h7 : (decide (y2 < 0))
     ·have H := zF h7 H
      refine lA 2<|bE H fun r25 er25 H=> vA [.rd,.rd] (zGE n r17.1 (⟨y3,y4,y5,y6,y7⟩ : Vec) r25 er25)<|uA 2 0x7fffefffff1ff1 3408<|sB' 0x7fffefffff1ff1 3408 ⟨68,0,[sB 54 r25,sB 53 r25,sB 52 r25,sV 51 [cI y3,cI y4,cI y5,cI y6,cI y7],sV 50 (Vec.row r17.1),sB 49 false,sB 48 false,sI 47 y2,sB 46 true,sB 45 true,sB 44 true,sI 43 x0,sI 42 r17.1.Root,sA 41 11 5 0,sB 40 true,sB 39 true,sB 12 true,sA 11 11 5 0,sB 38 true,(31,.tup [(true,[.dead,.dead,.dead,.dead,.dead]),(false,[.dead])]),sV 37 (Vec.row r17.1),sI 35 v16.Co,sA 34 10 8 1,sV 33 ((Pt.row v16).drop 3),sA 32 10 8 3,sB 30 (!v16.Has),sB 29 (!v16.Has),sB 28 v16.Has,sA 27 10 8 2,sB 26 false,sB 25 false,sB 24 v16.Up,sA 23 10 8 0,sI 9 y1,sA 10 10 8 0,sV 22 (Pt.row v16),(21,.fad ((Pt.row v16))),sI 20 y1,sB 19 (decide (y1 < (x1.length : Int))),sI 18 y1,sI 17 (x1.length : Int),sC 16 (cF 8 x1 Pt.row),sA 8 8 5 0,sI 7 y2,sA 6 6 5 0,sI 5 0,sA 4 4 5 0,sI 0 x0],[(11,(Vec.row r17.1)),(10,(Pt.row v16)),(8,[cI y3,cI y4,cI y5,cI y6,cI y7]),(6,[cI y8,cI y9,cI y10,cI x0,cI 0]),(4,[cI 0,cI 0,cI 0,cI 0,cI 0])]⟩ ?_
      rw [h1]
      rw [h3]
      exact jA (r25,true,true,true,true,true,true) H [54,46,45,40,39,12,11,38,31,37,35,34,33,32,30,29,28,27,26,25,24,23,9,10,22,21,20,19,18,17,16,8,7,6,5,4,0] [11,10,8,6,4]
     have H := zG h7 H
     refine uA 5 0x7fffefffff1ff1 3408<|sB' 0x7fffefffff1ff1 3408 ⟨68,0,[sB 54 true,sB 53 true,(52,.tup []),(51,.tup []),(50,.tup []),sB 49 true,sB 48 true,sI 47 y2,sB 46 true,sB 45 true,sB 44 true,sI 43 x0,sI 42 r17.1.Root,sA 41 11 5 0,sB 40 true,sB 39 true,sB 12 true,sA 11 11 5 0,sB 38 true,(31,.tup [(true,[.dead,.dead,.dead,.dead,.dead]),(false,[.dead])]),sV 37 (Vec.row r17.1),sI 35 v16.Co,sA 34 10 8 1,sV 33 ((Pt.row v16).drop 3),sA 32 10 8 3,sB 30 (!v16.Has),sB 29 (!v16.Has),sB 28 v16.Has,sA 27 10 8 2,sB 26 false,sB 25 false,sB 24 v16.Up,sA 23 10 8 0,sI 9 y1,sA 10 10 8 0,sV 22 (Pt.row v16),(21,.fad ((Pt.row v16))),sI 20 y1,sB 19 (decide (y1 < (x1.length : Int))),sI 18 y1,sI 17 (x1.length : Int),sC 16 (cF 8 x1 Pt.row),sA 8 8 5 0,sI 7 y2,sA 6 6 5 0,sI 5 0,sA 4 4 5 0,sI 0 x0],[(11,(Vec.row r17.1)),(10,(Pt.row v16)),(8,[cI y3,cI y4,cI y5,cI y6,cI y7]),(6,[cI y8,cI y9,cI y10,cI x0,cI 0]),(4,[cI 0,cI 0,cI 0,cI 0,cI 0])]⟩ ?_
     rw [h1]
     rw [h3]
     exact jA (true,true,true,true,true,true,true) H [54,46,45,40,39,12,11,38,31,37,35,34,33,32,30,29,28,27,26,25,24,23,9,10,22,21,20,19,18,17,16,8,7,6,5,4,0] [11,10,8,6,4]
    rintro ⟨y18,y19,y20,y21,y22,y23,y24⟩ H
    have H : (QJ n (fun v => qh n mo15 x0 x1 v.1 v.2.1 v.2.2.1 v.2.2.2.1 v.2.2.2.2.1 v.2.2.2.2.2.1 v.2.2.2.2.2.2.1 v.2.2.2.2.2.2.2.1 v.2.2.2.2.2.2.2.2.1 v.2.2.2.2.2.2.2.2.2) r17 y1 y10 y2 y3 y4 y5 y6 y7 y8 y9 y18 y19 y20 y21 y22 y23 y24) = some o15 := H
    unfold QJ at H
    cases h4 : y18
    ·have H := zF h4 H
     exact nB_<|tK<|eA 2 0x2004061efffff1ff1 3408<|jB mo15 ((wI (y1 + 1)),y2,y3,y4,y5,y6,y7,y8,y9,y10) H [18,17,16,8,7,6,5,4,0] [8,6,4]
    have H := zG h4 H
    exact tB_<|gA 4 0x1c061efffff1ff1 3408<|eA 9 0x1ffc061efffff1ff1 3408<|eA 2 0x3ffc061efffff1ff1 3408<|jB mo15 ((wI (y1 + 1)),y1,r17.1.Root,r17.1.Co,r17.1.Hops,r17.1.Bridge,r17.1.Port,r17.1.Root,r17.1.Co,r17.1.Hops) H [18,17,16,8,7,6,5,4,0] [8,6,4]
   exact tA h3<|Tr.exit<|aJ<|eA 2 0x2000000007fff07f1 1360<|jB mo15 ((wI (y1 + 1)),y2,y3,y4,y5,y6,y7,y8,y9,y10) H [18,17,16,8,7,6,5,4,0] [8,6,4]
  have H := zG h2 H
  exact uA 4 2147420145 1360<|tB_<|Tr.exit<|aJ<|eA 2 0x2000000007fff07f1 1360<|jB mo15 ((wI (y1 + 1)),y2,y3,y4,y5,y6,y7,y8,y9,y10) H [18,17,16,8,7,6,5,4,0] [8,6,4]
 rintro ⟨y11,y12,y13,y14⟩ H
 have H : (zAL n x0 y11 y12 y13 y14) = some r := H
 unfold zAL at H
 exact gA 4 48 16<|te (fJ [(true,[cI y12,cI y13,cI y14,cI x0,cI 0]),(false,[cI y11])] H)
def Jd (n : Nat) (x0 : Int) (x1 : (List Pt)) (x2 : Int) : Option (Vec) :=
  ((Y3 n x0 x1).bind fun r1 => (some (⟨r1.1.Root,r1.1.Co,r1.1.Hops,r1.1.Bridge,x2⟩ : Vec)))
theorem zHC (n : Nat) (x0 : Int) (x1 : (List Pt)) (x2 : Int) (r : Vec) (H : Jd n x0 x1 x2 = some r) : zH Tryz.prog 173 [.val false [.lit (.int .i64 x0)],.val false [.sl false 8 (CV.frzEs (x1.map Pt.row))],.val false [.lit (.int .i64 x2)]] [.val true (Vec.row r)] [] := by
 refine cW Tryz.func173 (fun g d => sl [g 0,g 1,g 2,g 3] .ret) [.cell 6 33] fun cx=>?_
 unfold Jd at H
 exact gA 1 71 64<|rA 2<|bE H fun r1 er1 H=> vA [.rd,.rd] (zGC n x0 x1 r1 er1)<|LAt.movT tOk (ty := 135) (t := 12) (d := 9) (g := none) [(true,(Vec.row r1.1)),(false,[cI r1.2])] _ kr (.inl rfl) kr kr kr kr rfl<|uA 5 196 192<|gA 3 192 192<|gA 2 64 64<|te (fJ [(true,[cI r1.1.Root,cI r1.1.Co,cI r1.1.Hops,cI r1.1.Bridge,cI x2])] H)
def Zo (n : Nat) (x0 : Net) (x1 : Int) (x2 : Int) : Option (Vec) :=
  ((idx x0.Bs x1).bind fun v1 => ((idx x0.Bs x1).bind fun v2 => ((Jd n v1.Id v2.Ps x2).bind fun r3 => (some r3))))
def zNm : Tab := ⟨15,[0,1,0,6,8,16,0,64,0,384,512,1024,0,6176,16383],[0,1,0,6,8,16,0,64,0,384,512,1024,0,6176,8192],[0,1,0,7,15,31,0,64,0,448,960,1984,0,8191,16383]⟩
theorem zCx : za (rg Tryz.f113 1) zNm = true := kr
theorem zDD (n : Nat) (x0 : Net) (x1 : Int) (x2 : Int) (r : Vec) (H : Zo n x0 x1 x2 = some r) : zH Tryz.prog 113 [.val true (fR (Net.row x0)),.val false [.lit (.int .i64 x1)],.val false [.lit (.int .i64 x2)]] [.val true (Vec.row r)] [] := by
 refine cW Tryz.func113 (fun g d => sl [g 0,d 1] .ret) [.cell 6 33] fun cx=>?_
 unfold Zo at H
 refine gA 2 78 72<|bE H fun v1 ev1 H=> bE H fun v2 ev2 H=> bE H fun r3 er3 H=> Tr.draws mixed 15 kr ⟨21,0,[sA 6 6 5 0],[(6,(Vec.row r3))]⟩ (fun cx=>?_) ?_
 ·exact mA zCx [(0,[]),(1,[13,14]),(2,[])] 12 [⟨[13,14],49,7,8⟩] fun cx=>iN zCx 3 zA.row ev1 fun cx=>mA zCx [(4,[]),(5,[]),(6,[]),(7,[13,14]),(8,[])] 6 [⟨[13,14],49,13,14⟩,⟨[13,14],49,7,8⟩] fun cx=>iN zCx 9 zA.row ev2 fun cx=>mA zCx [(10,[]),(11,[]),(12,[])] 2 [⟨[13,14],49,13,14⟩,⟨[13,14],49,7,8⟩] fun cx=>mC zCx 13<|vA [.rd,.rd,.rd] (zHC n v1.Id v2.Ps x2 r3 er3)<|fA<|mC zCx 14<|lA 1<|fA<|mE zCx [6] [6]
 exact te (fJ [(true,(Vec.row r3))] H)
def Jh (n : Nat) (x0 : zA) (x1 : Int) : Option (Bool) :=
  ((Qk n x0).bind fun r1 => (bif r1 then ((zu n x1 0 (IntKind.wrap .i64 ((x0.Ps.length : Int) - 1))).bind fun r2 => (some r2)) else (some false)))
theorem zKh (n : Nat) (x0 : zA) (x1 : Int) (r : Bool) (H : Jh n x0 x1 = some r) : zH Tryz.prog 87 [.val true (fR (zA.row x0)),.val false [.lit (.int .i64 x1)]] [.val false [.lit (.bool r)]] [] := by
 refine cW Tryz.func87 (fun g d => sl [g 0,g 1] .ret) [.tmp 4] fun cx=>?_
 unfold Jh at H
 refine gA 2 6 4<|rA 1<|bE H fun r1 er1 H=> vA [.rd] (zFp n x0 r1 er1)<|lA 1<|sL 134 4 ⟨15,0,[sB 7 r1,sA 2 2 11 0,sI 1 x1],[(2,(fR (zA.row x0)))]⟩ ?_
 cases h1 : r1
 ·have H := zF h1 H
  exact uA 8 16 0<|te (fF H)
 have H := zG h1 H
 exact lA 3<|kF x0.Ps Pt.row<|lA 1<|bE H fun r2 er2 H=> vA [.rd,.rd,.rd] (qC n x1 0 (wI ((x0.Ps.length : Int) - 1)) r2 er2)<|uA 2 16 0<|te (fJ [(false,[cB r2])] H)
def zA0 (n : Nat) (x0 : Int) : Option (Int) :=
  (some (if 1000000 < (IntKind.wrap .i64 (x0 + 1)) then 1000000 else (IntKind.wrap .i64 (x0 + 1))))
theorem zMN (n : Nat) (x0 : Int) (r : Int) (H : zA0 n x0 = some r) : zH Tryz.prog 93 [.val false [.lit (.int .i64 x0)]] [.val false [.lit (.int .i64 r)]] [] := by
 refine cW Tryz.func93 (fun g d => sl [g 0,g 1] .ret) [.tmp 2] fun cx=>?_
 unfold zA0 at H
 exact gA 1 1 0<|gA 4 4 0<|te (fJ [(false,[cI (if 1000000 < (wI (x0 + 1)) then 1000000 else (wI (x0 + 1)))])] H)
def zAb (n : Nat) (x0 : Int) (x1 : (List Pt)) (x2 : Int) : Option (Int) :=
  ((zu n x2 0 (IntKind.wrap .i64 ((x1.length : Int) - 1))).bind fun r1 => (bif (!r1) then (some 4) else ((idx x1 x2).bind fun v2 => (bif (!v2.Up) then (some 4) else ((Y3 n x0 x1).bind fun r3 => (bif (r3.2 == x2) then (some 1) else ((idx x1 x2).bind fun v4 => (bif (!v4.Has) then (some 2) else ((Jd n x0 x1 x2).bind fun r5 => ((idx x1 x2).bind fun v6 => ((J8 n r5 v6.Hd).bind fun r7 => (bif r7 then (some 2) else (some 3)))))))))))))
def zN8 : Tab := ⟨19,[0,0,3,4,8,16,32,64,64,64,960,64,64,6208,8256,16448,33856,65600,196608],[0,0,3,4,8,16,32,64,64,64,960,64,64,6208,8256,16448,33856,65600,131072],[0,0,3,7,15,31,63,127,127,127,1023,127,127,6271,14463,30847,65535,131071,262143]⟩
theorem Yp : za (rg Tryz.f188 6) zN8 = true := kr
theorem zKd (n : Nat) (x0 : Int) (x1 : (List Pt)) (x2 : Int) (r : Int) (H : zAb n x0 x1 x2 = some r) : zH Tryz.prog 188 [.val false [.lit (.int .i64 x0)],.val false [.sl false 8 (CV.frzEs (x1.map Pt.row))],.val false [.lit (.int .i64 x2)]] [.val false [.lit (.int .i64 r)]] [] := by
 refine cW Tryz.func188 (fun g d => sl [g 0,sl [g 1] (cn 22 (sl [g 2] .ret) .skip),g 3,.block 0 (sl [g 4] (cn 29 (sl [g 5] .ret) (sl [d 6] (cn 33 (sl [g 7] .ret) .skip)))),g 8] .ret) [.tmp 6] fun cx=>?_
 unfold zAb at H
 refine gA 1 7 0<|tS<|rA 2<|kF x1 Pt.row<|lA 1<|bE H fun r1 er1 H=> vA [.rd,.rd,.rd] (qC n x2 0 (wI ((x1.length : Int) - 1)) r1 er1)<|lA 2<|sL 32775 0 ⟨52,0,[sB 15 (!r1),sI 0 x0,sC 1 (cF 8 x1 Pt.row),sI 2 x2],[]⟩ ?_
 cases h1 : (!r1)
 ·have H := zF h1 H
  refine lA 2<|bE H fun v2 ev2 H=> iA Pt.row ev2<|uA 4 4194311 0 ?_
  obtain ⟨h2,H⟩ | ⟨h2,H⟩ := bC H
  ·refine nA h2<|tK<|rA 2<|bE H fun r3 er3 H=> vA [.rd,.rd] (zGC n x0 x1 r3 er3)<|LAt.movT tOk (ty := 135) (t := 26) (d := 23) (g := none) [(true,(Vec.row r3.1)),(false,[cI r3.2])] _ kr (.inl rfl) kr kr kr kr rfl<|uA 5 263 0<|tS<|tB<|gA 4 536870919 0 ?_
   obtain ⟨h3,H⟩ | ⟨h3,H⟩ := bC H
   ·refine nA h3<|bE H fun v4 ev4 H=> sT ⟨52,0,[sB 29 (r3.2 == x2),sI 0 x0,sC 1 (cF 8 x1 Pt.row),sI 2 x2],[]⟩ ?_
    cases h4 : (!v4.Has)
    ·have H := zF h4 H
     refine bE H fun r5 er5 H=> bE H fun v6 ev6 H=> bE H fun r7 er7 H=> Tr.draws mixed 19 kr ⟨52,0,[sB 33 r7],[]⟩ (fun cx=>?_) ?_
     ·refine mA Yp [(0,[]),(1,[])] 17 [] fun cx=>iN Yp 2 Pt.row ev4 fun cx=>mA Yp [(3,[]),(4,[]),(5,[]),(6,[])] 12 [] fun cx=>sA_ 1099511627783 0 ⟨52,0,[sB 40 (!v4.Has),sI 0 x0,sC 1 (cF 8 x1 Pt.row),sI 2 x2],[]⟩ ?_
      rw [h4]
      exact mA Yp [(7,[]),(8,[]),(9,[]),(11,[]),(12,[])] 7 [] fun cx=>iN Yp 13 Pt.row ev6 fun cx=>mA Yp [(14,[]),(15,[])] 4 [] fun cx=>mC Yp 10<|vA [.rd,.rd,.rd] (zHC n x0 x1 x2 r5 er5)<|fA<|mC Yp 16<|vA [.rd,.rd] (zGE n r5 v6.Hd r7 er7)<|fA<|mA Yp [(17,[]),(18,[])] 0 [] fun cx=>mE Yp [33] []
     cases h5 : r7
     ·have H := zF h5 H
      exact nB_<|tK<|gA 1 64 0<|te (fJ [(false,[cI 3])] H)
     have H := zG h5 H
     exact tB_<|gA 1 64 0<|te (fJ [(false,[cI 2])] H)
    have H := zG h4 H
    refine Tr.draws mixed 19 kr ⟨52,0,[sB 33 true],[]⟩ (fun cx=>?_) ?_
    ·refine mA Yp [(0,[]),(1,[])] 17 [] fun cx=>iN Yp 2 Pt.row ev4 fun cx=>mA Yp [(3,[]),(4,[]),(5,[]),(6,[])] 12 [] fun cx=>sA_ 1099511627783 0 ⟨52,0,[sB 40 (!v4.Has),sI 0 x0,sC 1 (cF 8 x1 Pt.row),sI 2 x2],[]⟩ ?_
     rw [h4]
     exact mA Yp [(7,[]),(8,[]),(9,[]),(10,[]),(11,[]),(12,[]),(13,[]),(14,[]),(15,[]),(16,[]),(17,[]),(18,[])] 0 [] fun cx=>mE Yp [33] []
    exact tB_<|gA 1 64 0<|te (fJ [(false,[cI 2])] H)
   exact tA h3<|gA 1 64 0<|te (fJ [(false,[cI 1])] H)
  exact tA h2<|gA 1 64 0<|te (fJ [(false,[cI 4])] H)
 have H := zG h1 H
 exact uA 7 4194311 0<|tB_<|gA 1 64 0<|te (fJ [(false,[cI 4])] H)
def zBb (n : Nat) (y3 : Int) : Option (Int) :=
  (some y3)
def ZD (n : Nat) : Nat → Int → (List Pt) → Int → Int → Option ((Int) ⊕ (Int))
  | 0,_,_,_,_ => none
  | mo4 + 1,x0,x1,y1,y2 => (bif (decide (y1 < (x1.length : Int))) then (bif (decide (y1 < 6)) then ((zAb n x0 x1 y1).bind fun r5 => (bif (r5 == 1) then (bif (decide ((0 : Int) ≤ y1)) then (ZD n mo4 x0 x1 (IntKind.wrap .i64 (y1 + 1)) (IntKind.wrap .i64 (BitVec.ofInt (IntKind.bits .i64) y2 ||| BitVec.ofInt (IntKind.bits .i64) (IntKind.wrap .i64 (1 * 2 ^ min ((y1 : Int)).toNat (IntKind.bits .i64)))).toNat)) else none) else (bif (r5 == 2) then (bif (decide ((0 : Int) ≤ y1)) then (ZD n mo4 x0 x1 (IntKind.wrap .i64 (y1 + 1)) (IntKind.wrap .i64 (BitVec.ofInt (IntKind.bits .i64) y2 ||| BitVec.ofInt (IntKind.bits .i64) (IntKind.wrap .i64 (1 * 2 ^ min ((y1 : Int)).toNat (IntKind.bits .i64)))).toNat)) else none) else (ZD n mo4 x0 x1 (IntKind.wrap .i64 (y1 + 1)) y2)))) else (some (Sum.inl y2))) else (some (Sum.inl y2)))
def Yh (n : Nat) (x0 : Int) (x1 : (List Pt)) : Option (Int) :=
  ((ZD n n x0 x1 0 0).bind fun o => match o with | .inl y3 => (zBb n y3) | .inr r => some r)
theorem zH4 (n : Nat) (x0 : Int) (x1 : (List Pt)) (r : Int) (H : Yh n x0 x1 = some r) : zH Tryz.prog 161 [.val false [.lit (.int .i64 x0)],.val false [.sl false 8 (CV.frzEs (x1.map Pt.row))]] [.val false [.lit (.int .i64 r)]] [] := by
 refine cW Tryz.func161 (fun g d => sl [g 0,g 1,sl [g 2] (.block 0 (.loop (sl [sl [g 3] (cn 15 .skip (.exit 0)),.block 1 (sl [g 5,g 6] (cn 27 (g 7) .skip))] (g 4)))),g 8] .ret) [.tmp 4] fun cx=>?_
 unfold Yh at H
 refine gA 1 3 0<|gA 1 35 0<|tS<|gA 1 99 0 ?_
 obtain ⟨o4,eo4,Ho4⟩ := bs H
 clear H
 refine Tr.mid (ι := Int) (fun v => ⟨33,0,[sI 5 v],[]⟩) (fun v => zBb n v = some r) ?_ ?_
 ·refine tB<|Tr.loop (ι := Nat × (Int × Int)) (fun v => ⟨33,0,[sI 6 v.2.1,sI 5 v.2.2,sI 0 x0,sC 1 (cF 8 x1 Pt.row)],[]⟩) (fun v => ZD n v.1 x0 x1 v.2.1 v.2.2 = some o4) (fun v => v.1) (n,(0,0)) eo4 (St.sub_of [6,5,0,1] [] kr) ?_
  rintro ⟨mo4,y1,y2⟩ H
  have H : ZD n mo4 x0 x1 y1 y2 = some o4 := H
  obtain _ | mo4 := mo4
  ·exact nN H
  rw [ZD] at H
  refine tS<|rA 2<|kF x1 Pt.row<|lA 2<|sL 4195 0 ⟨33,0,[sB 12 (decide (y1 < (x1.length : Int))),sI 6 y1,sI 5 y2,sI 0 x0,sC 1 (cF 8 x1 Pt.row)],[]⟩ ?_
  cases h1 : (decide (y1 < (x1.length : Int)))
  ·have H := zF h1 H
   refine uA 3 32867 0<|nB_<|Tr.exit<|aJ ?_
   obtain rfl := si H
   have H := Ho4
   dsimp only at H
   exact jA y2 H [5] []
  have H := zG h1 H
  refine uA 3 32867 0 ?_
  obtain ⟨h2,H⟩ | ⟨h2,H⟩ := bC H
  ·refine nA h2<|Tr.exit<|aJ ?_
   obtain rfl := si H
   have H := Ho4
   dsimp only at H
   exact jA y2 H [5] []
  refine tA h2<|tK<|tS<|tB<|rA 3<|bE H fun r5 er5 H=> vA [.rd,.rd,.rd] (zKd n x0 x1 y1 r5 er5)<|uA 1 227 0<|rA 3<|sL 16777443 0 ⟨33,0,[sB 24 (r5 == 1),sI 7 r5,sI 6 y1,sI 5 y2,sI 0 x0,sC 1 (cF 8 x1 Pt.row)],[]⟩ ?_
  cases h3 : (r5 == 1)
  ·have H := zF h3 H
   refine uA 3 134217827 0 ?_
   obtain ⟨h4,H⟩ | ⟨h4,H⟩ := bC H
   ·exact nA h4<|tK<|eA 3 99 0<|jB mo4 ((wI (y1 + 1)),y2) H [6,5,0,1] []
   exact tA h4<|Tr.at<|lA 2<|gE H fun hg6 H=> LAt.binC tOk (op := .shl) (t := 3) (ty := 3) (ty' := 3) (x := (.const (.int .i64 1))) (y := (.tmp 29)) (d := 30) (g := none) (.int .i64 1) (.int .i64 y1) (.int .i64 (wI (1 * 2 ^ min ((y1 : Int)).toNat (IntKind.bits .i64)))) _ kr kr kr kr kr (φ := (0 : Int) ≤ y1) kr (of_decide_eq_true hg6) rfl<|uA 2 99 0<|eA 3 99 0<|jB mo4 ((wI (y1 + 1)),(wI (BitVec.ofInt (IntKind.bits .i64) y2 ||| BitVec.ofInt (IntKind.bits .i64) (wI (1 * 2 ^ min ((y1 : Int)).toNat (IntKind.bits .i64)))).toNat)) H [6,5,0,1] []
  have H := zG h3 H
  exact uA 3 134217827 0<|tB_<|Tr.at<|lA 2<|gE H fun hg7 H=> LAt.binC tOk (op := .shl) (t := 3) (ty := 3) (ty' := 3) (x := (.const (.int .i64 1))) (y := (.tmp 29)) (d := 30) (g := none) (.int .i64 1) (.int .i64 y1) (.int .i64 (wI (1 * 2 ^ min ((y1 : Int)).toNat (IntKind.bits .i64)))) _ kr kr kr kr kr (φ := (0 : Int) ≤ y1) kr (of_decide_eq_true hg7) rfl<|uA 2 99 0<|eA 3 99 0<|jB mo4 ((wI (y1 + 1)),(wI (BitVec.ofInt (IntKind.bits .i64) y2 ||| BitVec.ofInt (IntKind.bits .i64) (wI (1 * 2 ^ min ((y1 : Int)).toNat (IntKind.bits .i64)))).toNat)) H [6,5,0,1] []
 rintro y3 H
 have H : (zBb n y3) = some r := H
 unfold zBb at H
 exact gA 2 16 0<|te (fJ [(false,[cI y3])] H)
def Y6 (n : Nat) (x0 : Int) (x1 : Int) : Option (Bool) :=
  ((zu n x1 0 62).bind fun r1 => (bif r1 then (bif (decide ((0 : Int) ≤ x1)) then (some ((IntKind.wrap .i64 (BitVec.ofInt (IntKind.bits .i64) (Int.fdiv x0 (2 ^ min ((x1 : Int)).toNat (IntKind.bits .i64))) &&& BitVec.ofInt (IntKind.bits .i64) 1).toNat) == 1)) else none) else (some false)))
theorem zGI (n : Nat) (x0 : Int) (x1 : Int) (r : Bool) (H : Y6 n x0 x1 = some r) : zH Tryz.prog 162 [.val false [.lit (.int .i64 x0)],.val false [.lit (.int .i64 x1)]] [.val false [.lit (.bool r)]] [] := by
 refine cW Tryz.func162 (fun g d => sl [g 0,g 1] .ret) [.tmp 4] fun cx=>?_
 unfold Y6 at H
 refine gA 1 3 0<|rA 1<|bE H fun r1 er1 H=> vA [.rd,.rd,.rd] (qC n x1 0 62 r1 er1)<|lA 1<|sL 131 0 ⟨14,0,[sB 7 r1,sI 0 x0,sI 1 x1],[]⟩ ?_
 cases h1 : r1
 ·have H := zF h1 H
  exact uA 7 16 0<|te (fF H)
 have H := zG h1 H
 exact lA 2<|gE H fun hg2 H=> LAt.binC tOk (op := .shr) (t := 3) (ty := 3) (ty' := 3) (x := (.tmp 8)) (y := (.tmp 9)) (d := 10) (g := (some (2,true))) (.int .i64 x0) (.int .i64 x1) (.int .i64 (Int.fdiv x0 (2 ^ min ((x1 : Int)).toNat (IntKind.bits .i64)))) _ kr kr kr kr kr (φ := (0 : Int) ≤ x1) kr (of_decide_eq_true hg2) rfl<|uA 4 16 0<|te (fJ [(false,[cB ((wI (BitVec.ofInt (IntKind.bits .i64) (Int.fdiv x0 (2 ^ min ((x1 : Int)).toNat (IntKind.bits .i64))) &&& BitVec.ofInt (IntKind.bits .i64) 1).toNat) == 1)])] H)
def Yc (n : Nat) (y3 : (List zB)) : Option ((List zB)) :=
  (some y3)
def qr (n : Nat) : Nat → (List zB) → Int → Int → (List zB) → Option (((List zB)) ⊕ ((List zB)))
  | 0,_,_,_,_ => none
  | mo4 + 1,x0,x1,y1,y2 => (bif (decide (y1 < (x0.length : Int))) then ((idx x0 y1).bind fun v5 => (bif v5.Sc then (bif (decide (y2.length + [v5].length ≤ 268435456)) then (qr n mo4 x0 x1 (IntKind.wrap .i64 (y1 + 1)) (y2 ++ [v5])) else none) else (bif (v5.Port != x1) then (bif (decide (y2.length + [v5].length ≤ 268435456)) then (qr n mo4 x0 x1 (IntKind.wrap .i64 (y1 + 1)) (y2 ++ [v5])) else none) else (qr n mo4 x0 x1 (IntKind.wrap .i64 (y1 + 1)) y2)))) else (some (Sum.inl y2)))
def JB (n : Nat) (x0 : (List zB)) (x1 : Int) : Option ((List zB)) :=
  ((qr n n x0 x1 0 ([] : List zB)).bind fun o => match o with | .inl y3 => (Yc n y3) | .inr r => some r)
theorem zIf (n : Nat) (x0 : (List zB)) (x1 : Int) (r : (List zB)) (H : JB n x0 x1 = some r) : zH Tryz.prog 163 [.val false [.sl false 5 (CV.frzEs (x0.map zB.row))],.val false [.lit (.int .i64 x1)]] [.val false [.sl true 5 (r.map zB.row)]] [] := by
 refine cW Tryz.func163 (fun g d => sl [g 0,g 1,sl [g 2] (.block 0 (.loop (sl [g 3,cn 11 .skip (.exit 0),.block 1 (sl [g 4,g 5] (cn 21 (g 6) .skip))] (g 7)))),g 8] .ret) [.tmp 4] fun cx=>?_
 unfold JB at H
 refine gA 1 3 0<|gA 1 35 0<|tS<|rA 1<|kF x0 zB.row<|uA 1 1826 0 ?_
 obtain ⟨o4,eo4,Ho4⟩ := bs H
 clear H
 refine Tr.mid (ι := (List zB)) (fun v => ⟨28,0,[sC 5 (cL 5 v zB.row)],[]⟩) (fun v => Yc n v = some r) ?_ ?_
 ·refine tB<|Tr.loop (ι := Nat × (Int × (List zB))) (fun v => ⟨28,0,[sI 10 v.2.1,sI 9 (x0.length : Int),sC 8 (cF 5 x0 zB.row),sC 5 (cL 5 v.2.2 zB.row),sI 1 x1],[]⟩) (fun v => qr n v.1 x0 x1 v.2.1 v.2.2 = some o4) (fun v => v.1) (n,(0,([] : List zB))) eo4 (St.sub_of [10,9,8,5,1] [] kr) ?_
  rintro ⟨mo4,y1,y2⟩ H
  have H : qr n mo4 x0 x1 y1 y2 = some o4 := H
  obtain _ | mo4 := mo4
  ·exact nN H
  rw [qr] at H
  refine gA 1 3874 0<|tS ?_
  obtain ⟨h1,H⟩ | ⟨h1,H⟩ := bC H
  ·refine nA h1<|Tr.exit<|aJ ?_
   obtain rfl := si H
   have H := Ho4
   dsimp only at H
   exact jA y2 H [5] []
  refine tA h1<|tK<|tS<|tB<|tR<|bE H fun v5 ev5 H=> iA zB.row ev5<|uA 3 1954 128<|tS<|Tr.at<|lA 3<|sL 67490 128 ⟨28,0,[sB 16 v5.Sc,sA 7 7 5 0,sI 10 y1,sI 9 (x0.length : Int),sC 8 (cF 5 x0 zB.row),sC 5 (cL 5 y2 zB.row),sI 1 x1],[(7,(zB.row v5))]⟩ ?_
  cases h2 : v5.Sc
  ·have H := zF h2 H
   refine uA 5 2099106 128 ?_
   obtain ⟨h3,H⟩ | ⟨h3,H⟩ := bC H
   ·exact nA h3<|tK<|eA 2 1826 0<|jB mo4 ((wI (y1 + 1)),y2) H [10,9,8,5,1] []
   exact tA h3<|Tr.at<|lA 3<|gE H fun hg6 H=> LAt.appMU tOk (t := 25) (ty := 25) (e := 103) (x := (.tmp 22)) (y := (.tmp 24)) (d := 25) (g := none) (tI 103) zB.row y2 [v5] kr kr kr kr kr kr kr kr kr kr hg6<|LAt.moveU (T := lk tab) (ty := 25) (x := (.tmp 25)) (d := 5) (g := none) false [cL 5 (y2 ++ [v5]) zB.row] kr kr kr kr kr<|dA 1826 0<|eA 2 1826 0<|jB mo4 ((wI (y1 + 1)),(y2 ++ [v5])) H [10,9,8,5,1] []
  have H := zG h2 H
  exact uA 5 2099106 128<|tB_<|Tr.at<|lA 3<|gE H fun hg7 H=> LAt.appMU tOk (t := 25) (ty := 25) (e := 103) (x := (.tmp 22)) (y := (.tmp 24)) (d := 25) (g := none) (tI 103) zB.row y2 [v5] kr kr kr kr kr kr kr kr kr kr hg7<|LAt.moveU (T := lk tab) (ty := 25) (x := (.tmp 25)) (d := 5) (g := none) false [cL 5 (y2 ++ [v5]) zB.row] kr kr kr kr kr<|dA 1826 0<|eA 2 1826 0<|jB mo4 ((wI (y1 + 1)),(y2 ++ [v5])) H [10,9,8,5,1] []
 rintro y3 H
 have H : (Yc n y3) = some r := H
 unfold Yc at H
 exact gA 2 48 0<|te (fJ [(false,[cL 5 y3 zB.row])] H)
def Yz (n : Nat) (r1 : Int) (x0 : zA) (y5 : (List zB)) : Option (zA) :=
  (some (⟨x0.Id,x0.Name,x0.Ps,y5,x0.V,x0.Tk,x0.Pa,x0.Wo,x0.Dr,r1⟩ : zA))
def q8 (n : Nat) : Nat → Int → zA → Int → (List zB) → Option (((List zB)) ⊕ (zA))
  | 0,_,_,_,_ => none
  | mo6 + 1,r2,x0,y3,y4 => (bif (decide (y3 < (x0.Ps.length : Int))) then ((Y6 n r2 y3).bind fun r7 => (bif (!r7) then ((JB n y4 y3).bind fun r8 => (q8 n mo6 r2 x0 (IntKind.wrap .i64 (y3 + 1)) r8)) else (q8 n mo6 r2 x0 (IntKind.wrap .i64 (y3 + 1)) y4))) else (some (Sum.inl y4)))
def q9 (n : Nat) (x0 : zA) : Option (zA) :=
  ((zA0 n x0.Ve).bind fun r1 => ((Yh n x0.Id x0.Ps).bind fun r2 => ((q8 n n r2 x0 0 x0.F).bind fun o => match o with | .inl y5 => (Yz n r1 x0 y5) | .inr r => some r)))
noncomputable abbrev G89 (k : Nat) := Rg Tryz.f89 k
noncomputable abbrev D89 (k : Nat) := Rd Tryz.f89 k
theorem zHS (n : Nat) (x0 : zA) (r : zA) (H : q9 n x0 = some r) : zH Tryz.prog 89 [.ptr (zA.row x0)] [] [(0,(zA.row r))] := by
 refine zH.of_body tOk Tryz.func89 rfl (c := (.seq (G89 0) (.seq (D89 1) (.seq (G89 2) (.block 0 (.loop (.seq (G89 3) (.seq (.cond (.tmp 27) .skip (.exit 0)) (.seq (.block 1 (.seq (G89 4) (.seq (G89 5) (.cond (.tmp 32) (G89 6) .skip)))) (G89 7)))))))))) kr (Nat.le_of_ble_eq_true kr) 1 (rs := []) rfl [] .nil [] [] [(0,(zA.row r))] fun cx=>?_
 show Tr _ _ _ ⟨43,1,[sA 0 0 11 0],[(0,(zA.row x0))]⟩ _
 unfold q9 at H
 refine rA 5<|bE H fun r1 er1 H=> vA [.rd] (zMN n x0.Ve r1 er1)<|uA 3 1 1<|bE H fun r2 er2 H=> Tr.draws mixed 10 kr ⟨43,1,[sI 2 r2,sA 0 0 11 0],[(0,[cI x0.Id,cS x0.Name,cL 8 x0.Ps Pt.row,cL 5 x0.F zB.row,cL 3 x0.V.Rows zE.row,cL 1 x0.V.Pv intRow,cI x0.Tk,cI x0.Pa,cI x0.Wo,cI x0.Dr,cI r1])]⟩ (fun cx=>?_) ?_
 ·exact aA [(0,[]),(1,[]),(2,[]),(3,[8]),(4,[]),(5,[]),(6,[]),(7,[8])] 2 [⟨[8],24,18,19⟩,⟨[8],3,14,15⟩] fun cx=>bA 8<|vB [.rd,.rd] [.box 0] (zH4 n x0.Id x0.Ps r2 er2) (.inr (zk (zI zN qF) qG))<|fA<|aA [(9,[])] 0 [⟨[8],24,18,19⟩,⟨[8],3,14,15⟩] fun cx=>eE [2,0] [0]
 refine rA 4<|kO x0.Ps Pt.row<|uA 1 100663301 1 ?_
 obtain ⟨o6,eo6,Ho6⟩ := bs H
 clear H
 refine Tr.mid (ι := (List zB)) (fun v => ⟨43,1,[sA 0 0 11 0],[(0,[cI x0.Id,cS x0.Name,cL 8 x0.Ps Pt.row,cL 5 v zB.row,cL 3 x0.V.Rows zE.row,cL 1 x0.V.Pv intRow,cI x0.Tk,cI x0.Pa,cI x0.Wo,cI x0.Dr,cI r1])]⟩) (fun v => Yz n r1 x0 v = some r) ?_ ?_
 ·refine tB<|Tr.loop (ι := Nat × (Int × (List zB))) (fun v => ⟨43,1,[sI 26 v.2.1,sI 25 (x0.Ps.length : Int),sI 2 r2,sA 0 0 11 0],[(0,[cI x0.Id,cS x0.Name,cL 8 x0.Ps Pt.row,cL 5 v.2.2 zB.row,cL 3 x0.V.Rows zE.row,cL 1 x0.V.Pv intRow,cI x0.Tk,cI x0.Pa,cI x0.Wo,cI x0.Dr,cI r1])]⟩) (fun v => q8 n v.1 r2 x0 v.2.1 v.2.2 = some o6) (fun v => v.1) (n,(0,x0.F)) eo6 (St.sub_of [26,25,2,0] [0] kr) ?_
  rintro ⟨mo6,y3,y4⟩ H
  have H : q8 n mo6 r2 x0 y3 y4 = some o6 := H
  obtain _ | mo6 := mo6
  ·exact nN H
  rw [q8] at H
  refine gA 1 234881029 1<|tS ?_
  obtain ⟨h1,H⟩ | ⟨h1,H⟩ := bC H
  ·refine nA h1<|Tr.exit<|aJ ?_
   obtain rfl := si H
   have H := Ho6
   dsimp only at H
   exact jA y4 H [0] [0]
  refine tA h1<|tK<|tS<|tB<|gA 2 100663309 1<|rA 2<|bE H fun r7 er7 H=> vA [.rd,.rd] (zGI n r2 y3 r7 er7)<|uA 1 4395630605 1 ?_
  obtain ⟨h2,H⟩ | ⟨h2,H⟩ := bC H
  ·exact nA h2<|tK<|eA 2 100663301 1<|jB mo6 ((wI (y3 + 1)),y4) H [26,25,2,0] [0]
  exact tA h2<|Tr.at<|lA 6<|bE H fun r8 er8 H=> vB [.rd,.rd] [.box 0] (zIf n y4 y3 r8 er8) (.inr (zk (zI (Qp (Zi zB.row_mine _)) qF) qG))<|uA 3 100663301 1<|eA 2 100663301 1<|jB mo6 ((wI (y3 + 1)),r8) H [26,25,2,0] [0]
 rintro y5 H
 have H : (Yz n r1 x0 y5) = some r := H
 unfold Yz at H
 exact fY [] [(0,[cI x0.Id,cS x0.Name,cL 8 x0.Ps Pt.row,cL 5 y5 zB.row,cL 3 x0.V.Rows zE.row,cL 1 x0.V.Pv intRow,cI x0.Tk,cI x0.Pa,cI x0.Wo,cI x0.Dr,cI r1])] H
def Qu (n : Nat) (r1 : zA) (x1 : Int) (x2 : Vec) (y2 : Bool) : Option (zA) :=
  (bif y2 then ((idx r1.Ps x1).bind fun v3 => ((idx (r1.Ps.set (x1.toNat) (⟨v3.Up,v3.Co,true,v3.Hd⟩ : Pt)) x1).bind fun v4 => ((q9 n (⟨r1.Id,r1.Name,((r1.Ps.set (x1.toNat) (⟨v3.Up,v3.Co,true,v3.Hd⟩ : Pt)).set (x1.toNat) (⟨v4.Up,v4.Co,v4.Has,x2⟩ : Pt)),r1.F,r1.V,r1.Tk,r1.Pa,r1.Wo,r1.Dr,r1.Ve⟩ : zA)).bind fun r5 => (some r5)))) else (some r1))
def Q4 (n : Nat) (x0 : zA) (x1 : Int) (x2 : Vec) : Option (zA) :=
  ((ZT n x0).bind fun r1 => ((Jh n x0 x1).bind fun r6 => (bif r6 then ((idx x0.Ps x1).bind fun v7 => (bif v7.Up then ((Yi n x2).bind fun r8 => (Qu n r1 x1 x2 r8)) else (Qu n r1 x1 x2 false))) else (Qu n r1 x1 x2 false))))
def zOR : Tab := ⟨13,[0,1,0,0,8,0,0,23,151,279,1023,2047,3071],[0,1,0,0,8,0,0,6,128,256,48,1024,2112],[0,1,0,0,8,0,0,31,159,415,1023,2047,4095]⟩
theorem zEO : za (rg Tryz.f17 3) zOR = true := kr
theorem zJz (n : Nat) (x0 : zA) (x1 : Int) (x2 : Vec) (r : zA) (H : Q4 n x0 x1 x2 = some r) : zH Tryz.prog 17 [.val true (fR (zA.row x0)),.val false [.lit (.int .i64 x1)],.val true (fR (Vec.row x2))] [.val true (zA.row r)] [] := by
 refine cW Tryz.func17 (fun g d => sl [g 0,g 1,sl [g 2] (cn 24 (sl [d 3] (g 4)) .skip),g 5] .ret) [.cell 6 31] fun cx=>?_
 unfold Q4 at H
 refine gA 3 106 104<|rA 1<|bE H fun r1 er1 H=> vA [.rd] (zEX n x0 r1 er1)<|uA 2 234 232<|tS<|tS<|Tr.mid (ι := Bool) (fun v => ⟨38,0,[sB 24 v,sA 7 7 11 0,sA 6 6 11 0,sA 5 5 5 0,sI 1 x1],[(7,(zA.row r1)),(6,[cI 0,cS (⟨#[]⟩ : ByteArray),cL 8 ([] : List Pt) Pt.row,cL 5 ([] : List zB) zB.row,cL 3 ([] : List zE) zE.row,cL 1 ([] : List Int) intRow,cI 0,cI 0,cI 0,cI 0,cI 0]),(5,(Vec.row x2))]⟩) (fun v => Qu n r1 x1 x2 v = some r) ?_ ?_
 ·refine Tr.at<|lA 2<|bE H fun r6 er6 H=> vA [.rd,.rd] (zKh n x0 x1 r6 er6)<|lA 1<|sL 8426 232 ⟨38,0,[sB 13 r6,sA 7 7 11 0,sA 6 6 11 0,sA 5 5 5 0,sA 3 3 11 0,sI 1 x1],[(7,(zA.row r1)),(6,[cI 0,cS (⟨#[]⟩ : ByteArray),cL 8 ([] : List Pt) Pt.row,cL 5 ([] : List zB) zB.row,cL 3 ([] : List zE) zE.row,cL 1 ([] : List Int) intRow,cI 0,cI 0,cI 0,cI 0,cI 0]),(5,(Vec.row x2)),(3,(fR (zA.row x0)))]⟩ ?_
  cases h2 : r6
  ·have H := zF h2 H
   exact uA 11 16777442 224<|jA false H [24,7,6,5,1] [7,6,5]
  have H := zG h2 H
  refine lA 3<|bE H fun v7 ev7 H=> iA Pt.row ev7<|lA 4<|sL 2097378 224 ⟨38,0,[sB 21 v7.Up,sA 7 7 11 0,sA 6 6 11 0,sA 5 5 5 0,sI 1 x1],[(7,(zA.row r1)),(6,[cI 0,cS (⟨#[]⟩ : ByteArray),cL 8 ([] : List Pt) Pt.row,cL 5 ([] : List zB) zB.row,cL 3 ([] : List zE) zE.row,cL 1 ([] : List Int) intRow,cI 0,cI 0,cI 0,cI 0,cI 0]),(5,(Vec.row x2))]⟩ ?_
  cases h3 : v7.Up
  ·have H := zF h3 H
   exact uA 3 16777442 224<|jA false H [24,7,6,5,1] [7,6,5]
  have H := zG h3 H
  exact lA 1<|bE H fun r8 er8 H=> vA [.rd] (zB8 n x2 r8 er8)<|uA 1 16777442 224<|jA r8 H [24,7,6,5,1] [7,6,5]
 rintro y2 H
 have H : (Qu n r1 x1 x2 y2) = some r := H
 unfold Qu at H
 cases h1 : y2
 ·have H := zF h1 H
  exact nB_<|tK<|gA 2 64 64<|te (fJ [(true,(zA.row r1))] H)
 have H := zG h1 H
 refine tB_<|bE H fun v3 ev3 H=> bE H fun v4 ev4 H=> Tr.draws mixed 13 kr ⟨38,0,[sA 7 7 11 0,sA 6 6 11 0],[(7,[cI r1.Id,cS r1.Name,cL 8 ((r1.Ps.set (x1.toNat) (⟨v3.Up,v3.Co,true,v3.Hd⟩ : Pt)).set (x1.toNat) (⟨v4.Up,v4.Co,v4.Has,x2⟩ : Pt)) Pt.row,cL 5 r1.F zB.row,cL 3 r1.V.Rows zE.row,cL 1 r1.V.Pv intRow,cI r1.Tk,cI r1.Pa,cI r1.Wo,cI r1.Dr,cI r1.Ve]),(6,[cI 0,cS (⟨#[]⟩ : ByteArray),cL 8 ([] : List Pt) Pt.row,cL 5 ([] : List zB) zB.row,cL 3 ([] : List zE) zE.row,cL 1 ([] : List Int) intRow,cI 0,cI 0,cI 0,cI 0,cI 0])]⟩ (fun cx=>?_) ?_
 ·refine mA zEO [(0,[]),(1,[9,12]),(2,[]),(3,[]),(4,[9,12]),(5,[]),(6,[12])] 6 [⟨[12],33,5,31⟩,⟨[9,12],24,28,29⟩,⟨[9,12],24,25,26⟩] fun cx=>oN zEO 7 Pt.row ev3 fun cx=>mA zEO [(8,[])] 4 [⟨[12],33,5,31⟩,⟨[9,12],24,28,29⟩,⟨[9,12],24,25,26⟩] fun cx=>sA_ 12717129952 224 ⟨38,0,[(33,.adr (.box 7) [(0,0),(2,(x1.toNat))] 8 2),sV 31 (Vec.row x2),sI 30 x1,sR 29 7 11 2 1 false,sA 28 7 11 2,sR 26 7 11 2 1 false,sA 25 7 11 2,sA 7 7 11 0,sA 6 6 11 0,sA 5 5 5 0],[(7,(zA.row r1)),(6,[cI 0,cS (⟨#[]⟩ : ByteArray),cL 8 ([] : List Pt) Pt.row,cL 5 ([] : List zB) zB.row,cL 3 ([] : List zE) zE.row,cL 1 ([] : List Int) intRow,cI 0,cI 0,cI 0,cI 0,cI 0]),(5,(Vec.row x2))]⟩<|mC zEO 9<|LAt.storeB tOk (t := 4) (ty := 0) (ad := (.tmp 33)) (x := (.const (.bool true))) (g := none) (tI 4) false [cB true] 7 2 (x1.toNat) 8 2 8 r1.Ps Pt.row v3 (⟨v3.Up,v3.Co,true,v3.Hd⟩ : Pt) kr kr kr kr kr kr kr kr (zO ev3).2 kr kr kr kr<|fA<|oN zEO 10 Pt.row ev4 fun cx=>mA zEO [(11,[])] 1 [⟨[12],33,5,31⟩,⟨[9,12],24,28,29⟩,⟨[9,12],24,25,26⟩] fun cx=>sA_ 37413191904 224 ⟨38,0,[(35,.adr (.box 7) [(0,0),(2,(x1.toNat))] 8 3),sV 31 (Vec.row x2),sA 28 7 11 2,sA 25 7 11 2,sA 7 7 11 0,sA 6 6 11 0,sA 5 5 5 0,sR 29 7 11 2 1 false,sR 26 7 11 2 1 false],[(7,[cI r1.Id,cS r1.Name,cL 8 (r1.Ps.set (x1.toNat) (⟨v3.Up,v3.Co,true,v3.Hd⟩ : Pt)) Pt.row,cL 5 r1.F zB.row,cL 3 r1.V.Rows zE.row,cL 1 r1.V.Pv intRow,cI r1.Tk,cI r1.Pa,cI r1.Wo,cI r1.Dr,cI r1.Ve]),(6,[cI 0,cS (⟨#[]⟩ : ByteArray),cL 8 ([] : List Pt) Pt.row,cL 5 ([] : List zB) zB.row,cL 3 ([] : List zE) zE.row,cL 1 ([] : List Int) intRow,cI 0,cI 0,cI 0,cI 0,cI 0]),(5,(Vec.row x2))]⟩ ?_
  exact mC zEO 12<|LAt.storeB tOk (t := 33) (ty := 0) (ad := (.tmp 35)) (x := (.tmp 31)) (g := none) (tI 33) true (Vec.row x2) 7 2 (x1.toNat) 8 3 8 (r1.Ps.set (x1.toNat) (⟨v3.Up,v3.Co,true,v3.Hd⟩ : Pt)) Pt.row v4 (⟨v4.Up,v4.Co,v4.Has,x2⟩ : Pt) kr kr kr kr kr kr kr kr (zO ev4).2 kr kr kr kr<|fA<|mE zEO [7,6] [7,6]
 exact Tr.at<|bE H fun r5 er5 H=> vL [.lend] (zHS n (⟨r1.Id,r1.Name,((r1.Ps.set (x1.toNat) (⟨v3.Up,v3.Co,true,v3.Hd⟩ : Pt)).set (x1.toNat) (⟨v4.Up,v4.Co,v4.Has,x2⟩ : Pt)),r1.F,r1.V,r1.Tk,r1.Pa,r1.Wo,r1.Dr,r1.Ve⟩ : zA) r5 er5)<|dA 192 192<|gA 2 64 64<|te (fJ [(true,(zA.row r5))] H)
def ZC (n : Nat) (x0 : Net) (x1 : Int) (x2 : Int) (x3 : Vec) : Option (Net) :=
  ((idx x0.Bs x1).bind fun v1 => ((Q4 n v1 x2 x3).bind fun r2 => (some (⟨(x0.Bs.set (x1.toNat) r2),x0.Ls,x0.Said⟩ : Net))))
def zN1 : Tab := ⟨17,[0,1,2,4,0,0,32,64,128,0,768,1024,0,0,14336,32767,65535],[0,1,2,4,0,0,32,64,128,0,768,1024,0,0,14336,24,49152],[0,1,3,7,0,0,32,96,224,0,992,2016,0,0,16352,32767,65535]⟩
noncomputable abbrev G147 (k : Nat) := Rg Tryz.f147 k
noncomputable abbrev D147 (k : Nat) := Rd Tryz.f147 k
theorem zC3 : za (rg Tryz.f147 1) zN1 = true := kr
theorem zFq (n : Nat) (x0 : Net) (x1 : Int) (x2 : Int) (x3 : Vec) (r : Net) (H : ZC n x0 x1 x2 x3 = some r) : zH Tryz.prog 147 [.ptr (Net.row x0),.val false [.lit (.int .i64 x1)],.val false [.lit (.int .i64 x2)],.val true (fR (Vec.row x3))] [] [(0,(Net.row r))] := by
 refine zH.of_body tOk Tryz.func147 rfl (c := (.seq (G147 0) (D147 1))) kr (Nat.le_of_ble_eq_true kr) 1 (rs := []) rfl [] .nil [] [] [(0,(Net.row r))] fun cx=>?_
 show Tr _ _ _ ⟨24,1,[sA 0 0 3 0,sI 1 x1,sI 2 x2,sV 3 (Vec.row x3)],[(0,(Net.row x0))]⟩ _
 unfold ZC at H
 refine gA 1 135 129<|bE H fun v1 ev1 H=> bE H fun r2 er2 H=> Tr.draw mixed 17 kr ⟨24,1,[sA 0 0 3 0],[(0,[cL 11 (x0.Bs.set (x1.toNat) r2) zA.row,cL 4 x0.Ls Link.row,cL 7 x0.Said Say.row])]⟩ (fun cx=>?_) ?_
 ·exact mA zC3 [(0,[]),(1,[]),(2,[]),(3,[16]),(4,[]),(5,[]),(6,[]),(7,[]),(8,[14,16]),(9,[])] 7 [⟨[14,16],49,15,16⟩,⟨[16],49,10,11⟩] fun cx=>oN zC3 10 zA.row ev1 fun cx=>mA zC3 [(12,[]),(13,[14,16])] 4 [⟨[14,16],33,7,21⟩,⟨[14,16],49,15,16⟩,⟨[16],49,10,11⟩] fun cx=>mC zC3 11<|dE (tI 31) (.box 0) [(0,0),(0,(x1.toNat))] 11 0 [.sl true 3 [(Net.row x0)]] (zA.row v1) (zy rfl (zO ev1).2)<|fA<|mC zC3 14<|LAt.callO tOk [.rd,.rd,.rd] (f := 17) (av := #[.tmp 19,.tmp 20,.tmp 21]) (ats := #[31,3,33]) (d := (some 22)) (ty := 31) (g := none) [(19,zA.row v1)] none kr kr kr [.box 0] (zJz n v1 x2 x3 r2 er2) (zCf (row := [.sl true 3 [(Net.row x0)]]) (q := [(0,0),(0,(x1.toNat))]) kr (zy rfl (zO ev1).2) zDw) kr zDv (.inr (And.intro (zk (zA.row_mine _) qG) zCg))<|fA<|oN zC3 15 zA.row ev1 fun cx=>sA_ 14781569 129 ⟨24,1,[(23,.adr (.box 0) [(0,0),(0,(x1.toNat))] 11 0),sV 22 (zA.row r2),sV 21 (Vec.row x3),sR 16 0 3 0 1 false,sA 15 0 3 0,sR 11 0 3 0 1 false,sA 10 0 3 0,sA 7 7 5 0,sA 0 0 3 0],[(7,(Vec.row x3)),(0,(Net.row x0))]⟩<|mC zC3 16<|LAt.storeB tOk (t := 31) (ty := 0) (ad := (.tmp 23)) (x := (.tmp 22)) (g := none) (tI 31) true (zA.row r2) 0 0 (x1.toNat) 11 0 11 x0.Bs zA.row v1 r2 kr kr kr kr kr kr kr kr (zO ev1).2 kr kr kr kr<|fA<|mE zC3 [0] [0]
 exact fY [] [(0,[cL 11 (x0.Bs.set (x1.toNat) r2) zA.row,cL 4 x0.Ls Link.row,cL 7 x0.Said Say.row])] H
def zBZ (n : Nat) (y7 : (List zA)) (y8 : (List Link)) (y9 : (List Say)) : Option (Net) :=
  (some (⟨y7,y8,y9⟩ : Net))
def QV (n : Nat) : Nat → Net → Int → (List zA) → (List Link) → (List Say) → Option (((List zA) × (List Link) × (List Say)) ⊕ (Net))
  | 0,_,_,_,_,_ => none
  | mo10 + 1,x0,y3,y4,y5,y6 => (bif (decide (y3 < (x0.Ls.length : Int))) then ((idx x0.Ls y3).bind fun v11 => ((zU n x0 y3).bind fun r12 => (bif r12 then ((Zo n x0 v11.B v11.Q).bind fun r13 => ((ZC n (⟨y4,y5,y6⟩ : Net) v11.A v11.P r13).bind fun r14 => ((Zo n x0 v11.A v11.P).bind fun r15 => ((ZC n r14 v11.B v11.Q r15).bind fun r16 => (QV n mo10 x0 (IntKind.wrap .i64 (y3 + 1)) r16.Bs r16.Ls r16.Said))))) else (QV n mo10 x0 (IntKind.wrap .i64 (y3 + 1)) y4 y5 y6)))) else (some (Sum.inl (y4,y5,y6))))
def Yg (n : Nat) (x0 : Net) : Option (Net) :=
  ((YZ n x0).bind fun r1 => ((QQ n x0).bind fun r2 => (bif (!r2) then (some r1) else ((QV n n x0 0 r1.Bs r1.Ls ([] : List Say)).bind fun o => match o with | .inl (y7,y8,y9) => (zBZ n y7 y8 y9) | .inr r => some r))))
theorem zLe (n : Nat) (x0 : Net) (r : Net) (H : Yg n x0 = some r) : zH Tryz.prog 73 [.val true (fR (Net.row x0))] [.val true (Net.row r)] [] := by
 refine cW Tryz.func73 (fun g d => sl [g 0,g 1,sl [g 2] (cn 10 (sl [g 3] .ret) .skip),g 4,sl [g 5] (.block 0 (.loop (sl [g 6,cn 17 .skip (.exit 0),.block 1 (sl [g 7,g 8] (cn 23 (sl [d 9] (d 10)) .skip))] (g 11)))),g 12] .ret) [.cell 2 53] fun cx=>?_
 unfold Yg at H
 refine gA 2 6 6<|rA 1<|bE H fun r1 er1 H=> vA [.rd] (zGH n x0 r1 er1)<|uA 2 14 14<|tS<|rA 1<|bE H fun r2 er2 H=> vA [.rd] (zLd n x0 r2 er2)<|uA 1 1038 14 ?_
 obtain ⟨h1,H⟩ | ⟨h1,H⟩ := bC H
 ·refine nA h1<|tK<|gA 2 14 14<|tS<|rA 2<|kF x0.Ls Link.row<|uA 1 114702 14 ?_
  obtain ⟨o10,eo10,Ho10⟩ := bs H
  clear H
  refine Tr.mid (ι := (List zA) × (List Link) × (List Say)) (fun v => ⟨48,0,[sA 3 3 3 0,sA 2 2 3 0],[(3,[cL 11 v.1 zA.row,cL 4 v.2.1 Link.row,cL 7 v.2.2 Say.row]),(2,[cL 11 ([] : List zA) zA.row,cL 4 ([] : List Link) Link.row,cL 7 ([] : List Say) Say.row])]⟩) (fun v => zBZ n v.1 v.2.1 v.2.2 = some r) ?_ ?_
  ·refine tB<|Tr.loop (ι := Nat × (Int × (List zA) × (List Link) × (List Say))) (fun v => ⟨48,0,[sI 16 v.2.1,sI 15 (x0.Ls.length : Int),sC 14 (cF 4 x0.Ls Link.row),sA 3 3 3 0,sA 2 2 3 0,sA 1 1 3 0],[(3,[cL 11 v.2.2.1 zA.row,cL 4 v.2.2.2.1 Link.row,cL 7 v.2.2.2.2 Say.row]),(2,[cL 11 ([] : List zA) zA.row,cL 4 ([] : List Link) Link.row,cL 7 ([] : List Say) Say.row]),(1,(fR (Net.row x0)))]⟩) (fun v => QV n v.1 x0 v.2.1 v.2.2.1 v.2.2.2.1 v.2.2.2.2 = some o10) (fun v => v.1) (n,(0,r1.Bs,r1.Ls,([] : List Say))) eo10 (St.sub_of [16,15,14,3,2,1] [3,2,1] kr) ?_
   rintro ⟨mo10,y3,y4,y5,y6⟩ H
   have H : QV n mo10 x0 y3 y4 y5 y6 = some o10 := H
   obtain _ | mo10 := mo10
   ·exact nN H
   rw [QV] at H
   refine gA 1 245774 14<|tS ?_
   obtain ⟨h2,H⟩ | ⟨h2,H⟩ := bC H
   ·refine nA h2<|Tr.exit<|aJ ?_
    obtain rfl := si H
    have H := Ho10
    dsimp only at H
    exact jA (y4,y5,y6) H [3,2] [3,2]
   refine tA h2<|tK<|tS<|tB<|rA 1<|bE H fun v11 ev11 H=> iA Link.row ev11<|uA 4 114750 46<|rA 2<|bE H fun r12 er12 H=> vA [.rd,.rd] (zAH n x0 y3 r12 er12)<|dA 8503342 46 ?_
   cases h3 : r12
   ·have H := zF h3 H
    exact nB_<|tK<|eA 2 114702 14<|jB mo10 ((wI (y3 + 1)),y4,y5,y6) H [16,15,14,3,2,1] [3,2,1]
   have H := zG h3 H
   refine tB_<|bE H fun r13 er13 H=> bE H fun r14 er14 H=> Tr.draws mixed 11 kr ⟨48,0,[sA 5 5 4 0,sI 16 y3,sI 15 (x0.Ls.length : Int),sC 14 (cF 4 x0.Ls Link.row),sA 3 3 3 0,sA 2 2 3 0,sA 1 1 3 0],[(3,(Net.row r14)),(5,(Link.row v11)),(2,[cL 11 ([] : List zA) zA.row,cL 4 ([] : List Link) Link.row,cL 7 ([] : List Say) Say.row]),(1,(fR (Net.row x0)))]⟩ (fun cx=>?_) ?_
   ·exact aA [(0,[]),(1,[10]),(2,[]),(3,[10]),(4,[9,10]),(5,[]),(6,[9,10]),(7,[]),(8,[9,10])] 2 [⟨[9,10],3,31,32⟩,⟨[9,10],3,29,30⟩,⟨[9,10],53,1,28⟩,⟨[10],3,26,27⟩,⟨[10],3,24,25⟩] fun cx=>bA 9<|vA [.rd,.rd,.rd] (zDD n x0 v11.B v11.Q r13 er13)<|fA<|bA 10<|vL [.lend,.rd,.rd,.rd] (zFq n (⟨y4,y5,y6⟩ : Net) v11.A v11.P r13 r14 er14)<|fA<|eE [5,16,15,14,3,2,1] [3,5,2,1]
   refine bE H fun r15 er15 H=> bE H fun r16 er16 H=> Tr.draw mixed 11 kr ⟨48,0,[sI 16 y3,sI 15 (x0.Ls.length : Int),sC 14 (cF 4 x0.Ls Link.row),sA 3 3 3 0,sA 2 2 3 0,sA 1 1 3 0],[(3,(Net.row r16)),(2,[cL 11 ([] : List zA) zA.row,cL 4 ([] : List Link) Link.row,cL 7 ([] : List Say) Say.row]),(1,(fR (Net.row x0)))]⟩ (fun cx=>?_) ?_
   ·exact aA [(0,[]),(1,[10]),(2,[]),(3,[10]),(4,[9,10]),(5,[]),(6,[9,10]),(7,[]),(8,[9,10])] 2 [⟨[9,10],3,42,43⟩,⟨[9,10],3,40,41⟩,⟨[9,10],53,1,39⟩,⟨[10],3,37,38⟩,⟨[10],3,35,36⟩] fun cx=>bA 9<|vA [.rd,.rd,.rd] (zDD n x0 v11.A v11.P r15 er15)<|fA<|bA 10<|vL [.lend,.rd,.rd,.rd] (zFq n r14 v11.B v11.Q r15 r16 er16)<|fA<|eE [16,15,14,3,2,1] [3,2,1]
   exact eA 2 114702 14<|jB mo10 ((wI (y3 + 1)),r16.Bs,r16.Ls,r16.Said) H [16,15,14,3,2,1] [3,2,1]
  rintro ⟨y7,y8,y9⟩ H
  have H : (zBZ n y7 y8 y9) = some r := H
  unfold zBZ at H
  exact gA 2 4 4<|te (fJ [(true,[cL 11 y7 zA.row,cL 4 y8 Link.row,cL 7 y9 Say.row])] H)
 exact tA h1<|gA 2 4 4<|te (fJ [(true,(Net.row r1))] H)
def zAx (n : Nat) (y6 : (List zA)) (y7 : (List Link)) (y8 : (List Say)) : Option (Net) :=
  (some (⟨y6,y7,y8⟩ : Net))
def Ql (n : Nat) : Nat → Int → Int → (List zA) → (List Link) → (List Say) → Option (((List zA) × (List Link) × (List Say)) ⊕ (Net))
  | 0,_,_,_,_,_ => none
  | mo9 + 1,x1,y2,y3,y4,y5 => (bif (decide (y2 < (if (if 30 < x1 then 30 else x1) > 0 then (if 30 < x1 then 30 else x1) else 0))) then ((Yg n (⟨y3,y4,y5⟩ : Net)).bind fun r10 => (Ql n mo9 x1 (IntKind.wrap .i64 (y2 + 1)) r10.Bs r10.Ls r10.Said)) else (some (Sum.inl (y3,y4,y5))))
def Jc (n : Nat) (x0 : Net) (x1 : Int) : Option (Net) :=
  ((YZ n x0).bind fun r1 => ((Ql n n x1 0 r1.Bs r1.Ls r1.Said).bind fun o => match o with | .inl (y6,y7,y8) => (zAx n y6 y7 y8) | .inr r => some r))
theorem zCp (n : Nat) (x0 : Net) (x1 : Int) (r : Net) (H : Jc n x0 x1 = some r) : zH Tryz.prog 28 [.val true (fR (Net.row x0)),.val false [.lit (.int .i64 x1)]] [.val true (Net.row r)] [] := by
 refine cW Tryz.func28 (fun g d => sl [g 0,g 1,sl [g 2] (.block 0 (.loop (sl [g 3,cn 12 .skip (.exit 0),.block 1 (g 4)] (g 5)))),g 6] .ret) [.cell 4 53] fun cx=>?_
 unfold Jc at H
 refine gA 2 22 20<|rA 1<|bE H fun r1 er1 H=> vA [.rd] (zGH n x0 r1 er1)<|uA 2 50 48<|tS<|gA 4 3120 48 ?_
 obtain ⟨o9,eo9,Ho9⟩ := bs H
 clear H
 refine Tr.mid (ι := (List zA) × (List Link) × (List Say)) (fun v => ⟨17,0,[sA 5 5 3 0,sA 4 4 3 0],[(5,[cL 11 v.1 zA.row,cL 4 v.2.1 Link.row,cL 7 v.2.2 Say.row]),(4,[cL 11 ([] : List zA) zA.row,cL 4 ([] : List Link) Link.row,cL 7 ([] : List Say) Say.row])]⟩) (fun v => zAx n v.1 v.2.1 v.2.2 = some r) ?_ ?_
 ·refine tB<|Tr.loop (ι := Nat × (Int × (List zA) × (List Link) × (List Say))) (fun v => ⟨17,0,[sI 11 v.2.1,sI 10 (if (if 30 < x1 then 30 else x1) > 0 then (if 30 < x1 then 30 else x1) else 0),sA 5 5 3 0,sA 4 4 3 0],[(5,[cL 11 v.2.2.1 zA.row,cL 4 v.2.2.2.1 Link.row,cL 7 v.2.2.2.2 Say.row]),(4,[cL 11 ([] : List zA) zA.row,cL 4 ([] : List Link) Link.row,cL 7 ([] : List Say) Say.row])]⟩) (fun v => Ql n v.1 x1 v.2.1 v.2.2.1 v.2.2.2.1 v.2.2.2.2 = some o9) (fun v => v.1) (n,(0,r1.Bs,r1.Ls,r1.Said)) eo9 (St.sub_of [11,10,5,4] [5,4] kr) ?_
  rintro ⟨mo9,y2,y3,y4,y5⟩ H
  have H : Ql n mo9 x1 y2 y3 y4 y5 = some o9 := H
  obtain _ | mo9 := mo9
  ·exact nN H
  rw [Ql] at H
  refine gA 1 7216 48<|tS ?_
  obtain ⟨h1,H⟩ | ⟨h1,H⟩ := bC H
  ·refine nA h1<|Tr.exit<|aJ ?_
   obtain rfl := si H
   have H := Ho9
   dsimp only at H
   exact jA (y3,y4,y5) H [5,4] [5,4]
  exact tA h1<|tK<|tS<|tB<|Tr.at<|lA 1<|bE H fun r10 er10 H=> vB [.rd] [.box 5] (zLe n (⟨y3,y4,y5⟩ : Net) r10 er10) (.inr (zk (Net.row_mine _) qG))<|uA 1 3120 48<|eA 2 3120 48<|jB mo9 ((wI (y2 + 1)),r10.Bs,r10.Ls,r10.Said) H [11,10,5,4] [5,4]
 rintro ⟨y6,y7,y8⟩ H
 have H : (zAx n y6 y7 y8) = some r := H
 unfold zAx at H
 exact gA 2 16 16<|te (fJ [(true,[cL 11 y6 zA.row,cL 4 y7 Link.row,cL 7 y8 Say.row])] H)
def JN (n : Nat) (x0 : Net) (x1 : Int) (x2 : Int) (x3 : Vec) : Option (Bool) :=
  ((ZM n x0 x1 x2).bind fun r1 => (bif r1.2 then (bif r1.1.Has then (some ((r1.1.Hd.Root == x3.Root) && ((r1.1.Hd.Co == x3.Co) && ((r1.1.Hd.Hops == x3.Hops) && ((r1.1.Hd.Bridge == x3.Bridge) && ((r1.1.Hd.Port == x3.Port) && true)))))) else (some false)) else (some false)))
theorem zFV (n : Nat) (x0 : Net) (x1 : Int) (x2 : Int) (x3 : Vec) (r : Bool) (H : JN n x0 x1 x2 x3 = some r) : zH Tryz.prog 112 [.val true (fR (Net.row x0)),.val false [.lit (.int .i64 x1)],.val false [.lit (.int .i64 x2)],.val true (fR (Vec.row x3))] [.val false [.lit (.bool r)]] [] := by
 refine cW Tryz.func112 (fun g d => sl [g 0,g 1,g 2] .ret) [.tmp 8] fun cx=>?_
 unfold JN at H
 refine gA 3 150 144<|rA 3<|bE H fun r1 er1 H=> vA [.rd,.rd,.rd] (JO n x0 x1 x2 r1 er1)<|LAt.movT tOk (ty := 129) (t := 15) (d := 11) (g := none) [(true,(Pt.row r1.1)),(false,[cB r1.2])] _ kr (.inl rfl) kr kr kr kr rfl<|uA 5 1664 640<|rA 2<|sL 524928 640 ⟨29,0,[sB 19 r1.2,sA 9 9 8 0,sA 7 7 5 0],[(9,(Pt.row r1.1)),(7,(Vec.row x3))]⟩ ?_
 cases h1 : r1.2
 ·have H := zF h1 H
  exact uA 10 256 0<|te (fF H)
 have H := zG h1 H
 refine lA 4<|sL 8389248 640 ⟨29,0,[sB 23 r1.1.Has,sA 9 9 8 0,sA 7 7 5 0],[(9,(Pt.row r1.1)),(7,(Vec.row x3))]⟩ ?_
 cases h2 : r1.1.Has
 ·have H := zF h2 H
  exact uA 6 256 0<|te (fF H)
 have H := zG h2 H
 exact lA 3<|LAt.eqSG false (t := 33) (ty := 33) (ty' := 4) (x := (.tmp 25)) (y := (.tmp 26)) (d := 27) (g := (some (5,true))) ((r1.1.Hd.Root == x3.Root) && ((r1.1.Hd.Co == x3.Co) && ((r1.1.Hd.Hops == x3.Hops) && ((r1.1.Hd.Bridge == x3.Bridge) && ((r1.1.Hd.Port == x3.Port) && true))))) _ kr kr kr kr rfl<|uA 2 256 0<|te (fJ [(false,[cB ((r1.1.Hd.Root == x3.Root) && ((r1.1.Hd.Co == x3.Co) && ((r1.1.Hd.Hops == x3.Hops) && ((r1.1.Hd.Bridge == x3.Bridge) && ((r1.1.Hd.Port == x3.Port) && true)))))])] H)
def zAv (n : Nat) : Option (Bool) :=
  (some true)
def qn (n : Nat) : Nat → Net → Int → Option ((Unit) ⊕ (Bool))
  | 0,_,_ => none
  | mo2 + 1,x0,y1 => (bif (decide (y1 < (x0.Ls.length : Int))) then ((idx x0.Ls y1).bind fun v3 => ((zU n x0 y1).bind fun r4 => (bif r4 then ((Zo n x0 v3.B v3.Q).bind fun r5 => ((JN n x0 v3.A v3.P r5).bind fun r6 => (bif (!r6) then (some (Sum.inr false)) else ((Zo n x0 v3.A v3.P).bind fun r7 => ((JN n x0 v3.B v3.Q r7).bind fun r8 => (bif (!r8) then (some (Sum.inr false)) else (qn n mo2 x0 (IntKind.wrap .i64 (y1 + 1))))))))) else (qn n mo2 x0 (IntKind.wrap .i64 (y1 + 1)))))) else (some (Sum.inl ())))
def Qt (n : Nat) (x0 : Net) : Option (Bool) :=
  ((qn n n x0 0).bind fun o => match o with | .inl _ => (zAv n) | .inr r => some r)
def zOT : Tab := ⟨33,[0,0,3,4,8,8,40,8,136,8,8,1032,8,4104,10760,16728,32776,98312,131072,131072,655360,131072,2228224,131072,131072,16908288,131072,67239936,176291840,274071552,537001984,1073872904,2147483656],[0,0,3,4,8,8,40,8,136,8,8,1032,8,4104,10760,16728,32776,65544,131072,131072,655360,131072,2228224,131072,131072,16908288,131072,67239936,176291840,274071552,537001984,1073872904,2147483656],[0,0,3,7,15,15,47,15,143,15,15,1039,15,4111,15887,32767,65535,131071,262143,262143,786431,262143,2359295,262143,262143,17039359,262143,67371007,260308991,536870911,1073741823,2147483647,4294967295]⟩
theorem QI : za (rg Tryz.f30 4) zOT = true := kr
theorem zKc (n : Nat) (x0 : Net) (r : Bool) (H : Qt n x0 = some r) : zH Tryz.prog 30 [.val true (fR (Net.row x0))] [.val false [.lit (.bool r)]] [] := by
 refine cW Tryz.func30 (fun g d => sl [g 0,sl [g 1] (.block 0 (.loop (sl [g 2,cn 9 .skip (.exit 0),.block 1 (sl [g 3,d 4] (cn 45 (sl [g 5] .ret) .skip))] (g 6)))),g 7] .ret) [.tmp 2] fun cx=>?_
 unfold Qt at H
 refine gA 2 2 2<|tS<|rA 2<|kF x0.Ls Link.row<|uA 1 450 2 ?_
 obtain ⟨o2,eo2,Ho2⟩ := bs H
 clear H
 refine Tr.mid (ι := Unit) (fun v => ⟨47,0,[],[]⟩) (fun v => zAv n = some r) ?_ ?_
 ·refine tB<|Tr.loop (ι := Nat × (Int)) (fun v => ⟨47,0,[sI 8 v.2,sI 7 (x0.Ls.length : Int),sC 6 (cF 4 x0.Ls Link.row),sA 1 1 3 0],[(1,(fR (Net.row x0)))]⟩) (fun v => qn n v.1 x0 v.2 = some o2) (fun v => v.1) (n,0) eo2 (St.sub_of [8,7,6,1] [1] kr) ?_
  rintro ⟨mo2,y1⟩ H
  have H : qn n mo2 x0 y1 = some o2 := H
  obtain _ | mo2 := mo2
  ·exact nN H
  rw [qn] at H
  refine gA 1 962 2<|tS ?_
  obtain ⟨h1,H⟩ | ⟨h1,H⟩ := bC H
  ·refine nA h1<|Tr.exit<|aJ ?_
   obtain rfl := si H
   have H := Ho2
   dsimp only at H
   exact jA () H [] []
  refine tA h1<|tK<|tS<|tB<|rA 1<|bE H fun v3 ev3 H=> iA Link.row ev3<|uA 4 474 18<|bE H fun r4 er4 H=> sT ⟨47,0,[sI 3 y1,sA 4 4 4 0,sI 8 y1,sI 7 (x0.Ls.length : Int),sC 6 (cF 4 x0.Ls Link.row),sA 1 1 3 0],[(4,(Link.row v3)),(1,(fR (Net.row x0)))]⟩ ?_
  cases h2 : r4
  ·have H := zF h2 H
   refine Tr.draws mixed 33 kr ⟨47,0,[sB 45 false,sI 8 y1,sI 7 (x0.Ls.length : Int),sC 6 (cF 4 x0.Ls Link.row),sA 1 1 3 0],[(1,(fR (Net.row x0)))]⟩ (fun cx=>?_) ?_
   ·refine mA QI [(0,[2]),(1,[])] 31 [⟨[2],53,1,13⟩] fun cx=>mC QI 2<|vA [.rd,.rd] (zAH n x0 y1 r4 er4)<|fA<|mA QI [(3,[])] 29 [⟨[2],53,1,13⟩] fun cx=>sA_ 74194 18 ⟨47,0,[sB 16 r4,sR 13 1 3 0 3 true,sA 4 4 4 0,sI 8 y1,sI 7 (x0.Ls.length : Int),sC 6 (cF 4 x0.Ls Link.row),sA 1 1 3 0],[(4,(Link.row v3)),(1,(fR (Net.row x0)))]⟩ ?_
    rw [h2]
    exact mA QI [(4,[]),(5,[]),(6,[]),(7,[]),(8,[]),(9,[]),(10,[]),(11,[]),(12,[]),(13,[]),(14,[]),(15,[]),(16,[]),(17,[]),(18,[]),(19,[]),(20,[]),(21,[]),(22,[]),(23,[]),(24,[]),(25,[]),(26,[]),(27,[]),(28,[]),(29,[]),(30,[]),(31,[]),(32,[])] 0 [⟨[2],53,1,13⟩] fun cx=>mE QI [45,8,7,6,1] [1]
   exact nB_<|tK<|eA 2 450 2<|jB mo2 (wI (y1 + 1)) H [8,7,6,1] [1]
  have H := zG h2 H
  refine bE H fun r5 er5 H=> bE H fun r6 er6 H=> sT ⟨47,0,[sI 3 y1,sA 4 4 4 0,sI 8 y1,sI 7 (x0.Ls.length : Int),sC 6 (cF 4 x0.Ls Link.row),sA 1 1 3 0],[(4,(Link.row v3)),(1,(fR (Net.row x0)))]⟩ ?_
  cases h3 : (!r6)
  ·have H := zF h3 H
   refine bE H fun r7 er7 H=> bE H fun r8 er8 H=> Tr.draws mixed 33 kr ⟨47,0,[sB 45 (!r8),sI 8 y1,sI 7 (x0.Ls.length : Int),sC 6 (cF 4 x0.Ls Link.row),sA 1 1 3 0],[(1,(fR (Net.row x0)))]⟩ (fun cx=>?_) ?_
   ·refine mA QI [(0,[2,14,15,28,29]),(1,[])] 31 [⟨[2,14,15,28,29],53,1,13⟩] fun cx=>mC QI 2<|vA [.rd,.rd] (zAH n x0 y1 r4 er4)<|fA<|mA QI [(3,[])] 29 [⟨[2,14,15,28,29],53,1,13⟩] fun cx=>sA_ 74194 18 ⟨47,0,[sB 16 r4,sR 13 1 3 0 3 true,sA 4 4 4 0,sI 8 y1,sI 7 (x0.Ls.length : Int),sC 6 (cF 4 x0.Ls Link.row),sA 1 1 3 0],[(4,(Link.row v3)),(1,(fR (Net.row x0)))]⟩ ?_
    rw [h2]
    refine mA QI [(4,[15,28,29]),(5,[]),(6,[15,28,29]),(7,[]),(8,[15,28,29]),(9,[14,15,28,29]),(10,[]),(11,[14,15,28,29]),(12,[]),(13,[14,15,28,29])] 19 [⟨[14,15,28,29],3,25,26⟩,⟨[14,15,28,29],3,23,24⟩,⟨[14,15,28,29],53,1,22⟩,⟨[15,28,29],3,20,21⟩,⟨[15,28,29],3,18,19⟩,⟨[15,28,29],53,1,17⟩,⟨[2,14,15,28,29],53,1,13⟩] fun cx=>mC QI 14<|vA [.rd,.rd,.rd] (zDD n x0 v3.B v3.Q r5 er5)<|fA<|mC QI 15<|vA [.rd,.rd,.rd,.rd] (zFV n x0 v3.A v3.P r5 r6 er6)<|fA<|mA QI [(16,[]),(17,[])] 15 [⟨[14,15,28,29],3,25,26⟩,⟨[14,15,28,29],3,23,24⟩,⟨[14,15,28,29],53,1,22⟩,⟨[15,28,29],3,20,21⟩,⟨[15,28,29],3,18,19⟩,⟨[15,28,29],53,1,17⟩,⟨[2,14,15,28,29],53,1,13⟩] fun cx=>sA_ 1207902674 18 ⟨47,0,[sB 30 (!r6),sI 26 v3.Q,sA 25 4 4 3,sI 24 v3.B,sA 23 4 4 2,sR 22 1 3 0 3 true,sI 21 v3.P,sA 20 4 4 1,sI 19 v3.A,sA 18 4 4 0,sR 17 1 3 0 3 true,sB 16 true,sR 13 1 3 0 3 true,sA 4 4 4 0,sI 8 y1,sI 7 (x0.Ls.length : Int),sC 6 (cF 4 x0.Ls Link.row),sA 1 1 3 0],[(4,(Link.row v3)),(1,(fR (Net.row x0)))]⟩ ?_
    rw [h3]
    exact mA QI [(18,[29]),(19,[]),(20,[29]),(21,[]),(22,[29]),(23,[28,29]),(24,[]),(25,[28,29]),(26,[]),(27,[28,29])] 5 [⟨[28,29],3,39,40⟩,⟨[28,29],3,37,38⟩,⟨[28,29],53,1,36⟩,⟨[29],3,34,35⟩,⟨[29],3,32,33⟩,⟨[29],53,1,31⟩,⟨[14,15,28,29],3,25,26⟩,⟨[14,15,28,29],3,23,24⟩,⟨[14,15,28,29],53,1,22⟩,⟨[15,28,29],3,20,21⟩,⟨[15,28,29],3,18,19⟩,⟨[15,28,29],53,1,17⟩,⟨[2,14,15,28,29],53,1,13⟩] fun cx=>mC QI 28<|vA [.rd,.rd,.rd] (zDD n x0 v3.A v3.P r7 er7)<|fA<|mC QI 29<|vA [.rd,.rd,.rd,.rd] (zFV n x0 v3.B v3.Q r7 r8 er8)<|fA<|mA QI [(30,[]),(31,[]),(32,[])] 0 [⟨[28,29],3,39,40⟩,⟨[28,29],3,37,38⟩,⟨[28,29],53,1,36⟩,⟨[29],3,34,35⟩,⟨[29],3,32,33⟩,⟨[29],53,1,31⟩,⟨[14,15,28,29],3,25,26⟩,⟨[14,15,28,29],3,23,24⟩,⟨[14,15,28,29],53,1,22⟩,⟨[15,28,29],3,20,21⟩,⟨[15,28,29],3,18,19⟩,⟨[15,28,29],53,1,17⟩,⟨[2,14,15,28,29],53,1,13⟩] fun cx=>mE QI [45,8,7,6,1] [1]
   refine sT ⟨47,0,[sB 45 (!r8),sI 8 y1,sI 7 (x0.Ls.length : Int),sC 6 (cF 4 x0.Ls Link.row),sA 1 1 3 0],[(1,(fR (Net.row x0)))]⟩ ?_
   cases h4 : (!r8)
   ·have H := zF h4 H
    exact nB_<|tK<|eA 2 450 2<|jB mo2 (wI (y1 + 1)) H [8,7,6,1] [1]
   have H := zG h4 H
   refine tB_<|gA 1 4 0<|te ?_
   obtain rfl := si H
   have H := Ho2
   dsimp only at H
   exact fF H
  have H := zG h3 H
  refine Tr.draws mixed 33 kr ⟨47,0,[sB 45 true,sI 8 y1,sI 7 (x0.Ls.length : Int),sC 6 (cF 4 x0.Ls Link.row),sA 1 1 3 0],[(1,(fR (Net.row x0)))]⟩ (fun cx=>?_) ?_
  ·refine mA QI [(0,[2,14,15]),(1,[])] 31 [⟨[2,14,15],53,1,13⟩] fun cx=>mC QI 2<|vA [.rd,.rd] (zAH n x0 y1 r4 er4)<|fA<|mA QI [(3,[])] 29 [⟨[2,14,15],53,1,13⟩] fun cx=>sA_ 74194 18 ⟨47,0,[sB 16 r4,sR 13 1 3 0 3 true,sA 4 4 4 0,sI 8 y1,sI 7 (x0.Ls.length : Int),sC 6 (cF 4 x0.Ls Link.row),sA 1 1 3 0],[(4,(Link.row v3)),(1,(fR (Net.row x0)))]⟩ ?_
   rw [h2]
   refine mA QI [(4,[15]),(5,[]),(6,[15]),(7,[]),(8,[15]),(9,[14,15]),(10,[]),(11,[14,15]),(12,[]),(13,[14,15])] 19 [⟨[14,15],3,25,26⟩,⟨[14,15],3,23,24⟩,⟨[14,15],53,1,22⟩,⟨[15],3,20,21⟩,⟨[15],3,18,19⟩,⟨[15],53,1,17⟩,⟨[2,14,15],53,1,13⟩] fun cx=>mC QI 14<|vA [.rd,.rd,.rd] (zDD n x0 v3.B v3.Q r5 er5)<|fA<|mC QI 15<|vA [.rd,.rd,.rd,.rd] (zFV n x0 v3.A v3.P r5 r6 er6)<|fA<|mA QI [(16,[]),(17,[])] 15 [⟨[14,15],3,25,26⟩,⟨[14,15],3,23,24⟩,⟨[14,15],53,1,22⟩,⟨[15],3,20,21⟩,⟨[15],3,18,19⟩,⟨[15],53,1,17⟩,⟨[2,14,15],53,1,13⟩] fun cx=>sA_ 1207902674 18 ⟨47,0,[sB 30 (!r6),sI 26 v3.Q,sA 25 4 4 3,sI 24 v3.B,sA 23 4 4 2,sR 22 1 3 0 3 true,sI 21 v3.P,sA 20 4 4 1,sI 19 v3.A,sA 18 4 4 0,sR 17 1 3 0 3 true,sB 16 true,sR 13 1 3 0 3 true,sA 4 4 4 0,sI 8 y1,sI 7 (x0.Ls.length : Int),sC 6 (cF 4 x0.Ls Link.row),sA 1 1 3 0],[(4,(Link.row v3)),(1,(fR (Net.row x0)))]⟩ ?_
   rw [h3]
   exact mA QI [(18,[]),(19,[]),(20,[]),(21,[]),(22,[]),(23,[]),(24,[]),(25,[]),(26,[]),(27,[]),(28,[]),(29,[]),(30,[]),(31,[]),(32,[])] 0 [⟨[14,15],3,25,26⟩,⟨[14,15],3,23,24⟩,⟨[14,15],53,1,22⟩,⟨[15],3,20,21⟩,⟨[15],3,18,19⟩,⟨[15],53,1,17⟩,⟨[2,14,15],53,1,13⟩] fun cx=>mE QI [45,8,7,6,1] [1]
  refine tB_<|gA 1 4 0<|te ?_
  obtain rfl := si H
  have H := Ho2
  dsimp only at H
  exact fF H
 rintro _ H
 have H : (zAv n) = some r := H
 unfold zAv at H
 exact gA 1 4 0<|te (fT H)
def Jq (n : Nat) (x0 : Net) (x1 : Int) (x2 : Bool) : Option (Bool) :=
  ((idx x0.Ls x1).bind fun v1 => ((idx x0.Bs v1.B).bind fun v2 => ((idx v2.Ps v1.Q).bind fun v3 => (bif x2 then ((idx x0.Bs v1.A).bind fun v5 => ((idx v5.Ps v1.P).bind fun v6 => (bif v6.Has then ((Qz n x0 x1 true).bind fun r7 => (some ((v6.Hd.Root == r7.Root) && ((v6.Hd.Co == r7.Co) && ((v6.Hd.Hops == r7.Hops) && ((v6.Hd.Bridge == r7.Bridge) && ((v6.Hd.Port == r7.Port) && true))))))) else (some false)))) else (bif v3.Has then ((Qz n x0 x1 false).bind fun r4 => (some ((v3.Hd.Root == r4.Root) && ((v3.Hd.Co == r4.Co) && ((v3.Hd.Hops == r4.Hops) && ((v3.Hd.Bridge == r4.Bridge) && ((v3.Hd.Port == r4.Port) && true))))))) else (some false))))))
def zNn : Tab := ⟨13,[0,1,0,4,10,16,32,0,128,320,512,0,4095],[0,1,0,4,10,16,32,0,128,320,512,0,3072],[0,1,0,4,15,31,63,0,128,511,1023,0,4095]⟩
theorem zCy : za (rg Tryz.f114 2) zNn = true := kr
def zNo : Tab := ⟨12,[0,1,0,4,10,16,32,0,128,320,512,2047],[0,1,0,4,10,16,32,0,128,320,512,1024],[0,1,0,4,15,31,63,0,128,511,1023,2047]⟩
theorem zDy : za (rg Tryz.f114 4) zNo = true := kr
def zNp : Tab := ⟨12,[0,1,2,4,12,4,4,4,228,276,516,2047],[0,1,2,4,12,4,4,4,228,276,516,1024],[0,1,3,7,15,7,7,7,231,511,1023,2047]⟩
theorem YB : za (rg Tryz.f114 5) zNp = true := kr
theorem zFu (n : Nat) (x0 : Net) (x1 : Int) (x2 : Bool) (r : Bool) (H : Jq n x0 x1 x2 = some r) : zH Tryz.prog 114 [.val true (fR (Net.row x0)),.val false [.lit (.int .i64 x1)],.val false [.lit (.bool x2)]] [.val false [.lit (.bool r)]] [] := by
 refine cW Tryz.func114 (fun g d => sl [g 0,g 1,d 2,sl [g 3] (cn 25 (d 4) .skip),d 5] .ret) [.tmp 6] fun cx=>?_
 unfold Jq at H
 refine gA 2 14 8<|rA 3<|bE H fun v1 ev1 H=> iA Link.row ev1<|uA 3 142 136<|bE H fun v2 ev2 H=> bE H fun v3 ev3 H=> Tr.draws mixed 13 kr ⟨48,0,[sA 8 8 8 0,sA 7 7 4 0,sA 3 3 3 0,sI 1 x1,sB 2 x2],[(8,(Pt.row v3)),(7,(Link.row v1)),(3,(fR (Net.row x0)))]⟩ (fun cx=>?_) ?_
 ·exact mA zCy [(0,[]),(1,[12]),(2,[]),(3,[12])] 9 [⟨[12],3,16,17⟩,⟨[12],49,14,15⟩] fun cx=>iN zCy 4 zA.row ev2 fun cx=>mA zCy [(5,[]),(6,[]),(7,[]),(8,[12])] 4 [⟨[12],3,21,22⟩,⟨[12],3,16,17⟩,⟨[12],49,14,15⟩] fun cx=>iN zCy 9 Pt.row ev3 fun cx=>mA zCy [(10,[])] 2 [⟨[12],3,21,22⟩,⟨[12],3,16,17⟩,⟨[12],49,14,15⟩] fun cx=>mC zCy 11<|lA 1<|fA<|mC zCy 12<|lA 1<|fA<|mE zCy [8,7,3,1,2] [8,7,3]
 refine tS<|gA 1 33554830 392 ?_
 cases h1 : x2
 ·have H := zF h1 H
  refine nB_<|tK<|sT ⟨48,0,[sB 25 false,sA 8 8 8 0,sA 7 7 4 0,sA 3 3 3 0,sI 1 x1,sB 2 false],[(8,(Pt.row v3)),(7,(Link.row v1)),(3,(fR (Net.row x0)))]⟩ ?_
  cases h2 : v3.Has
  ·have H := zF h2 H
   refine Tr.draws mixed 12 kr ⟨48,0,[sB 6 false],[]⟩ (fun cx=>?_) ?_
   ·refine mA YB [(0,[]),(1,[]),(2,[])] 9 [⟨[],4,37,38⟩] fun cx=>sA_ 962072674574 264 ⟨48,0,[sB 39 v3.Has,sB 38 v3.Has,sA 37 8 8 2,sA 8 8 8 0,sA 3 3 3 0,sI 1 x1,sB 2 false],[(8,(Pt.row v3)),(3,(fR (Net.row x0)))]⟩ ?_
    rw [h2]
    exact mA YB [(3,[]),(4,[]),(5,[]),(6,[]),(7,[]),(8,[]),(9,[]),(10,[]),(11,[])] 0 [⟨[],4,37,38⟩] fun cx=>mE YB [6] []
   exact te (fF H)
  have H := zG h2 H
  refine bE H fun r4 er4 H=> Tr.draws mixed 12 kr ⟨48,0,[sB 6 ((v3.Hd.Root == r4.Root) && ((v3.Hd.Co == r4.Co) && ((v3.Hd.Hops == r4.Hops) && ((v3.Hd.Bridge == r4.Bridge) && ((v3.Hd.Port == r4.Port) && true)))))],[]⟩ (fun cx=>?_) ?_
  ·refine mA YB [(0,[]),(1,[8,9]),(2,[])] 9 [⟨[8,9],4,37,38⟩] fun cx=>sA_ 962072674574 264 ⟨48,0,[sB 39 v3.Has,sB 38 v3.Has,sA 37 8 8 2,sA 8 8 8 0,sA 3 3 3 0,sI 1 x1,sB 2 false],[(8,(Pt.row v3)),(3,(fR (Net.row x0)))]⟩ ?_
   rw [h2]
   exact mA YB [(3,[]),(4,[9]),(5,[8,9]),(6,[]),(7,[])] 4 [⟨[8,9],53,3,42⟩,⟨[9],33,40,41⟩,⟨[8,9],4,37,38⟩] fun cx=>mC YB 8<|vA [.rd,.rd,.rd] (zCt n x0 x1 false r4 er4)<|fA<|mC YB 9<|LAt.eqSG false (t := 33) (ty := 33) (ty' := 4) (x := (.tmp 41)) (y := (.tmp 45)) (d := 46) (g := (some (2,true))) ((v3.Hd.Root == r4.Root) && ((v3.Hd.Co == r4.Co) && ((v3.Hd.Hops == r4.Hops) && ((v3.Hd.Bridge == r4.Bridge) && ((v3.Hd.Port == r4.Port) && true))))) _ kr kr kr kr rfl<|fA<|mA YB [(10,[]),(11,[])] 0 [⟨[8,9],53,3,42⟩,⟨[9],33,40,41⟩,⟨[8,9],4,37,38⟩] fun cx=>mE YB [6] []
  exact te (fJ [(false,[cB ((v3.Hd.Root == r4.Root) && ((v3.Hd.Co == r4.Co) && ((v3.Hd.Hops == r4.Hops) && ((v3.Hd.Bridge == r4.Bridge) && ((v3.Hd.Port == r4.Port) && true)))))])] H)
 have H := zG h1 H
 refine tB_<|bE H fun v5 ev5 H=> bE H fun v6 ev6 H=> Tr.draw mixed 12 kr ⟨48,0,[sA 8 8 8 0,sA 3 3 3 0,sI 1 x1,sB 2 true],[(8,(Pt.row v6)),(3,(fR (Net.row x0)))]⟩ (fun cx=>?_) ?_
 ·exact mA zDy [(0,[]),(1,[11]),(2,[]),(3,[11])] 8 [⟨[11],3,28,29⟩,⟨[11],49,26,27⟩] fun cx=>iN zDy 4 zA.row ev5 fun cx=>mA zDy [(5,[]),(6,[]),(7,[]),(8,[11])] 3 [⟨[11],3,33,34⟩,⟨[11],3,28,29⟩,⟨[11],49,26,27⟩] fun cx=>iN zDy 9 Pt.row ev6 fun cx=>mA zDy [(10,[])] 1 [⟨[11],3,33,34⟩,⟨[11],3,28,29⟩,⟨[11],49,26,27⟩] fun cx=>mC zDy 11<|lA 1<|fA<|mE zDy [8,3,1,2] [8,3]
 refine sT ⟨48,0,[sA 8 8 8 0,sA 3 3 3 0,sI 1 x1,sB 2 true],[(8,(Pt.row v6)),(3,(fR (Net.row x0)))]⟩ ?_
 cases h3 : v6.Has
 ·have H := zF h3 H
  refine Tr.draws mixed 12 kr ⟨48,0,[sB 6 false],[]⟩ (fun cx=>?_) ?_
  ·refine mA YB [(0,[]),(1,[]),(2,[])] 9 [⟨[],4,37,38⟩] fun cx=>sA_ 962072674574 264 ⟨48,0,[sB 39 v6.Has,sB 38 v6.Has,sA 37 8 8 2,sA 8 8 8 0,sA 3 3 3 0,sI 1 x1,sB 2 true],[(8,(Pt.row v6)),(3,(fR (Net.row x0)))]⟩ ?_
   rw [h3]
   exact mA YB [(3,[]),(4,[]),(5,[]),(6,[]),(7,[]),(8,[]),(9,[]),(10,[]),(11,[])] 0 [⟨[],4,37,38⟩] fun cx=>mE YB [6] []
  exact te (fF H)
 have H := zG h3 H
 refine bE H fun r7 er7 H=> Tr.draws mixed 12 kr ⟨48,0,[sB 6 ((v6.Hd.Root == r7.Root) && ((v6.Hd.Co == r7.Co) && ((v6.Hd.Hops == r7.Hops) && ((v6.Hd.Bridge == r7.Bridge) && ((v6.Hd.Port == r7.Port) && true)))))],[]⟩ (fun cx=>?_) ?_
 ·refine mA YB [(0,[]),(1,[8,9]),(2,[])] 9 [⟨[8,9],4,37,38⟩] fun cx=>sA_ 962072674574 264 ⟨48,0,[sB 39 v6.Has,sB 38 v6.Has,sA 37 8 8 2,sA 8 8 8 0,sA 3 3 3 0,sI 1 x1,sB 2 true],[(8,(Pt.row v6)),(3,(fR (Net.row x0)))]⟩ ?_
  rw [h3]
  exact mA YB [(3,[]),(4,[9]),(5,[8,9]),(6,[]),(7,[])] 4 [⟨[8,9],53,3,42⟩,⟨[9],33,40,41⟩,⟨[8,9],4,37,38⟩] fun cx=>mC YB 8<|vA [.rd,.rd,.rd] (zCt n x0 x1 true r7 er7)<|fA<|mC YB 9<|LAt.eqSG false (t := 33) (ty := 33) (ty' := 4) (x := (.tmp 41)) (y := (.tmp 45)) (d := 46) (g := (some (2,true))) ((v6.Hd.Root == r7.Root) && ((v6.Hd.Co == r7.Co) && ((v6.Hd.Hops == r7.Hops) && ((v6.Hd.Bridge == r7.Bridge) && ((v6.Hd.Port == r7.Port) && true))))) _ kr kr kr kr rfl<|fA<|mA YB [(10,[]),(11,[])] 0 [⟨[8,9],53,3,42⟩,⟨[9],33,40,41⟩,⟨[8,9],4,37,38⟩] fun cx=>mE YB [6] []
 exact te (fJ [(false,[cB ((v6.Hd.Root == r7.Root) && ((v6.Hd.Co == r7.Co) && ((v6.Hd.Hops == r7.Hops) && ((v6.Hd.Bridge == r7.Bridge) && ((v6.Hd.Port == r7.Port) && true)))))])] H)
def zA5 (n : Nat) : Option (Bool) :=
  (some true)
def QC (n : Nat) : Nat → Net → Int → Option ((Unit) ⊕ (Bool))
  | 0,_,_ => none
  | mo2 + 1,x0,y1 => (bif (decide (y1 < (x0.Ls.length : Int))) then ((qu n x0 y1).bind fun r3 => (bif r3 then ((Jq n x0 y1 false).bind fun r4 => (bif (!r4) then (some (Sum.inr false)) else ((Jq n x0 y1 true).bind fun r5 => (bif (!r5) then (some (Sum.inr false)) else (QC n mo2 x0 (IntKind.wrap .i64 (y1 + 1))))))) else (QC n mo2 x0 (IntKind.wrap .i64 (y1 + 1))))) else (some (Sum.inl ())))
def zAn (n : Nat) (x0 : Net) : Option (Bool) :=
  ((QC n n x0 0).bind fun o => match o with | .inl _ => (zA5 n) | .inr r => some r)
theorem zKu (n : Nat) (x0 : Net) (r : Bool) (H : zAn n x0 = some r) : zH Tryz.prog 31 [.val true (fR (Net.row x0))] [.val false [.lit (.bool r)]] [] := by
 refine cW Tryz.func31 (fun g d => sl [g 0,sl [g 1] (.block 0 (.loop (sl [sl [g 2] (cn 8 .skip (.exit 0)),.block 1 (sl [g 4] (cn 25 (sl [g 5] .ret) .skip))] (g 3)))),g 6] .ret) [.tmp 2] fun cx=>?_
 unfold zAn at H
 refine gA 2 2 2<|tS<|gA 1 10 2 ?_
 obtain ⟨o2,eo2,Ho2⟩ := bs H
 clear H
 refine Tr.mid (ι := Unit) (fun v => ⟨26,0,[],[]⟩) (fun v => zA5 n = some r) ?_ ?_
 ·refine tB<|Tr.loop (ι := Nat × (Int)) (fun v => ⟨26,0,[sI 3 v.2,sA 1 1 3 0],[(1,(fR (Net.row x0)))]⟩) (fun v => QC n v.1 x0 v.2 = some o2) (fun v => v.1) (n,0) eo2 (St.sub_of [3,1] [1] kr) ?_
  rintro ⟨mo2,y1⟩ H
  have H : QC n mo2 x0 y1 = some o2 := H
  obtain _ | mo2 := mo2
  ·exact nN H
  rw [QC] at H
  refine tS<|rA 3<|kF x0.Ls Link.row<|uA 1 266 2 ?_
  obtain ⟨h1,H⟩ | ⟨h1,H⟩ := bC H
  ·refine nA h1<|Tr.exit<|aJ ?_
   obtain rfl := si H
   have H := Ho2
   dsimp only at H
   exact jA () H [] []
  refine tA h1<|tK<|tS<|tB<|rA 2<|bE H fun r3 er3 H=> vA [.rd,.rd] (zCs n x0 y1 r3 er3)<|lA 1<|sL 16394 2 ⟨26,0,[sB 14 r3,sI 3 y1,sA 1 1 3 0],[(1,(fR (Net.row x0)))]⟩ ?_
  cases h2 : r3
  ·have H := zF h2 H
   exact uA 11 33554442 2<|nB_<|tK<|eA 3 10 2<|jB mo2 (wI (y1 + 1)) H [3,1] [1]
  have H := zG h2 H
  refine lA 2<|bE H fun r4 er4 H=> vA [.rd,.rd,.rd] (zFu n x0 y1 false r4 er4)<|lA 2<|sL 540682 2 ⟨26,0,[sB 19 (!r4),sB 14 true,sI 3 y1,sA 1 1 3 0],[(1,(fR (Net.row x0)))]⟩ ?_
  cases h3 : (!r4)
  ·have H := zF h3 H
   refine lA 2<|bE H fun r5 er5 H=> vA [.rd,.rd,.rd] (zFu n x0 y1 true r5 er5)<|uA 3 33554442 2 ?_
   obtain ⟨h4,H⟩ | ⟨h4,H⟩ := bC H
   ·exact nA h4<|tK<|eA 3 10 2<|jB mo2 (wI (y1 + 1)) H [3,1] [1]
   refine tA h4<|gA 1 4 0<|te ?_
   obtain rfl := si H
   have H := Ho2
   dsimp only at H
   exact fF H
  have H := zG h3 H
  refine uA 6 33554442 2<|tB_<|gA 1 4 0<|te ?_
  obtain rfl := si H
  have H := Ho2
  dsimp only at H
  exact fF H
 rintro _ H
 have H : (zA5 n) = some r := H
 unfold zA5 at H
 exact gA 1 4 0<|te (fT H)
def ZW (n : Nat) (x0 : Net) (x1 : Int) (x2 : Int) : Option (Bool) :=
  ((idx x0.Bs x1).bind fun v1 => ((idx x0.Bs x1).bind fun v2 => ((Yh n v1.Id v2.Ps).bind fun r3 => ((Y6 n r3 x2).bind fun r4 => (some r4)))))
def zNq : Tab := ⟨16,[0,1,0,6,8,16,0,64,0,384,512,1024,2080,0,12288,32767],[0,1,0,6,8,16,0,64,0,384,512,1024,2080,0,12288,16384],[0,1,0,7,15,31,0,64,0,448,960,1984,4095,0,16383,32767]⟩
theorem zBz : za (rg Tryz.f115 1) zNq = true := kr
theorem zGJ (n : Nat) (x0 : Net) (x1 : Int) (x2 : Int) (r : Bool) (H : ZW n x0 x1 x2 = some r) : zH Tryz.prog 115 [.val true (fR (Net.row x0)),.val false [.lit (.int .i64 x1)],.val false [.lit (.int .i64 x2)]] [.val false [.lit (.bool r)]] [] := by
 refine cW Tryz.func115 (fun g d => sl [g 0,d 1] .ret) [.tmp 6] fun cx=>?_
 unfold ZW at H
 refine gA 2 14 8<|bE H fun v1 ev1 H=> bE H fun v2 ev2 H=> bE H fun r3 er3 H=> bE H fun r4 er4 H=> Tr.draws mixed 16 kr ⟨22,0,[sB 6 r4],[]⟩ (fun cx=>?_) ?_
 ·exact mA zBz [(0,[]),(1,[12,14]),(2,[])] 13 [⟨[12,14],49,7,8⟩] fun cx=>iN zBz 3 zA.row ev1 fun cx=>mA zBz [(4,[]),(5,[]),(6,[]),(7,[12,14]),(8,[])] 7 [⟨[12,14],49,13,14⟩,⟨[12,14],49,7,8⟩] fun cx=>iN zBz 9 zA.row ev2 fun cx=>mA zBz [(10,[]),(11,[]),(13,[])] 3 [⟨[12,14],49,13,14⟩,⟨[12,14],49,7,8⟩] fun cx=>mC zBz 12<|vA [.rd,.rd] (zH4 n v1.Id v2.Ps r3 er3)<|fA<|mC zBz 14<|vA [.rd,.rd] (zGI n r3 x2 r4 er4)<|fA<|mA zBz [(15,[])] 0 [⟨[12,14],49,13,14⟩,⟨[12,14],49,7,8⟩] fun cx=>mE zBz [6] []
 exact te (fJ [(false,[cB r4])] H)
def zAa (n : Nat) (y3 : (List Int)) : Option ((List Int)) :=
  (some y3)
def YJ (n : Nat) (k : (Int × (List Int) → Option (((List Int)) ⊕ ((List Int))))) (y1 : Int) (y2 : (List Int)) (y6 : Bool) : Option (((List Int)) ⊕ ((List Int))) :=
  (bif y6 then (bif (decide (y2.length + [y1].length ≤ 268435456)) then (k ((IntKind.wrap .i64 (y1 + 1)),(y2 ++ [y1]))) else none) else (k ((IntKind.wrap .i64 (y1 + 1)),y2)))
def ZL (n : Nat) : Nat → Net → Int → (List Int) → Option (((List Int)) ⊕ ((List Int)))
  | 0,_,_,_ => none
  | mo4 + 1,x0,y1,y2 => (bif (decide (y1 < (x0.Ls.length : Int))) then ((idx x0.Ls y1).bind fun v5 => ((zU n x0 y1).bind fun r8 => (bif r8 then ((ZW n x0 v5.A v5.P).bind fun r9 => (bif r9 then ((ZW n x0 v5.B v5.Q).bind fun r10 => (YJ n (fun v => ZL n mo4 x0 v.1 v.2) y1 y2 r10)) else (YJ n (fun v => ZL n mo4 x0 v.1 v.2) y1 y2 false))) else (YJ n (fun v => ZL n mo4 x0 v.1 v.2) y1 y2 false)))) else (some (Sum.inl y2)))
def zAw (n : Nat) (x0 : Net) : Option ((List Int)) :=
  ((ZL n n x0 0 ([] : List Int)).bind fun o => match o with | .inl y3 => (zAa n y3) | .inr r => some r)
theorem zML (n : Nat) (x0 : Net) (r : (List Int)) (H : zAw n x0 = some r) : zH Tryz.prog 32 [.val true (fR (Net.row x0))] [.val false [.sl true 1 (r.map intRow)]] [] := by
 refine cW Tryz.func32 (fun g d => sl [g 0,g 1,sl [g 2] (.block 0 (.loop (sl [g 3,cn 10 .skip (.exit 0),.block 1 (sl [g 4,g 5] (cn 32 (g 6) .skip))] (g 7)))),g 8] .ret) [.tmp 2] fun cx=>?_
 unfold zAw at H
 refine gA 2 2 2<|gA 1 10 2<|tS<|rA 2<|kF x0.Ls Link.row<|uA 1 906 2 ?_
 obtain ⟨o4,eo4,Ho4⟩ := bs H
 clear H
 refine Tr.mid (ι := (List Int)) (fun v => ⟨39,0,[sC 3 (cL 1 v intRow)],[]⟩) (fun v => zAa n v = some r) ?_ ?_
 ·refine tB<|Tr.loop (ι := Nat × (Int × (List Int))) (fun v => ⟨39,0,[sI 9 v.2.1,sI 8 (x0.Ls.length : Int),sC 7 (cF 4 x0.Ls Link.row),sC 3 (cL 1 v.2.2 intRow),sA 1 1 3 0],[(1,(fR (Net.row x0)))]⟩) (fun v => ZL n v.1 x0 v.2.1 v.2.2 = some o4) (fun v => v.1) (n,(0,([] : List Int))) eo4 (St.sub_of [9,8,7,3,1] [1] kr) ?_
  rintro ⟨mo4,y1,y2⟩ H
  have H : ZL n mo4 x0 y1 y2 = some o4 := H
  obtain _ | mo4 := mo4
  ·exact nN H
  rw [ZL] at H
  refine gA 1 1930 2<|tS ?_
  obtain ⟨h1,H⟩ | ⟨h1,H⟩ := bC H
  ·refine nA h1<|Tr.exit<|aJ ?_
   obtain rfl := si H
   have H := Ho4
   dsimp only at H
   exact jA y2 H [3] []
  refine tA h1<|tK<|tS<|tB<|rA 1<|bE H fun v5 ev5 H=> iA Link.row ev5<|uA 4 954 34<|tS<|Tr.mid (ι := Bool) (fun v => ⟨39,0,[sB 32 v,sI 4 y1,sI 9 y1,sI 8 (x0.Ls.length : Int),sC 7 (cF 4 x0.Ls Link.row),sC 3 (cL 1 y2 intRow),sA 1 1 3 0],[(1,(fR (Net.row x0)))]⟩) (fun v => YJ n (fun v => ZL n mo4 x0 v.1 v.2) y1 y2 v = some o4) ?_ ?_
  ·refine Tr.at<|lA 2<|bE H fun r8 er8 H=> vA [.rd,.rd] (zAH n x0 y1 r8 er8)<|lA 1<|sL 132026 34 ⟨39,0,[sB 17 r8,sI 4 y1,sA 5 5 4 0,sI 9 y1,sI 8 (x0.Ls.length : Int),sC 7 (cF 4 x0.Ls Link.row),sC 3 (cL 1 y2 intRow),sA 1 1 3 0],[(5,(Link.row v5)),(1,(fR (Net.row x0)))]⟩ ?_
   cases h3 : r8
   ·have H := zF h3 H
    exact uA 15 4294968218 2<|jA false H [32,4,9,8,7,3,1] [1]
   have H := zG h3 H
   refine lA 5<|bE H fun r9 er9 H=> vA [.rd,.rd,.rd] (zGJ n x0 v5.A v5.P r9 er9)<|lA 2<|sL 33555386 34 ⟨39,0,[sB 25 r9,sI 4 y1,sA 5 5 4 0,sI 9 y1,sI 8 (x0.Ls.length : Int),sC 7 (cF 4 x0.Ls Link.row),sC 3 (cL 1 y2 intRow),sA 1 1 3 0],[(5,(Link.row v5)),(1,(fR (Net.row x0)))]⟩ ?_
   cases h4 : r9
   ·have H := zF h4 H
    exact uA 7 4294968218 2<|jA false H [32,4,9,8,7,3,1] [1]
   have H := zG h4 H
   exact lA 5<|bE H fun r10 er10 H=> vA [.rd,.rd,.rd] (zGJ n x0 v5.B v5.Q r10 er10)<|uA 1 4294968218 2<|jA r10 H [32,4,9,8,7,3,1] [1]
  rintro y6 H
  have H : (YJ n (fun v => ZL n mo4 x0 v.1 v.2) y1 y2 y6) = some o4 := H
  unfold YJ at H
  cases h2 : y6
  ·have H := zF h2 H
   exact nB_<|tK<|eA 2 906 2<|jB mo4 ((wI (y1 + 1)),y2) H [9,8,7,3,1] [1]
  have H := zG h2 H
  exact tB_<|Tr.at<|lA 3<|gE H fun hg7 H=> LAt.appMU tOk (t := 27) (ty := 27) (e := 3) (x := (.tmp 33)) (y := (.tmp 35)) (d := 36) (g := none) (tI 3) intRow y2 [y1] kr kr kr kr kr kr kr kr kr kr hg7<|LAt.moveU (T := lk tab) (ty := 27) (x := (.tmp 36)) (d := 3) (g := none) false [cL 1 (y2 ++ [y1]) intRow] kr kr kr kr kr<|dA 906 2<|eA 2 906 2<|jB mo4 ((wI (y1 + 1)),(y2 ++ [y1])) H [9,8,7,3,1] [1]
 rintro y3 H
 have H : (zAa n y3) = some r := H
 unfold zAa at H
 exact gA 2 12 0<|te (fJ [(false,[cL 1 y3 intRow])] H)
def JC (n : Nat) (y3 : (List Int)) : Option ((List Int)) :=
  (some y3)
def Zm (n : Nat) : Nat → Net → Int → (List Int) → Option (((List Int)) ⊕ ((List Int)))
  | 0,_,_,_ => none
  | mo4 + 1,x0,y1,y2 => (bif (decide (y1 < (x0.Ls.length : Int))) then ((zU n x0 y1).bind fun r5 => (bif r5 then (bif (decide (y2.length + [y1].length ≤ 268435456)) then (Zm n mo4 x0 (IntKind.wrap .i64 (y1 + 1)) (y2 ++ [y1])) else none) else (Zm n mo4 x0 (IntKind.wrap .i64 (y1 + 1)) y2))) else (some (Sum.inl y2)))
def Q6 (n : Nat) (x0 : Net) : Option ((List Int)) :=
  ((Zm n n x0 0 ([] : List Int)).bind fun o => match o with | .inl y3 => (JC n y3) | .inr r => some r)
theorem zGG (n : Nat) (x0 : Net) (r : (List Int)) (H : Q6 n x0 = some r) : zH Tryz.prog 33 [.val true (fR (Net.row x0))] [.val false [.sl true 1 (r.map intRow)]] [] := by
 refine cW Tryz.func33 (fun g d => sl [g 0,g 1,sl [g 2] (.block 0 (.loop (sl [g 3,cn 9 .skip (.exit 0),.block 1 (sl [g 4,g 5] (cn 13 (g 6) .skip))] (g 7)))),g 8] .ret) [.tmp 2] fun cx=>?_
 unfold Q6 at H
 refine gA 2 2 2<|gA 1 10 2<|tS<|rA 2<|kF x0.Ls Link.row<|uA 1 394 2 ?_
 obtain ⟨o4,eo4,Ho4⟩ := bs H
 clear H
 refine Tr.mid (ι := (List Int)) (fun v => ⟨20,0,[sC 3 (cL 1 v intRow)],[]⟩) (fun v => JC n v = some r) ?_ ?_
 ·refine tB<|Tr.loop (ι := Nat × (Int × (List Int))) (fun v => ⟨20,0,[sI 8 v.2.1,sI 7 (x0.Ls.length : Int),sC 3 (cL 1 v.2.2 intRow),sA 1 1 3 0],[(1,(fR (Net.row x0)))]⟩) (fun v => Zm n v.1 x0 v.2.1 v.2.2 = some o4) (fun v => v.1) (n,(0,([] : List Int))) eo4 (St.sub_of [8,7,3,1] [1] kr) ?_
  rintro ⟨mo4,y1,y2⟩ H
  have H : Zm n mo4 x0 y1 y2 = some o4 := H
  obtain _ | mo4 := mo4
  ·exact nN H
  rw [Zm] at H
  refine gA 1 906 2<|tS ?_
  obtain ⟨h1,H⟩ | ⟨h1,H⟩ := bC H
  ·refine nA h1<|Tr.exit<|aJ ?_
   obtain rfl := si H
   have H := Ho4
   dsimp only at H
   exact jA y2 H [3] []
  refine tA h1<|tK<|tS<|tB<|gA 2 410 2<|rA 2<|bE H fun r5 er5 H=> vA [.rd,.rd] (zAH n x0 y1 r5 er5)<|dA 8602 2 ?_
  cases h2 : r5
  ·have H := zF h2 H
   exact nB_<|tK<|eA 2 394 2<|jB mo4 ((wI (y1 + 1)),y2) H [8,7,3,1] [1]
  have H := zG h2 H
  exact tB_<|Tr.at<|lA 3<|gE H fun hg6 H=> LAt.appMU tOk (t := 27) (ty := 27) (e := 3) (x := (.tmp 14)) (y := (.tmp 16)) (d := 17) (g := none) (tI 3) intRow y2 [y1] kr kr kr kr kr kr kr kr kr kr hg6<|LAt.moveU (T := lk tab) (ty := 27) (x := (.tmp 17)) (d := 3) (g := none) false [cL 1 (y2 ++ [y1]) intRow] kr kr kr kr kr<|dA 394 2<|eA 2 394 2<|jB mo4 ((wI (y1 + 1)),(y2 ++ [y1])) H [8,7,3,1] [1]
 rintro y3 H
 have H : (JC n y3) = some r := H
 unfold JC at H
 exact gA 2 12 0<|te (fJ [(false,[cL 1 y3 intRow])] H)
def Ja (n : Nat) (y9 : (List Int)) : Option ((List Int)) :=
  (some y9)
def Z7 (n : Nat) : Nat → (List Bool) → Int → (List Int) → Option (((List Int)) ⊕ ((List Int)))
  | 0,_,_,_ => none
  | mo10 + 1,y6,y7,y8 => (bif (decide (y7 < (y6.length : Int))) then ((idx y6 y7).bind fun v11 => (bif v11 then (bif (decide (y8.length + [y7].length ≤ 268435456)) then (Z7 n mo10 y6 (IntKind.wrap .i64 (y7 + 1)) (y8 ++ [y7])) else none) else (Z7 n mo10 y6 (IntKind.wrap .i64 (y7 + 1)) y8))) else (some (Sum.inl y8)))
def JZ (n : Nat) (y6 : (List Bool)) : Option ((List Int)) :=
  ((Z7 n n y6 0 ([] : List Int)).bind fun o => match o with | .inl y9 => (Ja n y9) | .inr r => some r)
def Jb (n : Nat) (k : (Bool × (List Bool) → Option (((List Bool)) ⊕ ((List Int))))) (y17 : Bool) (y18 : (List Bool)) : Option (((List Bool)) ⊕ ((List Int))) :=
  (k (y17,y18))
def Z6 (n : Nat) (k : (Int × Bool × (List Bool) → Option ((Bool × (List Bool)) ⊕ ((List Int))))) (v22 : Link) (y14 : Int) (y15 : Bool) (y16 : (List Bool)) (y23 : Bool) : Option ((Bool × (List Bool)) ⊕ ((List Int))) :=
  (bif y23 then ((idx y16 v22.A).bind fun v24 => ((idx (y16.set (v22.A.toNat) true) v22.B).bind fun v25 => (k ((IntKind.wrap .i64 (y14 + 1)),true,((y16.set (v22.A.toNat) true).set (v22.B.toNat) true))))) else (k ((IntKind.wrap .i64 (y14 + 1)),y15,y16)))
def qo (n : Nat) : Nat → Net → (List Int) → Int → Bool → (List Bool) → Option ((Bool × (List Bool)) ⊕ ((List Int)))
  | 0,_,_,_,_,_ => none
  | mo19 + 1,x0,x2,y14,y15,y16 => (bif (decide (y14 < (x2.length : Int))) then ((idx x2 y14).bind fun v20 => ((zu n v20 0 (IntKind.wrap .i64 ((x0.Ls.length : Int) - 1))).bind fun r21 => (bif (!r21) then (qo n mo19 x0 x2 (IntKind.wrap .i64 (y14 + 1)) y15 y16) else ((idx x0.Ls v20).bind fun v22 => ((zu n v22.A 0 (IntKind.wrap .i64 ((y16.length : Int) - 1))).bind fun r26 => (bif r26 then ((zu n v22.B 0 (IntKind.wrap .i64 ((y16.length : Int) - 1))).bind fun r27 => (bif r27 then ((idx y16 v22.A).bind fun v28 => ((idx y16 v22.B).bind fun v29 => (Z6 n (fun v => qo n mo19 x0 x2 v.1 v.2.1 v.2.2) v22 y14 y15 y16 (!(v28 == v29))))) else (Z6 n (fun v => qo n mo19 x0 x2 v.1 v.2.1 v.2.2) v22 y14 y15 y16 false))) else (Z6 n (fun v => qo n mo19 x0 x2 v.1 v.2.1 v.2.2) v22 y14 y15 y16 false))))))) else (some (Sum.inl (y15,y16))))
def Z8 (n : Nat) : Nat → Net → (List Int) → Bool → (List Bool) → Option (((List Bool)) ⊕ ((List Int)))
  | 0,_,_,_,_ => none
  | mo13 + 1,x0,x2,y4,y5 => (bif y4 then ((qo n n x0 x2 0 false y5).bind fun o => match o with | .inl (y17,y18) => (Jb n (fun v => Z8 n mo13 x0 x2 v.1 v.2) y17 y18) | .inr r => some (Sum.inr r)) else (some (Sum.inl y5)))
def ZK (n : Nat) (x0 : Net) (x1 : Int) (x2 : (List Int)) : Option ((List Int)) :=
  ((zu n x1 0 (IntKind.wrap .i64 ((x0.Bs.length : Int) - 1))).bind fun r1 => (bif (!r1) then (some ([] : List Int)) else (bif (decide (0 ≤ (x0.Bs.length : Int)) && decide ((x0.Bs.length : Int) ≤ 268435456)) then ((idx (List.replicate ((x0.Bs.length : Int)).toNat false) x1).bind fun v3 => ((Z8 n n x0 x2 true ((List.replicate ((x0.Bs.length : Int)).toNat false).set (x1.toNat) true)).bind fun o => match o with | .inl y6 => (JZ n y6) | .inr r => some r)) else none)))
def zOA : Tab := ⟨27,[0,1,0,4,8,18,32,64,192,64,576,1088,2368,4160,12288,16384,16384,81920,180224,278528,16384,16384,2113536,5259264,8404992,17317888,33570816],[0,1,0,4,8,18,32,64,192,64,576,1088,2368,4160,8192,16384,16384,81920,180224,278528,16384,16384,2113536,5259264,8404992,17317888,33570816],[0,1,0,4,12,31,63,127,255,127,639,1663,4095,8191,16383,32767,32767,98303,262143,524287,32767,32767,2129919,7372799,15761407,33554431,67108863]⟩
theorem qX : za (rg Tryz.f36 13) zOA = true := kr
theorem zCo (n : Nat) (x0 : Net) (x1 : Int) (x2 : (List Int)) (r : (List Int)) (H : ZK n x0 x1 x2 = some r) : zH Tryz.prog 36 [.val true (fR (Net.row x0)),.val false [.lit (.int .i64 x1)],.val false [.sl false 1 (CV.frzEs (x2.map intRow))]] [.val false [.sl true 1 (r.map intRow)]] [] := by
 refine cW Tryz.func36 (fun g d => sl [g 0,sl [g 1] (cn 21 (sl [g 2] .ret) .skip),g 3,g 4,sl [g 5] (.block 0 (.loop (sl [sl [g 6] (cn 29 .skip (.exit 0))] (.block 1 (sl [g 7,g 8] (.block 2 (.loop (sl [g 9,cn 33 .skip (.exit 2),.block 3 (sl [g 10,sl [g 11] (cn 42 (.exit 3) .skip),g 12,d 13] (cn 74 (sl [d 14] (g 15)) .skip))] (g 16))))))))),g 17,sl [g 18] (.block 4 (.loop (sl [g 19,cn 87 .skip (.exit 4),.block 5 (sl [g 20,g 21] (cn 91 (g 22) .skip))] (g 23)))),g 24] .ret) [.tmp 6] fun cx=>?_
 unfold ZK at H
 refine gA 2 14 8<|tS<|rA 3<|kF x0.Bs zA.row<|lA 1<|bE H fun r1 er1 H=> vA [.rd,.rd,.rd] (qC n x1 0 (wI ((x0.Bs.length : Int) - 1)) r1 er1)<|uA 1 2097166 8 ?_
 obtain ⟨h1,H⟩ | ⟨h1,H⟩ := bC H
 ·refine nA h1<|tK<|rA 2<|kF x0.Bs zA.row<|gE H fun hg2 H=> LAt.makeG tOk (t := 120) (ty := 120) (e := 4) (x := (.tmp 24)) (d := 25) (g := none) (tI 4) (x0.Bs.length : Int) ((List.replicate ((x0.Bs.length : Int)).toNat false).map boolRow) _ kr kr kr kr kr kr hg2 kr (zNb _ rfl) rfl<|LAt.moveU (T := lk tab) (ty := 120) (x := (.tmp 25)) (d := 7) (g := none) false [cL 1 (List.replicate ((x0.Bs.length : Int)).toNat false) boolRow] kr kr kr kr kr<|dA 142 8<|rA 2<|bE H fun v3 ev3 H=> oA boolRow ev3<|sS (tI 4) false [cB true] 7 0 (x1.toNat) 1 0 1 boolRow true (zO ev3).2<|dA 140 8<|tS<|gA 1 396 8 ?_
  obtain ⟨o13,eo13,Ho13⟩ := bs H
  clear H
  refine Tr.mid (ι := (List Bool)) (fun v => ⟨98,0,[sC 7 (cL 1 v boolRow)],[]⟩) (fun v => JZ n v = some r) ?_ ?_
  ·refine tB<|Tr.loop (ι := Nat × (Bool × (List Bool))) (fun v => ⟨98,0,[sB 8 v.2.1,sC 7 (cL 1 v.2.2 boolRow),sA 3 3 3 0,sC 2 (cF 1 x2 intRow)],[(3,(fR (Net.row x0)))]⟩) (fun v => Z8 n v.1 x0 x2 v.2.1 v.2.2 = some o13) (fun v => v.1) (n,(true,((List.replicate ((x0.Bs.length : Int)).toNat false).set (x1.toNat) true))) eo13 (St.sub_of [8,7,3,2] [3] kr) ?_
   rintro ⟨mo13,y4,y5⟩ H
   have H : Z8 n mo13 x0 x2 y4 y5 = some o13 := H
   obtain _ | mo13 := mo13
   ·exact nN H
   rw [Z8] at H
   refine tS<|gA 1 536871052 8 ?_
   cases h4 : y4
   ·have H := zF h4 H
    refine nB_<|Tr.exit<|aJ ?_
    obtain rfl := si H
    have H := Ho13
    dsimp only at H
    exact jA y5 H [7] []
   have H := zG h4 H
   refine tB_<|tK<|tB<|gA 1 396 8<|rA 1<|kF x2 intRow<|uA 1 7516193164 8 ?_
   obtain ⟨o19,eo19,Ho19⟩ := bs H
   clear H
   refine Tr.mid (ι := Bool × (List Bool)) (fun v => ⟨98,0,[sB 8 v.1,sC 7 (cL 1 v.2 boolRow),sA 3 3 3 0,sC 2 (cF 1 x2 intRow)],[(3,(fR (Net.row x0)))]⟩) (fun v => Jb n (fun v => Z8 n mo13 x0 x2 v.1 v.2) v.1 v.2 = some o13) ?_ ?_
   ·refine tB<|Tr.loop (ι := Nat × (Int × Bool × (List Bool))) (fun v => ⟨98,0,[sI 32 v.2.1,sI 31 (x2.length : Int),sC 30 (cF 1 x2 intRow),sB 8 v.2.2.1,sC 7 (cL 1 v.2.2.2 boolRow),sA 3 3 3 0,sC 2 (cF 1 x2 intRow)],[(3,(fR (Net.row x0)))]⟩) (fun v => qo n v.1 x0 x2 v.2.1 v.2.2.1 v.2.2.2 = some o19) (fun v => v.1) (n,(0,false,y5)) eo19 (St.sub_of [32,31,30,8,7,3,2] [3] kr) ?_
    rintro ⟨mo19,y14,y15,y16⟩ H
    have H : qo n mo19 x0 x2 y14 y15 y16 = some o19 := H
    obtain _ | mo19 := mo19
    ·exact nN H
    rw [qo] at H
    refine gA 1 16106127756 8<|tS ?_
    obtain ⟨h5,H⟩ | ⟨h5,H⟩ := bC H
    ·refine nA h5<|Tr.exit<|aJ ?_
     obtain rfl := si H
     have H := Ho19
     dsimp only at H
     exact jA (y15,y16) H [8,7,3,2] [3]
    refine tA h5<|tK<|tS<|tB<|tR<|bE H fun v20 ev20 H=> iA intRow ev20<|uA 2 7516194188 8<|tS<|rA 3<|kF x0.Ls Link.row<|lA 1<|bE H fun r21 er21 H=> vA [.rd,.rd,.rd] (qC n v20 0 (wI ((x0.Ls.length : Int) - 1)) r21 er21)<|uA 1 4405562705292 8 ?_
    obtain ⟨h6,H⟩ | ⟨h6,H⟩ := bC H
    ·refine nA h6<|tK<|rA 3<|bE H fun v22 ev22 H=> iA Link.row ev22<|uA 3 7516195212 2056<|tS<|Tr.mid (ι := Bool) (fun v => ⟨98,0,[sB 74 v,sA 11 11 4 0,sI 32 y14,sI 31 (x2.length : Int),sC 30 (cF 1 x2 intRow),sB 8 y15,sC 7 (cL 1 y16 boolRow),sA 3 3 3 0,sC 2 (cF 1 x2 intRow)],[(11,(Link.row v22)),(3,(fR (Net.row x0)))]⟩) (fun v => Z6 n (fun v => qo n mo19 x0 x2 v.1 v.2.1 v.2.2) v22 y14 y15 y16 v = some o19) ?_ ?_
     ·refine bE H fun r26 er26 H=> sT ⟨98,0,[sA 11 11 4 0,sI 32 y14,sI 31 (x2.length : Int),sC 30 (cF 1 x2 intRow),sB 8 y15,sC 7 (cL 1 y16 boolRow),sA 3 3 3 0,sC 2 (cF 1 x2 intRow)],[(11,(Link.row v22)),(3,(fR (Net.row x0)))]⟩ ?_
      cases h8 : r26
      ·have H := zF h8 H
       refine Tr.draw mixed 27 kr ⟨98,0,[sB 74 false,sA 11 11 4 0,sI 32 y14,sI 31 (x2.length : Int),sC 30 (cF 1 x2 intRow),sB 8 y15,sC 7 (cL 1 y16 boolRow),sA 3 3 3 0,sC 2 (cF 1 x2 intRow)],[(11,(Link.row v22)),(3,(fR (Net.row x0)))]⟩ (fun cx=>?_) ?_
       ·refine mA qX [(0,[]),(1,[5]),(2,[])] 24 [⟨[5],3,48,49⟩] fun cx=>kON qX 3 y16 boolRow fun cx=>mA qX [(4,[])] 22 [⟨[5],3,48,49⟩] fun cx=>mC qX 5<|vA [.rd,.rd,.rd] (qC n v22.A 0 (wI ((y16.length : Int) - 1)) r26 er26)<|fA<|mA qX [(6,[])] 20 [⟨[5],3,48,49⟩] fun cx=>sA_ 0x430001c000098c 2056 ⟨98,0,[sB 54 r26,sI 49 v22.A,sA 48 11 4 0,sA 11 11 4 0,sI 32 y14,sI 31 (x2.length : Int),sC 30 (cF 1 x2 intRow),sB 8 y15,sC 7 (cL 1 y16 boolRow),sA 3 3 3 0,sC 2 (cF 1 x2 intRow)],[(11,(Link.row v22)),(3,(fR (Net.row x0)))]⟩ ?_
        rw [h8]
        exact mA qX [(7,[]),(8,[]),(9,[]),(10,[]),(11,[]),(12,[]),(13,[]),(14,[]),(15,[]),(16,[]),(17,[]),(18,[]),(19,[]),(20,[]),(21,[]),(22,[]),(23,[]),(24,[]),(25,[]),(26,[])] 0 [⟨[5],3,48,49⟩] fun cx=>mE qX [74,11,32,31,30,8,7,3,2] [11,3]
       exact jA false H [74,11,32,31,30,8,7,3,2] [11,3]
      have H := zG h8 H
      refine bE H fun r27 er27 H=> sT ⟨98,0,[sA 11 11 4 0,sI 32 y14,sI 31 (x2.length : Int),sC 30 (cF 1 x2 intRow),sB 8 y15,sC 7 (cL 1 y16 boolRow),sA 3 3 3 0,sC 2 (cF 1 x2 intRow)],[(11,(Link.row v22)),(3,(fR (Net.row x0)))]⟩ ?_
      cases h9 : r27
      ·have H := zF h9 H
       refine Tr.draw mixed 27 kr ⟨98,0,[sB 74 false,sA 11 11 4 0,sI 32 y14,sI 31 (x2.length : Int),sC 30 (cF 1 x2 intRow),sB 8 y15,sC 7 (cL 1 y16 boolRow),sA 3 3 3 0,sC 2 (cF 1 x2 intRow)],[(11,(Link.row v22)),(3,(fR (Net.row x0)))]⟩ (fun cx=>?_) ?_
       ·refine mA qX [(0,[]),(1,[5,12]),(2,[])] 24 [⟨[5,12],3,48,49⟩] fun cx=>kON qX 3 y16 boolRow fun cx=>mA qX [(4,[])] 22 [⟨[5,12],3,48,49⟩] fun cx=>mC qX 5<|vA [.rd,.rd,.rd] (qC n v22.A 0 (wI ((y16.length : Int) - 1)) r26 er26)<|fA<|mA qX [(6,[])] 20 [⟨[5,12],3,48,49⟩] fun cx=>sA_ 0x430001c000098c 2056 ⟨98,0,[sB 54 r26,sI 49 v22.A,sA 48 11 4 0,sA 11 11 4 0,sI 32 y14,sI 31 (x2.length : Int),sC 30 (cF 1 x2 intRow),sB 8 y15,sC 7 (cL 1 y16 boolRow),sA 3 3 3 0,sC 2 (cF 1 x2 intRow)],[(11,(Link.row v22)),(3,(fR (Net.row x0)))]⟩ ?_
        rw [h8]
        refine mA qX [(7,[]),(8,[12]),(9,[])] 17 [⟨[12],3,55,56⟩,⟨[5,12],3,48,49⟩] fun cx=>kON qX 10 y16 boolRow fun cx=>mA qX [(11,[])] 15 [⟨[12],3,55,56⟩,⟨[5,12],3,48,49⟩] fun cx=>mC qX 12<|vA [.rd,.rd,.rd] (qC n v22.B 0 (wI ((y16.length : Int) - 1)) r27 er27)<|fA<|mA qX [(13,[]),(14,[])] 12 [⟨[12],3,55,56⟩,⟨[5,12],3,48,49⟩] fun cx=>sA_ 0x41830001c000098c 2056 ⟨98,0,[sB 62 r27,sI 56 v22.B,sA 55 11 4 2,sI 49 v22.A,sA 48 11 4 0,sA 11 11 4 0,sI 32 y14,sI 31 (x2.length : Int),sC 30 (cF 1 x2 intRow),sB 8 y15,sC 7 (cL 1 y16 boolRow),sA 3 3 3 0,sC 2 (cF 1 x2 intRow)],[(11,(Link.row v22)),(3,(fR (Net.row x0)))]⟩ ?_
        rw [h9]
        exact mA qX [(15,[]),(16,[]),(17,[]),(18,[]),(19,[]),(20,[]),(21,[]),(22,[]),(23,[]),(24,[]),(25,[]),(26,[])] 0 [⟨[12],3,55,56⟩,⟨[5,12],3,48,49⟩] fun cx=>mE qX [74,11,32,31,30,8,7,3,2] [11,3]
       exact jA false H [74,11,32,31,30,8,7,3,2] [11,3]
      have H := zG h9 H
      refine bE H fun v28 ev28 H=> bE H fun v29 ev29 H=> Tr.draw mixed 27 kr ⟨98,0,[sB 74 (!(v28 == v29)),sA 11 11 4 0,sI 32 y14,sI 31 (x2.length : Int),sC 30 (cF 1 x2 intRow),sB 8 y15,sC 7 (cL 1 y16 boolRow),sA 3 3 3 0,sC 2 (cF 1 x2 intRow)],[(11,(Link.row v22)),(3,(fR (Net.row x0)))]⟩ (fun cx=>?_) ?_
      ·refine mA qX [(0,[]),(1,[5,12]),(2,[])] 24 [⟨[5,12],3,48,49⟩] fun cx=>kON qX 3 y16 boolRow fun cx=>mA qX [(4,[])] 22 [⟨[5,12],3,48,49⟩] fun cx=>mC qX 5<|vA [.rd,.rd,.rd] (qC n v22.A 0 (wI ((y16.length : Int) - 1)) r26 er26)<|fA<|mA qX [(6,[])] 20 [⟨[5,12],3,48,49⟩] fun cx=>sA_ 0x430001c000098c 2056 ⟨98,0,[sB 54 r26,sI 49 v22.A,sA 48 11 4 0,sA 11 11 4 0,sI 32 y14,sI 31 (x2.length : Int),sC 30 (cF 1 x2 intRow),sB 8 y15,sC 7 (cL 1 y16 boolRow),sA 3 3 3 0,sC 2 (cF 1 x2 intRow)],[(11,(Link.row v22)),(3,(fR (Net.row x0)))]⟩ ?_
       rw [h8]
       refine mA qX [(7,[]),(8,[12]),(9,[])] 17 [⟨[12],3,55,56⟩,⟨[5,12],3,48,49⟩] fun cx=>kON qX 10 y16 boolRow fun cx=>mA qX [(11,[])] 15 [⟨[12],3,55,56⟩,⟨[5,12],3,48,49⟩] fun cx=>mC qX 12<|vA [.rd,.rd,.rd] (qC n v22.B 0 (wI ((y16.length : Int) - 1)) r27 er27)<|fA<|mA qX [(13,[]),(14,[])] 12 [⟨[12],3,55,56⟩,⟨[5,12],3,48,49⟩] fun cx=>sA_ 0x41830001c000098c 2056 ⟨98,0,[sB 62 r27,sI 56 v22.B,sA 55 11 4 2,sI 49 v22.A,sA 48 11 4 0,sA 11 11 4 0,sI 32 y14,sI 31 (x2.length : Int),sC 30 (cF 1 x2 intRow),sB 8 y15,sC 7 (cL 1 y16 boolRow),sA 3 3 3 0,sC 2 (cF 1 x2 intRow)],[(11,(Link.row v22)),(3,(fR (Net.row x0)))]⟩ ?_
       rw [h9]
       refine mA qX [(15,[]),(16,[]),(17,[])] 9 [⟨[],3,64,65⟩,⟨[12],3,55,56⟩,⟨[5,12],3,48,49⟩] fun cx=>oN qX 18 boolRow ev28 fun cx=>mA qX [(20,[]),(21,[]),(22,[])] 5 [⟨[],3,69,70⟩,⟨[],3,64,65⟩,⟨[12],3,55,56⟩,⟨[5,12],3,48,49⟩] fun cx=>oN qX 23 boolRow ev29 fun cx=>mB2 tOk qX 19 24 kr (And.intro kr ?_) (And.intro kr ?_)
       ·exact dE (tI 4) (.slot 7) [(0,(v22.A.toNat))] 1 0 [cL 1 y16 boolRow] (boolRow v28) (Jt rfl (zO ev28).2)<|fA<|mC qX 24<|dE (tI 4) (.slot 7) [(0,(v22.B.toNat))] 1 0 [cL 1 y16 boolRow] (boolRow v29) (Jt rfl (zO ev29).2)<|fA<|mA qX [(25,[]),(26,[])] 0 [⟨[],3,69,70⟩,⟨[],3,64,65⟩,⟨[12],3,55,56⟩,⟨[5,12],3,48,49⟩] fun cx=>mE qX [74,11,32,31,30,8,7,3,2] [11,3]
       ·exact dE (tI 4) (.slot 7) [(0,(v22.B.toNat))] 1 0 [cL 1 y16 boolRow] (boolRow v29) (Jt rfl (zO ev29).2)<|fA<|mC qX 19<|dE (tI 4) (.slot 7) [(0,(v22.A.toNat))] 1 0 [cL 1 y16 boolRow] (boolRow v28) (Jt rfl (zO ev28).2)<|fA<|mA qX [(25,[]),(26,[])] 0 [⟨[],3,69,70⟩,⟨[],3,64,65⟩,⟨[12],3,55,56⟩,⟨[5,12],3,48,49⟩] fun cx=>mE qX [74,11,32,31,30,8,7,3,2] [11,3]
      exact jA (!(v28 == v29)) H [74,11,32,31,30,8,7,3,2] [11,3]
     rintro y23 H
     have H : (Z6 n (fun v => qo n mo19 x0 x2 v.1 v.2.1 v.2.2) v22 y14 y15 y16 y23) = some o19 := H
     unfold Z6 at H
     cases h7 : y23
     ·have H := zF h7 H
      exact nB_<|tK<|eA 2 7516193164 8<|jB mo19 ((wI (y14 + 1)),y15,y16) H [32,31,30,8,7,3,2] [3]
     have H := zG h7 H
     refine tB_<|bE H fun v24 ev24 H=> bE H fun v25 ev25 H=> Tr.draws mixed 10 kr ⟨98,0,[sC 7 (cL 1 ((y16.set (v22.A.toNat) true).set (v22.B.toNat) true) boolRow),sI 32 y14,sI 31 (x2.length : Int),sC 30 (cF 1 x2 intRow),sA 3 3 3 0,sC 2 (cF 1 x2 intRow)],[(3,(fR (Net.row x0)))]⟩ (fun cx=>?_) ?_
     ·refine aA [(0,[]),(1,[]),(2,[7,9]),(3,[]),(4,[]),(5,[9])] 4 [⟨[9],3,79,80⟩,⟨[7,9],3,76,77⟩] fun cx=>aO tOk 6 120 0 75 77 81 none ⟨(.slot 7),[],0,true,1,(y16.map boolRow)⟩ v22.A (v22.A.toNat) (boolRow v24) _ kr kr kr kr kr kr rfl kr (zAG ev24) rfl rfl (fun cx=>?_)
      refine bA 7<|sS (tI 4) false [cB true] 7 0 (v22.A.toNat) 1 0 1 boolRow true (zO ev24).2<|fA<|aO tOk 8 120 0 78 80 82 none ⟨(.slot 7),[],0,true,1,((y16.set (v22.A.toNat) true).map boolRow)⟩ v22.B (v22.B.toNat) (boolRow v25) _ kr kr kr kr kr kr rfl kr (zAG ev25) rfl rfl (fun cx=>?_)
      exact sA_ 0x5b00000000001c000008c 2056 ⟨98,0,[(82,.adr (.slot 7) [(0,(v22.B.toNat))] 1 0),sC 7 (cL 1 (y16.set (v22.A.toNat) true) boolRow),sI 80 v22.B,sA 79 11 4 2,sI 77 v22.A,sA 76 11 4 0,sI 32 y14,sI 31 (x2.length : Int),sC 30 (cF 1 x2 intRow),sA 3 3 3 0,sC 2 (cF 1 x2 intRow)],[(11,(Link.row v22)),(3,(fR (Net.row x0)))]⟩<|bA 9<|sS (tI 4) false [cB true] 7 0 (v22.B.toNat) 1 0 1 boolRow true (zO ev25).2<|fA<|eE [7,32,31,30,3,2] [3]
     exact eA 1 7516193164 8<|eA 2 7516193164 8<|jB mo19 ((wI (y14 + 1)),true,((y16.set (v22.A.toNat) true).set (v22.B.toNat) true)) H [32,31,30,8,7,3,2] [3]
    exact tA h6<|Tr.exit<|aJ<|eA 2 7516193164 8<|jB mo19 ((wI (y14 + 1)),y15,y16) H [32,31,30,8,7,3,2] [3]
   rintro ⟨y17,y18⟩ H
   have H : (Jb n (fun v => Z8 n mo13 x0 x2 v.1 v.2) y17 y18) = some o13 := H
   unfold Jb at H
   exact jB mo13 (y17,y18) H [8,7,3,2] [3]
  rintro y6 H
  have H : (JZ n y6) = some r := H
  unfold JZ at H
  refine gA 1 4224 0<|tS<|rA 1<|kO y6 boolRow<|uA 1 0x7000000000000000001080 0 ?_
  obtain ⟨o10,eo10,Ho10⟩ := bs H
  clear H
  refine Tr.mid (ι := (List Int)) (fun v => ⟨98,0,[sC 12 (cL 1 v intRow)],[]⟩) (fun v => Ja n v = some r) ?_ ?_
  ·refine tB<|Tr.loop (ι := Nat × (Int × (List Int))) (fun v => ⟨98,0,[sI 86 v.2.1,sI 85 (y6.length : Int),(84,.ref (.slot 7) [] 0 0 1 false),sC 12 (cL 1 v.2.2 intRow),sC 7 (cL 1 y6 boolRow)],[]⟩) (fun v => Z7 n v.1 y6 v.2.1 v.2.2 = some o10) (fun v => v.1) (n,(0,([] : List Int))) eo10 (St.sub_of [86,85,84,12,7] [] kr) ?_
   rintro ⟨mo10,y7,y8⟩ H
   have H : Z7 n mo10 y6 y7 y8 = some o10 := H
   obtain _ | mo10 := mo10
   ·exact nN H
   rw [Z7] at H
   refine gA 1 0xf000000000000000001080 0<|tS ?_
   obtain ⟨h2,H⟩ | ⟨h2,H⟩ := bC H
   ·refine nA h2<|Tr.exit<|aJ ?_
    obtain rfl := si H
    have H := Ho10
    dsimp only at H
    exact jA y8 H [12] []
   refine tA h2<|tK<|tS<|tB<|rA 1<|bE H fun v11 ev11 H=> oA boolRow ev11<|dE (tI 4) (.slot 7) [(0,(y7.toNat))] 1 0 [cL 1 y6 boolRow] (boolRow v11) (Jt rfl (zO ev11).2)<|uA 2 0x7000000000000000007080 0<|gA 1 0x87000000000000000003080 0 ?_
   cases h3 : v11
   ·have H := zF h3 H
    exact nB_<|tK<|eA 2 0x7000000000000000001080 0<|jB mo10 ((wI (y7 + 1)),y8) H [86,85,84,12,7] []
   have H := zG h3 H
   exact tB_<|Tr.at<|lA 3<|gE H fun hg12 H=> LAt.appMU tOk (t := 27) (ty := 27) (e := 3) (x := (.tmp 92)) (y := (.tmp 94)) (d := 95) (g := none) (tI 3) intRow y8 [y7] kr kr kr kr kr kr kr kr kr kr hg12<|LAt.moveU (T := lk tab) (ty := 27) (x := (.tmp 95)) (d := 12) (g := none) false [cL 1 (y8 ++ [y7]) intRow] kr kr kr kr kr<|dA 0x7000000000000000001080 0<|eA 2 0x7000000000000000001080 0<|jB mo10 ((wI (y7 + 1)),(y8 ++ [y7])) H [86,85,84,12,7] []
  rintro y9 H
  have H : (Ja n y9) = some r := H
  unfold Ja at H
  exact gA 2 4160 0<|te (fJ [(false,[cL 1 y9 intRow])] H)
 exact tA h1<|gA 1 64 0<|te (fJ [(false,[cL 1 ([] : List Int) intRow])] H)
def zA1 (n : Nat) (y5 : Int) : Option (Int) :=
  (some y5)
def Zb (n : Nat) : Nat → (List Int) → Net → Int → Int → Option ((Int) ⊕ (Int))
  | 0,_,_,_,_ => none
  | mo6 + 1,r2,x0,y3,y4 => (bif (decide (y3 < (r2.length : Int))) then ((idx r2 y3).bind fun v7 => (bif (decide (y4 < 0)) then (Zb n mo6 r2 x0 (IntKind.wrap .i64 (y3 + 1)) v7) else ((idx x0.Bs v7).bind fun v8 => ((idx x0.Bs y4).bind fun v9 => (bif (decide (v8.Id < v9.Id)) then (Zb n mo6 r2 x0 (IntKind.wrap .i64 (y3 + 1)) v7) else (Zb n mo6 r2 x0 (IntKind.wrap .i64 (y3 + 1)) y4)))))) else (some (Sum.inl y4)))
def Ji (n : Nat) (x0 : Net) (x1 : Int) : Option (Int) :=
  ((Q6 n x0).bind fun r1 => ((ZK n x0 x1 r1).bind fun r2 => ((Zb n n r2 x0 0 (-1)).bind fun o => match o with | .inl y5 => (zA1 n y5) | .inr r => some r)))
def zNr : Tab := ⟨17,[0,1,2,4,12,4,52,68,132,4,516,4,3076,4100,8196,16644,32772],[0,1,2,4,12,4,52,68,132,4,516,4,3076,4100,8196,16644,32772],[0,1,3,7,15,7,63,127,255,7,519,7,3591,7687,15879,32767,65535]⟩
theorem zBJ : za (rg Tryz.f116 5) zNr = true := kr
theorem zKi (n : Nat) (x0 : Net) (x1 : Int) (r : Int) (H : Ji n x0 x1 = some r) : zH Tryz.prog 116 [.val true (fR (Net.row x0)),.val false [.lit (.int .i64 x1)]] [.val false [.lit (.int .i64 r)]] [] := by
 refine cW Tryz.func116 (fun g d => sl [g 0,g 1,sl [d 2] (.block 0 (.loop (sl [g 3,cn 15 .skip (.exit 0),.block 1 (sl [g 4,d 5] (cn 34 (g 6) .skip))] (g 7)))),g 8] .ret) [.tmp 4] fun cx=>?_
 unfold Ji at H
 refine gA 2 6 4<|gA 1 38 4<|tS<|bE H fun r1 er1 H=> bE H fun r2 er2 H=> Tr.draws mixed 7 kr ⟨38,0,[sI 14 0,sI 13 (r2.length : Int),sC 12 (cL 1 r2 intRow),sI 5 (-1),sA 2 2 3 0],[(2,(fR (Net.row x0)))]⟩ (fun cx=>?_) ?_
 ·refine aA [(0,[4]),(1,[]),(2,[3,4]),(6,[])] 3 [⟨[3,4],53,2,10⟩,⟨[4],53,2,8⟩] fun cx=>bA 3<|vA [.rd] (zGG n x0 r1 er1)<|fA<|bA 4<|vA [.rd,.rd,.rd] (zCo n x0 x1 r1 r2 er2)<|fA<|aL tOk 5 27 3 3 12 13 none ⟨(.slot 12),[],0,true,1,(r2.map intRow)⟩ (r2).length _ kr kr kr kr kr kr kr (zGo _ _) rfl (fun cx=>?_)
  exact eE [14,13,12,5,2] [2]
 obtain ⟨o6,eo6,Ho6⟩ := bs H
 clear H
 refine Tr.mid (ι := Int) (fun v => ⟨38,0,[sI 5 v],[]⟩) (fun v => zA1 n v = some r) ?_ ?_
 ·refine tB<|Tr.loop (ι := Nat × (Int × Int)) (fun v => ⟨38,0,[sI 14 v.2.1,sI 13 (r2.length : Int),sC 12 (cL 1 r2 intRow),sI 5 v.2.2,sA 2 2 3 0],[(2,(fR (Net.row x0)))]⟩) (fun v => Zb n v.1 r2 x0 v.2.1 v.2.2 = some o6) (fun v => v.1) (n,(0,(-1))) eo6 (St.sub_of [14,13,12,5,2] [2] kr) ?_
  rintro ⟨mo6,y3,y4⟩ H
  have H : Zb n mo6 r2 x0 y3 y4 = some o6 := H
  obtain _ | mo6 := mo6
  ·exact nN H
  rw [Zb] at H
  refine gA 1 61476 4<|tS ?_
  obtain ⟨h1,H⟩ | ⟨h1,H⟩ := bC H
  ·refine nA h1<|Tr.exit<|aJ ?_
   obtain rfl := si H
   have H := Ho6
   dsimp only at H
   exact jA y4 H [5] []
  refine tA h1<|tK<|tS<|tB<|tR<|bE H fun v7 ev7 H=> oA intRow ev7<|dE (tI 3) (.slot 12) [(0,(y3.toNat))] 1 0 [cL 1 r2 intRow] (intRow v7) (Jt rfl (zO ev7).2)<|uA 1 28836 4<|sT ⟨38,0,[sI 7 v7,sI 14 y3,sI 13 (r2.length : Int),sC 12 (cL 1 r2 intRow),sI 5 y4,sA 2 2 3 0],[(2,(fR (Net.row x0)))]⟩ ?_
  cases h2 : (decide (y4 < 0))
  ·have H := zF h2 H
   refine bE H fun v8 ev8 H=> bE H fun v9 ev9 H=> Tr.draws mixed 17 kr ⟨38,0,[sB 34 (decide (v8.Id < v9.Id)),sI 7 v7,sI 14 y3,sI 13 (r2.length : Int),sC 12 (cL 1 r2 intRow),sI 5 y4,sA 2 2 3 0],[(2,(fR (Net.row x0)))]⟩ (fun cx=>?_) ?_
   ·refine mA zBJ [(0,[]),(1,[]),(2,[])] 14 [] fun cx=>sA_ 1077412 4 ⟨38,0,[sB 20 (decide (y4 < 0)),sI 7 v7,sI 14 y3,sI 13 (r2.length : Int),sC 12 (cL 1 r2 intRow),sI 5 y4,sA 2 2 3 0],[(2,(fR (Net.row x0)))]⟩ ?_
    rw [h2]
    exact mA zBJ [(3,[]),(4,[]),(5,[])] 11 [⟨[],49,21,22⟩] fun cx=>iN zBJ 6 zA.row ev8 fun cx=>mA zBJ [(7,[]),(8,[]),(9,[]),(10,[]),(11,[])] 5 [⟨[],49,27,28⟩,⟨[],49,21,22⟩] fun cx=>iN zBJ 12 zA.row ev9 fun cx=>mA zBJ [(13,[]),(14,[]),(15,[]),(16,[])] 0 [⟨[],49,27,28⟩,⟨[],49,21,22⟩] fun cx=>mE zBJ [34,7,14,13,12,5,2] [2]
   refine sT ⟨38,0,[sB 34 (decide (v8.Id < v9.Id)),sI 7 v7,sI 14 y3,sI 13 (r2.length : Int),sC 12 (cL 1 r2 intRow),sI 5 y4,sA 2 2 3 0],[(2,(fR (Net.row x0)))]⟩ ?_
   cases h3 : (decide (v8.Id < v9.Id))
   ·have H := zF h3 H
    exact nB_<|tK<|eA 2 28708 4<|jB mo6 ((wI (y3 + 1)),y4) H [14,13,12,5,2] [2]
   have H := zG h3 H
   exact tB_<|eA 2 28708 4<|eA 2 28708 4<|jB mo6 ((wI (y3 + 1)),v7) H [14,13,12,5,2] [2]
  have H := zG h2 H
  refine Tr.draws mixed 17 kr ⟨38,0,[sB 34 true,sI 7 v7,sI 14 y3,sI 13 (r2.length : Int),sC 12 (cL 1 r2 intRow),sI 5 y4,sA 2 2 3 0],[(2,(fR (Net.row x0)))]⟩ (fun cx=>?_) ?_
  ·refine mA zBJ [(0,[]),(1,[]),(2,[])] 14 [] fun cx=>sA_ 1077412 4 ⟨38,0,[sB 20 (decide (y4 < 0)),sI 7 v7,sI 14 y3,sI 13 (r2.length : Int),sC 12 (cL 1 r2 intRow),sI 5 y4,sA 2 2 3 0],[(2,(fR (Net.row x0)))]⟩ ?_
   rw [h2]
   exact mA zBJ [(3,[]),(4,[]),(5,[]),(6,[]),(7,[]),(8,[]),(9,[]),(10,[]),(11,[]),(12,[]),(13,[]),(14,[]),(15,[]),(16,[])] 0 [] fun cx=>mE zBJ [34,7,14,13,12,5,2] [2]
  exact tB_<|eA 2 28708 4<|eA 2 28708 4<|jB mo6 ((wI (y3 + 1)),v7) H [14,13,12,5,2] [2]
 rintro y5 H
 have H : (zA1 n y5) = some r := H
 unfold zA1 at H
 exact gA 2 16 0<|te (fJ [(false,[cI y5])] H)
def YE (n : Nat) (x0 : Net) (x1 : Int) : Option (Int) :=
  ((Ji n x0 x1).bind fun r1 => (bif (decide (r1 < 0)) then (some 0) else ((idx x0.Bs r1).bind fun v2 => (some v2.Id))))
theorem zFr (n : Nat) (x0 : Net) (x1 : Int) (r : Int) (H : YE n x0 x1 = some r) : zH Tryz.prog 34 [.val true (fR (Net.row x0)),.val false [.lit (.int .i64 x1)]] [.val false [.lit (.int .i64 r)]] [] := by
 refine cW Tryz.func34 (fun g d => sl [g 0,g 1,sl [g 2] (cn 10 (sl [g 3] .ret) .skip),g 4] .ret) [.tmp 4] fun cx=>?_
 unfold YE at H
 refine gA 2 6 4<|rA 2<|bE H fun r1 er1 H=> vA [.rd,.rd] (zKi n x0 x1 r1 er1)<|uA 1 36 4<|tS<|gA 2 1060 4 ?_
 obtain ⟨h1,H⟩ | ⟨h1,H⟩ := bC H
 ·exact nA h1<|tK<|rA 3<|bE H fun v2 ev2 H=> iA zA.row ev2<|uA 3 16 0<|te (fJ [(false,[cI v2.Id])] H)
 exact tA h1<|gA 1 16 0<|te (fJ [(false,[cI 0])] H)
def J3 (n : Nat) : Option (Bool) :=
  (some true)
def Qc (n : Nat) : Nat → (List Int) → (List Int) → Int → Option ((Unit) ⊕ (Bool))
  | 0,_,_,_ => none
  | mo2 + 1,x0,x1,y1 => (bif (decide (y1 < (x0.length : Int))) then ((idx x0 y1).bind fun v3 => ((idx x1 y1).bind fun v4 => (bif (v3 != v4) then (some (Sum.inr false)) else (Qc n mo2 x0 x1 (IntKind.wrap .i64 (y1 + 1)))))) else (some (Sum.inl ())))
def Yj (n : Nat) (x0 : (List Int)) (x1 : (List Int)) : Option (Bool) :=
  (bif ((x0.length : Int) != (x1.length : Int)) then (some false) else ((Qc n n x0 x1 0).bind fun o => match o with | .inl _ => (J3 n) | .inr r => some r))
theorem zJU (n : Nat) (x0 : (List Int)) (x1 : (List Int)) (r : Bool) (H : Yj n x0 x1 = some r) : zH Tryz.prog 35 [.val false [.sl false 1 (CV.frzEs (x0.map intRow))],.val false [.sl false 1 (CV.frzEs (x1.map intRow))]] [.val false [.lit (.bool r)]] [] := by
 refine cW Tryz.func35 (fun g d => sl [g 0,sl [g 1] (cn 10 (sl [g 2] .ret) .skip),sl [g 3] (.block 0 (.loop (sl [sl [g 4] (cn 14 .skip (.exit 0)),.block 1 (sl [d 6] (cn 25 (sl [g 7] .ret) .skip))] (g 5)))),g 8] .ret) [.tmp 4] fun cx=>?_
 unfold Yj at H
 refine gA 1 3 0<|tS<|rA 1<|kF x0 intRow<|lA 1<|kF x1 intRow<|uA 1 1027 0 ?_
 obtain ⟨h1,H⟩ | ⟨h1,H⟩ := bC H
 ·refine nA h1<|tK<|tS<|gA 1 35 0 ?_
  obtain ⟨o2,eo2,Ho2⟩ := bs H
  clear H
  refine Tr.mid (ι := Unit) (fun v => ⟨26,0,[],[]⟩) (fun v => J3 n = some r) ?_ ?_
  ·refine tB<|Tr.loop (ι := Nat × (Int)) (fun v => ⟨26,0,[sI 5 v.2,sC 0 (cF 1 x0 intRow),sC 1 (cF 1 x1 intRow)],[]⟩) (fun v => Qc n v.1 x0 x1 v.2 = some o2) (fun v => v.1) (n,0) eo2 (St.sub_of [5,0,1] [] kr) ?_
   rintro ⟨mo2,y1⟩ H
   have H : Qc n mo2 x0 x1 y1 = some o2 := H
   obtain _ | mo2 := mo2
   ·exact nN H
   rw [Qc] at H
   refine tS<|rA 2<|kF x0 intRow<|uA 1 16419 0 ?_
   obtain ⟨h2,H⟩ | ⟨h2,H⟩ := bC H
   ·refine nA h2<|Tr.exit<|aJ ?_
    obtain rfl := si H
    have H := Ho2
    dsimp only at H
    exact jA () H [] []
   refine tA h2<|tK<|tS<|tB<|bE H fun v3 ev3 H=> bE H fun v4 ev4 H=> Tr.draws mixed 9 kr ⟨26,0,[sB 25 (v3 != v4),sI 5 y1,sC 0 (cF 1 x0 intRow),sC 1 (cF 1 x1 intRow)],[]⟩ (fun cx=>?_) ?_
   ·refine aA [(0,[]),(1,[])] 7 [] fun cx=>aI tOk 2 27 0 17 18 19 none ⟨(.slot 17),[],0,false,1,(CV.frzEs (x0.map intRow))⟩ y1 [cI v3] _ kr kr kr kr kr kr rfl (zE5 ev3) rfl (fun cx=>?_)
    refine aA [(3,[]),(4,[]),(5,[])] 3 [] fun cx=>aI tOk 6 27 0 21 22 23 none ⟨(.slot 21),[],0,false,1,(CV.frzEs (x1.map intRow))⟩ y1 [cI v4] _ kr kr kr kr kr kr rfl (zE5 ev4) rfl (fun cx=>?_)
    exact aA [(7,[]),(8,[])] 0 [] fun cx=>eE [25,5,0,1] []
   refine sT ⟨26,0,[sB 25 (v3 != v4),sI 5 y1,sC 0 (cF 1 x0 intRow),sC 1 (cF 1 x1 intRow)],[]⟩ ?_
   cases h3 : (v3 != v4)
   ·have H := zF h3 H
    exact nB_<|tK<|eA 3 35 0<|jB mo2 (wI (y1 + 1)) H [5,0,1] []
   have H := zG h3 H
   refine tB_<|gA 1 16 0<|te ?_
   obtain rfl := si H
   have H := Ho2
   dsimp only at H
   exact fF H
  rintro _ H
  have H : (J3 n) = some r := H
  unfold J3 at H
  exact gA 1 16 0<|te (fT H)
 exact tA h1<|gA 1 16 0<|te (fF H)
def Jg (n : Nat) : Option (Bool) :=
  (some false)
def QA (n : Nat) : Nat → (List Int) → Int → Int → Option ((Unit) ⊕ (Bool))
  | 0,_,_,_ => none
  | mo2 + 1,x0,x1,y1 => (bif (decide (y1 < (x0.length : Int))) then ((idx x0 y1).bind fun v3 => (bif (v3 == x1) then (some (Sum.inr true)) else (QA n mo2 x0 x1 (IntKind.wrap .i64 (y1 + 1))))) else (some (Sum.inl ())))
def zAg (n : Nat) (x0 : (List Int)) (x1 : Int) : Option (Bool) :=
  ((QA n n x0 x1 0).bind fun o => match o with | .inl _ => (Jg n) | .inr r => some r)
theorem zKg (n : Nat) (x0 : (List Int)) (x1 : Int) (r : Bool) (H : zAg n x0 x1 = some r) : zH Tryz.prog 118 [.val false [.sl false 1 (CV.frzEs (x0.map intRow))],.val false [.lit (.int .i64 x1)]] [.val false [.lit (.bool r)]] [] := by
 refine cW Tryz.func118 (fun g d => sl [g 0,sl [g 1] (.block 0 (.loop (sl [g 2,cn 10 .skip (.exit 0),.block 1 (sl [g 3,g 4] (cn 15 (sl [g 5] .ret) .skip))] (g 6)))),g 7] .ret) [.tmp 4] fun cx=>?_
 unfold zAg at H
 refine gA 1 3 0<|tS<|rA 1<|kF x0 intRow<|uA 1 898 0 ?_
 obtain ⟨o2,eo2,Ho2⟩ := bs H
 clear H
 refine Tr.mid (ι := Unit) (fun v => ⟨17,0,[],[]⟩) (fun v => Jg n = some r) ?_ ?_
 ·refine tB<|Tr.loop (ι := Nat × (Int)) (fun v => ⟨17,0,[sI 9 v.2,sI 8 (x0.length : Int),sC 7 (cF 1 x0 intRow),sI 1 x1],[]⟩) (fun v => QA n v.1 x0 x1 v.2 = some o2) (fun v => v.1) (n,0) eo2 (St.sub_of [9,8,7,1] [] kr) ?_
  rintro ⟨mo2,y1⟩ H
  have H : QA n mo2 x0 x1 y1 = some o2 := H
  obtain _ | mo2 := mo2
  ·exact nN H
  rw [QA] at H
  refine gA 1 1922 0<|tS ?_
  obtain ⟨h1,H⟩ | ⟨h1,H⟩ := bC H
  ·refine nA h1<|Tr.exit<|aJ ?_
   obtain rfl := si H
   have H := Ho2
   dsimp only at H
   exact jA () H [] []
  refine tA h1<|tK<|tS<|tB<|tR<|bE H fun v3 ev3 H=> iA intRow ev3<|uA 2 962 0<|gA 3 33666 0 ?_
  obtain ⟨h2,H⟩ | ⟨h2,H⟩ := bC H
  ·exact nA h2<|tK<|eA 2 898 0<|jB mo2 (wI (y1 + 1)) H [9,8,7,1] []
  refine tA h2<|gA 1 16 0<|te ?_
  obtain rfl := si H
  have H := Ho2
  dsimp only at H
  exact fT H
 rintro _ H
 have H : (Jg n) = some r := H
 unfold Jg at H
 exact gA 1 16 0<|te (fF H)
def zBY (n : Nat) : Option (Bool) :=
  (some false)
def QU (n : Nat) : Nat → Net → (List Int) → Int → Option ((Unit) ⊕ (Bool))
  | 0,_,_,_ => none
  | mo2 + 1,x0,x1,y1 => (bif (decide (y1 < (x1.length : Int))) then ((idx x1 y1).bind fun v3 => ((zu n v3 0 (IntKind.wrap .i64 ((x0.Ls.length : Int) - 1))).bind fun r4 => (bif (!r4) then (QU n mo2 x0 x1 (IntKind.wrap .i64 (y1 + 1))) else (bif (decide ((0 : Int) ≤ 0) && (decide ((0 : Int) ≤ y1) && decide ((y1 : Int) ≤ (x1.length : Int)))) then ((YF n ((x1.drop ((0 : Int)).toNat).take (((y1 : Int)).toNat - ((0 : Int)).toNat))).bind fun r6 => (bif (decide ((0 : Int) ≤ (IntKind.wrap .i64 (y1 + 1))) && (decide (((IntKind.wrap .i64 (y1 + 1)) : Int) ≤ (x1.length : Int)) && decide (((x1.length : Int) : Int) ≤ (x1.length : Int)))) then (bif (decide (r6.length + ((x1.drop (((IntKind.wrap .i64 (y1 + 1)) : Int)).toNat).take ((((x1.length : Int) : Int)).toNat - (((IntKind.wrap .i64 (y1 + 1)) : Int)).toNat)).length ≤ 268435456)) then ((idx x0.Ls v3).bind fun v9 => ((ZK n x0 v9.A (r6 ++ ((x1.drop (((IntKind.wrap .i64 (y1 + 1)) : Int)).toNat).take ((((x1.length : Int) : Int)).toNat - (((IntKind.wrap .i64 (y1 + 1)) : Int)).toNat)))).bind fun r10 => ((idx x0.Ls v3).bind fun v11 => ((zAg n r10 v11.B).bind fun r12 => (bif r12 then (some (Sum.inr true)) else (QU n mo2 x0 x1 (IntKind.wrap .i64 (y1 + 1)))))))) else none) else none)) else none)))) else (some (Sum.inl ())))
def zBN (n : Nat) (x0 : Net) (x1 : (List Int)) : Option (Bool) :=
  ((QU n n x0 x1 0).bind fun o => match o with | .inl _ => (zBY n) | .inr r => some r)
def zOU : Tab := ⟨16,[0,0,2,0,12,16,32,0,193,0,512,0,3072,4096,8192,16640],[0,0,2,0,12,16,32,0,193,0,512,0,3072,4096,8192,16640],[0,0,2,0,14,30,62,0,255,0,512,0,3584,7680,15872,32767]⟩
theorem zEP : za (rg Tryz.f37 6) zOU = true := kr
theorem zLc (n : Nat) (x0 : Net) (x1 : (List Int)) (r : Bool) (H : zBN n x0 x1 = some r) : zH Tryz.prog 37 [.val true (fR (Net.row x0)),.val false [.sl false 1 (CV.frzEs (x1.map intRow))]] [.val false [.lit (.bool r)]] [] := by
 refine cW Tryz.func37 (fun g d => sl [g 0,sl [g 1] (.block 0 (.loop (sl [g 2,cn 11 .skip (.exit 0),.block 1 (sl [g 3,sl [g 4] (cn 21 (.exit 1) .skip),d 5,d 6] (cn 46 (sl [g 7] .ret) .skip))] (g 8)))),g 9] .ret) [.tmp 4] fun cx=>?_
 unfold zBN at H
 refine gA 2 6 4<|tS<|rA 1<|kF x1 intRow<|uA 1 1798 4 ?_
 obtain ⟨o2,eo2,Ho2⟩ := bs H
 clear H
 refine Tr.mid (ι := Unit) (fun v => ⟨48,0,[],[]⟩) (fun v => zBY n = some r) ?_ ?_
 ·refine tB<|Tr.loop (ι := Nat × (Int)) (fun v => ⟨48,0,[sI 10 v.2,sI 9 (x1.length : Int),sC 8 (cF 1 x1 intRow),sA 2 2 3 0,sC 1 (cF 1 x1 intRow)],[(2,(fR (Net.row x0)))]⟩) (fun v => QU n v.1 x0 x1 v.2 = some o2) (fun v => v.1) (n,0) eo2 (St.sub_of [10,9,8,2,1] [2] kr) ?_
  rintro ⟨mo2,y1⟩ H
  have H : QU n mo2 x0 x1 y1 = some o2 := H
  obtain _ | mo2 := mo2
  ·exact nN H
  rw [QU] at H
  refine gA 1 3846 4<|tS ?_
  obtain ⟨h1,H⟩ | ⟨h1,H⟩ := bC H
  ·refine nA h1<|Tr.exit<|aJ ?_
   obtain rfl := si H
   have H := Ho2
   dsimp only at H
   exact jA () H [] []
  refine tA h1<|tK<|tS<|tB<|rA 1<|bE H fun v3 ev3 H=> iA intRow ev3<|uA 3 1894 4<|tS<|rA 3<|kF x0.Ls Link.row<|lA 1<|bE H fun r4 er4 H=> vA [.rd,.rd,.rd] (qC n v3 0 (wI ((x0.Ls.length : Int) - 1)) r4 er4)<|uA 1 2099046 4 ?_
  obtain ⟨h2,H⟩ | ⟨h2,H⟩ := bC H
  ·refine nA h2<|tK<|gE H fun hg5 H=> bE H fun r6 er6 H=> gE H fun hg7 H=> gE H fun hg8 H=> Tr.draws mixed 10 kr ⟨48,0,[sC 7 (cL 1 (r6 ++ ((x1.drop (((wI (y1 + 1)) : Int)).toNat).take ((((x1.length : Int) : Int)).toNat - (((wI (y1 + 1)) : Int)).toNat))) intRow),sI 6 v3,sI 10 y1,sI 9 (x1.length : Int),sC 8 (cF 1 x1 intRow),sA 2 2 3 0,sC 1 (cF 1 x1 intRow)],[(2,(fR (Net.row x0)))]⟩ (fun cx=>?_) ?_
   ·refine aA [(0,[]),(1,[]),(4,[]),(5,[]),(6,[])] 5 [] fun cx=>AT.big2 tOk 2 7 kr (And.intro kr ?_) (And.intro kr ?_)
    ·refine LAt.cutG tOk (t := 27) (ty := 27) (e := 3) (x := (.tmp 22)) (lo := none) (hi := (some (.tmp 23))) (d := 24) (g := none) (tI 3) intRow x1 ⟨(.slot 22),[],0,false,1,(CV.frzEs (x1.map intRow))⟩ 0 y1 kr kr kr kr kr kr rfl kr rfl kr kr hg5<|fA<|AT.big2 tOk 3 7 kr (And.intro kr ?_) (And.intro kr ?_)
     ·exact vA [.rd] (zBf n ((x1.drop ((0 : Int)).toNat).take (((y1 : Int)).toNat - ((0 : Int)).toNat)) r6 er6)<|fA<|bA 7<|LAt.cutG tOk (t := 27) (ty := 27) (e := 3) (x := (.tmp 26)) (lo := (some (.tmp 28))) (hi := none) (d := 29) (g := none) (tI 3) intRow x1 ⟨(.slot 26),[],0,false,1,(CV.frzEs (x1.map intRow))⟩ (wI (y1 + 1)) (x1.length : Int) kr kr kr kr kr kr rfl kr rfl kr kr hg7<|fA<|bA 8<|pD intRow hg8<|fA<|bA 9<|LAt.moveU (T := lk tab) (ty := 27) (x := (.tmp 30)) (d := 7) (g := none) false [cL 1 (r6 ++ ((x1.drop (((wI (y1 + 1)) : Int)).toNat).take ((((x1.length : Int) : Int)).toNat - (((wI (y1 + 1)) : Int)).toNat))) intRow] kr kr kr kr kr<|fA<|eE [7,6,10,9,8,2,1] [2]
     ·exact LAt.cutG tOk (t := 27) (ty := 27) (e := 3) (x := (.tmp 26)) (lo := (some (.tmp 28))) (hi := none) (d := 29) (g := none) (tI 3) intRow x1 ⟨(.slot 26),[],0,false,1,(CV.frzEs (x1.map intRow))⟩ (wI (y1 + 1)) (x1.length : Int) kr kr kr kr kr kr rfl kr rfl kr kr hg7<|fA<|bA 3<|vA [.rd] (zBf n ((x1.drop ((0 : Int)).toNat).take (((y1 : Int)).toNat - ((0 : Int)).toNat)) r6 er6)<|fA<|bA 8<|pD intRow hg8<|fA<|bA 9<|LAt.moveU (T := lk tab) (ty := 27) (x := (.tmp 30)) (d := 7) (g := none) false [cL 1 (r6 ++ ((x1.drop (((wI (y1 + 1)) : Int)).toNat).take ((((x1.length : Int) : Int)).toNat - (((wI (y1 + 1)) : Int)).toNat))) intRow] kr kr kr kr kr<|fA<|eE [7,6,10,9,8,2,1] [2]
    ·exact LAt.cutG tOk (t := 27) (ty := 27) (e := 3) (x := (.tmp 26)) (lo := (some (.tmp 28))) (hi := none) (d := 29) (g := none) (tI 3) intRow x1 ⟨(.slot 26),[],0,false,1,(CV.frzEs (x1.map intRow))⟩ (wI (y1 + 1)) (x1.length : Int) kr kr kr kr kr kr rfl kr rfl kr kr hg7<|fA<|bA 2<|LAt.cutG tOk (t := 27) (ty := 27) (e := 3) (x := (.tmp 22)) (lo := none) (hi := (some (.tmp 23))) (d := 24) (g := none) (tI 3) intRow x1 ⟨(.slot 22),[],0,false,1,(CV.frzEs (x1.map intRow))⟩ 0 y1 kr kr kr kr kr kr rfl kr rfl kr kr hg5<|fA<|bA 3<|vA [.rd] (zBf n ((x1.drop ((0 : Int)).toNat).take (((y1 : Int)).toNat - ((0 : Int)).toNat)) r6 er6)<|fA<|bA 8<|pD intRow hg8<|fA<|bA 9<|LAt.moveU (T := lk tab) (ty := 27) (x := (.tmp 30)) (d := 7) (g := none) false [cL 1 (r6 ++ ((x1.drop (((wI (y1 + 1)) : Int)).toNat).take ((((x1.length : Int) : Int)).toNat - (((wI (y1 + 1)) : Int)).toNat))) intRow] kr kr kr kr kr<|fA<|eE [7,6,10,9,8,2,1] [2]
   refine bE H fun v9 ev9 H=> bE H fun r10 er10 H=> bE H fun v11 ev11 H=> bE H fun r12 er12 H=> Tr.draws mixed 16 kr ⟨48,0,[sB 46 r12,sI 10 y1,sI 9 (x1.length : Int),sC 8 (cF 1 x1 intRow),sA 2 2 3 0,sC 1 (cF 1 x1 intRow)],[(2,(fR (Net.row x0)))]⟩ (fun cx=>?_) ?_
   ·exact mA zEP [(0,[8,15]),(1,[]),(2,[8,15]),(3,[])] 12 [⟨[8,15],50,32,33⟩,⟨[8,15],53,2,31⟩] fun cx=>iN zEP 4 Link.row ev9 fun cx=>mA zEP [(5,[]),(6,[]),(7,[]),(9,[]),(10,[15]),(11,[])] 5 [⟨[15],50,40,41⟩,⟨[8,15],50,32,33⟩,⟨[8,15],53,2,31⟩] fun cx=>iN zEP 12 Link.row ev11 fun cx=>mA zEP [(13,[]),(14,[])] 2 [⟨[15],50,40,41⟩,⟨[8,15],50,32,33⟩,⟨[8,15],53,2,31⟩] fun cx=>mC zEP 8<|vB [.rd,.rd,.rd] [.slot 7] (zCo n x0 v9.A (r6 ++ ((x1.drop (((wI (y1 + 1)) : Int)).toNat).take ((((x1.length : Int) : Int)).toNat - (((wI (y1 + 1)) : Int)).toNat))) r10 er10) (.inr (zk (zI (Qp (Zi JP _)) qF) qG))<|fA<|mC zEP 15<|vA [.rd,.rd] (zKg n r10 v11.B r12 er12)<|fA<|mE zEP [46,10,9,8,2,1] [2]
   cases h3 : r12
   ·have H := zF h3 H
    exact nB_<|tK<|eA 2 1798 4<|jB mo2 (wI (y1 + 1)) H [10,9,8,2,1] [2]
   have H := zG h3 H
   refine tB_<|gA 1 16 0<|te ?_
   obtain rfl := si H
   have H := Ho2
   dsimp only at H
   exact fT H
  exact tA h2<|Tr.exit<|aJ<|eA 2 1798 4<|jB mo2 (wI (y1 + 1)) H [10,9,8,2,1] [2]
 rintro _ H
 have H : (zBY n) = some r := H
 unfold zBY at H
 exact gA 1 16 0<|te (fF H)
def Qw (n : Nat) (r5 : Net) (r7 : (List Int)) (y11 : Int) : Option (Bool) :=
  ((zBN n r5 r7).bind fun r12 => (bif (!r12) then (some ((r7.length : Int) == (IntKind.wrap .i64 ((r5.Bs.length : Int) - y11)))) else (some false)))
def QB (n : Nat) (k : (Int × Int → Option ((Int) ⊕ (Bool)))) (r5 : Net) (r7 : (List Int)) (r8 : (List Int)) (y9 : Int) (y14 : Int) : Option ((Int) ⊕ (Bool)) :=
  ((ZK n r5 y9 r7).bind fun r15 => ((ZK n r5 y9 r8).bind fun r16 => ((Yj n r15 r16).bind fun r17 => (bif (!r17) then (some (Sum.inr false)) else (k ((IntKind.wrap .i64 (y9 + 1)),y14))))))
def qY (n : Nat) : Nat → Net → (List Int) → (List Int) → Int → Int → Option ((Int) ⊕ (Bool))
  | 0,_,_,_,_,_ => none
  | mo13 + 1,r5,r7,r8,y9,y10 => (bif (decide (y9 < (r5.Bs.length : Int))) then ((YE n r5 y9).bind fun r18 => ((idx r5.Bs y9).bind fun v19 => (bif (r18 == v19.Id) then (QB n (fun v => qY n mo13 r5 r7 r8 v.1 v.2) r5 r7 r8 y9 (IntKind.wrap .i64 (y10 + 1))) else (QB n (fun v => qY n mo13 r5 r7 r8 v.1 v.2) r5 r7 r8 y9 y10)))) else (some (Sum.inl y10)))
def JD (n : Nat) (x0 : (List Int)) : Option (Bool) :=
  ((zEc n x0).bind fun r1 => (bif r1 then (some true) else ((zAB n x0).bind fun r2 => ((zBr n x0 2).bind fun r3 => (bif (decide ((22 : Int) ≠ 0)) then ((Jc n r2.1 (Int.tmod r3 22)).bind fun r5 => ((Qt n r5).bind fun r6 => (bif (!r6) then ((zAn n r5).bind fun r20 => (some (!r20))) else ((zAw n r5).bind fun r7 => ((Q6 n r5).bind fun r8 => ((qY n n r5 r7 r8 0 0).bind fun o => match o with | .inl y11 => (Qw n r5 r7 y11) | .inr r => some r)))))) else none)))))
theorem zFY (n : Nat) (x0 : (List Int)) (r3 : Int) (r2 : Net × (List Event)) (r5 : Net) (er3 : (zBr n x0 2) = some r3) (hg4 : (decide ((22 : Int) ≠ 0)) = true) (er5 : (Jc n r2.1 (Int.tmod r3 22)) = some r5) (cx : Cx) : AT Tryz.prog cx (rg Tryz.f4 4) [] 7 [] ⟨75,0,[sA 3 3 3 0,sC 0 (cF 1 x0 zg)],[(3,(Net.row r2.1))]⟩ (fun s => s = ⟨75,0,[sA 5 5 3 0],[(5,(Net.row r5))]⟩) := by
 refine aA [(0,[4,6]),(1,[])] 5 [⟨[4,6],53,3,17⟩] fun cx=>AT.big2 tOk 2 5 kr (And.intro kr ?_) (And.intro kr ?_)
 ·refine vA [.rd,.rd] (zLG n x0 2 r3 er3)<|fA<|AT.big2 tOk 3 5 kr (And.intro kr ?_) (And.intro kr ?_)
  ·refine LAt.binC tOk (op := .rem) (t := 3) (ty := 3) (ty' := 3) (x := (.tmp 19)) (y := (.const (.int .i64 22))) (d := 20) (g := none) (.int .i64 r3) (.int .i64 22) (.int .i64 (Int.tmod r3 22)) _ kr kr kr kr kr (φ := (IntKind.i64 = IntKind.i64 ∧ (22 : Int) ≠ 0)) kr (⟨rfl,of_decide_eq_true hg4⟩) rfl<|fA<|AT.big2 tOk 4 5 kr (And.intro kr ?_) (And.intro kr ?_)
   ·exact vB [.rd,.rd] [.box 3] (zCp n r2.1 (Int.tmod r3 22) r5 er5) (.inr (zk (Net.row_mine _) qG))<|fA<|bA 5<|lA 1<|fA<|bA 6<|lA 1<|fA<|eE [5] [5]
   ·exact lA 1<|fA<|bA 4<|vB [.rd,.rd] [.box 3] (zCp n r2.1 (Int.tmod r3 22) r5 er5) (.inr (zk (Net.row_mine _) qG))<|fA<|bA 6<|lA 1<|fA<|eE [5] [5]
  ·exact lA 1<|fA<|bA 3<|LAt.binC tOk (op := .rem) (t := 3) (ty := 3) (ty' := 3) (x := (.tmp 19)) (y := (.const (.int .i64 22))) (d := 20) (g := none) (.int .i64 r3) (.int .i64 22) (.int .i64 (Int.tmod r3 22)) _ kr kr kr kr kr (φ := (IntKind.i64 = IntKind.i64 ∧ (22 : Int) ≠ 0)) kr (⟨rfl,of_decide_eq_true hg4⟩) rfl<|fA<|bA 4<|vB [.rd,.rd] [.box 3] (zCp n r2.1 (Int.tmod r3 22) r5 er5) (.inr (zk (Net.row_mine _) qG))<|fA<|bA 6<|lA 1<|fA<|eE [5] [5]
 ·exact lA 1<|fA<|bA 2<|vA [.rd,.rd] (zLG n x0 2 r3 er3)<|fA<|bA 3<|LAt.binC tOk (op := .rem) (t := 3) (ty := 3) (ty' := 3) (x := (.tmp 19)) (y := (.const (.int .i64 22))) (d := 20) (g := none) (.int .i64 r3) (.int .i64 22) (.int .i64 (Int.tmod r3 22)) _ kr kr kr kr kr (φ := (IntKind.i64 = IntKind.i64 ∧ (22 : Int) ≠ 0)) kr (⟨rfl,of_decide_eq_true hg4⟩) rfl<|fA<|bA 4<|vB [.rd,.rd] [.box 3] (zCp n r2.1 (Int.tmod r3 22) r5 er5) (.inr (zk (Net.row_mine _) qG))<|fA<|bA 6<|lA 1<|fA<|eE [5] [5]
theorem zFZ (n : Nat) (r5 : Net) (y9 : Int) (r7 : (List Int)) (r15 : (List Int)) (r8 : (List Int)) (r16 : (List Int)) (r17 : Bool) (y14 : Int) (er15 : (ZK n r5 y9 r7) = some r15) (er16 : (ZK n r5 y9 r8) = some r16) (er17 : (Yj n r15 r16) = some r17) (cx : Cx) : AT Tryz.prog cx (rg Tryz.f4 15) [] 10 [] ⟨75,0,[sI 9 y9,sI 8 y14,sC 7 (cL 1 r8 intRow),sC 6 (cL 1 r7 intRow),sA 5 5 3 0],[(5,(Net.row r5))]⟩ (fun s => s = ⟨75,0,[sB 60 (!r17),sI 9 y9,sI 8 y14,sC 7 (cL 1 r8 intRow),sC 6 (cL 1 r7 intRow),sA 5 5 3 0],[(5,(Net.row r5))]⟩) := by
 exact aA [(0,[3,7,8]),(1,[]),(2,[]),(4,[7,8]),(5,[]),(6,[])] 4 [⟨[7,8],53,5,55⟩,⟨[3,7,8],53,5,51⟩] fun cx=>bA 3<|vB [.rd,.rd,.rd] [.box 5,.slot 6] (zCo n r5 y9 r7 r15 er15) (.inr (zk (zI (Qp (Zi JP _)) qF) qG))<|fA<|bA 7<|vB [.rd,.rd,.rd] [.box 5,.slot 7] (zCo n r5 y9 r8 r16 er16) (.inr (zk (zI (Qp (Zi JP _)) qF) qG))<|fA<|bA 8<|vA [.rd,.rd] (zJU n r15 r16 r17 er17)<|fA<|aA [(9,[])] 0 [⟨[7,8],53,5,55⟩,⟨[3,7,8],53,5,51⟩] fun cx=>eE [60,9,8,7,6,5] [5]
theorem zFa (n : Nat) (r5 : Net) (y9 : Int) (v19 : zA) (r18 : Int) (y10 : Int) (r8 : (List Int)) (r7 : (List Int)) (er18 : (YE n r5 y9) = some r18) (ev19 : (idx r5.Bs y9) = some v19) (cx : Cx) : AT Tryz.prog cx (rg Tryz.f4 13) [] 10 [] ⟨75,0,[sB 36 (decide (y9 < (r5.Bs.length : Int))),sI 9 y9,sI 8 y10,sC 7 (cL 1 r8 intRow),sC 6 (cL 1 r7 intRow),sA 5 5 3 0],[(5,(Net.row r5))]⟩ (fun s => s = ⟨75,0,[sB 48 (r18 == v19.Id),sI 9 y9,sI 8 y10,sC 7 (cL 1 r8 intRow),sC 6 (cL 1 r7 intRow),sA 5 5 3 0],[(5,(Net.row r5))]⟩) := by
 refine aA [(0,[2]),(1,[]),(3,[]),(4,[]),(5,[])] 5 [⟨[],49,42,43⟩,⟨[2],53,5,39⟩] fun cx=>aO tOk 6 49 0 43 44 45 none ⟨(.box 5),[(0,0)],0,true,11,(r5.Bs.map zA.row)⟩ y9 (y9.toNat) (zA.row v19) _ kr kr kr kr kr kr rfl kr (zAG ev19) rfl rfl (fun cx=>?_)
 refine aA [(7,[])] 3 [⟨[],49,42,43⟩,⟨[2],53,5,39⟩] fun cx=>AT.big2 tOk 2 8 kr (And.intro kr ?_) (And.intro kr ?_)
 ·exact vB [.rd,.rd] [.box 5] (zFr n r5 y9 r18 er18) (.inr (zk (zI zN qF) qG))<|fA<|bA 8<|dE (tI 3) (.box 5) [(0,0),(0,(y9.toNat))] 11 0 [.sl true 3 [(Net.row r5)]] (zA.row v19) (zy rfl (zO ev19).2)<|fA<|aA [(9,[])] 0 [⟨[],49,42,43⟩,⟨[2],53,5,39⟩] fun cx=>eE [48,9,8,7,6,5] [5]
 ·exact dE (tI 3) (.box 5) [(0,0),(0,(y9.toNat))] 11 0 [.sl true 3 [(Net.row r5)]] (zA.row v19) (zy rfl (zO ev19).2)<|fA<|bA 2<|vB [.rd,.rd] [.box 5] (zFr n r5 y9 r18 er18) (.inr (zk (zI zN qF) qG))<|fA<|aA [(9,[])] 0 [⟨[],49,42,43⟩,⟨[2],53,5,39⟩] fun cx=>eE [48,9,8,7,6,5] [5]
theorem zGx (n : Nat) (x0 : (List Int)) (r : Bool) (H : JD n x0 = some r) : zH Tryz.prog 4 [.val false [.sl false 1 (CV.frzEs (x0.map zg))]] [.val false [.lit (.bool r)]] [] := by
 refine cW Tryz.func4 (fun g d => sl [g 0,sl [g 1] (cn 11 (sl [g 2] .ret) .skip),g 3,d 4,sl [g 5] (cn 24 (sl [g 6] .ret) .skip),g 7,g 8,g 9,sl [g 10] (.block 0 (.loop (sl [sl [g 11] (cn 36 .skip (.exit 0)),.block 1 (sl [sl [d 13] (cn 48 (g 14) .skip),d 15] (cn 60 (sl [g 16] .ret) .skip))] (g 12)))),g 17] .ret) [.tmp 2] fun cx=>?_
 unfold JD at H
 refine gA 1 1 0<|tS<|rA 1<|bE H fun r1 er1 H=> vA [.rd] (zMs n x0 r1 er1)<|dA 2049 0 ?_
 cases h1 : r1
 ·have H := zF h1 H
  refine nB_<|tK<|rA 1<|bE H fun r2 er2 H=> vA [.rd] (zKO n x0 r2 er2)<|LAt.movT tOk (ty := 55) (t := 14) (d := 12) (g := none) [(true,(Net.row r2.1)),(false,[cL 2 r2.2 Event.row])] _ kr (.inl rfl) kr kr kr kr rfl<|lA 4<|LAt.moveU (T := lk tab) (ty := 54) (x := (.tmp 16)) (d := 4) (g := none) false [cL 2 r2.2 Event.row] kr kr kr kr kr<|dA 9 8<|bE H fun r3 er3 H=> gE H fun hg4 H=> bE H fun r5 er5 H=> sT ⟨75,0,[sA 3 3 3 0,sC 0 (cF 1 x0 zg)],[(3,(Net.row r2.1))]⟩<|Tr.draws mixed 7 kr ⟨75,0,[sA 5 5 3 0],[(5,(Net.row r5))]⟩ (zFY n x0 r3 r2 r5 er3 hg4 er5)<|tS<|rA 1<|bE H fun r6 er6 H=> vB [.rd] [.box 5] (zKc n r5 r6 er6) (.inr (zk (zI zN qF) qG))<|uA 1 16777248 32 ?_
  obtain ⟨h2,H⟩ | ⟨h2,H⟩ := bC H
  ·refine nA h2<|tK<|rA 1<|bE H fun r7 er7 H=> vB [.rd] [.box 5] (zML n r5 r7 er7) (.inr (zk (zI (Qp (Zi JP _)) qF) qG))<|LAt.moveU (T := lk tab) (ty := 27) (x := (.tmp 29)) (d := 6) (g := none) false [cL 1 r7 intRow] kr kr kr kr kr<|dA 96 32<|rA 1<|bE H fun r8 er8 H=> vB [.rd] [.box 5] (zGG n r5 r8 er8) (.inr (zk (zI (Qp (Zi JP _)) qF) qG))<|LAt.moveU (T := lk tab) (ty := 27) (x := (.tmp 31)) (d := 7) (g := none) false [cL 1 r8 intRow] kr kr kr kr kr<|dA 224 32<|gA 1 480 32<|tS<|gA 1 992 32 ?_
   obtain ⟨o13,eo13,Ho13⟩ := bs H
   clear H
   refine Tr.mid (ι := Int) (fun v => ⟨75,0,[sI 8 v,sC 6 (cL 1 r7 intRow),sA 5 5 3 0],[(5,(Net.row r5))]⟩) (fun v => Qw n r5 r7 v = some r) ?_ ?_
   ·refine tB<|Tr.loop (ι := Nat × (Int × Int)) (fun v => ⟨75,0,[sI 9 v.2.1,sI 8 v.2.2,sC 7 (cL 1 r8 intRow),sC 6 (cL 1 r7 intRow),sA 5 5 3 0],[(5,(Net.row r5))]⟩) (fun v => qY n v.1 r5 r7 r8 v.2.1 v.2.2 = some o13) (fun v => v.1) (n,(0,0)) eo13 (St.sub_of [9,8,7,6,5] [5] kr) ?_
    rintro ⟨mo13,y9,y10⟩ H
    have H : qY n mo13 r5 r7 r8 y9 y10 = some o13 := H
    obtain _ | mo13 := mo13
    ·exact nN H
    rw [qY] at H
    refine tS<|rA 3<|kO r5.Bs zA.row<|uA 1 68719477728 32 ?_
    obtain ⟨h4,H⟩ | ⟨h4,H⟩ := bC H
    ·refine nA h4<|Tr.exit<|aJ ?_
     obtain rfl := si H
     have H := Ho13
     dsimp only at H
     exact jA y10 H [8,6,5] [5]
    refine tA h4<|tK<|tS<|tB<|tS<|Tr.mid (ι := Int) (fun v => ⟨75,0,[sI 9 y9,sI 8 v,sC 7 (cL 1 r8 intRow),sC 6 (cL 1 r7 intRow),sA 5 5 3 0],[(5,(Net.row r5))]⟩) (fun v => QB n (fun v => qY n mo13 r5 r7 r8 v.1 v.2) r5 r7 r8 y9 v = some o13) ?_ ?_
    ·refine bE H fun r18 er18 H=> bE H fun v19 ev19 H=> sT ⟨75,0,[sB 36 (decide (y9 < (r5.Bs.length : Int))),sI 9 y9,sI 8 y10,sC 7 (cL 1 r8 intRow),sC 6 (cL 1 r7 intRow),sA 5 5 3 0],[(5,(Net.row r5))]⟩<|Tr.draws mixed 10 kr ⟨75,0,[sB 48 (r18 == v19.Id),sI 9 y9,sI 8 y10,sC 7 (cL 1 r8 intRow),sC 6 (cL 1 r7 intRow),sA 5 5 3 0],[(5,(Net.row r5))]⟩ (zFa n r5 y9 v19 r18 y10 r8 r7 er18 ev19)<|sT ⟨75,0,[sB 48 (r18 == v19.Id),sI 9 y9,sI 8 y10,sC 7 (cL 1 r8 intRow),sC 6 (cL 1 r7 intRow),sA 5 5 3 0],[(5,(Net.row r5))]⟩ ?_
     cases h6 : (r18 == v19.Id)
     ·have H := zF h6 H
      exact nB_<|tK<|jA y10 H [9,8,7,6,5] [5]
     have H := zG h6 H
     exact tB_<|eA 3 992 32<|jA (wI (y10 + 1)) H [9,8,7,6,5] [5]
    rintro y14 H
    have H : (QB n (fun v => qY n mo13 r5 r7 r8 v.1 v.2) r5 r7 r8 y9 y14) = some o13 := H
    unfold QB at H
    refine bE H fun r15 er15 H=> bE H fun r16 er16 H=> bE H fun r17 er17 H=> sT ⟨75,0,[sI 9 y9,sI 8 y14,sC 7 (cL 1 r8 intRow),sC 6 (cL 1 r7 intRow),sA 5 5 3 0],[(5,(Net.row r5))]⟩<|Tr.draws mixed 10 kr ⟨75,0,[sB 60 (!r17),sI 9 y9,sI 8 y14,sC 7 (cL 1 r8 intRow),sC 6 (cL 1 r7 intRow),sA 5 5 3 0],[(5,(Net.row r5))]⟩ (zFZ n r5 y9 r7 r15 r8 r16 r17 y14 er15 er16 er17)<|sT ⟨75,0,[sB 60 (!r17),sI 9 y9,sI 8 y14,sC 7 (cL 1 r8 intRow),sC 6 (cL 1 r7 intRow),sA 5 5 3 0],[(5,(Net.row r5))]⟩ ?_
    cases h5 : (!r17)
    ·have H := zF h5 H
     exact nB_<|tK<|eA 3 992 32<|jB mo13 ((wI (y9 + 1)),y14) H [9,8,7,6,5] [5]
    have H := zG h5 H
    refine tB_<|gA 1 4 0<|te ?_
    obtain rfl := si H
    have H := Ho13
    dsimp only at H
    exact fF H
   rintro y11 H
   have H : (Qw n r5 r7 y11) = some r := H
   unfold Qw at H
   refine rA 2<|bE H fun r12 er12 H=> vB [.rd,.rd] [.box 5,.slot 6] (zLc n r5 r7 r12 er12) (.inr (zk (zI zN qF) qG))<|lA 2<|sL 0x20000000000000160 32 ⟨75,0,[sB 65 (!r12),sI 8 y11,sC 6 (cL 1 r7 intRow),sA 5 5 3 0],[(5,(Net.row r5))]⟩ ?_
   cases h3 : (!r12)
   ·have H := zF h3 H
    exact uA 10 4 0<|te (fF H)
   have H := zG h3 H
   exact lA 1<|kO r7 intRow<|lA 2<|kO r5.Bs zA.row<|uA 5 4 0<|te (fJ [(false,[cB ((r7.length : Int) == (wI ((r5.Bs.length : Int) - y11)))])] H)
  exact tA h2<|rA 1<|bE H fun r20 er20 H=> vB [.rd] [.box 5] (zKu n r5 r20 er20) (.inr (zk (zI zN qF) qG))<|uA 2 4 0<|te (fJ [(false,[cB (!r20)])] H)
 have H := zG h1 H
 exact tB_<|gA 1 4 0<|te (fT H)
def zGu (n : Nat) (x0 : Net) (y3 : (List Say)) : Option (Net) :=
  (some (⟨x0.Bs,x0.Ls,y3⟩ : Net))
def ZH (n : Nat) : Nat → Net → Int → Int → (List Say) → Option (((List Say)) ⊕ (Net))
  | 0,_,_,_,_ => none
  | mo4 + 1,x0,x1,y1,y2 => (bif (decide (y1 < (x0.Ls.length : Int))) then ((idx x0.Ls y1).bind fun v5 => ((zU n (⟨x0.Bs,x0.Ls,y2⟩ : Net) y1).bind fun r6 => (bif (!r6) then (ZH n mo4 x0 x1 (IntKind.wrap .i64 (y1 + 1)) y2) else (bif (decide ((y2.length : Int) ≥ 40)) then (ZH n mo4 x0 x1 (IntKind.wrap .i64 (y1 + 1)) y2) else (bif (v5.A == x1) then ((Zo n (⟨x0.Bs,x0.Ls,y2⟩ : Net) x1 v5.P).bind fun r9 => (bif (decide (y2.length + [(⟨y1,false,r9⟩ : Say)].length ≤ 268435456)) then (ZH n mo4 x0 x1 (IntKind.wrap .i64 (y1 + 1)) (y2 ++ [(⟨y1,false,r9⟩ : Say)])) else none)) else (bif (v5.B == x1) then ((Zo n (⟨x0.Bs,x0.Ls,y2⟩ : Net) x1 v5.Q).bind fun r7 => (bif (decide (y2.length + [(⟨y1,true,r7⟩ : Say)].length ≤ 268435456)) then (ZH n mo4 x0 x1 (IntKind.wrap .i64 (y1 + 1)) (y2 ++ [(⟨y1,true,r7⟩ : Say)])) else none)) else (ZH n mo4 x0 x1 (IntKind.wrap .i64 (y1 + 1)) y2))))))) else (some (Sum.inl y2)))
def zB4 (n : Nat) (x0 : Net) (x1 : Int) : Option (Net) :=
  ((ZH n n x0 x1 0 x0.Said).bind fun o => match o with | .inl y3 => (zGu n x0 y3) | .inr r => some r)
def zIe (n : Nat) (y3 : (List zB)) : Option ((List zB)) :=
  (some y3)
def YD (n : Nat) : Nat → (List zB) → Int → (List zB) → Option (((List zB)) ⊕ ((List zB)))
  | 0,_,_,_ => none
  | mo4 + 1,x0,y1,y2 => (bif (decide (y1 < (x0.length : Int))) then ((idx x0 y1).bind fun v5 => (bif (!v5.Sc) then (bif (decide (v5.Age ≥ 4)) then (YD n mo4 x0 (IntKind.wrap .i64 (y1 + 1)) y2) else (bif (decide (y2.length + [(⟨v5.Tag,v5.Mac,v5.Port,(IntKind.wrap .i64 (v5.Age + 1)),v5.Sc⟩ : zB)].length ≤ 268435456)) then (YD n mo4 x0 (IntKind.wrap .i64 (y1 + 1)) (y2 ++ [(⟨v5.Tag,v5.Mac,v5.Port,(IntKind.wrap .i64 (v5.Age + 1)),v5.Sc⟩ : zB)])) else none)) else (bif (decide (y2.length + [v5].length ≤ 268435456)) then (YD n mo4 x0 (IntKind.wrap .i64 (y1 + 1)) (y2 ++ [v5])) else none))) else (some (Sum.inl y2)))
def zD7 (n : Nat) (x0 : (List zB)) : Option ((List zB)) :=
  ((YD n n x0 0 ([] : List zB)).bind fun o => match o with | .inl y3 => (zIe n y3) | .inr r => some r)
def zDo (n : Nat) (x0 : zA) : Option (zA) :=
  ((ZT n x0).bind fun r1 => ((Qk n x0).bind fun r2 => (bif r2 then ((zA0 n x0.Tk).bind fun r3 => ((zD7 n x0.F).bind fun r4 => ((q9 n (⟨r1.Id,r1.Name,r1.Ps,r4,r1.V,r3,r1.Pa,r1.Wo,r1.Dr,r1.Ve⟩ : zA)).bind fun r5 => (some r5)))) else (some r1))))
def J0 (n : Nat) (x0 : Net) (x1 : Int) (x2 : Bool) : Option (Net) :=
  ((idx x0.Said x1).bind fun v1 => (bif (decide ((0 : Int) ≤ 0) && (decide ((0 : Int) ≤ x1) && decide ((x1 : Int) ≤ (x0.Said.length : Int)))) then (bif (decide (([] : List Say).length + ((x0.Said.drop ((0 : Int)).toNat).take (((x1 : Int)).toNat - ((0 : Int)).toNat)).length ≤ 268435456)) then (bif (decide ((0 : Int) ≤ (IntKind.wrap .i64 (x1 + 1))) && (decide (((IntKind.wrap .i64 (x1 + 1)) : Int) ≤ (x0.Said.length : Int)) && decide (((x0.Said.length : Int) : Int) ≤ (x0.Said.length : Int)))) then (bif (decide ((([] : List Say) ++ ((x0.Said.drop ((0 : Int)).toNat).take (((x1 : Int)).toNat - ((0 : Int)).toNat))).length + ((x0.Said.drop (((IntKind.wrap .i64 (x1 + 1)) : Int)).toNat).take ((((x0.Said.length : Int) : Int)).toNat - (((IntKind.wrap .i64 (x1 + 1)) : Int)).toNat)).length ≤ 268435456)) then (bif (!x2) then (some (⟨x0.Bs,x0.Ls,((([] : List Say) ++ ((x0.Said.drop ((0 : Int)).toNat).take (((x1 : Int)).toNat - ((0 : Int)).toNat))) ++ ((x0.Said.drop (((IntKind.wrap .i64 (x1 + 1)) : Int)).toNat).take ((((x0.Said.length : Int) : Int)).toNat - (((IntKind.wrap .i64 (x1 + 1)) : Int)).toNat)))⟩ : Net)) else ((zU n (⟨x0.Bs,x0.Ls,((([] : List Say) ++ ((x0.Said.drop ((0 : Int)).toNat).take (((x1 : Int)).toNat - ((0 : Int)).toNat))) ++ ((x0.Said.drop (((IntKind.wrap .i64 (x1 + 1)) : Int)).toNat).take ((((x0.Said.length : Int) : Int)).toNat - (((IntKind.wrap .i64 (x1 + 1)) : Int)).toNat)))⟩ : Net) v1.Link).bind fun r6 => (bif (!r6) then (some (⟨x0.Bs,x0.Ls,((([] : List Say) ++ ((x0.Said.drop ((0 : Int)).toNat).take (((x1 : Int)).toNat - ((0 : Int)).toNat))) ++ ((x0.Said.drop (((IntKind.wrap .i64 (x1 + 1)) : Int)).toNat).take ((((x0.Said.length : Int) : Int)).toNat - (((IntKind.wrap .i64 (x1 + 1)) : Int)).toNat)))⟩ : Net)) else ((idx x0.Ls v1.Link).bind fun v7 => (bif v1.Back then ((ZC n (⟨x0.Bs,x0.Ls,((([] : List Say) ++ ((x0.Said.drop ((0 : Int)).toNat).take (((x1 : Int)).toNat - ((0 : Int)).toNat))) ++ ((x0.Said.drop (((IntKind.wrap .i64 (x1 + 1)) : Int)).toNat).take ((((x0.Said.length : Int) : Int)).toNat - (((IntKind.wrap .i64 (x1 + 1)) : Int)).toNat)))⟩ : Net) v7.A v7.P v1.V).bind fun r9 => (some r9)) else ((ZC n (⟨x0.Bs,x0.Ls,((([] : List Say) ++ ((x0.Said.drop ((0 : Int)).toNat).take (((x1 : Int)).toNat - ((0 : Int)).toNat))) ++ ((x0.Said.drop (((IntKind.wrap .i64 (x1 + 1)) : Int)).toNat).take ((((x0.Said.length : Int) : Int)).toNat - (((IntKind.wrap .i64 (x1 + 1)) : Int)).toNat)))⟩ : Net) v7.B v7.Q v1.V).bind fun r8 => (some r8))))))) else none) else none) else none) else none))
def Y4 (n : Nat) (x0 : zA) (x1 : Int) (x2 : Bool) : Option (zA) :=
  ((ZT n x0).bind fun r1 => ((Jh n x0 x1).bind fun r2 => (bif r2 then ((idx x0.Ps x1).bind fun v3 => ((idx r1.Ps x1).bind fun v4 => ((q9 n (⟨r1.Id,r1.Name,(r1.Ps.set (x1.toNat) (⟨x2,v3.Co,false,(⟨0,0,0,0,0⟩ : Vec)⟩ : Pt)),r1.F,r1.V,r1.Tk,r1.Pa,r1.Wo,r1.Dr,r1.Ve⟩ : zA)).bind fun r5 => (some r5)))) else (some r1))))
def zCe (n : Nat) (x0 : Net) (x1 : Int) (x2 : Bool) : Option (Net) :=
  ((zU n x0 x1).bind fun r1 => (bif (r1 == x2) then (some x0) else ((idx x0.Ls x1).bind fun v2 => ((idx x0.Bs v2.A).bind fun v3 => ((Y4 n v3 v2.P x2).bind fun r4 => ((idx (x0.Bs.set (v2.A.toNat) r4) v2.B).bind fun v5 => ((Y4 n v5 v2.Q x2).bind fun r6 => (some (⟨((x0.Bs.set (v2.A.toNat) r4).set (v2.B.toNat) r6),x0.Ls,x0.Said⟩ : Net)))))))))
def zB7 (n : Nat) (r1 : Net) (x1 : Event) (y5 : Bool) : Option (Net × Bool) :=
  (bif y5 then ((J0 n r1 x1.At (x1.Ki == 2)).bind fun r7 => (some (r7,true))) else ((zCe n r1 x1.At (x1.Ki == 5)).bind fun r6 => (some (r6,true))))
def Zq (n : Nat) (r1 : Net) (x0 : Net) (x1 : Event) (y3 : Int) : Option (Net × Bool) :=
  ((zu n x1.At 0 (IntKind.wrap .i64 (y3 - 1))).bind fun r4 => (bif (!r4) then (some (r1,false)) else (bif (x1.Ki == 1) then ((zB4 n r1 x1.At).bind fun r11 => (some (r11,true))) else (bif (x1.Ki == 6) then ((idx x0.Bs x1.At).bind fun v8 => ((zDo n v8).bind fun r9 => ((idx r1.Bs x1.At).bind fun v10 => (some ((⟨(r1.Bs.set (x1.At.toNat) r9),r1.Ls,r1.Said⟩ : Net),true))))) else (bif (x1.Ki == 2) then (zB7 n r1 x1 true) else (zB7 n r1 x1 (x1.Ki == 3)))))))
def zAd (n : Nat) (r1 : Net) (x0 : Net) (x1 : Event) (y13 : Bool) : Option (Net × Bool) :=
  (bif y13 then (Zq n r1 x0 x1 (x0.Said.length : Int)) else (bif (x1.Ki == 4) then (Zq n r1 x0 x1 (x0.Ls.length : Int)) else (bif (x1.Ki == 5) then (Zq n r1 x0 x1 (x0.Ls.length : Int)) else (Zq n r1 x0 x1 0))))
def Qv (n : Nat) (r1 : Net) (x0 : Net) (x1 : Event) (y12 : Bool) : Option (Net × Bool) :=
  (bif y12 then (Zq n r1 x0 x1 (x0.Bs.length : Int)) else (bif (x1.Ki == 2) then (zAd n r1 x0 x1 true) else (zAd n r1 x0 x1 (x1.Ki == 3))))
def zH5 (n : Nat) (x0 : Net) (x1 : Event) : Option (Net × Bool) :=
  ((YZ n x0).bind fun r1 => ((QQ n x0).bind fun r2 => (bif (!r2) then (some (r1,false)) else (bif (x1.Ki == 1) then (Qv n r1 x0 x1 true) else (Qv n r1 x0 x1 (x1.Ki == 6))))))
end Go.Proofs.YtajadnlejdpceaaGreat.Tw
