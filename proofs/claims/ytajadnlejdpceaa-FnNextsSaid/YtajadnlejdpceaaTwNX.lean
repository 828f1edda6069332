import Derived.Test.YtajadnlejdpceaaProg
import Derived.Test.YtajadnlejdpceaaTlRule
import Derived.Test.YtajadnlejdpceaaTlU12
import Derived.Test.YtajadnlejdpceaaTwNX0
import Derived.WalkKit
set_option linter.unusedVariables false
set_option linter.unusedSimpArgs false
set_option maxRecDepth 100000
set_option maxHeartbeats 1000000
namespace Go.Proofs.Ytajadnlejdpceaa.Tw
open Go Go.TL Go.Proofs
def YS (n : Nat) (x0 : Int) (y11 : Int) (y12 : Int) (y13 : Int) (y14 : Int) : Option (Vec × Int) :=
  (some ((⟨y12,y13,y14,x0,0⟩ : Vec),y11))
def qi (n : Nat) (k : (Int × Int × Int × Int × Int × Int × Int × Int × Int × Int → Option ((Int × Int × Int × Int) ⊕ (Vec × Int)))) (r20 : Vec × Bool) (y1 : Int) (y10 : Int) (y2 : Int) (y3 : Int) (y4 : Int) (y5 : Int) (y6 : Int) (y7 : Int) (y8 : Int) (y9 : Int) (y21 : Bool) (y22 : Bool) (y23 : Bool) (y24 : Bool) (y25 : Bool) (y26 : Bool) (y27 : Bool) : Option ((Int × Int × Int × Int) ⊕ (Vec × Int)) :=
  (bif y21 then (k ((IntKind.wrap .i64 (y1 + 1)),y1,r20.1.Root,r20.1.Co,r20.1.Hops,r20.1.Bridge,r20.1.Port,r20.1.Root,r20.1.Co,r20.1.Hops)) else (k ((IntKind.wrap .i64 (y1 + 1)),y2,y3,y4,y5,y6,y7,y8,y9,y10)))
def zo (n : Nat) : Nat → Int → (List Pt) → Int → Int → Int → Int → Int → Int → Int → Int → Int → Int → Option ((Int × Int × Int × Int) ⊕ (Vec × Int))
  | 0,_,_,_,_,_,_,_,_,_,_,_,_ => none
  | mo15 + 1,x0,x1,y1,y2,y3,y4,y5,y6,y7,y8,y9,y10 => (bif (decide (y1 < (x1.length : Int))) then ((idx x1 y1).bind fun v16 => (bif (!v16.Up) then (zo n mo15 x0 x1 (IntKind.wrap .i64 (y1 + 1)) y2 y3 y4 y5 y6 y7 y8 y9 y10) else ((idx x1 y1).bind fun v17 => (bif (!v17.Has) then (zo n mo15 x0 x1 (IntKind.wrap .i64 (y1 + 1)) y2 y3 y4 y5 y6 y7 y8 y9 y10) else ((idx x1 y1).bind fun v18 => ((idx x1 y1).bind fun v19 => ((Za n v18.Hd v19.Co).bind fun r20 => (bif r20.2 then (bif (decide (r20.1.Root < x0)) then (bif (decide (y2 < 0)) then (qi n (fun v => zo n mo15 x0 x1 v.1 v.2.1 v.2.2.1 v.2.2.2.1 v.2.2.2.2.1 v.2.2.2.2.2.1 v.2.2.2.2.2.2.1 v.2.2.2.2.2.2.2.1 v.2.2.2.2.2.2.2.2.1 v.2.2.2.2.2.2.2.2.2) r20 y1 y10 y2 y3 y4 y5 y6 y7 y8 y9 true true true true true true true) else ((Z4 n r20.1 (⟨y3,y4,y5,y6,y7⟩ : Vec)).bind fun r28 => (qi n (fun v => zo n mo15 x0 x1 v.1 v.2.1 v.2.2.1 v.2.2.2.1 v.2.2.2.2.1 v.2.2.2.2.2.1 v.2.2.2.2.2.2.1 v.2.2.2.2.2.2.2.1 v.2.2.2.2.2.2.2.2.1 v.2.2.2.2.2.2.2.2.2) r20 y1 y10 y2 y3 y4 y5 y6 y7 y8 y9 r28 true true true true true true))) else (qi n (fun v => zo n mo15 x0 x1 v.1 v.2.1 v.2.2.1 v.2.2.2.1 v.2.2.2.2.1 v.2.2.2.2.2.1 v.2.2.2.2.2.2.1 v.2.2.2.2.2.2.2.1 v.2.2.2.2.2.2.2.2.1 v.2.2.2.2.2.2.2.2.2) r20 y1 y10 y2 y3 y4 y5 y6 y7 y8 y9 false false false true true true true)) else (qi n (fun v => zo n mo15 x0 x1 v.1 v.2.1 v.2.2.1 v.2.2.2.1 v.2.2.2.2.1 v.2.2.2.2.2.1 v.2.2.2.2.2.2.1 v.2.2.2.2.2.2.2.1 v.2.2.2.2.2.2.2.2.1 v.2.2.2.2.2.2.2.2.2) r20 y1 y10 y2 y3 y4 y5 y6 y7 y8 y9 false false false false false false false))))))))) else (some (Sum.inl (y2,y8,y9,y10))))
def ZZ (n : Nat) (x0 : Int) (x1 : (List Pt)) : Option (Vec × Int) :=
  ((zo n n x0 x1 0 (-1) 0 0 0 0 0 x0 0 0).bind fun o => match o with | .inl (y11,y12,y13,y14) => (YS n x0 y11 y12 y13 y14) | .inr r => some r)
def zIO : Tab := ⟨17,[0,0,3,4,8,0,0,96,128,256,528,1024,2048,2048,0,24575,65535],[0,0,3,4,8,0,0,96,128,256,528,1024,2048,2048,0,20480,8192],[0,0,3,7,15,0,0,96,224,480,1023,2047,4095,4095,0,24575,65535]⟩
theorem ZG : zq (rg Try.f196 8) zIO = true := kr
theorem zCJ (n : Nat) (x0 : Int) (x1 : (List Pt)) (r : Vec × Int) (H : ZZ n x0 x1 = some r) : zH Try.prog 196 [.val false [.lit (.int .i64 x0)],.val false [.sl false 8 (CV.frzEs (x1.map Pt.row))]] [.val true (Vec.row r.1),.val false [.lit (.int .i64 r.2)]] [] := by
 refine cW Try.func196 (fun g d => sl [g 0,g 1,g 2,g 3,sl [g 4] (.block 0 (.loop (sl [sl [g 5] (cn 19 .skip (.exit 0)),.block 1 (sl [sl [g 7] (cn 35 (.exit 1) .skip),d 8,g 9] (cn 65 (sl [g 10,g 11] (g 12)) .skip))] (g 6)))),g 13] .ret) [.cell 4 46,.tmp 5] fun cx => ?_
 unfold ZZ at H
 refine gA 2 51 16 ?_
 refine gA 5 115 80 ?_
 refine gA 3 243 208 ?_
 refine gA 1 499 208 ?_
 refine tS ?_
 refine gA 1 1011 208 ?_
 obtain ⟨o15,eo15,Ho15⟩ := bs H
 clear H
 refine Tr.mid (ι := Int × Int × Int × Int) (fun v => ⟨78,0,[sI 8 v.1,sA 6 6 5 0,sI 5 0,sA 4 4 5 0],[(6,[cI v.2.1,cI v.2.2.1,cI v.2.2.2,cI x0,cI 0]),(4,[cI 0,cI 0,cI 0,cI 0,cI 0])]⟩) (fun v => YS n x0 v.1 v.2.1 v.2.2.1 v.2.2.2 = some r) ?_ ?_
 ·refine tB ?_
  refine Tr.loop (ι := Nat × (Int × Int × Int × Int × Int × Int × Int × Int × Int × Int)) (fun v => ⟨78,0,[sI 9 v.2.1,sI 8 v.2.2.1,sA 7 7 5 0,sA 6 6 5 0,sI 5 0,sA 4 4 5 0,sI 0 x0,sC 1 (cF 8 x1 Pt.row)],[(7,[cI v.2.2.2.1,cI v.2.2.2.2.1,cI v.2.2.2.2.2.1,cI v.2.2.2.2.2.2.1,cI v.2.2.2.2.2.2.2.1]),(6,[cI v.2.2.2.2.2.2.2.2.1,cI v.2.2.2.2.2.2.2.2.2.1,cI v.2.2.2.2.2.2.2.2.2.2,cI x0,cI 0]),(4,[cI 0,cI 0,cI 0,cI 0,cI 0])]⟩) (fun v => zo n v.1 x0 x1 v.2.1 v.2.2.1 v.2.2.2.1 v.2.2.2.2.1 v.2.2.2.2.2.1 v.2.2.2.2.2.2.1 v.2.2.2.2.2.2.2.1 v.2.2.2.2.2.2.2.2.1 v.2.2.2.2.2.2.2.2.2.1 v.2.2.2.2.2.2.2.2.2.2 = some o15) (fun v => v.1) (n,(0,(-1),0,0,0,0,0,x0,0,0)) eo15 (St.sub_of [9,8,7,6,5,4,0,1] [7,6,4] kr) ?_
  rintro ⟨mo15,y1,y2,y3,y4,y5,y6,y7,y8,y9,y10⟩ H
  have H : zo n mo15 x0 x1 y1 y2 y3 y4 y5 y6 y7 y8 y9 y10 = some o15 := H
  obtain _ | mo15 := mo15
  ·exact nN H
  rw [zo] at H
  refine tS ?_
  refine rA 2 ?_
  refine kF x1 Pt.row ?_
  refine uA 1 984051 208 ?_
  obtain ⟨h1,H⟩ | ⟨h1,H⟩ := bC H
  ·refine nA h1 ?_
   refine Tr.exit ?_
   refine aJ ?_
   obtain rfl := si H
   have H := Ho15
   dsimp only at H
   exact jA (y2,y8,y9,y10) H [8,6,5,4] [6,4]
  refine tA h1 ?_
  refine tK ?_
  refine tS ?_
  refine tB ?_
  refine tS ?_
  refine rA 2 ?_
  obtain ⟨v16,ev16,H⟩ := bs H
  refine iA Pt.row ev16 ?_
  refine lA 4 ?_
  refine sL 533660659 208 ⟨78,0,[sB 28 (!v16.Up),sB 27 (!v16.Up),sB 26 v16.Up,(25,.fad ((Pt.row v16))),(24,.fad ((Pt.row v16))),sI 23 y1,sC 22 (cF 8 x1 Pt.row),sB 19 (decide (y1 < (x1.length : Int))),sI 18 (x1.length : Int),sC 17 (cF 8 x1 Pt.row),sI 16 y1,sI 9 y1,sI 8 y2,sA 7 7 5 0,sA 6 6 5 0,sI 5 0,sA 4 4 5 0,sI 0 x0,sC 1 (cF 8 x1 Pt.row)],[(7,[cI y3,cI y4,cI y5,cI y6,cI y7]),(6,[cI y8,cI y9,cI y10,cI x0,cI 0]),(4,[cI 0,cI 0,cI 0,cI 0,cI 0])]⟩ ?_
  cases h2 : (!v16.Up)
  ·have H := zI h2 H
   refine lA 2 ?_
   obtain ⟨v17,ev17,H⟩ := bs H
   refine iA Pt.row ev17 ?_
   refine uA 4 68716266483 208 ?_
   obtain ⟨h3,H⟩ | ⟨h3,H⟩ := bC H
   ·refine nA h3 ?_
    refine tK ?_
    obtain ⟨v18,ev18,H⟩ := bs H
    obtain ⟨v19,ev19,H⟩ := bs H
    obtain ⟨r20,er20,H⟩ := bs H
    refine Tr.draws mixed 17 kr ⟨78,0,[sB 11 r20.2,sA 10 10 5 0,sB 49 r20.2,(36,.tup [(true,[.dead,.dead,.dead,.dead,.dead]),(false,[.dead])]),sV 48 (Vec.row r20.1),sI 46 v19.Co,(45,.fad (((Pt.row v19).drop 1))),(44,.fad ((Pt.row v19))),sI 43 y1,sC 42 (cF 8 x1 Pt.row),sV 41 ((Pt.row v18).drop 3),(40,.fad (((Pt.row v18).drop 3))),(39,.fad ((Pt.row v18))),sI 38 y1,sC 37 (cF 8 x1 Pt.row),sB 35 (!v17.Has),sB 34 (!v17.Has),sB 33 v17.Has,(32,.fad (((Pt.row v17).drop 2))),(31,.fad ((Pt.row v17))),sI 30 y1,sC 29 (cF 8 x1 Pt.row),sB 28 false,sB 27 false,sB 26 v16.Up,(25,.fad ((Pt.row v16))),(24,.fad ((Pt.row v16))),sI 23 y1,sC 22 (cF 8 x1 Pt.row),sB 19 (decide (y1 < (x1.length : Int))),sI 18 (x1.length : Int),sC 17 (cF 8 x1 Pt.row),sI 16 y1,sI 9 y1,sI 8 y2,sA 7 7 5 0,sA 6 6 5 0,sI 5 0,sA 4 4 5 0,sI 0 x0,sC 1 (cF 8 x1 Pt.row)],[(10,(Vec.row r20.1)),(7,[cI y3,cI y4,cI y5,cI y6,cI y7]),(6,[cI y8,cI y9,cI y10,cI x0,cI 0]),(4,[cI 0,cI 0,cI 0,cI 0,cI 0])]⟩ (fun cx => ?_) ?_
    ·refine mA ZG [(0,[]),(1,[])] 15 [] fun cx => ?_
     refine iN ZG 2 Pt.row ev18 fun cx => ?_
     refine mA ZG [(3,[]),(4,[]),(5,[]),(6,[])] 10 [] fun cx => ?_
     refine iN ZG 7 Pt.row ev19 fun cx => ?_
     refine mA ZG [(8,[]),(9,[])] 7 [] fun cx => ?_
     refine mB2 tOk ZG 10 14 kr (And.intro kr ?_) (And.intro kr ?_)
     ·refine vA [.rd,.rd] (zCM n v18.Hd v19.Co r20 er20) ?_
      refine fA ?_
      refine AT.movT tOk 11 (ty := 198) (t := 47) (d := 36) (g := none) [(true,(Vec.row r20.1)),(false,[cB r20.2])] _ kr (oM ZG kr) (dM ZG kr) (.inl rfl) kr kr kr kr rfl (fun cx => ?_)
      refine mA ZG [(12,[]),(13,[])] 3 [] fun cx => ?_
      refine mC ZG 14 ?_
      refine lA 1 ?_
      refine fA ?_
      refine mC ZG 15 ?_
      refine lA 1 ?_
      refine fA ?_
      refine mA ZG [(16,[])] 0 [] fun cx => ?_
      exact mE ZG [11,10,49,36,48,46,45,44,43,42,41,40,39,38,37,35,34,33,32,31,30,29,28,27,26,25,24,23,22,19,18,17,16,9,8,7,6,5,4,0,1] [10,7,6,4]
     ·refine lA 1 ?_
      refine fA ?_
      refine mC ZG 10 ?_
      refine vA [.rd,.rd] (zCM n v18.Hd v19.Co r20 er20) ?_
      refine fA ?_
      refine AT.movT tOk 11 (ty := 198) (t := 47) (d := 36) (g := none) [(true,(Vec.row r20.1)),(false,[cB r20.2])] _ kr (oM ZG kr) (dM ZG kr) (.inl rfl) kr kr kr kr rfl (fun cx => ?_)
      refine mA ZG [(12,[]),(13,[])] 2 [] fun cx => ?_
      refine mC ZG 15 ?_
      refine lA 1 ?_
      refine fA ?_
      refine mA ZG [(16,[])] 0 [] fun cx => ?_
      exact mE ZG [11,10,49,36,48,46,45,44,43,42,41,40,39,38,37,35,34,33,32,31,30,29,28,27,26,25,24,23,22,19,18,17,16,9,8,7,6,5,4,0,1] [10,7,6,4]
    refine tS ?_
    refine Tr.mid (ι := Bool × Bool × Bool × Bool × Bool × Bool × Bool) (fun v => ⟨78,0,[sB 65 v.1,sB 57 v.2.1,sB 56 v.2.2.1,sB 51 v.2.2.2.1,sB 50 v.2.2.2.2.1,sB 11 v.2.2.2.2.2.1,sA 10 10 5 0,sB 49 v.2.2.2.2.2.2,(36,.tup [(true,[.dead,.dead,.dead,.dead,.dead]),(false,[.dead])]),sV 48 (Vec.row r20.1),sI 46 v19.Co,(45,.fad (((Pt.row v19).drop 1))),(44,.fad ((Pt.row v19))),sI 43 y1,sC 42 (cF 8 x1 Pt.row),sV 41 ((Pt.row v18).drop 3),(40,.fad (((Pt.row v18).drop 3))),(39,.fad ((Pt.row v18))),sI 38 y1,sC 37 (cF 8 x1 Pt.row),sB 35 false,sB 34 false,sB 33 v17.Has,(32,.fad (((Pt.row v17).drop 2))),(31,.fad ((Pt.row v17))),sI 30 y1,sC 29 (cF 8 x1 Pt.row),sB 28 false,sB 27 false,sB 26 v16.Up,(25,.fad ((Pt.row v16))),(24,.fad ((Pt.row v16))),sI 23 y1,sC 22 (cF 8 x1 Pt.row),sB 19 true,sI 18 (x1.length : Int),sC 17 (cF 8 x1 Pt.row),sI 16 y1,sI 9 y1,sI 8 y2,sA 7 7 5 0,sA 6 6 5 0,sI 5 0,sA 4 4 5 0,sI 0 x0,sC 1 (cF 8 x1 Pt.row)],[(10,(Vec.row r20.1)),(7,[cI y3,cI y4,cI y5,cI y6,cI y7]),(6,[cI y8,cI y9,cI y10,cI x0,cI 0]),(4,[cI 0,cI 0,cI 0,cI 0,cI 0])]⟩) (fun v => qi n (fun v => zo n mo15 x0 x1 v.1 v.2.1 v.2.2.1 v.2.2.2.1 v.2.2.2.2.1 v.2.2.2.2.2.1 v.2.2.2.2.2.2.1 v.2.2.2.2.2.2.2.1 v.2.2.2.2.2.2.2.2.1 v.2.2.2.2.2.2.2.2.2) r20 y1 y10 y2 y3 y4 y5 y6 y7 y8 y9 v.1 v.2.1 v.2.2.1 v.2.2.2.1 v.2.2.2.2.1 v.2.2.2.2.2.1 v.2.2.2.2.2.2 = some o15) ?_ ?_
    ·refine Tr.at ?_
     refine lA 2 ?_
     refine sL 0xf7fffffcf0ff3 1232 ⟨78,0,[sB 51 r20.2,sB 50 r20.2,sB 11 r20.2,sA 10 10 5 0,sB 49 r20.2,(36,.tup [(true,[.dead,.dead,.dead,.dead,.dead]),(false,[.dead])]),sV 48 (Vec.row r20.1),sI 46 v19.Co,(45,.fad (((Pt.row v19).drop 1))),(44,.fad ((Pt.row v19))),sI 43 y1,sC 42 (cF 8 x1 Pt.row),sV 41 ((Pt.row v18).drop 3),(40,.fad (((Pt.row v18).drop 3))),(39,.fad ((Pt.row v18))),sI 38 y1,sC 37 (cF 8 x1 Pt.row),sB 35 (!v17.Has),sB 34 (!v17.Has),sB 33 v17.Has,(32,.fad (((Pt.row v17).drop 2))),(31,.fad ((Pt.row v17))),sI 30 y1,sC 29 (cF 8 x1 Pt.row),sB 28 false,sB 27 false,sB 26 v16.Up,(25,.fad ((Pt.row v16))),(24,.fad ((Pt.row v16))),sI 23 y1,sC 22 (cF 8 x1 Pt.row),sB 19 (decide (y1 < (x1.length : Int))),sI 18 (x1.length : Int),sC 17 (cF 8 x1 Pt.row),sI 16 y1,sI 9 y1,sI 8 y2,sA 7 7 5 0,sA 6 6 5 0,sI 5 0,sA 4 4 5 0,sI 0 x0,sC 1 (cF 8 x1 Pt.row)],[(10,(Vec.row r20.1)),(7,[cI y3,cI y4,cI y5,cI y6,cI y7]),(6,[cI y8,cI y9,cI y10,cI x0,cI 0]),(4,[cI 0,cI 0,cI 0,cI 0,cI 0])]⟩ ?_
     cases h5 : r20.2
     ·have H := zI h5 H
      refine uA 14 0x3ffff7fffffcf0ff3 1232 ?_
      refine sB' 0x3ffff7fffffcf0ff3 1232 ⟨78,0,[sB 65 false,(64,.tup []),(63,.tup []),(62,.tup []),(61,.tup []),(60,.tup []),(59,.tup []),(58,.tup []),sB 57 false,sB 56 false,(55,.tup []),(54,.tup []),(53,.tup []),(52,.tup []),sB 51 false,sB 50 false,sB 11 false,sA 10 10 5 0,sB 49 false,(36,.tup [(true,[.dead,.dead,.dead,.dead,.dead]),(false,[.dead])]),sV 48 (Vec.row r20.1),sI 46 v19.Co,(45,.fad (((Pt.row v19).drop 1))),(44,.fad ((Pt.row v19))),sI 43 y1,sC 42 (cF 8 x1 Pt.row),sV 41 ((Pt.row v18).drop 3),(40,.fad (((Pt.row v18).drop 3))),(39,.fad ((Pt.row v18))),sI 38 y1,sC 37 (cF 8 x1 Pt.row),sB 35 (!v17.Has),sB 34 (!v17.Has),sB 33 v17.Has,(32,.fad (((Pt.row v17).drop 2))),(31,.fad ((Pt.row v17))),sI 30 y1,sC 29 (cF 8 x1 Pt.row),sB 28 false,sB 27 false,sB 26 v16.Up,(25,.fad ((Pt.row v16))),(24,.fad ((Pt.row v16))),sI 23 y1,sC 22 (cF 8 x1 Pt.row),sB 19 (decide (y1 < (x1.length : Int))),sI 18 (x1.length : Int),sC 17 (cF 8 x1 Pt.row),sI 16 y1,sI 9 y1,sI 8 y2,sA 7 7 5 0,sA 6 6 5 0,sI 5 0,sA 4 4 5 0,sI 0 x0,sC 1 (cF 8 x1 Pt.row)],[(10,(Vec.row r20.1)),(7,[cI y3,cI y4,cI y5,cI y6,cI y7]),(6,[cI y8,cI y9,cI y10,cI x0,cI 0]),(4,[cI 0,cI 0,cI 0,cI 0,cI 0])]⟩ ?_
      rw [h1]
      rw [h3]
      exact jA (false,false,false,false,false,false,false) H [65,57,56,51,50,11,10,49,36,48,46,45,44,43,42,41,40,39,38,37,35,34,33,32,31,30,29,28,27,26,25,24,23,22,19,18,17,16,9,8,7,6,5,4,0,1] [10,7,6,4]
     have H := zJ h5 H
     refine lA 6 ?_
     refine sL 0x3ff7fffffcf0ff3 1232 ⟨78,0,[sB 57 (decide (r20.1.Root < x0)),sB 56 (decide (r20.1.Root < x0)),sB 55 (decide (r20.1.Root < x0)),sI 54 x0,sI 53 r20.1.Root,sA 52 10 5 0,sB 51 true,sB 50 true,sB 11 true,sA 10 10 5 0,sB 49 true,(36,.tup [(true,[.dead,.dead,.dead,.dead,.dead]),(false,[.dead])]),sV 48 (Vec.row r20.1),sI 46 v19.Co,(45,.fad (((Pt.row v19).drop 1))),(44,.fad ((Pt.row v19))),sI 43 y1,sC 42 (cF 8 x1 Pt.row),sV 41 ((Pt.row v18).drop 3),(40,.fad (((Pt.row v18).drop 3))),(39,.fad ((Pt.row v18))),sI 38 y1,sC 37 (cF 8 x1 Pt.row),sB 35 (!v17.Has),sB 34 (!v17.Has),sB 33 v17.Has,(32,.fad (((Pt.row v17).drop 2))),(31,.fad ((Pt.row v17))),sI 30 y1,sC 29 (cF 8 x1 Pt.row),sB 28 false,sB 27 false,sB 26 v16.Up,(25,.fad ((Pt.row v16))),(24,.fad ((Pt.row v16))),sI 23 y1,sC 22 (cF 8 x1 Pt.row),sB 19 (decide (y1 < (x1.length : Int))),sI 18 (x1.length : Int),sC 17 (cF 8 x1 Pt.row),sI 16 y1,sI 9 y1,sI 8 y2,sA 7 7 5 0,sA 6 6 5 0,sI 5 0,sA 4 4 5 0,sI 0 x0,sC 1 (cF 8 x1 Pt.row)],[(10,(Vec.row r20.1)),(7,[cI y3,cI y4,cI y5,cI y6,cI y7]),(6,[cI y8,cI y9,cI y10,cI x0,cI 0]),(4,[cI 0,cI 0,cI 0,cI 0,cI 0])]⟩ ?_
     cases h6 : (decide (r20.1.Root < x0))
     ·have H := zI h6 H
      refine uA 8 0x3ffff7fffffcf0ff3 1232 ?_
      refine sB' 0x3ffff7fffffcf0ff3 1232 ⟨78,0,[sB 65 false,(64,.tup []),(63,.tup []),(62,.tup []),(61,.tup []),(60,.tup []),(59,.tup []),(58,.tup []),sB 57 false,sB 56 false,sB 55 false,sI 54 x0,sI 53 r20.1.Root,sA 52 10 5 0,sB 51 true,sB 50 true,sB 11 true,sA 10 10 5 0,sB 49 true,(36,.tup [(true,[.dead,.dead,.dead,.dead,.dead]),(false,[.dead])]),sV 48 (Vec.row r20.1),sI 46 v19.Co,(45,.fad (((Pt.row v19).drop 1))),(44,.fad ((Pt.row v19))),sI 43 y1,sC 42 (cF 8 x1 Pt.row),sV 41 ((Pt.row v18).drop 3),(40,.fad (((Pt.row v18).drop 3))),(39,.fad ((Pt.row v18))),sI 38 y1,sC 37 (cF 8 x1 Pt.row),sB 35 (!v17.Has),sB 34 (!v17.Has),sB 33 v17.Has,(32,.fad (((Pt.row v17).drop 2))),(31,.fad ((Pt.row v17))),sI 30 y1,sC 29 (cF 8 x1 Pt.row),sB 28 false,sB 27 false,sB 26 v16.Up,(25,.fad ((Pt.row v16))),(24,.fad ((Pt.row v16))),sI 23 y1,sC 22 (cF 8 x1 Pt.row),sB 19 (decide (y1 < (x1.length : Int))),sI 18 (x1.length : Int),sC 17 (cF 8 x1 Pt.row),sI 16 y1,sI 9 y1,sI 8 y2,sA 7 7 5 0,sA 6 6 5 0,sI 5 0,sA 4 4 5 0,sI 0 x0,sC 1 (cF 8 x1 Pt.row)],[(10,(Vec.row r20.1)),(7,[cI y3,cI y4,cI y5,cI y6,cI y7]),(6,[cI y8,cI y9,cI y10,cI x0,cI 0]),(4,[cI 0,cI 0,cI 0,cI 0,cI 0])]⟩ ?_
      rw [h1]
      rw [h3]
      exact jA (false,false,false,true,true,true,true) H [65,57,56,51,50,11,10,49,36,48,46,45,44,43,42,41,40,39,38,37,35,34,33,32,31,30,29,28,27,26,25,24,23,22,19,18,17,16,9,8,7,6,5,4,0,1] [10,7,6,4]
     have H := zJ h6 H
     refine lA 3 ?_
     refine sL 0x1fff7fffffcf0ff3 1232 ⟨78,0,[sB 60 (decide (y2 < 0)),sB 59 (decide (y2 < 0)),sI 58 y2,sB 57 true,sB 56 true,sB 55 true,sI 54 x0,sI 53 r20.1.Root,sA 52 10 5 0,sB 51 true,sB 50 true,sB 11 true,sA 10 10 5 0,sB 49 true,(36,.tup [(true,[.dead,.dead,.dead,.dead,.dead]),(false,[.dead])]),sV 48 (Vec.row r20.1),sI 46 v19.Co,(45,.fad (((Pt.row v19).drop 1))),(44,.fad ((Pt.row v19))),sI 43 y1,sC 42 (cF 8 x1 Pt.row),sV 41 ((Pt.row v18).drop 3),(40,.fad (((Pt.row v18).drop 3))),(39,.fad ((Pt.row v18))),sI 38 y1,sC 37 (cF 8 x1 Pt.row),sB 35 (!v17.Has),sB 34 (!v17.Has),sB 33 v17.Has,(32,.fad (((Pt.row v17).drop 2))),(31,.fad ((Pt.row v17))),sI 30 y1,sC 29 (cF 8 x1 Pt.row),sB 28 false,sB 27 false,sB 26 v16.Up,(25,.fad ((Pt.row v16))),(24,.fad ((Pt.row v16))),sI 23 y1,sC 22 (cF 8 x1 Pt.row),sB 19 (decide (y1 < (x1.length : Int))),sI 18 (x1.length : Int),sC 17 (cF 8 x1 Pt.row),sI 16 y1,sI 9 y1,sI 8 y2,sA 7 7 5 0,sA 6 6 5 0,sI 5 0,sA 4 4 5 0,sI 0 x0,sC 1 (cF 8 x1 Pt.row)],[(10,(Vec.row r20.1)),(7,[cI y3,cI y4,cI y5,cI y6,cI y7]),(6,[cI y8,cI y9,cI y10,cI x0,cI 0]),(4,[cI 0,cI 0,cI 0,cI 0,cI 0])]⟩ ?_
     cases h7 : (decide (y2 < 0))
     ·have H := zI h7 H
      refine lA 2 ?_
      obtain ⟨r28,er28,H⟩ := bs H
      refine vA [.rd,.rd] (zCK n r20.1 (⟨y3,y4,y5,y6,y7⟩ : Vec) r28 er28) ?_
      refine uA 2 0x3ffff7fffffcf0ff3 1232 ?_
      refine sB' 0x3ffff7fffffcf0ff3 1232 ⟨78,0,[sB 65 r28,sB 64 r28,sB 63 r28,sV 62 [cI y3,cI y4,cI y5,cI y6,cI y7],sV 61 (Vec.row r20.1),sB 60 false,sB 59 false,sI 58 y2,sB 57 true,sB 56 true,sB 55 true,sI 54 x0,sI 53 r20.1.Root,sA 52 10 5 0,sB 51 true,sB 50 true,sB 11 true,sA 10 10 5 0,sB 49 true,(36,.tup [(true,[.dead,.dead,.dead,.dead,.dead]),(false,[.dead])]),sV 48 (Vec.row r20.1),sI 46 v19.Co,(45,.fad (((Pt.row v19).drop 1))),(44,.fad ((Pt.row v19))),sI 43 y1,sC 42 (cF 8 x1 Pt.row),sV 41 ((Pt.row v18).drop 3),(40,.fad (((Pt.row v18).drop 3))),(39,.fad ((Pt.row v18))),sI 38 y1,sC 37 (cF 8 x1 Pt.row),sB 35 (!v17.Has),sB 34 (!v17.Has),sB 33 v17.Has,(32,.fad (((Pt.row v17).drop 2))),(31,.fad ((Pt.row v17))),sI 30 y1,sC 29 (cF 8 x1 Pt.row),sB 28 false,sB 27 false,sB 26 v16.Up,(25,.fad ((Pt.row v16))),(24,.fad ((Pt.row v16))),sI 23 y1,sC 22 (cF 8 x1 Pt.row),sB 19 (decide (y1 < (x1.length : Int))),sI 18 (x1.length : Int),sC 17 (cF 8 x1 Pt.row),sI 16 y1,sI 9 y1,sI 8 y2,sA 7 7 5 0,sA 6 6 5 0,sI 5 0,sA 4 4 5 0,sI 0 x0,sC 1 (cF 8 x1 Pt.row)],[(10,(Vec.row r20.1)),(7,[cI y3,cI y4,cI y5,cI y6,cI y7]),(6,[cI y8,cI y9,cI y10,cI x0,cI 0]),(4,[cI 0,cI 0,cI 0,cI 0,cI 0])]⟩ ?_
      rw [h1]
      rw [h3]
      exact jA (r28,true,true,true,true,true,true) H [65,57,56,51,50,11,10,49,36,48,46,45,44,43,42,41,40,39,38,37,35,34,33,32,31,30,29,28,27,26,25,24,23,22,19,18,17,16,9,8,7,6,5,4,0,1] [10,7,6,4]
     have H := zJ h7 H
     refine uA 5 0x3ffff7fffffcf0ff3 1232 ?_
     refine sB' 0x3ffff7fffffcf0ff3 1232 ⟨78,0,[sB 65 true,sB 64 true,(63,.tup []),(62,.tup []),(61,.tup []),sB 60 true,sB 59 true,sI 58 y2,sB 57 true,sB 56 true,sB 55 true,sI 54 x0,sI 53 r20.1.Root,sA 52 10 5 0,sB 51 true,sB 50 true,sB 11 true,sA 10 10 5 0,sB 49 true,(36,.tup [(true,[.dead,.dead,.dead,.dead,.dead]),(false,[.dead])]),sV 48 (Vec.row r20.1),sI 46 v19.Co,(45,.fad (((Pt.row v19).drop 1))),(44,.fad ((Pt.row v19))),sI 43 y1,sC 42 (cF 8 x1 Pt.row),sV 41 ((Pt.row v18).drop 3),(40,.fad (((Pt.row v18).drop 3))),(39,.fad ((Pt.row v18))),sI 38 y1,sC 37 (cF 8 x1 Pt.row),sB 35 (!v17.Has),sB 34 (!v17.Has),sB 33 v17.Has,(32,.fad (((Pt.row v17).drop 2))),(31,.fad ((Pt.row v17))),sI 30 y1,sC 29 (cF 8 x1 Pt.row),sB 28 false,sB 27 false,sB 26 v16.Up,(25,.fad ((Pt.row v16))),(24,.fad ((Pt.row v16))),sI 23 y1,sC 22 (cF 8 x1 Pt.row),sB 19 (decide (y1 < (x1.length : Int))),sI 18 (x1.length : Int),sC 17 (cF 8 x1 Pt.row),sI 16 y1,sI 9 y1,sI 8 y2,sA 7 7 5 0,sA 6 6 5 0,sI 5 0,sA 4 4 5 0,sI 0 x0,sC 1 (cF 8 x1 Pt.row)],[(10,(Vec.row r20.1)),(7,[cI y3,cI y4,cI y5,cI y6,cI y7]),(6,[cI y8,cI y9,cI y10,cI x0,cI 0]),(4,[cI 0,cI 0,cI 0,cI 0,cI 0])]⟩ ?_
     rw [h1]
     rw [h3]
     exact jA (true,true,true,true,true,true,true) H [65,57,56,51,50,11,10,49,36,48,46,45,44,43,42,41,40,39,38,37,35,34,33,32,31,30,29,28,27,26,25,24,23,22,19,18,17,16,9,8,7,6,5,4,0,1] [10,7,6,4]
    rintro ⟨y21,y22,y23,y24,y25,y26,y27⟩ H
    have H : (qi n (fun v => zo n mo15 x0 x1 v.1 v.2.1 v.2.2.1 v.2.2.2.1 v.2.2.2.2.1 v.2.2.2.2.2.1 v.2.2.2.2.2.2.1 v.2.2.2.2.2.2.2.1 v.2.2.2.2.2.2.2.2.1 v.2.2.2.2.2.2.2.2.2) r20 y1 y10 y2 y3 y4 y5 y6 y7 y8 y9 y21 y22 y23 y24 y25 y26 y27) = some o15 := H
    unfold qi at H
    cases h4 : y21
    ·have H := zI h4 H
     refine nB_ ?_
     refine tK ?_
     refine eA 3 0x2030f7fffffff0ff3 1232 ?_
     exact jB mo15 ((IntKind.wrap .i64 (y1 + 1)),y2,y3,y4,y5,y6,y7,y8,y9,y10) H [9,8,7,6,5,4,0,1] [7,6,4]
    have H := zJ h4 H
    refine tB_ ?_
    refine gA 2 0x6030f7fffffcf0ff3 1232 ?_
    refine gA 2 0xe030f7fffffcf0ff3 1232 ?_
    refine eA 9 0xffe030f7fffffcf0ff3 1232 ?_
    refine eA 3 0xffe030f7fffffff0ff3 1232 ?_
    exact jB mo15 ((IntKind.wrap .i64 (y1 + 1)),y1,r20.1.Root,r20.1.Co,r20.1.Hops,r20.1.Bridge,r20.1.Port,r20.1.Root,r20.1.Co,r20.1.Hops) H [9,8,7,6,5,4,0,1] [7,6,4]
   refine tA h3 ?_
   refine Tr.exit ?_
   refine aJ ?_
   refine eA 3 68719412211 208 ?_
   exact jB mo15 ((IntKind.wrap .i64 (y1 + 1)),y2,y3,y4,y5,y6,y7,y8,y9,y10) H [9,8,7,6,5,4,0,1] [7,6,4]
  have H := zJ h2 H
  refine uA 7 68716266483 208 ?_
  refine tB_ ?_
  refine Tr.exit ?_
  refine aJ ?_
  refine eA 3 68719412211 208 ?_
  exact jB mo15 ((IntKind.wrap .i64 (y1 + 1)),y2,y3,y4,y5,y6,y7,y8,y9,y10) H [9,8,7,6,5,4,0,1] [7,6,4]
 rintro ⟨y11,y12,y13,y14⟩ H
 have H : (YS n x0 y11 y12 y13 y14) = some r := H
 unfold YS at H
 refine gA 4 48 16 ?_
 exact te (fJ [(true,[cI y12,cI y13,cI y14,cI x0,cI 0]),(false,[cI y11])] H)
def Qt (n : Nat) (x0 : Int) (x1 : (List Pt)) (x2 : Int) : Option (Vec) :=
  ((ZZ n x0 x1).bind fun r1 => (some (⟨r1.1.Root,r1.1.Co,r1.1.Hops,r1.1.Bridge,x2⟩ : Vec)))
theorem zF0 (n : Nat) (x0 : Int) (x1 : (List Pt)) (x2 : Int) (r : Vec) (H : Qt n x0 x1 x2 = some r) : zH Try.prog 198 [.val false [.lit (.int .i64 x0)],.val false [.sl false 8 (CV.frzEs (x1.map Pt.row))],.val false [.lit (.int .i64 x2)]] [.val true (Vec.row r)] [] := by
 refine cW Try.func198 (fun g d => sl [g 0,g 1,g 2,g 3] .ret) [.cell 6 46] fun cx => ?_
 unfold Qt at H
 refine gA 1 71 64 ?_
 refine rA 2 ?_
 obtain ⟨r1,er1,H⟩ := bs H
 refine vA [.rd,.rd] (zCJ n x0 x1 r1 er1) ?_
 refine LAt.movT tOk (ty := 157) (t := 12) (d := 9) (g := none) [(true,(Vec.row r1.1)),(false,[cI r1.2])] _ kr (.inl rfl) kr kr kr kr rfl ?_
 refine uA 5 196 192 ?_
 refine gA 3 192 192 ?_
 refine gA 2 64 64 ?_
 exact te (fJ [(true,[cI r1.1.Root,cI r1.1.Co,cI r1.1.Hops,cI r1.1.Bridge,cI x2])] H)
def QN (n : Nat) (x0 : Int) (x1 : (List Pt)) (x2 : Int) : Option (Int) :=
  ((zT n x2 0 (IntKind.wrap .i64 ((x1.length : Int) - 1))).bind fun r1 => (bif (!r1) then (some 4) else ((idx x1 x2).bind fun v2 => (bif (!v2.Up) then (some 4) else ((ZZ n x0 x1).bind fun r3 => (bif (r3.2 == x2) then (some 1) else ((idx x1 x2).bind fun v4 => (bif (!v4.Has) then (some 2) else ((Qt n x0 x1 x2).bind fun r5 => ((idx x1 x2).bind fun v6 => ((Z4 n r5 v6.Hd).bind fun r7 => (bif r7 then (some 2) else (some 3)))))))))))))
def zIN : Tab := ⟨19,[0,0,3,4,8,16,32,64,64,64,960,64,64,6208,8256,16448,33856,65600,196608],[0,0,3,4,8,16,32,64,64,64,960,64,64,6208,8256,16448,33856,65600,131072],[0,0,3,7,15,31,63,127,127,127,1023,127,127,6271,14463,30847,65535,131071,262143]⟩
theorem QK : zq (rg Try.f184 6) zIN = true := kr
theorem zFz (n : Nat) (x0 : Int) (x1 : (List Pt)) (x2 : Int) (r : Int) (H : QN n x0 x1 x2 = some r) : zH Try.prog 184 [.val false [.lit (.int .i64 x0)],.val false [.sl false 8 (CV.frzEs (x1.map Pt.row))],.val false [.lit (.int .i64 x2)]] [.val false [.lit (.int .i64 r)]] [] := by
 refine cW Try.func184 (fun g d => sl [g 0,sl [g 1] (cn 22 (sl [g 2] .ret) .skip),g 3,.block 0 (sl [g 4] (cn 29 (sl [g 5] .ret) (sl [d 6] (cn 33 (sl [g 7] .ret) .skip)))),g 8] .ret) [.tmp 6] fun cx => ?_
 unfold QN at H
 refine gA 1 7 0 ?_
 refine tS ?_
 refine rA 2 ?_
 refine kF x1 Pt.row ?_
 refine lA 1 ?_
 obtain ⟨r1,er1,H⟩ := bs H
 refine vA [.rd,.rd,.rd] (zS n x2 0 (IntKind.wrap .i64 ((x1.length : Int) - 1)) r1 er1) ?_
 refine lA 2 ?_
 refine sL 32775 0 ⟨52,0,[sB 15 (!r1),sI 0 x0,sC 1 (cF 8 x1 Pt.row),sI 2 x2],[]⟩ ?_
 cases h1 : (!r1)
 ·have H := zI h1 H
  refine lA 2 ?_
  obtain ⟨v2,ev2,H⟩ := bs H
  refine iA Pt.row ev2 ?_
  refine uA 4 4194311 0 ?_
  obtain ⟨h2,H⟩ | ⟨h2,H⟩ := bC H
  ·refine nA h2 ?_
   refine tK ?_
   refine rA 2 ?_
   obtain ⟨r3,er3,H⟩ := bs H
   refine vA [.rd,.rd] (zCJ n x0 x1 r3 er3) ?_
   refine LAt.movT tOk (ty := 157) (t := 26) (d := 23) (g := none) [(true,(Vec.row r3.1)),(false,[cI r3.2])] _ kr (.inl rfl) kr kr kr kr rfl ?_
   refine uA 5 263 0 ?_
   refine tS ?_
   refine tB ?_
   refine gA 4 536870919 0 ?_
   obtain ⟨h3,H⟩ | ⟨h3,H⟩ := bC H
   ·refine nA h3 ?_
    obtain ⟨v4,ev4,H⟩ := bs H
    refine sT ⟨52,0,[sB 29 (r3.2 == x2),sI 0 x0,sC 1 (cF 8 x1 Pt.row),sI 2 x2],[]⟩ ?_
    cases h4 : (!v4.Has)
    ·have H := zI h4 H
     obtain ⟨r5,er5,H⟩ := bs H
     obtain ⟨v6,ev6,H⟩ := bs H
     obtain ⟨r7,er7,H⟩ := bs H
     refine Tr.draws mixed 19 kr ⟨52,0,[sB 33 r7],[]⟩ (fun cx => ?_) ?_
     ·refine mA QK [(0,[]),(1,[])] 17 [] fun cx => ?_
      refine iN QK 2 Pt.row ev4 fun cx => ?_
      refine mA QK [(3,[]),(4,[]),(5,[]),(6,[])] 12 [] fun cx => ?_
      refine sA_ 1099511627783 0 ⟨52,0,[sB 40 (!v4.Has),sI 0 x0,sC 1 (cF 8 x1 Pt.row),sI 2 x2],[]⟩ ?_
      rw [h4]
      refine mA QK [(7,[]),(8,[]),(9,[]),(11,[]),(12,[])] 7 [] fun cx => ?_
      refine iN QK 13 Pt.row ev6 fun cx => ?_
      refine mA QK [(14,[]),(15,[])] 4 [] fun cx => ?_
      refine mC QK 10 ?_
      refine vA [.rd,.rd,.rd] (zF0 n x0 x1 x2 r5 er5) ?_
      refine fA ?_
      refine mC QK 16 ?_
      refine vA [.rd,.rd] (zCK n r5 v6.Hd r7 er7) ?_
      refine fA ?_
      refine mA QK [(17,[]),(18,[])] 0 [] fun cx => ?_
      exact mE QK [33] []
     cases h5 : r7
     ·have H := zI h5 H
      refine nB_ ?_
      refine tK ?_
      refine gA 1 64 0 ?_
      exact te (fJ [(false,[cI 3])] H)
     have H := zJ h5 H
     refine tB_ ?_
     refine gA 1 64 0 ?_
     exact te (fJ [(false,[cI 2])] H)
    have H := zJ h4 H
    refine Tr.draws mixed 19 kr ⟨52,0,[sB 33 true],[]⟩ (fun cx => ?_) ?_
    ·refine mA QK [(0,[]),(1,[])] 17 [] fun cx => ?_
     refine iN QK 2 Pt.row ev4 fun cx => ?_
     refine mA QK [(3,[]),(4,[]),(5,[]),(6,[])] 12 [] fun cx => ?_
     refine sA_ 1099511627783 0 ⟨52,0,[sB 40 (!v4.Has),sI 0 x0,sC 1 (cF 8 x1 Pt.row),sI 2 x2],[]⟩ ?_
     rw [h4]
     refine mA QK [(7,[]),(8,[]),(9,[]),(10,[]),(11,[]),(12,[]),(13,[]),(14,[]),(15,[]),(16,[]),(17,[]),(18,[])] 0 [] fun cx => ?_
     exact mE QK [33] []
    refine tB_ ?_
    refine gA 1 64 0 ?_
    exact te (fJ [(false,[cI 2])] H)
   refine tA h3 ?_
   refine gA 1 64 0 ?_
   exact te (fJ [(false,[cI 1])] H)
  refine tA h2 ?_
  refine gA 1 64 0 ?_
  exact te (fJ [(false,[cI 4])] H)
 have H := zJ h1 H
 refine uA 7 4194311 0 ?_
 refine tB_ ?_
 refine gA 1 64 0 ?_
 exact te (fJ [(false,[cI 4])] H)
def Z7 (n : Nat) (x0 : zE) (x1 : Int) (x2 : Int) : Option (Int) :=
  (bif (x1 == 1) then ((idx x0.Ps x2).bind fun v4 => (bif v4.Up then (some 1) else (some 0))) else (bif (x1 == 2) then ((idx x0.Ps x2).bind fun v3 => (some v3.Co)) else (bif (x1 == 3) then ((QN n x0.Id x0.Ps x2).bind fun r2 => (some r2)) else ((idx x0.V.Pv x2).bind fun v1 => (some v1)))))
theorem zFj (n : Nat) (x0 : zE) (x1 : Int) (x2 : Int) (r : Int) (H : Z7 n x0 x1 x2 = some r) : zH Try.prog 163 [.val true (CV.frzRow (zE.row x0)),.val false [.lit (.int .i64 x1)],.val false [.lit (.int .i64 x2)]] [.val false [.lit (.int .i64 r)]] [] := by
 refine cW Try.func163 (fun g d => sl [g 0,sl [g 1] (.block 0 (sl [g 2] (cn 8 (sl [sl [g 3] (cn 15 (sl [g 4] .ret) .skip),g 5] .ret) (sl [g 6] (cn 16 (sl [g 7] .ret) (sl [g 8] (cn 24 (sl [g 9] .ret) .skip))))))),g 10] .ret) [.tmp 6] fun cx => ?_
 unfold Z7 at H
 refine gA 2 14 8 ?_
 refine tS ?_
 refine gA 1 140 8 ?_
 refine tB ?_
 refine gA 2 396 8 ?_
 obtain ⟨h1,H⟩ | ⟨h1,H⟩ := bC H
 ·refine nA h1 ?_
  refine gA 2 65676 8 ?_
  obtain ⟨h2,H⟩ | ⟨h2,H⟩ := bC H
  ·refine nA h2 ?_
   refine gA 2 16777228 8 ?_
   obtain ⟨h3,H⟩ | ⟨h3,H⟩ := bC H
   ·refine nA h3 ?_
    refine tK ?_
    refine rA 4 ?_
    obtain ⟨v1,ev1,H⟩ := bs H
    refine iA intRow ev1 ?_
    refine uA 2 64 0 ?_
    exact te (fJ [(false,[cI v1])] H)
   refine tA h3 ?_
   refine rA 5 ?_
   obtain ⟨r2,er2,H⟩ := bs H
   refine vA [.rd,.rd,.rd] (zFz n x0.Id x0.Ps x2 r2 er2) ?_
   refine uA 1 64 0 ?_
   exact te (fJ [(false,[cI r2])] H)
  refine tA h2 ?_
  refine rA 3 ?_
  obtain ⟨v3,ev3,H⟩ := bs H
  refine iA Pt.row ev3 ?_
  refine uA 3 64 0 ?_
  exact te (fJ [(false,[cI v3.Co])] H)
 refine tA h1 ?_
 refine tS ?_
 refine rA 3 ?_
 obtain ⟨v4,ev4,H⟩ := bs H
 refine iA Pt.row ev4 ?_
 refine uA 2 32768 0 ?_
 obtain ⟨h4,H⟩ | ⟨h4,H⟩ := bC H
 ·refine nA h4 ?_
  refine tK ?_
  refine gA 1 64 0 ?_
  exact te (fJ [(false,[cI 0])] H)
 refine tA h4 ?_
 refine gA 1 64 0 ?_
 exact te (fJ [(false,[cI 1])] H)
def Ji (n : Nat) (x0 : zA) (x1 : Int) : Option (Int) :=
  (bif (x1 == 1) then (some 1) else (bif (x1 == 2) then (some x0.Members) else (some x0.Bare)))
theorem zCw (n : Nat) (x0 : zA) (x1 : Int) (r : Int) (H : Ji n x0 x1 = some r) : zH Try.prog 164 [.val true (CV.frzRow (zA.row x0)),.val false [.lit (.int .i64 x1)]] [.val false [.lit (.int .i64 r)]] [] := by
 refine cW Try.func164 (fun g d => sl [g 0,sl [g 1] (.block 0 (sl [g 2] (cn 6 (sl [g 3] .ret) (sl [g 4] (cn 8 (sl [g 5] .ret) .skip))))),g 6] .ret) [.tmp 4] fun cx => ?_
 unfold Ji at H
 refine gA 2 6 4 ?_
 refine tS ?_
 refine gA 1 36 4 ?_
 refine tB ?_
 refine gA 2 100 4 ?_
 obtain ⟨h1,H⟩ | ⟨h1,H⟩ := bC H
 ·refine nA h1 ?_
  refine gA 2 260 4 ?_
  obtain ⟨h2,H⟩ | ⟨h2,H⟩ := bC H
  ·refine nA h2 ?_
   refine tK ?_
   refine gA 3 16 0 ?_
   exact te (fJ [(false,[cI x0.Bare])] H)
  refine tA h2 ?_
  refine gA 3 16 0 ?_
  exact te (fJ [(false,[cI x0.Members])] H)
 refine tA h1 ?_
 refine gA 1 16 0 ?_
 exact te (fJ [(false,[cI 1])] H)
def YT (n : Nat) (y15 : (List zC)) : Option ((List zC)) :=
  (some y15)
def qj (n : Nat) : Nat → zE → Int → (List zC) → Option (((List zC)) ⊕ ((List zC)))
  | 0,_,_,_ => none
  | mo16 + 1,x0,y13,y14 => (bif (decide (y13 < (x0.F.length : Int))) then ((idx x0.F y13).bind fun v17 => ((idx x0.F y13).bind fun v18 => ((idx x0.F y13).bind fun v19 => ((qn n y14 [4,1,v17.Tag,v18.Mac] (IntKind.wrap .i64 (v19.Port + 1))).bind fun r20 => (qj n mo16 x0 (IntKind.wrap .i64 (y13 + 1)) r20))))) else (some (Sum.inl y14)))
def Zx (n : Nat) (x0 : zE) (y12 : (List zC)) : Option ((List zC)) :=
  ((qj n n x0 0 y12).bind fun o => match o with | .inl y15 => (YT n y15) | .inr r => some r)
def Qg (n : Nat) (k : (Int × (List zC) → Option (((List zC)) ⊕ ((List zC))))) (y10 : Int) (y24 : (List zC)) : Option (((List zC)) ⊕ ((List zC))) :=
  (k ((IntKind.wrap .i64 (y10 + 1)),y24))
def q3 (n : Nat) : Nat → zE → Int → Int → (List zC) → Option (((List zC)) ⊕ ((List zC)))
  | 0,_,_,_,_ => none
  | mo25 + 1,x0,y10,y22,y23 => (bif (decide (y22 < (x0.V.Rows.length : Int))) then ((idx x0.V.Rows y22).bind fun v26 => ((idx x0.V.Rows y22).bind fun v27 => ((Ji n v27 y10).bind fun r28 => ((qn n y23 [3,y10,v26.Id] r28).bind fun r29 => (q3 n mo25 x0 y10 (IntKind.wrap .i64 (y22 + 1)) r29))))) else (some (Sum.inl y23)))
def qL (n : Nat) : Nat → zE → Int → (List zC) → Option (((List zC)) ⊕ ((List zC)))
  | 0,_,_,_ => none
  | mo21 + 1,x0,y10,y11 => (bif (decide (y10 ≤ 3)) then ((q3 n n x0 y10 0 y11).bind fun o => match o with | .inl y24 => (Qg n (fun v => qL n mo21 x0 v.1 v.2) y10 y24) | .inr r => some (Sum.inr r)) else (some (Sum.inl y11)))
def Zw (n : Nat) (x0 : zE) (y9 : (List zC)) : Option ((List zC)) :=
  ((qL n n x0 1 y9).bind fun o => match o with | .inl y12 => (Zx n x0 y12) | .inr r => some r)
def Qh (n : Nat) (k : (Int × (List zC) → Option (((List zC)) ⊕ ((List zC))))) (y7 : Int) (y33 : (List zC)) : Option (((List zC)) ⊕ ((List zC))) :=
  (k ((IntKind.wrap .i64 (y7 + 1)),y33))
def qm (n : Nat) : Nat → zE → Int → Int → (List zC) → Option (((List zC)) ⊕ ((List zC)))
  | 0,_,_,_,_ => none
  | mo34 + 1,x0,y7,y31,y32 => (bif (decide (y31 < (x0.Ps.length : Int))) then ((Z7 n x0 y7 y31).bind fun r35 => ((qn n y32 [2,y7,(IntKind.wrap .i64 (y31 + 1))] r35).bind fun r36 => (qm n mo34 x0 y7 (IntKind.wrap .i64 (y31 + 1)) r36))) else (some (Sum.inl y32)))
def qM (n : Nat) : Nat → zE → Int → (List zC) → Option (((List zC)) ⊕ ((List zC)))
  | 0,_,_,_ => none
  | mo30 + 1,x0,y7,y8 => (bif (decide (y7 ≤ 4)) then ((qm n n x0 y7 0 y8).bind fun o => match o with | .inl y33 => (Qh n (fun v => qM n mo30 x0 v.1 v.2) y7 y33) | .inr r => some (Sum.inr r)) else (some (Sum.inl y8)))
def Z5 (n : Nat) (x0 : zE) : Option ((List zC)) :=
  ((qQ n x0).bind fun r1 => (bif (!r1) then (some ([] : List zC)) else ((zx n [1,1]).bind fun r2 => ((qn n [(⟨r2,(⟨4,0,x0.Name,([] : List Int)⟩ : Val)⟩ : zC)] [1,2] x0.Tk).bind fun r3 => ((qn n r3 [1,3] x0.Pa).bind fun r4 => ((qn n r4 [1,4] x0.Wo).bind fun r5 => ((qn n r5 [1,5] x0.Dr).bind fun r6 => ((qM n n x0 1 r6).bind fun o => match o with | .inl y9 => (Zw n x0 y9) | .inr r => some r))))))))
def zHr : Tab := ⟨20,[0,0,0,4,8,0,48,64,128,258,0,1024,2048,0,12288,16384,0,98304,131585,524287],[0,0,0,4,8,0,48,64,128,258,0,1024,2048,0,12288,16384,0,98304,131585,262145],[0,0,0,4,12,0,60,124,252,510,0,1024,3072,0,15360,31744,0,130048,262143,524287]⟩
theorem Zt : zq (rg Try.f118 21) zHr = true := kr
def zHs : Tab := ⟨23,[0,0,2,0,12,16,32,0,128,0,768,1024,2048,4160,0,16384,0,98304,131072,262144,524288,1056769,4194303],[0,0,2,0,12,16,32,0,128,0,768,1024,2048,4160,0,16384,0,98304,131072,262144,524288,1056769,2097153],[0,0,2,0,14,30,62,0,128,0,896,1920,3968,8190,0,16384,0,114688,245760,507904,1032192,2097151,4194303]⟩
theorem Qm : zq (rg Try.f118 25) zHs = true := kr
theorem zFf (n : Nat) (x0 : zE) (r : (List zC)) (H : Z5 n x0 = some r) : zH Try.prog 118 [.val true (CV.frzRow (zE.row x0))] [.val false [.sl true 5 (r.map zC.row)]] [] := by
 refine cW Try.func118 (fun g d => sl [g 0,sl [g 1] (cn 11 (sl [g 2] .ret) .skip),d 3,g 4,g 5,g 6,g 7,sl [g 8] (.block 0 (.loop (sl [sl [g 9] (cn 41 .skip (.exit 0)),.block 1 (sl [g 11] (.block 2 (.loop (sl [sl [g 12] (cn 48 .skip (.exit 2)),.block 3 (g 14)] (g 13)))))] (g 10)))),sl [g 15] (.block 4 (.loop (sl [sl [g 16] (cn 62 .skip (.exit 4)),.block 5 (sl [g 18] (.block 6 (.loop (sl [sl [g 19] (cn 70 .skip (.exit 6)),.block 7 (d 21)] (g 20)))))] (g 17)))),sl [g 22] (.block 8 (.loop (sl [sl [g 23] (cn 96 .skip (.exit 8)),.block 9 (d 25)] (g 24)))),g 26] .ret) [.tmp 2] fun cx => ?_
 unfold Z5 at H
 refine gA 2 2 2 ?_
 refine tS ?_
 refine rA 1 ?_
 obtain ⟨r1,er1,H⟩ := bs H
 refine vA [.rd] (zEy n x0 r1 er1) ?_
 refine uA 1 2050 2 ?_
 obtain ⟨h1,H⟩ | ⟨h1,H⟩ := bC H
 ·refine nA h1 ?_
  refine tK ?_
  obtain ⟨r2,er2,H⟩ := bs H
  refine Tr.draws mixed 8 kr ⟨122,0,[sC 3 (cL 5 [(⟨r2,(⟨4,0,x0.Name,([] : List Int)⟩ : Val)⟩ : zC)] zC.row),sA 1 1 11 0],[(1,(CV.frzRow (zE.row x0)))]⟩ (fun cx => ?_) ?_
  ·refine aA [(2,[]),(3,[4,5,6])] 6 [⟨[4,5,6],9,15,16⟩] fun cx => ?_
   refine AT.big2 tOk 0 4 kr (And.intro kr ?_) (And.intro kr ?_)
   ·refine lA 1 ?_
    refine fA ?_
    refine AT.big2 tOk 1 4 kr (And.intro kr ?_) (And.intro kr ?_)
    ·refine vA [.rd] (ZV n [1,1] r2 er2) ?_
     refine fA ?_
     refine bA 4 ?_
     refine lA 1 ?_
     refine fA ?_
     refine bA 5 ?_
     refine lA 1 ?_
     refine fA ?_
     refine bA 6 ?_
     refine lA 1 ?_
     refine fA ?_
     refine bA 7 ?_
     refine LAt.moveU (T := lk tab) (ty := 27) (x := (.tmp 19)) (d := 3) (g := none) false [cL 5 [(⟨r2,(⟨4,0,x0.Name,([] : List Int)⟩ : Val)⟩ : zC)] zC.row] kr kr kr kr kr ?_
     refine fA ?_
     exact eE [3,1] [1]
    ·refine lA 1 ?_
     refine fA ?_
     refine bA 1 ?_
     refine vA [.rd] (ZV n [1,1] r2 er2) ?_
     refine fA ?_
     refine bA 5 ?_
     refine lA 1 ?_
     refine fA ?_
     refine bA 6 ?_
     refine lA 1 ?_
     refine fA ?_
     refine bA 7 ?_
     refine LAt.moveU (T := lk tab) (ty := 27) (x := (.tmp 19)) (d := 3) (g := none) false [cL 5 [(⟨r2,(⟨4,0,x0.Name,([] : List Int)⟩ : Val)⟩ : zC)] zC.row] kr kr kr kr kr ?_
     refine fA ?_
     exact eE [3,1] [1]
   ·refine lA 1 ?_
    refine fA ?_
    refine bA 0 ?_
    refine lA 1 ?_
    refine fA ?_
    refine bA 1 ?_
    refine vA [.rd] (ZV n [1,1] r2 er2) ?_
    refine fA ?_
    refine bA 5 ?_
    refine lA 1 ?_
    refine fA ?_
    refine bA 6 ?_
    refine lA 1 ?_
    refine fA ?_
    refine bA 7 ?_
    refine LAt.moveU (T := lk tab) (ty := 27) (x := (.tmp 19)) (d := 3) (g := none) false [cL 5 [(⟨r2,(⟨4,0,x0.Name,([] : List Int)⟩ : Val)⟩ : zC)] zC.row] kr kr kr kr kr ?_
    refine fA ?_
    exact eE [3,1] [1]
  refine rA 4 ?_
  obtain ⟨r3,er3,H⟩ := bs H
  refine vA [.own,.rd,.rd] (QF n [(⟨r2,(⟨4,0,x0.Name,([] : List Int)⟩ : Val)⟩ : zC)] [1,2] x0.Tk r3 er3) ?_
  refine LAt.moveU (T := lk tab) (ty := 27) (x := (.tmp 24)) (d := 3) (g := none) false [cL 5 r3 zC.row] kr kr kr kr kr ?_
  refine dA 10 2 ?_
  refine rA 4 ?_
  obtain ⟨r4,er4,H⟩ := bs H
  refine vA [.own,.rd,.rd] (QF n r3 [1,3] x0.Pa r4 er4) ?_
  refine LAt.moveU (T := lk tab) (ty := 27) (x := (.tmp 29)) (d := 3) (g := none) false [cL 5 r4 zC.row] kr kr kr kr kr ?_
  refine dA 10 2 ?_
  refine rA 4 ?_
  obtain ⟨r5,er5,H⟩ := bs H
  refine vA [.own,.rd,.rd] (QF n r4 [1,4] x0.Wo r5 er5) ?_
  refine LAt.moveU (T := lk tab) (ty := 27) (x := (.tmp 34)) (d := 3) (g := none) false [cL 5 r5 zC.row] kr kr kr kr kr ?_
  refine dA 10 2 ?_
  refine rA 4 ?_
  obtain ⟨r6,er6,H⟩ := bs H
  refine vA [.own,.rd,.rd] (QF n r5 [1,5] x0.Dr r6 er6) ?_
  refine LAt.moveU (T := lk tab) (ty := 27) (x := (.tmp 39)) (d := 3) (g := none) false [cL 5 r6 zC.row] kr kr kr kr kr ?_
  refine dA 10 2 ?_
  refine tS ?_
  refine gA 1 26 2 ?_
  obtain ⟨o30,eo30,Ho30⟩ := bs H
  clear H
  refine Tr.mid (ι := (List zC)) (fun v => ⟨122,0,[sC 3 (cL 5 v zC.row),sA 1 1 11 0],[(1,(CV.frzRow (zE.row x0)))]⟩) (fun v => Zw n x0 v = some r) ?_ ?_
  ·refine tB ?_
   refine Tr.loop (ι := Nat × (Int × (List zC))) (fun v => ⟨122,0,[sI 4 v.2.1,sC 3 (cL 5 v.2.2 zC.row),sA 1 1 11 0],[(1,(CV.frzRow (zE.row x0)))]⟩) (fun v => qM n v.1 x0 v.2.1 v.2.2 = some o30) (fun v => v.1) (n,(1,r6)) eo30 (St.sub_of [4,3,1] [1] kr) ?_
   rintro ⟨mo30,y7,y8⟩ H
   have H : qM n mo30 x0 y7 y8 = some o30 := H
   obtain _ | mo30 := mo30
   ·exact nN H
   rw [qM] at H
   refine tS ?_
   refine gA 2 2199023255578 2 ?_
   obtain ⟨h5,H⟩ | ⟨h5,H⟩ := bC H
   ·refine nA h5 ?_
    refine Tr.exit ?_
    refine aJ ?_
    obtain rfl := si H
    have H := Ho30
    dsimp only at H
    exact jA y8 H [3,1] [1]
   refine tA h5 ?_
   refine tK ?_
   refine tS ?_
   refine tB ?_
   refine gA 1 58 2 ?_
   obtain ⟨o34,eo34,Ho34⟩ := bs H
   clear H
   refine Tr.mid (ι := (List zC)) (fun v => ⟨122,0,[sI 4 y7,sC 3 (cL 5 v zC.row),sA 1 1 11 0],[(1,(CV.frzRow (zE.row x0)))]⟩) (fun v => Qh n (fun v => qM n mo30 x0 v.1 v.2) y7 v = some o30) ?_ ?_
   ·refine tB ?_
    refine Tr.loop (ι := Nat × (Int × (List zC))) (fun v => ⟨122,0,[sI 5 v.2.1,sI 4 y7,sC 3 (cL 5 v.2.2 zC.row),sA 1 1 11 0],[(1,(CV.frzRow (zE.row x0)))]⟩) (fun v => qm n v.1 x0 y7 v.2.1 v.2.2 = some o34) (fun v => v.1) (n,(0,y8)) eo34 (St.sub_of [5,4,3,1] [1] kr) ?_
    rintro ⟨mo34,y31,y32⟩ H
    have H : qm n mo34 x0 y7 y31 y32 = some o34 := H
    obtain _ | mo34 := mo34
    ·exact nN H
    rw [qm] at H
    refine tS ?_
    refine rA 3 ?_
    refine kF x0.Ps Pt.row ?_
    refine uA 1 281474976710714 2 ?_
    obtain ⟨h6,H⟩ | ⟨h6,H⟩ := bC H
    ·refine nA h6 ?_
     refine Tr.exit ?_
     refine aJ ?_
     obtain rfl := si H
     have H := Ho34
     dsimp only at H
     exact jA y32 H [4,3,1] [1]
    refine tA h6 ?_
    refine tK ?_
    refine tS ?_
    refine tB ?_
    refine Tr.at ?_
    refine lA 8 ?_
    obtain ⟨r35,er35,H⟩ := bs H
    refine vA [.rd,.rd,.rd] (zFj n x0 y7 y31 r35 er35) ?_
    obtain ⟨r36,er36,H⟩ := bs H
    refine vA [.own,.rd,.rd] (QF n y32 [2,y7,(IntKind.wrap .i64 (y31 + 1))] r35 r36 er36) ?_
    refine LAt.moveU (T := lk tab) (ty := 27) (x := (.tmp 60)) (d := 3) (g := none) false [cL 5 r36 zC.row] kr kr kr kr kr ?_
    refine dA 58 2 ?_
    refine eA 3 58 2 ?_
    exact jB mo34 ((IntKind.wrap .i64 (y31 + 1)),r36) H [5,4,3,1] [1]
   rintro y33 H
   have H : (Qh n (fun v => qM n mo30 x0 v.1 v.2) y7 y33) = some o30 := H
   unfold Qh at H
   refine eA 3 26 2 ?_
   exact jB mo30 ((IntKind.wrap .i64 (y7 + 1)),y33) H [4,3,1] [1]
  rintro y9 H
  have H : (Zw n x0 y9) = some r := H
  unfold Zw at H
  refine tS ?_
  refine gA 1 74 2 ?_
  obtain ⟨o21,eo21,Ho21⟩ := bs H
  clear H
  refine Tr.mid (ι := (List zC)) (fun v => ⟨122,0,[sC 3 (cL 5 v zC.row),sA 1 1 11 0],[(1,(CV.frzRow (zE.row x0)))]⟩) (fun v => Zx n x0 v = some r) ?_ ?_
  ·refine tB ?_
   refine Tr.loop (ι := Nat × (Int × (List zC))) (fun v => ⟨122,0,[sI 6 v.2.1,sC 3 (cL 5 v.2.2 zC.row),sA 1 1 11 0],[(1,(CV.frzRow (zE.row x0)))]⟩) (fun v => qL n v.1 x0 v.2.1 v.2.2 = some o21) (fun v => v.1) (n,(1,y9)) eo21 (St.sub_of [6,3,1] [1] kr) ?_
   rintro ⟨mo21,y10,y11⟩ H
   have H : qL n mo21 x0 y10 y11 = some o21 := H
   obtain _ | mo21 := mo21
   ·exact nN H
   rw [qL] at H
   refine tS ?_
   refine gA 2 0x400000000000004a 2 ?_
   obtain ⟨h3,H⟩ | ⟨h3,H⟩ := bC H
   ·refine nA h3 ?_
    refine Tr.exit ?_
    refine aJ ?_
    obtain rfl := si H
    have H := Ho21
    dsimp only at H
    exact jA y11 H [3,1] [1]
   refine tA h3 ?_
   refine tK ?_
   refine tS ?_
   refine tB ?_
   refine gA 1 202 2 ?_
   obtain ⟨o25,eo25,Ho25⟩ := bs H
   clear H
   refine Tr.mid (ι := (List zC)) (fun v => ⟨122,0,[sI 6 y10,sC 3 (cL 5 v zC.row),sA 1 1 11 0],[(1,(CV.frzRow (zE.row x0)))]⟩) (fun v => Qg n (fun v => qL n mo21 x0 v.1 v.2) y10 v = some o21) ?_ ?_
   ·refine tB ?_
    refine Tr.loop (ι := Nat × (Int × (List zC))) (fun v => ⟨122,0,[sI 7 v.2.1,sI 6 y10,sC 3 (cL 5 v.2.2 zC.row),sA 1 1 11 0],[(1,(CV.frzRow (zE.row x0)))]⟩) (fun v => q3 n v.1 x0 y10 v.2.1 v.2.2 = some o25) (fun v => v.1) (n,(0,y11)) eo25 (St.sub_of [7,6,3,1] [1] kr) ?_
    rintro ⟨mo25,y22,y23⟩ H
    have H : q3 n mo25 x0 y10 y22 y23 = some o25 := H
    obtain _ | mo25 := mo25
    ·exact nN H
    rw [q3] at H
    refine tS ?_
    refine rA 4 ?_
    refine kF x0.V.Rows zA.row ?_
    refine uA 1 0x4000000000000000ca 2 ?_
    obtain ⟨h4,H⟩ | ⟨h4,H⟩ := bC H
    ·refine nA h4 ?_
     refine Tr.exit ?_
     refine aJ ?_
     obtain rfl := si H
     have H := Ho25
     dsimp only at H
     exact jA y23 H [6,3,1] [1]
    refine tA h4 ?_
    refine tK ?_
    refine tS ?_
    refine tB ?_
    obtain ⟨v26,ev26,H⟩ := bs H
    obtain ⟨v27,ev27,H⟩ := bs H
    obtain ⟨r28,er28,H⟩ := bs H
    obtain ⟨r29,er29,H⟩ := bs H
    refine Tr.draw mixed 20 kr ⟨122,0,[sC 3 (cL 5 r29 zC.row),sI 7 y22,sI 6 y10,sA 1 1 11 0],[(1,(CV.frzRow (zE.row x0)))]⟩ (fun cx => ?_) ?_
    ·refine mA Zt [(0,[]),(1,[]),(2,[]),(3,[]),(4,[9,18]),(5,[])] 14 [⟨[9,18],37,76,77⟩] fun cx => ?_
     refine iN Zt 6 zA.row ev26 fun cx => ?_
     refine mA Zt [(7,[]),(8,[]),(10,[]),(11,[]),(12,[17,18]),(13,[])] 7 [⟨[17,18],37,84,85⟩,⟨[9,18],37,76,77⟩] fun cx => ?_
     refine iN Zt 14 zA.row ev27 fun cx => ?_
     refine mA Zt [(15,[]),(16,[])] 4 [⟨[17,18],37,84,85⟩,⟨[9,18],37,76,77⟩] fun cx => ?_
     refine mB2 tOk Zt 9 17 kr (And.intro kr ?_) (And.intro kr ?_)
     ·refine lA 1 ?_
      refine fA ?_
      refine mC Zt 17 ?_
      refine vA [.rd,.rd] (zCw n v27 y10 r28 er28) ?_
      refine fA ?_
      refine mC Zt 18 ?_
      refine vA [.own,.rd,.rd] (QF n y23 [3,y10,v26.Id] r28 r29 er29) ?_
      refine fA ?_
      refine mC Zt 19 ?_
      refine LAt.moveU (T := lk tab) (ty := 27) (x := (.tmp 91)) (d := 3) (g := none) false [cL 5 r29 zC.row] kr kr kr kr kr ?_
      refine fA ?_
      exact mE Zt [3,7,6,1] [1]
     ·refine vA [.rd,.rd] (zCw n v27 y10 r28 er28) ?_
      refine fA ?_
      refine mC Zt 9 ?_
      refine lA 1 ?_
      refine fA ?_
      refine mC Zt 18 ?_
      refine vA [.own,.rd,.rd] (QF n y23 [3,y10,v26.Id] r28 r29 er29) ?_
      refine fA ?_
      refine mC Zt 19 ?_
      refine LAt.moveU (T := lk tab) (ty := 27) (x := (.tmp 91)) (d := 3) (g := none) false [cL 5 r29 zC.row] kr kr kr kr kr ?_
      refine fA ?_
      exact mE Zt [3,7,6,1] [1]
    refine eA 3 202 2 ?_
    exact jB mo25 ((IntKind.wrap .i64 (y22 + 1)),r29) H [7,6,3,1] [1]
   rintro y24 H
   have H : (Qg n (fun v => qL n mo21 x0 v.1 v.2) y10 y24) = some o21 := H
   unfold Qg at H
   refine eA 3 74 2 ?_
   exact jB mo21 ((IntKind.wrap .i64 (y10 + 1)),y24) H [6,3,1] [1]
  rintro y12 H
  have H : (Zx n x0 y12) = some r := H
  unfold Zx at H
  refine tS ?_
  refine gA 1 266 2 ?_
  obtain ⟨o16,eo16,Ho16⟩ := bs H
  clear H
  refine Tr.mid (ι := (List zC)) (fun v => ⟨122,0,[sC 3 (cL 5 v zC.row)],[]⟩) (fun v => YT n v = some r) ?_ ?_
  ·refine tB ?_
   refine Tr.loop (ι := Nat × (Int × (List zC))) (fun v => ⟨122,0,[sI 8 v.2.1,sC 3 (cL 5 v.2.2 zC.row),sA 1 1 11 0],[(1,(CV.frzRow (zE.row x0)))]⟩) (fun v => qj n v.1 x0 v.2.1 v.2.2 = some o16) (fun v => v.1) (n,(0,y12)) eo16 (St.sub_of [8,3,1] [1] kr) ?_
   rintro ⟨mo16,y13,y14⟩ H
   have H : qj n mo16 x0 y13 y14 = some o16 := H
   obtain _ | mo16 := mo16
   ·exact nN H
   rw [qj] at H
   refine tS ?_
   refine rA 3 ?_
   refine kF x0.F zB.row ?_
   refine uA 1 0x100000000000000000000010a 2 ?_
   obtain ⟨h2,H⟩ | ⟨h2,H⟩ := bC H
   ·refine nA h2 ?_
    refine Tr.exit ?_
    refine aJ ?_
    obtain rfl := si H
    have H := Ho16
    dsimp only at H
    exact jA y14 H [3] []
   refine tA h2 ?_
   refine tK ?_
   refine tS ?_
   refine tB ?_
   obtain ⟨v17,ev17,H⟩ := bs H
   obtain ⟨v18,ev18,H⟩ := bs H
   obtain ⟨v19,ev19,H⟩ := bs H
   obtain ⟨r20,er20,H⟩ := bs H
   refine Tr.draw mixed 23 kr ⟨122,0,[sC 3 (cL 5 r20 zC.row),sI 8 y13,sA 1 1 11 0],[(1,(CV.frzRow (zE.row x0)))]⟩ (fun cx => ?_) ?_
   ·refine mA Qm [(0,[]),(1,[]),(2,[13,21]),(3,[])] 19 [⟨[13,21],36,100,101⟩] fun cx => ?_
    refine iN Qm 4 zB.row ev17 fun cx => ?_
    refine mA Qm [(5,[]),(6,[]),(7,[]),(8,[13,21]),(9,[])] 13 [⟨[13,21],36,106,107⟩,⟨[13,21],36,100,101⟩] fun cx => ?_
    refine iN Qm 10 zB.row ev18 fun cx => ?_
    refine mA Qm [(11,[]),(12,[]),(14,[]),(15,[21]),(16,[])] 7 [⟨[21],36,113,114⟩,⟨[13,21],36,106,107⟩,⟨[13,21],36,100,101⟩] fun cx => ?_
    refine iN Qm 17 zB.row ev19 fun cx => ?_
    refine mA Qm [(18,[]),(19,[]),(20,[])] 3 [⟨[21],36,113,114⟩,⟨[13,21],36,106,107⟩,⟨[13,21],36,100,101⟩] fun cx => ?_
    refine mC Qm 13 ?_
    refine lA 1 ?_
    refine fA ?_
    refine mC Qm 21 ?_
    refine vA [.own,.rd,.rd] (QF n y14 [4,1,v17.Tag,v18.Mac] (IntKind.wrap .i64 (v19.Port + 1)) r20 er20) ?_
    refine fA ?_
    refine mC Qm 22 ?_
    refine LAt.moveU (T := lk tab) (ty := 27) (x := (.tmp 120)) (d := 3) (g := none) false [cL 5 r20 zC.row] kr kr kr kr kr ?_
    refine fA ?_
    exact mE Qm [3,8,1] [1]
   refine eA 3 266 2 ?_
   exact jB mo16 ((IntKind.wrap .i64 (y13 + 1)),r20) H [8,3,1] [1]
  rintro y15 H
  have H : (YT n y15) = some r := H
  unfold YT at H
  refine gA 2 12 0 ?_
  exact te (fJ [(false,[cL 5 y15 zC.row])] H)
 refine tA h1 ?_
 refine rA 1 ?_
 refine LAt.moveU (T := lk tab) (ty := 27) (x := (.tmp 12)) (d := 2) (g := none) false [cL 5 ([] : List zC) zC.row] kr kr kr kr kr ?_
 refine dA 4 0 ?_
 exact te (fJ [(false,[cL 5 ([] : List zC) zC.row])] H)
def Yy (n : Nat) (y7 : (List Int)) (y8 : (List Int)) (y9 : Int) (y10 : Int) : Option ((List Int) × Src) :=
  (some (y7,(⟨y8,y9,y10⟩ : Src)))
def ZM (n : Nat) : Nat → Int → (List Int) → (List Int) → Int → Int → Option (((List Int) × (List Int) × Int × Int) ⊕ ((List Int) × Src))
  | 0,_,_,_,_,_ => none
  | mo11 + 1,y2,y3,y4,y5,y6 => (bif (decide (y2 > 0)) then ((qq n (⟨y4,y5,y6⟩ : Src) [0,1,2,3,127,128,16384,100000]).bind fun r12 => (bif (decide (y3.length + [r12.1].length ≤ 268435456)) then (ZM n mo11 (IntKind.wrap .i64 (y2 - 1)) (y3 ++ [r12.1]) r12.2.b r12.2.i r12.2.h) else none)) else (some (Sum.inl (y3,y4,y5,y6))))
def Yo (n : Nat) (x0 : Src) : Option ((List Int) × Src) :=
  ((zL n x0 6).bind fun r1 => ((ZM n n (IntKind.wrap .i64 (1 + r1.1)) ([] : List Int) r1.2.b r1.2.i r1.2.h).bind fun o => match o with | .inl (y7,y8,y9,y10) => (Yy n y7 y8 y9 y10) | .inr r => some r))
noncomputable abbrev zCz (k : Nat) := Rg Try.f120 k
theorem zF2 (n : Nat) (x0 : Src) (r : (List Int) × Src) (H : Yo n x0 = some r) : zH Try.prog 120 [.ptr (CV.frzRow (Src.row x0))] [.val false [.sl true 1 (r.1.map intRow)]] [(0,(CV.frzRow (Src.row r.2)))] := by
 refine zH.of_body tOk Try.func120 rfl (c := (.seq (zCz 0) (.seq (zCz 1) (.seq (.seq (zCz 2) (.block 0 (.loop (.seq (.seq (zCz 3) (.cond (.tmp 10) .skip (.exit 0))) (.seq (.block 1 (zCz 5)) (zCz 4)))))) (.seq (zCz 6) .ret))))) kr (Nat.le_of_ble_eq_true kr) 1 (rs := [.tmp 2]) rfl [] .nil [(false,[.sl true 1 (r.1.map intRow)])] [] [(0,(CV.frzRow (Src.row r.2)))] fun cx => ?_
 show Tr _ _ _ ⟨20,1,[sA 0 0 3 0],[(0,(CV.frzRow (Src.row x0)))]⟩ _
 unfold Yo at H
 refine gA 1 1 1 ?_
 refine rA 1 ?_
 refine LAt.moveU (T := lk tab) (ty := 38) (x := (.tmp 5)) (d := 3) (g := none) false [cL 1 ([] : List Int) intRow] kr kr kr kr kr ?_
 refine dA 9 1 ?_
 refine tS ?_
 refine rA 1 ?_
 obtain ⟨r1,er1,H⟩ := bs H
 refine LAt.callL tOk [.lend,.rd] (f := 49) (av := #[.tmp 6,.const (.int .i64 6)]) (ats := #[92,3]) (d := (some 7)) (ty := 3) (g := none) kr kr kr [] (zd n x0 6 r1 er1) kr (.inl rfl) ?_
 refine uA 2 25 1 ?_
 obtain ⟨o11,eo11,Ho11⟩ := bs H
 clear H
 refine Tr.mid (ι := (List Int) × (List Int) × Int × Int) (fun v => ⟨20,1,[sC 3 (cL 1 v.1 intRow),sA 0 0 3 0],[(0,[cF 1 v.2.1 zh,cI v.2.2.1,cI v.2.2.2])]⟩) (fun v => Yy n v.1 v.2.1 v.2.2.1 v.2.2.2 = some r) ?_ ?_
 ·refine tB ?_
  refine Tr.loop (ι := Nat × (Int × (List Int) × (List Int) × Int × Int)) (fun v => ⟨20,1,[sI 4 v.2.1,sC 3 (cL 1 v.2.2.1 intRow),sA 0 0 3 0],[(0,[cF 1 v.2.2.2.1 zh,cI v.2.2.2.2.1,cI v.2.2.2.2.2])]⟩) (fun v => ZM n v.1 v.2.1 v.2.2.1 v.2.2.2.1 v.2.2.2.2.1 v.2.2.2.2.2 = some o11) (fun v => v.1) (n,((IntKind.wrap .i64 (1 + r1.1)),([] : List Int),r1.2.b,r1.2.i,r1.2.h)) eo11 (St.sub_of [4,3,0] [0] kr) ?_
  rintro ⟨mo11,y2,y3,y4,y5,y6⟩ H
  have H : ZM n mo11 y2 y3 y4 y5 y6 = some o11 := H
  obtain _ | mo11 := mo11
  ·exact nN H
  rw [ZM] at H
  refine tS ?_
  refine gA 2 1049 1 ?_
  obtain ⟨h1,H⟩ | ⟨h1,H⟩ := bC H
  ·refine nA h1 ?_
   refine Tr.exit ?_
   refine aJ ?_
   obtain rfl := si H
   have H := Ho11
   dsimp only at H
   exact jA (y3,y4,y5,y6) H [3,0] [0]
  refine tA h1 ?_
  refine tK ?_
  refine tS ?_
  refine tB ?_
  refine Tr.at ?_
  refine lA 3 ?_
  obtain ⟨r12,er12,H⟩ := bs H
  refine LAt.callL tOk [.lend,.rd] (f := 51) (av := #[.tmp 14,.tmp 15]) (ats := #[92,38]) (d := (some 16)) (ty := 3) (g := none) kr kr kr [] (Q4 n (⟨y4,y5,y6⟩ : Src) [0,1,2,3,127,128,16384,100000] r12 er12) kr (.inl rfl) ?_
  refine lA 1 ?_
  obtain ⟨hg13,H⟩ := gs H
  refine LAt.appMU tOk (t := 38) (ty := 38) (e := 3) (x := (.tmp 13)) (y := (.tmp 17)) (d := 18) (g := none) (tI 3) intRow y3 [r12.1] kr kr kr kr kr kr kr kr kr kr hg13 ?_
  refine LAt.moveU (T := lk tab) (ty := 38) (x := (.tmp 18)) (d := 3) (g := none) false [cL 1 (y3 ++ [r12.1]) intRow] kr kr kr kr kr ?_
  refine dA 25 1 ?_
  refine eA 3 25 1 ?_
  exact jB mo11 ((IntKind.wrap .i64 (y2 - 1)),(y3 ++ [r12.1]),r12.2.b,r12.2.i,r12.2.h) H [4,3,0] [0]
 rintro ⟨y7,y8,y9,y10⟩ H
 have H : (Yy n y7 y8 y9 y10) = some r := H
 unfold Yy at H
 refine gA 2 13 1 ?_
 refine te ?_
 obtain rfl := si H
 exact Fin.ofY _ [(false,[cL 1 y7 intRow])] [] _ [] _ [(0,[cF 1 y8 zh,cI y9,cI y10])] kr rfl rfl rfl kr kr kr kr rfl rfl rfl
def ZL (n : Nat) (r1 : (List zC)) (y2 : Bool) (y3 : (List Int)) (y4 : Int) (y5 : Int) : Option ((List Int) × Src) :=
  (bif y2 then ((zL n (⟨y3,y4,y5⟩ : Src) (r1.length : Int)).bind fun r14 => ((idx r1 r14.1).bind fun v15 => (bif (decide (([] : List Int).length + v15.O.length ≤ 268435456)) then (some ((([] : List Int) ++ v15.O),r14.2)) else none))) else ((zL n (⟨y3,y4,y5⟩ : Src) 8).bind fun r6 => (bif (r6.1 == 0) then (some ([0],r6.2)) else (bif (r6.1 == 1) then (some ([1,3,1],r6.2)) else (bif (r6.1 == 2) then ((zx n [2,2,9]).bind fun r13 => (some (r13,r6.2))) else (bif (r6.1 == 3) then ((zL n r6.2 9).bind fun r11 => ((zx n [3,1,(IntKind.wrap .i64 (1 + r11.1))]).bind fun r12 => (some (r12,r11.2)))) else (bif (r6.1 == 4) then ((zx n [2,2]).bind fun r10 => (some (r10,r6.2))) else (bif (r6.1 == 5) then ((zx n [9]).bind fun r9 => (some (r9,r6.2))) else (bif (r6.1 == 6) then ((zx n [4,1,2,11]).bind fun r8 => (some (r8,r6.2))) else ((Yo n r6.2).bind fun r7 => (some (r7.1,r7.2))))))))))))
def Yn (n : Nat) (x0 : Src) (x1 : zE) : Option ((List Int) × Src) :=
  ((Z5 n x1).bind fun r1 => (bif (decide ((r1.length : Int) > 0)) then ((q9 n x0 4).bind fun r17 => (ZL n r1 (!r17.1) r17.2.b r17.2.i r17.2.h)) else (ZL n r1 false x0.b x0.i x0.h)))
noncomputable abbrev G64 (k : Nat) := Rg Try.f64 k
theorem zF1 (n : Nat) (x0 : Src) (x1 : zE) (r : (List Int) × Src) (H : Yn n x0 x1 = some r) : zH Try.prog 64 [.ptr (CV.frzRow (Src.row x0)),.val true (CV.frzRow (zE.row x1))] [.val false [.sl true 1 (r.1.map intRow)]] [(0,(CV.frzRow (Src.row r.2)))] := by
 refine zH.of_body tOk Try.func64 rfl (c := (.seq (G64 0) (.seq (G64 1) (.seq (.seq (G64 2) (.cond (.tmp 15) (.seq (G64 3) .ret) .skip)) (.seq (.seq (G64 4) (.block 0 (.seq (G64 5) (.cond (.tmp 28) (.seq (G64 6) .ret) (.seq (G64 7) (.cond (.tmp 31) (.seq (G64 8) .ret) (.seq (G64 9) (.cond (.tmp 34) (.seq (G64 10) .ret) (.seq (G64 11) (.cond (.tmp 38) (.seq (G64 12) .ret) (.seq (G64 13) (.cond (.tmp 45) (.seq (G64 14) .ret) (.seq (G64 15) (.cond (.tmp 49) (.seq (G64 16) .ret) (.seq (G64 17) (.cond (.tmp 53) (.seq (G64 18) .ret) .skip)))))))))))))))) (.seq (G64 19) .ret)))))) kr (Nat.le_of_ble_eq_true kr) 1 (rs := [.tmp 4]) rfl [] .nil [(false,[.sl true 1 (r.1.map intRow)])] [] [(0,(CV.frzRow (Src.row r.2)))] fun cx => ?_
 show Tr _ _ _ ⟨59,1,[sA 0 0 3 0,sV 1 (CV.frzRow (zE.row x1))],[(0,(CV.frzRow (Src.row x0)))]⟩ _
 unfold Yn at H
 refine gA 2 9 9 ?_
 refine rA 1 ?_
 obtain ⟨r1,er1,H⟩ := bs H
 refine vA [.rd] (zFf n x1 r1 er1) ?_
 refine LAt.moveU (T := lk tab) (ty := 27) (x := (.tmp 7)) (d := 5) (g := none) false [cL 5 r1 zC.row] kr kr kr kr kr ?_
 refine dA 33 1 ?_
 refine tS ?_
 refine tS ?_
 refine Tr.mid (ι := Bool × (List Int) × Int × Int) (fun v => ⟨59,1,[sB 15 v.1,sC 5 (cL 5 r1 zC.row),sA 0 0 3 0],[(0,[cF 1 v.2.1 zh,cI v.2.2.1,cI v.2.2.2])]⟩) (fun v => ZL n r1 v.1 v.2.1 v.2.2.1 v.2.2.2 = some r) ?_ ?_
 ·refine Tr.at ?_
  refine lA 1 ?_
  refine kO r1 zC.row ?_
  refine lA 2 ?_
  refine sL 2081 1 ⟨59,1,[sB 11 (decide ((r1.length : Int) > 0)),sC 5 (cL 5 r1 zC.row),sA 0 0 3 0],[(0,(CV.frzRow (Src.row x0)))]⟩ ?_
  cases h9 : (decide ((r1.length : Int) > 0))
  ·have H := zI h9 H
   refine uA 4 32801 1 ?_
   exact jA (false,x0.b,x0.i,x0.h) H [15,5,0] [0]
  have H := zJ h9 H
  refine lA 1 ?_
  obtain ⟨r17,er17,H⟩ := bs H
  refine LAt.callL tOk [.lend,.rd] (f := 100) (av := #[.tmp 12,.const (.int .i64 4)]) (ats := #[92,3]) (d := (some 13)) (ty := 4) (g := (some (3,true))) kr kr kr [] (J3 n x0 4 r17 er17) kr (.inl rfl) ?_
  refine uA 2 32801 1 ?_
  exact jA ((!r17.1),r17.2.b,r17.2.i,r17.2.h) H [15,5,0] [0]
 rintro ⟨y2,y3,y4,y5⟩ H
 have H : (ZL n r1 y2 y3 y4 y5) = some r := H
 unfold ZL at H
 cases h1 : y2
 ·have H := zI h1 H
  refine nB_ ?_
  refine tK ?_
  refine tS ?_
  refine rA 1 ?_
  obtain ⟨r6,er6,H⟩ := bs H
  refine LAt.callL tOk [.lend,.rd] (f := 49) (av := #[.tmp 26,.const (.int .i64 8)]) (ats := #[92,3]) (d := (some 27)) (ty := 3) (g := none) kr kr kr [] (zd n (⟨y3,y4,y5⟩ : Src) 8 r6 er6) kr (.inl rfl) ?_
  refine dA 134217729 1 ?_
  refine tB ?_
  refine gA 2 402653185 1 ?_
  obtain ⟨h2,H⟩ | ⟨h2,H⟩ := bC H
  ·refine nA h2 ?_
   refine gA 2 2281701377 1 ?_
   obtain ⟨h3,H⟩ | ⟨h3,H⟩ := bC H
   ·refine nA h3 ?_
    refine gA 2 17314086913 1 ?_
    obtain ⟨h4,H⟩ | ⟨h4,H⟩ := bC H
    ·refine nA h4 ?_
     refine gA 2 275012124673 1 ?_
     obtain ⟨h5,H⟩ | ⟨h5,H⟩ := bC H
     ·refine nA h5 ?_
      refine gA 2 35184506306561 1 ?_
      obtain ⟨h6,H⟩ | ⟨h6,H⟩ := bC H
      ·refine nA h6 ?_
       refine gA 2 562950087639041 1 ?_
       obtain ⟨h7,H⟩ | ⟨h7,H⟩ := bC H
       ·refine nA h7 ?_
        refine gA 2 9007199254740993 1 ?_
        obtain ⟨h8,H⟩ | ⟨h8,H⟩ := bC H
        ·refine nA h8 ?_
         refine tK ?_
         refine rA 1 ?_
         obtain ⟨r7,er7,H⟩ := bs H
         refine LAt.callL tOk [.lend] (f := 120) (av := #[.tmp 57]) (ats := #[92]) (d := (some 58)) (ty := 38) (g := none) kr kr kr [] (zF2 n r6.2 r7 er7) kr (.inl rfl) ?_
         refine LAt.moveU (T := lk tab) (ty := 38) (x := (.tmp 58)) (d := 4) (g := none) false [cL 1 r7.1 intRow] kr kr kr kr kr ?_
         refine dA 17 1 ?_
         refine te ?_
         obtain rfl := si H
         exact Fin.ofY _ [(false,[cL 1 r7.1 intRow])] [] _ [] _ [(0,(CV.frzRow (Src.row r7.2)))] kr rfl rfl rfl kr kr kr kr rfl rfl rfl
        refine tA h8 ?_
        refine rA 1 ?_
        obtain ⟨r8,er8,H⟩ := bs H
        refine vA [.rd] (ZV n [4,1,2,11] r8 er8) ?_
        refine LAt.moveU (T := lk tab) (ty := 38) (x := (.tmp 56)) (d := 4) (g := none) false [cL 1 r8 intRow] kr kr kr kr kr ?_
        refine dA 17 1 ?_
        refine te ?_
        obtain rfl := si H
        exact Fin.ofY _ [(false,[cL 1 r8 intRow])] [] _ [] _ [(0,(CV.frzRow (Src.row r6.2)))] kr rfl rfl rfl kr kr kr kr rfl rfl rfl
       refine tA h7 ?_
       refine rA 1 ?_
       obtain ⟨r9,er9,H⟩ := bs H
       refine vA [.rd] (ZV n [9] r9 er9) ?_
       refine LAt.moveU (T := lk tab) (ty := 38) (x := (.tmp 52)) (d := 4) (g := none) false [cL 1 r9 intRow] kr kr kr kr kr ?_
       refine dA 17 1 ?_
       refine te ?_
       obtain rfl := si H
       exact Fin.ofY _ [(false,[cL 1 r9 intRow])] [] _ [] _ [(0,(CV.frzRow (Src.row r6.2)))] kr rfl rfl rfl kr kr kr kr rfl rfl rfl
      refine tA h6 ?_
      refine rA 1 ?_
      obtain ⟨r10,er10,H⟩ := bs H
      refine vA [.rd] (ZV n [2,2] r10 er10) ?_
      refine LAt.moveU (T := lk tab) (ty := 38) (x := (.tmp 48)) (d := 4) (g := none) false [cL 1 r10 intRow] kr kr kr kr kr ?_
      refine dA 17 1 ?_
      refine te ?_
      obtain rfl := si H
      exact Fin.ofY _ [(false,[cL 1 r10 intRow])] [] _ [] _ [(0,(CV.frzRow (Src.row r6.2)))] kr rfl rfl rfl kr kr kr kr rfl rfl rfl
     refine tA h5 ?_
     refine rA 1 ?_
     obtain ⟨r11,er11,H⟩ := bs H
     refine LAt.callL tOk [.lend,.rd] (f := 49) (av := #[.tmp 40,.const (.int .i64 9)]) (ats := #[92,3]) (d := (some 41)) (ty := 3) (g := none) kr kr kr [] (zd n r6.2 9 r11 er11) kr (.inl rfl) ?_
     refine lA 2 ?_
     obtain ⟨r12,er12,H⟩ := bs H
     refine vA [.rd] (ZV n [3,1,(IntKind.wrap .i64 (1 + r11.1))] r12 er12) ?_
     refine LAt.moveU (T := lk tab) (ty := 38) (x := (.tmp 44)) (d := 4) (g := none) false [cL 1 r12 intRow] kr kr kr kr kr ?_
     refine dA 17 1 ?_
     refine te ?_
     obtain rfl := si H
     exact Fin.ofY _ [(false,[cL 1 r12 intRow])] [] _ [] _ [(0,(CV.frzRow (Src.row r11.2)))] kr rfl rfl rfl kr kr kr kr rfl rfl rfl
    refine tA h4 ?_
    refine rA 1 ?_
    obtain ⟨r13,er13,H⟩ := bs H
    refine vA [.rd] (ZV n [2,2,9] r13 er13) ?_
    refine LAt.moveU (T := lk tab) (ty := 38) (x := (.tmp 37)) (d := 4) (g := none) false [cL 1 r13 intRow] kr kr kr kr kr ?_
    refine dA 17 1 ?_
    refine te ?_
    obtain rfl := si H
    exact Fin.ofY _ [(false,[cL 1 r13 intRow])] [] _ [] _ [(0,(CV.frzRow (Src.row r6.2)))] kr rfl rfl rfl kr kr kr kr rfl rfl rfl
   refine tA h3 ?_
   refine rA 1 ?_
   refine LAt.moveU (T := lk tab) (ty := 38) (x := (.tmp 33)) (d := 4) (g := none) false [cL 1 [1,3,1] intRow] kr kr kr kr kr ?_
   refine dA 17 1 ?_
   refine te ?_
   obtain rfl := si H
   exact Fin.ofY _ [(false,[cL 1 [1,3,1] intRow])] [] _ [] _ [(0,(CV.frzRow (Src.row r6.2)))] kr rfl rfl rfl kr kr kr kr rfl rfl rfl
  refine tA h2 ?_
  refine rA 1 ?_
  refine LAt.moveU (T := lk tab) (ty := 38) (x := (.tmp 30)) (d := 4) (g := none) false [cL 1 [0] intRow] kr kr kr kr kr ?_
  refine dA 17 1 ?_
  refine te ?_
  obtain rfl := si H
  exact Fin.ofY _ [(false,[cL 1 [0] intRow])] [] _ [] _ [(0,(CV.frzRow (Src.row r6.2)))] kr rfl rfl rfl kr kr kr kr rfl rfl rfl
 have H := zJ h1 H
 refine tB_ ?_
 refine rA 4 ?_
 refine kO r1 zC.row ?_
 obtain ⟨r14,er14,H⟩ := bs H
 refine LAt.callL tOk [.lend,.rd] (f := 49) (av := #[.tmp 18,.tmp 20]) (ats := #[92,3]) (d := (some 21)) (ty := 3) (g := none) kr kr kr [] (zd n (⟨y3,y4,y5⟩ : Src) (r1.length : Int) r14 er14) kr (.inl rfl) ?_
 obtain ⟨v15,ev15,H⟩ := bs H
 refine oA zC.row ev15 ?_
 refine lA 1 ?_
 refine dE (tI 38) (.slot 5) [(0,(r14.1.toNat))] 5 0 [cL 5 r1 zC.row] (zC.row v15) (qY rfl (ZH ev15).2) ?_
 obtain ⟨hg16,H⟩ := gs H
 refine LAt.appCU tOk (t := 38) (ty := 38) (e := 3) (x := (.tmp 16)) (y := (.tmp 24)) (d := 25) (g := none) (tI 3) intRow ([] : List Int) v15.O ⟨(.slot 5),[(0,(r14.1.toNat))],0,true,1,(v15.O.map intRow)⟩ kr kr kr kr kr kr kr kr kr (zIh (row := [cL 5 r1 zC.row]) (e := zC.row v15) kr kr (qY rfl (ZH ev15).2) rfl rfl) kr (.inl rfl) (fun _ => rfl) (fun _ => rfl) hg16 ?_
 refine LAt.moveU (T := lk tab) (ty := 38) (x := (.tmp 25)) (d := 4) (g := none) false [cL 1 (([] : List Int) ++ v15.O) intRow] kr kr kr kr kr ?_
 refine dA 17 1 ?_
 refine te ?_
 obtain rfl := si H
 exact Fin.ofY _ [(false,[cL 1 (([] : List Int) ++ v15.O) intRow])] [] _ [] _ [(0,(CV.frzRow (Src.row r14.2)))] kr rfl rfl rfl kr kr kr kr rfl rfl rfl
def Qf (n : Nat) (x0 : (List Int)) : Option (zE × (List Int)) :=
  ((JE n x0).bind fun r1 => ((YD n r1).bind fun r2 => ((Yn n r2.2 r2.1).bind fun r3 => (some (r2.1,r3.1)))))
theorem zEN (n : Nat) (x0 : (List Int)) (r : zE × (List Int)) (H : Qf n x0 = some r) : zH Try.prog 25 [.val false [.sl false 1 (CV.frzEs (x0.map zh))]] [.val true (CV.frzRow (zE.row r.1)),.val false [.sl true 1 (r.2.map intRow)]] [] := by
 refine cW Try.func25 (fun g d => sl [g 0,g 1,g 2,d 3] .ret) [.cell 2 42,.tmp 3] fun cx => ?_
 unfold Qf at H
 refine gA 2 5 4 ?_
 refine rA 1 ?_
 obtain ⟨r1,er1,H⟩ := bs H
 refine vA [.rd] (zGp n x0 r1 er1) ?_
 refine uA 1 20 132 ?_
 refine rA 1 ?_
 obtain ⟨r2,er2,H⟩ := bs H
 refine LAt.callL tOk [.lend] (f := 48) (av := #[.tmp 8]) (ats := #[92]) (d := (some 9)) (ty := 42) (g := none) kr kr kr [] (zFi n r1 r2 er2) kr (.inl rfl) ?_
 refine uA 2 52 164 ?_
 refine Tr.frzB 5 ?_
 obtain ⟨r3,er3,H⟩ := bs H
 refine Tr.draws mixed 6 kr ⟨14,0,[sC 3 (cL 1 r3.1 intRow),sA 2 2 11 0],[(2,(CV.frzRow (zE.row r2.1)))]⟩ (fun cx => ?_) ?_
 ·refine aA [(0,[4]),(1,[]),(2,[3,4])] 3 [⟨[3,4],42,5,12⟩,⟨[4],42,5,10⟩] fun cx => ?_
  refine bA 3 ?_
  refine LAt.callL tOk [.lend,.rd] (f := 64) (av := #[.tmp 11,.tmp 12]) (ats := #[92,42]) (d := (some 13)) (ty := 38) (g := none) kr kr kr [] (zF1 n r2.2 r2.1 r3 er3) kr (.inl rfl) ?_
  refine fA ?_
  refine bA 4 ?_
  refine lA 1 ?_
  refine fA ?_
  refine bA 5 ?_
  refine LAt.moveU (T := lk tab) (ty := 38) (x := (.tmp 13)) (d := 3) (g := none) false [cL 1 r3.1 intRow] kr kr kr kr kr ?_
  refine fA ?_
  exact eE [3,2] [2]
 exact te (fJ [(true,(CV.frzRow (zE.row r2.1))),(false,[cL 1 r3.1 intRow])] H)
def z9 (n : Nat) (x0 : Int) (x1 : Int) (x2 : Int) : Option (Bool) :=
  (bif (decide (x0 ≥ x1)) then (some (decide (x0 ≤ x2))) else (some false))
theorem qH (n : Nat) (x0 : Int) (x1 : Int) (x2 : Int) (r : Bool) (H : z9 n x0 x1 x2 = some r) : zH Try.prog 44 [.val false [.lit (.int .i64 x0)],.val false [.lit (.int .i64 x1)],.val false [.lit (.int .i64 x2)]] [.val false [.lit (.bool r)]] [] := by
 refine cW Try.func44 (fun g d => sl [g 0,g 1] .ret) [.tmp 6] fun cx => ?_
 unfold z9 at H
 refine gA 1 7 0 ?_
 refine rA 4 ?_
 refine sL 1029 0 ⟨15,0,[sB 10 (decide (x0 ≥ x1)),sI 0 x0,sI 2 x2],[]⟩ ?_
 cases h1 : (decide (x0 ≥ x1))
 ·have H := zI h1 H
  refine uA 5 64 0 ?_
  exact te (fF H)
 have H := zJ h1 H
 refine uA 5 64 0 ?_
 exact te (fJ [(false,[cB (decide (x0 ≤ x2))])] H)
def YG (n : Nat) (x0 : Vec) : Option (Bool) :=
  ((z9 n x0.Root 1 99).bind fun r1 => (bif r1 then ((z9 n x0.Co 0 100000).bind fun r2 => (bif r2 then ((z9 n x0.Hops 0 10).bind fun r3 => (bif r3 then ((z9 n x0.Bridge 1 99).bind fun r4 => (bif r4 then ((z9 n x0.Port 0 7).bind fun r5 => (some r5)) else (some false))) else (some false))) else (some false))) else (some false)))
theorem zBd (n : Nat) (x0 : Vec) (r : Bool) (H : YG n x0 = some r) : zH Try.prog 20 [.val true (CV.frzRow (Vec.row x0))] [.val false [.lit (.bool r)]] [] := by
 refine cW Try.func20 (fun g d => sl [g 0,g 1] .ret) [.tmp 2] fun cx => ?_
 unfold YG at H
 refine gA 2 2 2 ?_
 refine rA 2 ?_
 obtain ⟨r1,er1,H⟩ := bs H
 refine vA [.rd,.rd,.rd] (qH n x0.Root 1 99 r1 er1) ?_
 refine lA 1 ?_
 refine sL 66 2 ⟨26,0,[sB 6 r1,sA 1 1 5 0],[(1,(Vec.row x0))]⟩ ?_
 cases h1 : r1
 ·have H := zI h1 H
  refine uA 20 4 0 ?_
  exact te (fF H)
 have H := zJ h1 H
 refine lA 2 ?_
 obtain ⟨r2,er2,H⟩ := bs H
 refine vA [.rd,.rd,.rd] (qH n x0.Co 0 100000 r2 er2) ?_
 refine lA 2 ?_
 refine sL 2050 2 ⟨26,0,[sB 11 r2,sA 1 1 5 0],[(1,(Vec.row x0))]⟩ ?_
 cases h2 : r2
 ·have H := zI h2 H
  refine uA 15 4 0 ?_
  exact te (fF H)
 have H := zJ h2 H
 refine lA 2 ?_
 obtain ⟨r3,er3,H⟩ := bs H
 refine vA [.rd,.rd,.rd] (qH n x0.Hops 0 10 r3 er3) ?_
 refine lA 2 ?_
 refine sL 65538 2 ⟨26,0,[sB 16 r3,sA 1 1 5 0],[(1,(Vec.row x0))]⟩ ?_
 cases h3 : r3
 ·have H := zI h3 H
  refine uA 10 4 0 ?_
  exact te (fF H)
 have H := zJ h3 H
 refine lA 2 ?_
 obtain ⟨r4,er4,H⟩ := bs H
 refine vA [.rd,.rd,.rd] (qH n x0.Bridge 1 99 r4 er4) ?_
 refine lA 2 ?_
 refine sL 2097154 2 ⟨26,0,[sB 21 r4,sA 1 1 5 0],[(1,(Vec.row x0))]⟩ ?_
 cases h4 : r4
 ·have H := zI h4 H
  refine uA 5 4 0 ?_
  exact te (fF H)
 have H := zJ h4 H
 refine lA 2 ?_
 obtain ⟨r5,er5,H⟩ := bs H
 refine vA [.rd,.rd,.rd] (qH n x0.Port 0 7 r5 er5) ?_
 refine uA 2 4 0 ?_
 exact te (fJ [(false,[cB r5])] H)
def Ja (n : Nat) (x0 : Pt) : Option (Bool) :=
  ((z9 n x0.Co 1 1000).bind fun r1 => (bif (!r1) then (some false) else (bif x0.Has then (bif (!x0.Up) then (some false) else ((YG n x0.Hd).bind fun r2 => (some r2))) else (some ((x0.Hd.Root == 0) && ((x0.Hd.Co == 0) && ((x0.Hd.Hops == 0) && ((x0.Hd.Bridge == 0) && ((x0.Hd.Port == 0) && true)))))))))
theorem zHA (n : Nat) (x0 : Pt) (r : Bool) (H : Ja n x0 = some r) : zH Try.prog 60 [.val true (CV.frzRow (Pt.row x0))] [.val false [.lit (.bool r)]] [] := by
 refine cW Try.func60 (fun g d => sl [g 0,sl [g 1] (cn 15 (sl [g 2] .ret) .skip),sl [g 3] (cn 17 (sl [g 4] .ret) .skip),g 5] .ret) [.tmp 2] fun cx => ?_
 unfold Ja at H
 refine gA 2 2 2 ?_
 refine tS ?_
 refine rA 2 ?_
 obtain ⟨r1,er1,H⟩ := bs H
 refine vA [.rd,.rd,.rd] (qH n x0.Co 1 1000 r1 er1) ?_
 refine lA 2 ?_
 refine sL 130 2 ⟨25,0,[sB 7 (!r1),sA 1 1 8 0],[(1,(Pt.row x0))]⟩ ?_
 cases h1 : (!r1)
 ·have H := zI h1 H
  refine lA 3 ?_
  refine sL 1154 2 ⟨25,0,[sB 10 x0.Has,sB 7 false,sA 1 1 8 0],[(1,(Pt.row x0))]⟩ ?_
  cases h2 : x0.Has
  ·have H := zI h2 H
   refine uA 5 32770 2 ?_
   refine nB_ ?_
   refine tK ?_
   refine tS ?_
   refine gA 2 131074 2 ?_
   refine sT ⟨25,0,[sB 17 x0.Has,sA 1 1 8 0],[(1,(Pt.row x0))]⟩ ?_
   rw [h2]
   refine nB_ ?_
   refine tK ?_
   refine rA 3 ?_
   refine LAt.eqSG false (t := 46) (ty := 46) (ty' := 4) (x := (.tmp 22)) (y := (.tmp 23)) (d := 24) (g := none) ((x0.Hd.Root == 0) && ((x0.Hd.Co == 0) && ((x0.Hd.Hops == 0) && ((x0.Hd.Bridge == 0) && ((x0.Hd.Port == 0) && true))))) _ kr kr kr kr rfl ?_
   refine uA 1 4 0 ?_
   exact te (fJ [(false,[cB ((x0.Hd.Root == 0) && ((x0.Hd.Co == 0) && ((x0.Hd.Hops == 0) && ((x0.Hd.Bridge == 0) && ((x0.Hd.Port == 0) && true)))))])] H)
  have H := zJ h2 H
  refine uA 5 32770 2 ?_
  obtain ⟨h3,H⟩ | ⟨h3,H⟩ := bC H
  ·refine nA h3 ?_
   refine tK ?_
   refine tS ?_
   refine gA 2 131074 2 ?_
   refine sT ⟨25,0,[sB 17 x0.Has,sA 1 1 8 0],[(1,(Pt.row x0))]⟩ ?_
   rw [h2]
   refine tB_ ?_
   refine rA 2 ?_
   obtain ⟨r2,er2,H⟩ := bs H
   refine vA [.rd] (zBd n x0.Hd r2 er2) ?_
   refine uA 1 4 0 ?_
   exact te (fJ [(false,[cB r2])] H)
  refine tA h3 ?_
  refine gA 1 4 0 ?_
  exact te (fF H)
 have H := zJ h1 H
 refine uA 8 32770 2 ?_
 refine tB_ ?_
 refine gA 1 4 0 ?_
 exact te (fF H)
def Jc (n : Nat) (x0 : zB) : Option (Bool) :=
  ((z9 n x0.Tag 1 99).bind fun r1 => (bif r1 then ((z9 n x0.Mac 1 9999).bind fun r2 => (bif r2 then ((z9 n x0.Port 0 7).bind fun r3 => (bif r3 then ((z9 n x0.Age 0 4).bind fun r4 => (bif r4 then (bif (!x0.Sc) then (some true) else (some (x0.Age == 0))) else (some false))) else (some false))) else (some false))) else (some false)))
theorem zBC (n : Nat) (x0 : zB) (r : Bool) (H : Jc n x0 = some r) : zH Try.prog 114 [.val true (CV.frzRow (zB.row x0))] [.val false [.lit (.bool r)]] [] := by
 refine cW Try.func114 (fun g d => sl [g 0,g 1] .ret) [.tmp 2] fun cx => ?_
 unfold Jc at H
 refine gA 2 2 2 ?_
 refine rA 2 ?_
 obtain ⟨r1,er1,H⟩ := bs H
 refine vA [.rd,.rd,.rd] (qH n x0.Tag 1 99 r1 er1) ?_
 refine lA 1 ?_
 refine sL 66 2 ⟨31,0,[sB 6 r1,sA 1 1 5 0],[(1,(zB.row x0))]⟩ ?_
 cases h1 : r1
 ·have H := zI h1 H
  refine uA 25 4 0 ?_
  exact te (fF H)
 have H := zJ h1 H
 refine lA 2 ?_
 obtain ⟨r2,er2,H⟩ := bs H
 refine vA [.rd,.rd,.rd] (qH n x0.Mac 1 9999 r2 er2) ?_
 refine lA 2 ?_
 refine sL 2050 2 ⟨31,0,[sB 11 r2,sA 1 1 5 0],[(1,(zB.row x0))]⟩ ?_
 cases h2 : r2
 ·have H := zI h2 H
  refine uA 20 4 0 ?_
  exact te (fF H)
 have H := zJ h2 H
 refine lA 2 ?_
 obtain ⟨r3,er3,H⟩ := bs H
 refine vA [.rd,.rd,.rd] (qH n x0.Port 0 7 r3 er3) ?_
 refine lA 2 ?_
 refine sL 65538 2 ⟨31,0,[sB 16 r3,sA 1 1 5 0],[(1,(zB.row x0))]⟩ ?_
 cases h3 : r3
 ·have H := zI h3 H
  refine uA 15 4 0 ?_
  exact te (fF H)
 have H := zJ h3 H
 refine lA 2 ?_
 obtain ⟨r4,er4,H⟩ := bs H
 refine vA [.rd,.rd,.rd] (qH n x0.Age 0 4 r4 er4) ?_
 refine lA 2 ?_
 refine sL 2097154 2 ⟨31,0,[sB 21 r4,sA 1 1 5 0],[(1,(zB.row x0))]⟩ ?_
 cases h4 : r4
 ·have H := zI h4 H
  refine uA 10 4 0 ?_
  exact te (fF H)
 have H := zJ h4 H
 refine lA 4 ?_
 refine sL 35651586 2 ⟨31,0,[sB 25 (!x0.Sc),sB 21 true,sA 1 1 5 0],[(1,(zB.row x0))]⟩ ?_
 cases h5 : (!x0.Sc)
 ·have H := zI h5 H
  refine uA 6 4 0 ?_
  exact te (fJ [(false,[cB (x0.Age == 0)])] H)
 have H := zJ h5 H
 refine uA 6 4 0 ?_
 exact te (fT H)
def Ye (n : Nat) (x0 : zB) (x1 : Int) (x2 : Int) : Option (Bool) :=
  (bif (decide (x0.Tag > x1)) then (some true) else (bif (x0.Tag == x1) then (some (decide (x0.Mac > x2))) else (some false)))
theorem zFq (n : Nat) (x0 : zB) (x1 : Int) (x2 : Int) (r : Bool) (H : Ye n x0 x1 x2 = some r) : zH Try.prog 115 [.val true (CV.frzRow (zB.row x0)),.val false [.lit (.int .i64 x1)],.val false [.lit (.int .i64 x2)]] [.val false [.lit (.bool r)]] [] := by
 refine cW Try.func115 (fun g d => sl [g 0,g 1] .ret) [.tmp 6] fun cx => ?_
 unfold Ye at H
 refine gA 2 14 8 ?_
 refine rA 5 ?_
 refine sL 2062 8 ⟨23,0,[sB 11 (decide (x0.Tag > x1)),sA 3 3 5 0,sI 1 x1,sI 2 x2],[(3,(zB.row x0))]⟩ ?_
 cases h1 : (decide (x0.Tag > x1))
 ·have H := zI h1 H
  refine lA 5 ?_
  refine sL 67596 8 ⟨23,0,[sB 16 (x0.Tag == x1),sB 11 false,sA 3 3 5 0,sI 2 x2],[(3,(zB.row x0))]⟩ ?_
  cases h2 : (x0.Tag == x1)
  ·have H := zI h2 H
   refine uA 7 64 0 ?_
   exact te (fF H)
  have H := zJ h2 H
  refine uA 7 64 0 ?_
  exact te (fJ [(false,[cB (decide (x0.Mac > x2))])] H)
 have H := zJ h1 H
 refine uA 12 64 0 ?_
 exact te (fT H)
def JK (n : Nat) (x0 : (List zB)) : Option (Bool) :=
  (some (decide ((x0.length : Int) ≤ 12)))
def ZA (n : Nat) : Nat → (List zB) → Int → Option ((Unit) ⊕ (Bool))
  | 0,_,_ => none
  | mo2 + 1,x0,y1 => (bif (decide (y1 < (x0.length : Int))) then ((idx x0 y1).bind fun v3 => ((Jc n v3).bind fun r4 => (bif (!r4) then (some (Sum.inr false)) else (bif (decide (y1 > 0)) then ((idx x0 (IntKind.wrap .i64 (y1 - 1))).bind fun v5 => ((idx x0 (IntKind.wrap .i64 (y1 - 1))).bind fun v6 => ((Ye n v3 v5.Tag v6.Mac).bind fun r7 => (bif (!r7) then (some (Sum.inr false)) else (ZA n mo2 x0 (IntKind.wrap .i64 (y1 + 1))))))) else (ZA n mo2 x0 (IntKind.wrap .i64 (y1 + 1))))))) else (some (Sum.inl ())))
def Y8 (n : Nat) (x0 : (List zB)) : Option (Bool) :=
  ((ZA n n x0 0).bind fun o => match o with | .inl _ => (JK n x0) | .inr r => some r)
def zIn : Tab := ⟨24,[0,1,2,6,8,24,40,64,64,64,576,1344,2112,4160,64,64,32832,81984,131136,262208,532672,1048640,2097224,4194312],[0,1,2,4,8,24,40,64,64,64,576,1344,2112,4160,64,64,32832,81984,131136,262208,532672,1048640,2097224,4194312],[0,1,3,7,15,31,63,127,127,127,639,1919,3967,8063,127,127,32895,114815,245887,508031,1048575,2097151,4194303,8388607]⟩
theorem ZR : zq (rg Try.f61 4) zIn = true := kr
theorem zGZ (n : Nat) (x0 : (List zB)) (r : Bool) (H : Y8 n x0 = some r) : zH Try.prog 61 [.val false [.sl false 5 (CV.frzEs (x0.map zB.row))]] [.val false [.lit (.bool r)]] [] := by
 refine cW Try.func61 (fun g d => sl [g 0,sl [g 1] (.block 0 (.loop (sl [g 2,cn 8 .skip (.exit 0),.block 1 (sl [g 3,d 4] (cn 35 (sl [g 5] .ret) .skip))] (g 6)))),g 7] .ret) [.tmp 2] fun cx => ?_
 unfold Y8 at H
 refine gA 1 1 0 ?_
 refine tS ?_
 refine rA 1 ?_
 refine kF x0 zB.row ?_
 refine uA 1 225 0 ?_
 obtain ⟨o2,eo2,Ho2⟩ := bs H
 clear H
 refine Tr.mid (ι := Unit) (fun v => ⟨40,0,[sC 0 (cF 5 x0 zB.row)],[]⟩) (fun v => JK n x0 = some r) ?_ ?_
 ·refine tB ?_
  refine Tr.loop (ι := Nat × (Int)) (fun v => ⟨40,0,[sI 7 v.2,sI 6 (x0.length : Int),sC 5 (cF 5 x0 zB.row),sC 0 (cF 5 x0 zB.row)],[]⟩) (fun v => ZA n v.1 x0 v.2 = some o2) (fun v => v.1) (n,0) eo2 (St.sub_of [7,6,5,0] [] kr) ?_
  rintro ⟨mo2,y1⟩ H
  have H : ZA n mo2 x0 y1 = some o2 := H
  obtain _ | mo2 := mo2
  ·exact nN H
  rw [ZA] at H
  refine gA 1 481 0 ?_
  refine tS ?_
  obtain ⟨h1,H⟩ | ⟨h1,H⟩ := bC H
  ·refine nA h1 ?_
   refine Tr.exit ?_
   refine aJ ?_
   obtain rfl := si H
   have H := Ho2
   dsimp only at H
   exact jA () H [0] []
  refine tA h1 ?_
  refine tK ?_
  refine tS ?_
  refine tB ?_
  refine rA 1 ?_
  obtain ⟨v3,ev3,H⟩ := bs H
  refine iA zB.row ev3 ?_
  refine uA 4 249 16 ?_
  obtain ⟨r4,er4,H⟩ := bs H
  refine sT ⟨40,0,[sI 3 y1,sA 4 4 5 0,sI 7 y1,sI 6 (x0.length : Int),sC 5 (cF 5 x0 zB.row),sC 0 (cF 5 x0 zB.row)],[(4,(zB.row v3))]⟩ ?_
  cases h2 : (!r4)
  ·have H := zI h2 H
   refine sT ⟨40,0,[sI 3 y1,sA 4 4 5 0,sI 7 y1,sI 6 (x0.length : Int),sC 5 (cF 5 x0 zB.row),sC 0 (cF 5 x0 zB.row)],[(4,(zB.row v3))]⟩ ?_
   cases h3 : (decide (y1 > 0))
   ·have H := zI h3 H
    refine Tr.draws mixed 24 kr ⟨40,0,[sB 35 false,sI 7 y1,sI 6 (x0.length : Int),sC 5 (cF 5 x0 zB.row),sC 0 (cF 5 x0 zB.row)],[]⟩ (fun cx => ?_) ?_
    ·refine mA ZR [(0,[1])] 23 [⟨[1],60,4,12⟩] fun cx => ?_
     refine mC ZR 1 ?_
     refine vA [.rd] (zBC n v3 r4 er4) ?_
     refine fA ?_
     refine mA ZR [(2,[]),(3,[])] 20 [⟨[1],60,4,12⟩] fun cx => ?_
     refine sA_ 37113 16 ⟨40,0,[sB 15 (!r4),sV 12 (zB.row v3),sI 3 y1,sA 4 4 5 0,sI 7 y1,sI 6 (x0.length : Int),sC 5 (cF 5 x0 zB.row),sC 0 (cF 5 x0 zB.row)],[(4,(zB.row v3))]⟩ ?_
     rw [h2]
     refine mA ZR [(4,[]),(5,[]),(6,[])] 17 [⟨[1],60,4,12⟩] fun cx => ?_
     refine sA_ 299257 16 ⟨40,0,[sB 18 (decide (y1 > 0)),sB 15 false,sV 12 (zB.row v3),sI 3 y1,sA 4 4 5 0,sI 7 y1,sI 6 (x0.length : Int),sC 5 (cF 5 x0 zB.row),sC 0 (cF 5 x0 zB.row)],[(4,(zB.row v3))]⟩ ?_
     rw [h3]
     refine mA ZR [(7,[]),(8,[]),(9,[]),(10,[]),(11,[]),(12,[]),(13,[]),(14,[]),(15,[]),(16,[]),(17,[]),(18,[]),(19,[]),(20,[]),(21,[]),(22,[]),(23,[])] 0 [⟨[1],60,4,12⟩] fun cx => ?_
     exact mE ZR [35,7,6,5,0] []
    refine nB_ ?_
    refine tK ?_
    refine eA 2 225 0 ?_
    exact jB mo2 (IntKind.wrap .i64 (y1 + 1)) H [7,6,5,0] []
   have H := zJ h3 H
   obtain ⟨v5,ev5,H⟩ := bs H
   obtain ⟨v6,ev6,H⟩ := bs H
   obtain ⟨r7,er7,H⟩ := bs H
   refine Tr.draws mixed 24 kr ⟨40,0,[sB 35 (!r7),sI 7 y1,sI 6 (x0.length : Int),sC 5 (cF 5 x0 zB.row),sC 0 (cF 5 x0 zB.row)],[]⟩ (fun cx => ?_) ?_
   ·refine mA ZR [(0,[1,20])] 23 [⟨[1,20],60,4,12⟩] fun cx => ?_
    refine mC ZR 1 ?_
    refine vA [.rd] (zBC n v3 r4 er4) ?_
    refine fA ?_
    refine mA ZR [(2,[]),(3,[])] 20 [⟨[1,20],60,4,12⟩] fun cx => ?_
    refine sA_ 37113 16 ⟨40,0,[sB 15 (!r4),sV 12 (zB.row v3),sI 3 y1,sA 4 4 5 0,sI 7 y1,sI 6 (x0.length : Int),sC 5 (cF 5 x0 zB.row),sC 0 (cF 5 x0 zB.row)],[(4,(zB.row v3))]⟩ ?_
    rw [h2]
    refine mA ZR [(4,[]),(5,[]),(6,[])] 17 [⟨[1,20],60,4,12⟩] fun cx => ?_
    refine sA_ 299257 16 ⟨40,0,[sB 18 (decide (y1 > 0)),sB 15 false,sV 12 (zB.row v3),sI 3 y1,sA 4 4 5 0,sI 7 y1,sI 6 (x0.length : Int),sC 5 (cF 5 x0 zB.row),sC 0 (cF 5 x0 zB.row)],[(4,(zB.row v3))]⟩ ?_
    rw [h3]
    refine mA ZR [(7,[20]),(8,[]),(9,[]),(10,[])] 13 [⟨[20],60,4,19⟩,⟨[1,20],60,4,12⟩] fun cx => ?_
    refine iN ZR 11 zB.row ev5 fun cx => ?_
    refine mA ZR [(12,[]),(13,[]),(14,[]),(15,[]),(16,[])] 7 [⟨[20],60,4,19⟩,⟨[1,20],60,4,12⟩] fun cx => ?_
    refine iN ZR 17 zB.row ev6 fun cx => ?_
    refine mA ZR [(18,[]),(19,[])] 4 [⟨[20],60,4,19⟩,⟨[1,20],60,4,12⟩] fun cx => ?_
    refine mC ZR 20 ?_
    refine vA [.rd,.rd,.rd] (zFq n v3 v5.Tag v6.Mac r7 er7) ?_
    refine fA ?_
    refine mA ZR [(21,[]),(22,[]),(23,[])] 0 [⟨[20],60,4,19⟩,⟨[1,20],60,4,12⟩] fun cx => ?_
    exact mE ZR [35,7,6,5,0] []
   refine sT ⟨40,0,[sB 35 (!r7),sI 7 y1,sI 6 (x0.length : Int),sC 5 (cF 5 x0 zB.row),sC 0 (cF 5 x0 zB.row)],[]⟩ ?_
   cases h4 : (!r7)
   ·have H := zI h4 H
    refine nB_ ?_
    refine tK ?_
    refine eA 2 225 0 ?_
    exact jB mo2 (IntKind.wrap .i64 (y1 + 1)) H [7,6,5,0] []
   have H := zJ h4 H
   refine tB_ ?_
   refine gA 1 4 0 ?_
   refine te ?_
   obtain rfl := si H
   have H := Ho2
   dsimp only at H
   exact fF H
  have H := zJ h2 H
  refine Tr.draws mixed 24 kr ⟨40,0,[sB 35 true,sI 7 y1,sI 6 (x0.length : Int),sC 5 (cF 5 x0 zB.row),sC 0 (cF 5 x0 zB.row)],[]⟩ (fun cx => ?_) ?_
  ·refine mA ZR [(0,[1])] 23 [⟨[1],60,4,12⟩] fun cx => ?_
   refine mC ZR 1 ?_
   refine vA [.rd] (zBC n v3 r4 er4) ?_
   refine fA ?_
   refine mA ZR [(2,[]),(3,[])] 20 [⟨[1],60,4,12⟩] fun cx => ?_
   refine sA_ 37113 16 ⟨40,0,[sB 15 (!r4),sV 12 (zB.row v3),sI 3 y1,sA 4 4 5 0,sI 7 y1,sI 6 (x0.length : Int),sC 5 (cF 5 x0 zB.row),sC 0 (cF 5 x0 zB.row)],[(4,(zB.row v3))]⟩ ?_
   rw [h2]
   refine mA ZR [(4,[]),(5,[]),(6,[]),(7,[]),(8,[]),(9,[]),(10,[]),(11,[]),(12,[]),(13,[]),(14,[]),(15,[]),(16,[]),(17,[]),(18,[]),(19,[]),(20,[]),(21,[]),(22,[]),(23,[])] 0 [⟨[1],60,4,12⟩] fun cx => ?_
   exact mE ZR [35,7,6,5,0] []
  refine tB_ ?_
  refine gA 1 4 0 ?_
  refine te ?_
  obtain rfl := si H
  have H := Ho2
  dsimp only at H
  exact fF H
 rintro _ H
 have H : (JK n x0) = some r := H
 unfold JK at H
 refine rA 1 ?_
 refine kF x0 zB.row ?_
 refine uA 2 4 0 ?_
 exact te (fJ [(false,[cB (decide ((x0.length : Int) ≤ 12))])] H)
def ZJ (n : Nat) (x0 : Int) : Option (Int) :=
  (bif (decide ((0 : Int) ≤ x0)) then (some (IntKind.wrap .i64 ((IntKind.wrap .i64 (1 * 2 ^ min ((x0 : Int)).toNat (IntKind.bits .i64))) - 1))) else none)
theorem JO (n : Nat) (x0 : Int) (r : Int) (H : ZJ n x0 = some r) : zH Try.prog 116 [.val false [.lit (.int .i64 x0)]] [.val false [.lit (.int .i64 r)]] [] := by
 refine cW Try.func116 (fun g d => sl [g 0,g 1] .ret) [.tmp 2] fun cx => ?_
 unfold ZJ at H
 refine gA 1 1 0 ?_
 refine rA 1 ?_
 obtain ⟨hg1,H⟩ := gs H
 refine LAt.binC tOk (op := .shl) (t := 3) (ty := 3) (ty' := 3) (x := (.const (.int .i64 1))) (y := (.tmp 3)) (d := 4) (g := none) (.int .i64 1) (.int .i64 x0) (.int .i64 (IntKind.wrap .i64 (1 * 2 ^ min ((x0 : Int)).toNat (IntKind.bits .i64)))) _ kr kr kr kr kr (φ := (0 : Int) ≤ x0) kr (of_decide_eq_true hg1) rfl ?_
 refine uA 2 4 0 ?_
 exact te (fJ [(false,[cI (IntKind.wrap .i64 ((IntKind.wrap .i64 (1 * 2 ^ min ((x0 : Int)).toNat (IntKind.bits .i64))) - 1))])] H)
def JM (n : Nat) : Option (Int) :=
  (some (-1))
def Z3 (n : Nat) : Nat → zD → Int → Int → Option ((Unit) ⊕ (Int))
  | 0,_,_,_ => none
  | mo2 + 1,x0,x1,y1 => (bif (decide (y1 < (x0.Rows.length : Int))) then ((idx x0.Rows y1).bind fun v3 => (bif (v3.Id == x1) then (some (Sum.inr y1)) else (Z3 n mo2 x0 x1 (IntKind.wrap .i64 (y1 + 1))))) else (some (Sum.inl ())))
def Y9 (n : Nat) (x0 : zD) (x1 : Int) : Option (Int) :=
  ((Z3 n n x0 x1 0).bind fun o => match o with | .inl _ => (JM n) | .inr r => some r)
theorem zGa (n : Nat) (x0 : zD) (x1 : Int) (r : Int) (H : Y9 n x0 x1 = some r) : zH Try.prog 117 [.val true (CV.frzRow (zD.row x0)),.val false [.lit (.int .i64 x1)]] [.val false [.lit (.int .i64 r)]] [] := by
 refine cW Try.func117 (fun g d => sl [g 0,sl [g 1] (.block 0 (.loop (sl [g 2,cn 11 .skip (.exit 0),.block 1 (sl [g 3,g 4] (cn 18 (sl [g 5] .ret) .skip))] (g 6)))),g 7] .ret) [.tmp 4] fun cx => ?_
 unfold Y9 at H
 refine gA 2 6 4 ?_
 refine tS ?_
 refine rA 2 ?_
 refine kF x0.Rows zA.row ?_
 refine uA 1 1794 0 ?_
 obtain ⟨o2,eo2,Ho2⟩ := bs H
 clear H
 refine Tr.mid (ι := Unit) (fun v => ⟨21,0,[],[]⟩) (fun v => JM n = some r) ?_ ?_
 ·refine tB ?_
  refine Tr.loop (ι := Nat × (Int)) (fun v => ⟨21,0,[sI 10 v.2,sI 9 (x0.Rows.length : Int),sC 8 (cF 3 x0.Rows zA.row),sI 1 x1],[]⟩) (fun v => Z3 n v.1 x0 x1 v.2 = some o2) (fun v => v.1) (n,0) eo2 (St.sub_of [10,9,8,1] [] kr) ?_
  rintro ⟨mo2,y1⟩ H
  have H : Z3 n mo2 x0 x1 y1 = some o2 := H
  obtain _ | mo2 := mo2
  ·exact nN H
  rw [Z3] at H
  refine gA 1 3842 0 ?_
  refine tS ?_
  obtain ⟨h1,H⟩ | ⟨h1,H⟩ := bC H
  ·refine nA h1 ?_
   refine Tr.exit ?_
   refine aJ ?_
   obtain rfl := si H
   have H := Ho2
   dsimp only at H
   exact jA () H [] []
  refine tA h1 ?_
  refine tK ?_
  refine tS ?_
  refine tB ?_
  refine rA 1 ?_
  obtain ⟨v3,ev3,H⟩ := bs H
  refine iA zA.row ev3 ?_
  refine uA 4 1890 64 ?_
  refine gA 4 263970 0 ?_
  obtain ⟨h2,H⟩ | ⟨h2,H⟩ := bC H
  ·refine nA h2 ?_
   refine tK ?_
   refine eA 2 1794 0 ?_
   exact jB mo2 (IntKind.wrap .i64 (y1 + 1)) H [10,9,8,1] []
  refine tA h2 ?_
  refine gA 2 16 0 ?_
  refine te ?_
  obtain rfl := si H
  have H := Ho2
  dsimp only at H
  exact fJ [(false,[cI y1])] H
 rintro _ H
 have H : (JM n) = some r := H
 unfold JM at H
 refine gA 1 16 0 ?_
 exact te (fJ [(false,[cI (-1)])] H)
def Yu (n : Nat) : Option (Bool) :=
  (some true)
def ZI (n : Nat) : Nat → zD → Int → Option ((Unit) ⊕ (Bool))
  | 0,_,_ => none
  | mo4 + 1,x0,y3 => (bif (decide (y3 < (x0.Pv.length : Int))) then ((idx x0.Pv y3).bind fun v5 => ((Y9 n x0 v5).bind fun r6 => (bif (decide (r6 < 0)) then (some (Sum.inr false)) else (ZI n mo4 x0 (IntKind.wrap .i64 (y3 + 1)))))) else (some (Sum.inl ())))
def Qq (n : Nat) (x0 : zD) : Option (Bool) :=
  ((ZI n n x0 0).bind fun o => match o with | .inl _ => (Yu n) | .inr r => some r)
def qr (n : Nat) : Nat → zD → Int → Int → Option ((Unit) ⊕ (Bool))
  | 0,_,_,_ => none
  | mo7 + 1,x0,x1,y2 => (bif (decide (y2 < (x0.Rows.length : Int))) then ((idx x0.Rows y2).bind fun v8 => ((z9 n v8.Id 1 99).bind fun r9 => (bif (!r9) then (some (Sum.inr false)) else (bif (decide (y2 > 0)) then ((idx x0.Rows (IntKind.wrap .i64 (y2 - 1))).bind fun v12 => (bif (decide (v12.Id ≥ v8.Id)) then (some (Sum.inr false)) else ((ZJ n x1).bind fun r13 => ((z9 n v8.Members 0 r13).bind fun r14 => (bif (!r14) then (some (Sum.inr false)) else (bif ((IntKind.wrap .i64 (BitVec.ofInt (IntKind.bits .i64) v8.Bare &&& ~~~BitVec.ofInt (IntKind.bits .i64) v8.Members).toNat) != 0) then (some (Sum.inr false)) else (qr n mo7 x0 x1 (IntKind.wrap .i64 (y2 + 1))))))))) else ((ZJ n x1).bind fun r10 => ((z9 n v8.Members 0 r10).bind fun r11 => (bif (!r11) then (some (Sum.inr false)) else (bif ((IntKind.wrap .i64 (BitVec.ofInt (IntKind.bits .i64) v8.Bare &&& ~~~BitVec.ofInt (IntKind.bits .i64) v8.Members).toNat) != 0) then (some (Sum.inr false)) else (qr n mo7 x0 x1 (IntKind.wrap .i64 (y2 + 1))))))))))) else (some (Sum.inl ())))
def Yd (n : Nat) (x0 : zD) (x1 : Int) : Option (Bool) :=
  ((z9 n x1 1 6).bind fun r1 => (bif (!r1) then (some false) else (bif ((x0.Pv.length : Int) != x1) then (some false) else (bif (decide ((x0.Rows.length : Int) > 6)) then (some false) else ((qr n n x0 x1 0).bind fun o => match o with | .inl _ => (Qq n x0) | .inr r => some r)))))
def zIo : Tab := ⟨36,[0,1,2,4,12,16,48,80,128,384,128,1152,2688,4224,8320,128,32896,82048,131216,262160,524416,1048576,3145728,1048576,9437184,22020096,34603008,68157440,167772160,268435456,805306368,268435456,2415919104,5637144576,8858370048,17448304640],[0,1,2,4,8,16,48,80,128,384,128,1152,2688,4224,8320,128,32896,82048,131216,262160,524288,1048576,3145728,1048576,9437184,22020096,34603008,68157440,134217728,268435456,805306368,268435456,2415919104,5637144576,8858370048,17448304640],[0,1,3,7,15,31,63,127,255,511,255,1279,4095,8191,16383,255,33023,131071,262143,524287,1048575,2097151,4194303,2097151,10485759,33554431,67108863,134217727,268435455,536870911,1073741823,536870911,2684354559,8589934591,17179869183,34359738367]⟩
theorem za : zq (rg Try.f62 6) zIo = true := kr
theorem zEC (n : Nat) (x1 : Int) (r13 : Int) (v8 : zA) (r14 : Bool) (y2 : Int) (x0 : zD) (er13 : (ZJ n x1) = some r13) (er14 : (z9 n v8.Members 0 r13) = some r14) (h12 : (!r14) = false) (cx : Cx) : AT Try.prog cx (rg Try.f62 6) [⟨[24,25],3,48,49⟩,⟨[24,25],37,41,42⟩,⟨[2,24,25],3,33,34⟩] 15 [20,19,18,17,16,15,14,13,12,11,10,9,8,7,6,5,4,3,2,1,0] ⟨82,0,[sB 53 false,sI 49 v8.Id,sA 48 6 3 0,sR 42 2 2 0 1 false,sA 41 2 2 0,sI 34 v8.Id,sA 33 6 3 0,sA 6 6 3 0,sI 28 y2,sI 27 (x0.Rows.length : Int),sC 26 (cF 3 x0.Rows zA.row),sA 2 2 2 0,sI 1 x1],[(6,(zA.row v8)),(2,(CV.frzRow (zD.row x0)))]⟩ (fun s => s = ⟨82,0,[sB 68 ((IntKind.wrap .i64 (BitVec.ofInt (IntKind.bits .i64) v8.Bare &&& ~~~BitVec.ofInt (IntKind.bits .i64) v8.Members).toNat) != 0),sI 28 y2,sI 27 (x0.Rows.length : Int),sC 26 (cF 3 x0.Rows zA.row),sA 2 2 2 0,sI 1 x1],[(2,(CV.frzRow (zD.row x0)))]⟩) := by
 refine mA za [(21,[]),(22,[25]),(23,[])] 12 [⟨[25],3,54,55⟩,⟨[24,25],3,48,49⟩,⟨[24,25],37,41,42⟩,⟨[2,24,25],3,33,34⟩] fun cx => ?_
 refine mC za 24 ?_
 refine vA [.rd] (JO n x1 r13 er13) ?_
 refine fA ?_
 refine mC za 25 ?_
 refine vA [.rd,.rd,.rd] (qH n v8.Members 0 r13 r14 er14) ?_
 refine fA ?_
 refine mA za [(26,[]),(27,[]),(28,[])] 7 [⟨[25],3,54,55⟩,⟨[24,25],3,48,49⟩,⟨[24,25],37,41,42⟩,⟨[2,24,25],3,33,34⟩] fun cx => ?_
 refine sA_ 0x20c306061c000046 68 ⟨82,0,[sB 61 (!r14),sI 55 v8.Members,sA 54 6 3 1,sI 49 v8.Id,sA 48 6 3 0,sR 42 2 2 0 1 false,sA 41 2 2 0,sI 34 v8.Id,sA 33 6 3 0,sA 6 6 3 0,sI 28 y2,sI 27 (x0.Rows.length : Int),sC 26 (cF 3 x0.Rows zA.row),sA 2 2 2 0,sI 1 x1],[(6,(zA.row v8)),(2,(CV.frzRow (zD.row x0)))]⟩ ?_
 rw [h12]
 refine mA za [(29,[]),(30,[]),(31,[]),(32,[]),(33,[]),(34,[]),(35,[])] 0 [⟨[],3,64,65⟩,⟨[],3,62,63⟩,⟨[25],3,54,55⟩,⟨[24,25],3,48,49⟩,⟨[24,25],37,41,42⟩,⟨[2,24,25],3,33,34⟩] fun cx => ?_
 exact mE za [68,28,27,26,2,1] [2]
theorem zED (n : Nat) (x1 : Int) (r13 : Int) (v8 : zA) (r14 : Bool) (y2 : Int) (x0 : zD) (er13 : (ZJ n x1) = some r13) (er14 : (z9 n v8.Members 0 r13) = some r14) (h12 : (!r14) = true) (cx : Cx) : AT Try.prog cx (rg Try.f62 6) [⟨[24,25],3,48,49⟩,⟨[24,25],37,41,42⟩,⟨[2,24,25],3,33,34⟩] 15 [20,19,18,17,16,15,14,13,12,11,10,9,8,7,6,5,4,3,2,1,0] ⟨82,0,[sB 53 false,sI 49 v8.Id,sA 48 6 3 0,sR 42 2 2 0 1 false,sA 41 2 2 0,sI 34 v8.Id,sA 33 6 3 0,sA 6 6 3 0,sI 28 y2,sI 27 (x0.Rows.length : Int),sC 26 (cF 3 x0.Rows zA.row),sA 2 2 2 0,sI 1 x1],[(6,(zA.row v8)),(2,(CV.frzRow (zD.row x0)))]⟩ (fun s => s = ⟨82,0,[sB 68 true,sI 28 y2,sI 27 (x0.Rows.length : Int),sC 26 (cF 3 x0.Rows zA.row),sA 2 2 2 0,sI 1 x1],[(2,(CV.frzRow (zD.row x0)))]⟩) := by
 refine mA za [(21,[]),(22,[25]),(23,[])] 12 [⟨[25],3,54,55⟩,⟨[24,25],3,48,49⟩,⟨[24,25],37,41,42⟩,⟨[2,24,25],3,33,34⟩] fun cx => ?_
 refine mC za 24 ?_
 refine vA [.rd] (JO n x1 r13 er13) ?_
 refine fA ?_
 refine mC za 25 ?_
 refine vA [.rd,.rd,.rd] (qH n v8.Members 0 r13 r14 er14) ?_
 refine fA ?_
 refine mA za [(26,[]),(27,[]),(28,[])] 7 [⟨[25],3,54,55⟩,⟨[24,25],3,48,49⟩,⟨[24,25],37,41,42⟩,⟨[2,24,25],3,33,34⟩] fun cx => ?_
 refine sA_ 0x20c306061c000046 68 ⟨82,0,[sB 61 (!r14),sI 55 v8.Members,sA 54 6 3 1,sI 49 v8.Id,sA 48 6 3 0,sR 42 2 2 0 1 false,sA 41 2 2 0,sI 34 v8.Id,sA 33 6 3 0,sA 6 6 3 0,sI 28 y2,sI 27 (x0.Rows.length : Int),sC 26 (cF 3 x0.Rows zA.row),sA 2 2 2 0,sI 1 x1],[(6,(zA.row v8)),(2,(CV.frzRow (zD.row x0)))]⟩ ?_
 rw [h12]
 refine mA za [(29,[]),(30,[]),(31,[]),(32,[]),(33,[]),(34,[]),(35,[])] 0 [⟨[25],3,54,55⟩,⟨[24,25],3,48,49⟩,⟨[24,25],37,41,42⟩,⟨[2,24,25],3,33,34⟩] fun cx => ?_
 exact mE za [68,28,27,26,2,1] [2]
theorem zEE (n : Nat) (v8 : zA) (y2 : Int) (x0 : zD) (x1 : Int) (cx : Cx) : AT Try.prog cx (rg Try.f62 6) [⟨[],3,48,49⟩,⟨[],37,41,42⟩,⟨[2],3,33,34⟩] 15 [20,19,18,17,16,15,14,13,12,11,10,9,8,7,6,5,4,3,2,1,0] ⟨82,0,[sB 53 true,sI 49 v8.Id,sA 48 6 3 0,sR 42 2 2 0 1 false,sA 41 2 2 0,sI 34 v8.Id,sA 33 6 3 0,sA 6 6 3 0,sI 28 y2,sI 27 (x0.Rows.length : Int),sC 26 (cF 3 x0.Rows zA.row),sA 2 2 2 0,sI 1 x1],[(6,(zA.row v8)),(2,(CV.frzRow (zD.row x0)))]⟩ (fun s => s = ⟨82,0,[sB 68 true,sI 28 y2,sI 27 (x0.Rows.length : Int),sC 26 (cF 3 x0.Rows zA.row),sA 2 2 2 0,sI 1 x1],[(2,(CV.frzRow (zD.row x0)))]⟩) := by
 refine mA za [(21,[]),(22,[]),(23,[]),(24,[]),(25,[]),(26,[]),(27,[]),(28,[]),(29,[]),(30,[]),(31,[]),(32,[]),(33,[]),(34,[]),(35,[])] 0 [⟨[],3,48,49⟩,⟨[],37,41,42⟩,⟨[2],3,33,34⟩] fun cx => ?_
 exact mE za [68,28,27,26,2,1] [2]
theorem zFp (n : Nat) (x0 : zD) (x1 : Int) (r : Bool) (H : Yd n x0 x1 = some r) : zH Try.prog 62 [.val true (CV.frzRow (zD.row x0)),.val false [.lit (.int .i64 x1)]] [.val false [.lit (.bool r)]] [] := by
 refine cW Try.func62 (fun g d => sl [g 0,sl [g 1] (cn 24 (sl [g 2] .ret) .skip),sl [g 3] (.block 0 (.loop (sl [g 4,cn 29 .skip (.exit 0),.block 1 (sl [g 5,d 6] (cn 68 (sl [g 7] .ret) .skip))] (g 8)))),sl [g 9] (.block 2 (.loop (sl [g 10,cn 74 .skip (.exit 2),.block 3 (sl [g 11,g 12] (cn 80 (sl [g 13] .ret) .skip))] (g 14)))),g 15] .ret) [.tmp 4] fun cx => ?_
 unfold Yd at H
 refine gA 2 6 4 ?_
 refine tS ?_
 refine rA 1 ?_
 obtain ⟨r1,er1,H⟩ := bs H
 refine vA [.rd,.rd,.rd] (qH n x1 1 6 r1 er1) ?_
 refine lA 2 ?_
 refine sL 4102 4 ⟨82,0,[sB 12 (!r1),sA 2 2 2 0,sI 1 x1],[(2,(CV.frzRow (zD.row x0)))]⟩ ?_
 cases h1 : (!r1)
 ·have H := zI h1 H
  refine lA 2 ?_
  refine kF x0.Pv intRow ?_
  refine lA 4 ?_
  refine sL 524294 4 ⟨82,0,[sB 19 ((x0.Pv.length : Int) != x1),sA 2 2 2 0,sI 1 x1],[(2,(CV.frzRow (zD.row x0)))]⟩ ?_
  cases h2 : ((x0.Pv.length : Int) != x1)
  ·have H := zI h2 H
   refine lA 2 ?_
   refine kF x0.Rows zA.row ?_
   refine uA 2 16777222 4 ?_
   obtain ⟨h3,H⟩ | ⟨h3,H⟩ := bC H
   ·refine nA h3 ?_
    refine tK ?_
    refine tS ?_
    refine rA 2 ?_
    refine kF x0.Rows zA.row ?_
    refine uA 1 469762054 4 ?_
    obtain ⟨o7,eo7,Ho7⟩ := bs H
    clear H
    refine Tr.mid (ι := Unit) (fun v => ⟨82,0,[sA 2 2 2 0],[(2,(CV.frzRow (zD.row x0)))]⟩) (fun v => Qq n x0 = some r) ?_ ?_
    ·refine tB ?_
     refine Tr.loop (ι := Nat × (Int)) (fun v => ⟨82,0,[sI 28 v.2,sI 27 (x0.Rows.length : Int),sC 26 (cF 3 x0.Rows zA.row),sA 2 2 2 0,sI 1 x1],[(2,(CV.frzRow (zD.row x0)))]⟩) (fun v => qr n v.1 x0 x1 v.2 = some o7) (fun v => v.1) (n,0) eo7 (St.sub_of [28,27,26,2,1] [2] kr) ?_
     rintro ⟨mo7,y2⟩ H
     have H : qr n mo7 x0 x1 y2 = some o7 := H
     obtain _ | mo7 := mo7
     ·exact nN H
     rw [qr] at H
     refine gA 1 1006632966 4 ?_
     refine tS ?_
     obtain ⟨h6,H⟩ | ⟨h6,H⟩ := bC H
     ·refine nA h6 ?_
      refine Tr.exit ?_
      refine aJ ?_
      obtain rfl := si H
      have H := Ho7
      dsimp only at H
      exact jA () H [2] [2]
     refine tA h6 ?_
     refine tK ?_
     refine tS ?_
     refine tB ?_
     refine rA 1 ?_
     obtain ⟨v8,ev8,H⟩ := bs H
     refine iA zA.row ev8 ?_
     refine uA 4 469762150 68 ?_
     obtain ⟨r9,er9,H⟩ := bs H
     refine sT ⟨82,0,[sI 5 y2,sA 6 6 3 0,sI 28 y2,sI 27 (x0.Rows.length : Int),sC 26 (cF 3 x0.Rows zA.row),sA 2 2 2 0,sI 1 x1],[(6,(zA.row v8)),(2,(CV.frzRow (zD.row x0)))]⟩ ?_
     cases h7 : (!r9)
     ·have H := zI h7 H
      refine sT ⟨82,0,[sI 5 y2,sA 6 6 3 0,sI 28 y2,sI 27 (x0.Rows.length : Int),sC 26 (cF 3 x0.Rows zA.row),sA 2 2 2 0,sI 1 x1],[(6,(zA.row v8)),(2,(CV.frzRow (zD.row x0)))]⟩ ?_
      cases h8 : (decide (y2 > 0))
      ·have H := zI h8 H
       obtain ⟨r10,er10,H⟩ := bs H
       obtain ⟨r11,er11,H⟩ := bs H
       refine sT ⟨82,0,[sI 5 y2,sA 6 6 3 0,sI 28 y2,sI 27 (x0.Rows.length : Int),sC 26 (cF 3 x0.Rows zA.row),sA 2 2 2 0,sI 1 x1],[(6,(zA.row v8)),(2,(CV.frzRow (zD.row x0)))]⟩ ?_
       cases h9 : (!r11)
       ·have H := zI h9 H
        refine Tr.draws mixed 36 kr ⟨82,0,[sB 68 ((IntKind.wrap .i64 (BitVec.ofInt (IntKind.bits .i64) v8.Bare &&& ~~~BitVec.ofInt (IntKind.bits .i64) v8.Members).toNat) != 0),sI 28 y2,sI 27 (x0.Rows.length : Int),sC 26 (cF 3 x0.Rows zA.row),sA 2 2 2 0,sI 1 x1],[(2,(CV.frzRow (zD.row x0)))]⟩ (fun cx => ?_) ?_
        ·refine mA za [(0,[]),(1,[2,24,25])] 34 [⟨[2,24,25],3,33,34⟩] fun cx => ?_
         refine mC za 2 ?_
         refine vA [.rd,.rd,.rd] (qH n v8.Id 1 99 r9 er9) ?_
         refine fA ?_
         refine mA za [(3,[]),(4,[])] 31 [⟨[2,24,25],3,33,34⟩] fun cx => ?_
         refine sA_ 163678519398 68 ⟨82,0,[sB 37 (!r9),sI 34 v8.Id,sA 33 6 3 0,sI 5 y2,sA 6 6 3 0,sI 28 y2,sI 27 (x0.Rows.length : Int),sC 26 (cF 3 x0.Rows zA.row),sA 2 2 2 0,sI 1 x1],[(6,(zA.row v8)),(2,(CV.frzRow (zD.row x0)))]⟩ ?_
         rw [h7]
         refine mA za [(5,[]),(6,[]),(7,[])] 28 [⟨[2,24,25],3,33,34⟩] fun cx => ?_
         refine sA_ 1263190147174 68 ⟨82,0,[sB 40 (decide (y2 > 0)),sB 37 false,sI 34 v8.Id,sA 33 6 3 0,sI 5 y2,sA 6 6 3 0,sI 28 y2,sI 27 (x0.Rows.length : Int),sC 26 (cF 3 x0.Rows zA.row),sA 2 2 2 0,sI 1 x1],[(6,(zA.row v8)),(2,(CV.frzRow (zD.row x0)))]⟩ ?_
         rw [h8]
         refine mA za [(8,[]),(9,[]),(10,[]),(11,[]),(12,[]),(13,[]),(14,[]),(15,[]),(16,[]),(17,[]),(18,[]),(19,[]),(20,[]),(21,[]),(22,[25]),(23,[])] 12 [⟨[25],3,54,55⟩,⟨[2,24,25],3,33,34⟩] fun cx => ?_
         refine mC za 24 ?_
         refine vA [.rd] (JO n x1 r10 er10) ?_
         refine fA ?_
         refine mC za 25 ?_
         refine vA [.rd,.rd,.rd] (qH n v8.Members 0 r10 r11 er11) ?_
         refine fA ?_
         refine mA za [(26,[]),(27,[]),(28,[])] 7 [⟨[25],3,54,55⟩,⟨[2,24,25],3,33,34⟩] fun cx => ?_
         refine sA_ 0x20c000061c000046 68 ⟨82,0,[sB 61 (!r11),sI 55 v8.Members,sA 54 6 3 1,sI 34 v8.Id,sA 33 6 3 0,sA 6 6 3 0,sI 28 y2,sI 27 (x0.Rows.length : Int),sC 26 (cF 3 x0.Rows zA.row),sA 2 2 2 0,sI 1 x1],[(6,(zA.row v8)),(2,(CV.frzRow (zD.row x0)))]⟩ ?_
         rw [h9]
         refine mA za [(29,[]),(30,[]),(31,[]),(32,[]),(33,[]),(34,[]),(35,[])] 0 [⟨[],3,64,65⟩,⟨[],3,62,63⟩,⟨[25],3,54,55⟩,⟨[2,24,25],3,33,34⟩] fun cx => ?_
         exact mE za [68,28,27,26,2,1] [2]
        refine sT ⟨82,0,[sB 68 ((IntKind.wrap .i64 (BitVec.ofInt (IntKind.bits .i64) v8.Bare &&& ~~~BitVec.ofInt (IntKind.bits .i64) v8.Members).toNat) != 0),sI 28 y2,sI 27 (x0.Rows.length : Int),sC 26 (cF 3 x0.Rows zA.row),sA 2 2 2 0,sI 1 x1],[(2,(CV.frzRow (zD.row x0)))]⟩ ?_
        cases h10 : ((IntKind.wrap .i64 (BitVec.ofInt (IntKind.bits .i64) v8.Bare &&& ~~~BitVec.ofInt (IntKind.bits .i64) v8.Members).toNat) != 0)
        ·have H := zI h10 H
         refine nB_ ?_
         refine tK ?_
         refine eA 2 469762054 4 ?_
         exact jB mo7 (IntKind.wrap .i64 (y2 + 1)) H [28,27,26,2,1] [2]
        have H := zJ h10 H
        refine tB_ ?_
        refine gA 1 16 0 ?_
        refine te ?_
        obtain rfl := si H
        have H := Ho7
        dsimp only at H
        exact fF H
       have H := zJ h9 H
       refine Tr.draws mixed 36 kr ⟨82,0,[sB 68 true,sI 28 y2,sI 27 (x0.Rows.length : Int),sC 26 (cF 3 x0.Rows zA.row),sA 2 2 2 0,sI 1 x1],[(2,(CV.frzRow (zD.row x0)))]⟩ (fun cx => ?_) ?_
       ·refine mA za [(0,[]),(1,[2,24,25])] 34 [⟨[2,24,25],3,33,34⟩] fun cx => ?_
        refine mC za 2 ?_
        refine vA [.rd,.rd,.rd] (qH n v8.Id 1 99 r9 er9) ?_
        refine fA ?_
        refine mA za [(3,[]),(4,[])] 31 [⟨[2,24,25],3,33,34⟩] fun cx => ?_
        refine sA_ 163678519398 68 ⟨82,0,[sB 37 (!r9),sI 34 v8.Id,sA 33 6 3 0,sI 5 y2,sA 6 6 3 0,sI 28 y2,sI 27 (x0.Rows.length : Int),sC 26 (cF 3 x0.Rows zA.row),sA 2 2 2 0,sI 1 x1],[(6,(zA.row v8)),(2,(CV.frzRow (zD.row x0)))]⟩ ?_
        rw [h7]
        refine mA za [(5,[]),(6,[]),(7,[])] 28 [⟨[2,24,25],3,33,34⟩] fun cx => ?_
        refine sA_ 1263190147174 68 ⟨82,0,[sB 40 (decide (y2 > 0)),sB 37 false,sI 34 v8.Id,sA 33 6 3 0,sI 5 y2,sA 6 6 3 0,sI 28 y2,sI 27 (x0.Rows.length : Int),sC 26 (cF 3 x0.Rows zA.row),sA 2 2 2 0,sI 1 x1],[(6,(zA.row v8)),(2,(CV.frzRow (zD.row x0)))]⟩ ?_
        rw [h8]
        refine mA za [(8,[]),(9,[]),(10,[]),(11,[]),(12,[]),(13,[]),(14,[]),(15,[]),(16,[]),(17,[]),(18,[]),(19,[]),(20,[]),(21,[]),(22,[25]),(23,[])] 12 [⟨[25],3,54,55⟩,⟨[2,24,25],3,33,34⟩] fun cx => ?_
        refine mC za 24 ?_
        refine vA [.rd] (JO n x1 r10 er10) ?_
        refine fA ?_
        refine mC za 25 ?_
        refine vA [.rd,.rd,.rd] (qH n v8.Members 0 r10 r11 er11) ?_
        refine fA ?_
        refine mA za [(26,[]),(27,[]),(28,[])] 7 [⟨[25],3,54,55⟩,⟨[2,24,25],3,33,34⟩] fun cx => ?_
        refine sA_ 0x20c000061c000046 68 ⟨82,0,[sB 61 (!r11),sI 55 v8.Members,sA 54 6 3 1,sI 34 v8.Id,sA 33 6 3 0,sA 6 6 3 0,sI 28 y2,sI 27 (x0.Rows.length : Int),sC 26 (cF 3 x0.Rows zA.row),sA 2 2 2 0,sI 1 x1],[(6,(zA.row v8)),(2,(CV.frzRow (zD.row x0)))]⟩ ?_
        rw [h9]
        refine mA za [(29,[]),(30,[]),(31,[]),(32,[]),(33,[]),(34,[]),(35,[])] 0 [⟨[25],3,54,55⟩,⟨[2,24,25],3,33,34⟩] fun cx => ?_
        exact mE za [68,28,27,26,2,1] [2]
       refine tB_ ?_
       refine gA 1 16 0 ?_
       refine te ?_
       obtain rfl := si H
       have H := Ho7
       dsimp only at H
       exact fF H
      have H := zJ h8 H
      obtain ⟨v12,ev12,H⟩ := bs H
      refine sT ⟨82,0,[sI 5 y2,sA 6 6 3 0,sI 28 y2,sI 27 (x0.Rows.length : Int),sC 26 (cF 3 x0.Rows zA.row),sA 2 2 2 0,sI 1 x1],[(6,(zA.row v8)),(2,(CV.frzRow (zD.row x0)))]⟩ ?_
      cases h11 : (decide (v12.Id ≥ v8.Id))
      ·have H := zI h11 H
       obtain ⟨r13,er13,H⟩ := bs H
       obtain ⟨r14,er14,H⟩ := bs H
       refine sT ⟨82,0,[sI 5 y2,sA 6 6 3 0,sI 28 y2,sI 27 (x0.Rows.length : Int),sC 26 (cF 3 x0.Rows zA.row),sA 2 2 2 0,sI 1 x1],[(6,(zA.row v8)),(2,(CV.frzRow (zD.row x0)))]⟩ ?_
       cases h12 : (!r14)
       ·have H := zI h12 H
        refine Tr.draws mixed 36 kr ⟨82,0,[sB 68 ((IntKind.wrap .i64 (BitVec.ofInt (IntKind.bits .i64) v8.Bare &&& ~~~BitVec.ofInt (IntKind.bits .i64) v8.Members).toNat) != 0),sI 28 y2,sI 27 (x0.Rows.length : Int),sC 26 (cF 3 x0.Rows zA.row),sA 2 2 2 0,sI 1 x1],[(2,(CV.frzRow (zD.row x0)))]⟩ (fun cx => ?_) ?_
        ·refine mA za [(0,[]),(1,[2,24,25])] 34 [⟨[2,24,25],3,33,34⟩] fun cx => ?_
         refine mC za 2 ?_
         refine vA [.rd,.rd,.rd] (qH n v8.Id 1 99 r9 er9) ?_
         refine fA ?_
         refine mA za [(3,[]),(4,[])] 31 [⟨[2,24,25],3,33,34⟩] fun cx => ?_
         refine sA_ 163678519398 68 ⟨82,0,[sB 37 (!r9),sI 34 v8.Id,sA 33 6 3 0,sI 5 y2,sA 6 6 3 0,sI 28 y2,sI 27 (x0.Rows.length : Int),sC 26 (cF 3 x0.Rows zA.row),sA 2 2 2 0,sI 1 x1],[(6,(zA.row v8)),(2,(CV.frzRow (zD.row x0)))]⟩ ?_
         rw [h7]
         refine mA za [(5,[]),(6,[]),(7,[])] 28 [⟨[2,24,25],3,33,34⟩] fun cx => ?_
         refine sA_ 1263190147174 68 ⟨82,0,[sB 40 (decide (y2 > 0)),sB 37 false,sI 34 v8.Id,sA 33 6 3 0,sI 5 y2,sA 6 6 3 0,sI 28 y2,sI 27 (x0.Rows.length : Int),sC 26 (cF 3 x0.Rows zA.row),sA 2 2 2 0,sI 1 x1],[(6,(zA.row v8)),(2,(CV.frzRow (zD.row x0)))]⟩ ?_
         rw [h8]
         refine mA za [(8,[]),(9,[24,25]),(10,[]),(11,[])] 24 [⟨[24,25],37,41,42⟩,⟨[2,24,25],3,33,34⟩] fun cx => ?_
         refine iN za 12 zA.row ev12 fun cx => ?_
         refine mA za [(13,[]),(14,[]),(15,[]),(16,[24,25]),(17,[]),(18,[]),(19,[]),(20,[])] 15 [⟨[24,25],3,48,49⟩,⟨[24,25],37,41,42⟩,⟨[2,24,25],3,33,34⟩] fun cx => ?_
         refine sA_ 9858247494205510 68 ⟨82,0,[sB 53 (decide (v12.Id ≥ v8.Id)),sI 49 v8.Id,sA 48 6 3 0,sR 42 2 2 0 1 false,sA 41 2 2 0,sI 34 v8.Id,sA 33 6 3 0,sA 6 6 3 0,sI 28 y2,sI 27 (x0.Rows.length : Int),sC 26 (cF 3 x0.Rows zA.row),sA 2 2 2 0,sI 1 x1],[(6,(zA.row v8)),(2,(CV.frzRow (zD.row x0)))]⟩ ?_
         rw [h11]
         exact zEC n x1 r13 v8 r14 y2 x0 er13 er14 h12 cx
        refine sT ⟨82,0,[sB 68 ((IntKind.wrap .i64 (BitVec.ofInt (IntKind.bits .i64) v8.Bare &&& ~~~BitVec.ofInt (IntKind.bits .i64) v8.Members).toNat) != 0),sI 28 y2,sI 27 (x0.Rows.length : Int),sC 26 (cF 3 x0.Rows zA.row),sA 2 2 2 0,sI 1 x1],[(2,(CV.frzRow (zD.row x0)))]⟩ ?_
        cases h13 : ((IntKind.wrap .i64 (BitVec.ofInt (IntKind.bits .i64) v8.Bare &&& ~~~BitVec.ofInt (IntKind.bits .i64) v8.Members).toNat) != 0)
        ·have H := zI h13 H
         refine nB_ ?_
         refine tK ?_
         refine eA 2 469762054 4 ?_
         exact jB mo7 (IntKind.wrap .i64 (y2 + 1)) H [28,27,26,2,1] [2]
        have H := zJ h13 H
        refine tB_ ?_
        refine gA 1 16 0 ?_
        refine te ?_
        obtain rfl := si H
        have H := Ho7
        dsimp only at H
        exact fF H
       have H := zJ h12 H
       refine Tr.draws mixed 36 kr ⟨82,0,[sB 68 true,sI 28 y2,sI 27 (x0.Rows.length : Int),sC 26 (cF 3 x0.Rows zA.row),sA 2 2 2 0,sI 1 x1],[(2,(CV.frzRow (zD.row x0)))]⟩ (fun cx => ?_) ?_
       ·refine mA za [(0,[]),(1,[2,24,25])] 34 [⟨[2,24,25],3,33,34⟩] fun cx => ?_
        refine mC za 2 ?_
        refine vA [.rd,.rd,.rd] (qH n v8.Id 1 99 r9 er9) ?_
        refine fA ?_
        refine mA za [(3,[]),(4,[])] 31 [⟨[2,24,25],3,33,34⟩] fun cx => ?_
        refine sA_ 163678519398 68 ⟨82,0,[sB 37 (!r9),sI 34 v8.Id,sA 33 6 3 0,sI 5 y2,sA 6 6 3 0,sI 28 y2,sI 27 (x0.Rows.length : Int),sC 26 (cF 3 x0.Rows zA.row),sA 2 2 2 0,sI 1 x1],[(6,(zA.row v8)),(2,(CV.frzRow (zD.row x0)))]⟩ ?_
        rw [h7]
        refine mA za [(5,[]),(6,[]),(7,[])] 28 [⟨[2,24,25],3,33,34⟩] fun cx => ?_
        refine sA_ 1263190147174 68 ⟨82,0,[sB 40 (decide (y2 > 0)),sB 37 false,sI 34 v8.Id,sA 33 6 3 0,sI 5 y2,sA 6 6 3 0,sI 28 y2,sI 27 (x0.Rows.length : Int),sC 26 (cF 3 x0.Rows zA.row),sA 2 2 2 0,sI 1 x1],[(6,(zA.row v8)),(2,(CV.frzRow (zD.row x0)))]⟩ ?_
        rw [h8]
        refine mA za [(8,[]),(9,[24,25]),(10,[]),(11,[])] 24 [⟨[24,25],37,41,42⟩,⟨[2,24,25],3,33,34⟩] fun cx => ?_
        refine iN za 12 zA.row ev12 fun cx => ?_
        refine mA za [(13,[]),(14,[]),(15,[]),(16,[24,25]),(17,[]),(18,[]),(19,[]),(20,[])] 15 [⟨[24,25],3,48,49⟩,⟨[24,25],37,41,42⟩,⟨[2,24,25],3,33,34⟩] fun cx => ?_
        refine sA_ 9858247494205510 68 ⟨82,0,[sB 53 (decide (v12.Id ≥ v8.Id)),sI 49 v8.Id,sA 48 6 3 0,sR 42 2 2 0 1 false,sA 41 2 2 0,sI 34 v8.Id,sA 33 6 3 0,sA 6 6 3 0,sI 28 y2,sI 27 (x0.Rows.length : Int),sC 26 (cF 3 x0.Rows zA.row),sA 2 2 2 0,sI 1 x1],[(6,(zA.row v8)),(2,(CV.frzRow (zD.row x0)))]⟩ ?_
        rw [h11]
        exact zED n x1 r13 v8 r14 y2 x0 er13 er14 h12 cx
       refine tB_ ?_
       refine gA 1 16 0 ?_
       refine te ?_
       obtain rfl := si H
       have H := Ho7
       dsimp only at H
       exact fF H
      have H := zJ h11 H
      refine Tr.draws mixed 36 kr ⟨82,0,[sB 68 true,sI 28 y2,sI 27 (x0.Rows.length : Int),sC 26 (cF 3 x0.Rows zA.row),sA 2 2 2 0,sI 1 x1],[(2,(CV.frzRow (zD.row x0)))]⟩ (fun cx => ?_) ?_
      ·refine mA za [(0,[]),(1,[2])] 34 [⟨[2],3,33,34⟩] fun cx => ?_
       refine mC za 2 ?_
       refine vA [.rd,.rd,.rd] (qH n v8.Id 1 99 r9 er9) ?_
       refine fA ?_
       refine mA za [(3,[]),(4,[])] 31 [⟨[2],3,33,34⟩] fun cx => ?_
       refine sA_ 163678519398 68 ⟨82,0,[sB 37 (!r9),sI 34 v8.Id,sA 33 6 3 0,sI 5 y2,sA 6 6 3 0,sI 28 y2,sI 27 (x0.Rows.length : Int),sC 26 (cF 3 x0.Rows zA.row),sA 2 2 2 0,sI 1 x1],[(6,(zA.row v8)),(2,(CV.frzRow (zD.row x0)))]⟩ ?_
       rw [h7]
       refine mA za [(5,[]),(6,[]),(7,[])] 28 [⟨[2],3,33,34⟩] fun cx => ?_
       refine sA_ 1263190147174 68 ⟨82,0,[sB 40 (decide (y2 > 0)),sB 37 false,sI 34 v8.Id,sA 33 6 3 0,sI 5 y2,sA 6 6 3 0,sI 28 y2,sI 27 (x0.Rows.length : Int),sC 26 (cF 3 x0.Rows zA.row),sA 2 2 2 0,sI 1 x1],[(6,(zA.row v8)),(2,(CV.frzRow (zD.row x0)))]⟩ ?_
       rw [h8]
       refine mA za [(8,[]),(9,[]),(10,[]),(11,[])] 24 [⟨[],37,41,42⟩,⟨[2],3,33,34⟩] fun cx => ?_
       refine iN za 12 zA.row ev12 fun cx => ?_
       refine mA za [(13,[]),(14,[]),(15,[]),(16,[]),(17,[]),(18,[]),(19,[]),(20,[])] 15 [⟨[],3,48,49⟩,⟨[],37,41,42⟩,⟨[2],3,33,34⟩] fun cx => ?_
       refine sA_ 9858247494205510 68 ⟨82,0,[sB 53 (decide (v12.Id ≥ v8.Id)),sI 49 v8.Id,sA 48 6 3 0,sR 42 2 2 0 1 false,sA 41 2 2 0,sI 34 v8.Id,sA 33 6 3 0,sA 6 6 3 0,sI 28 y2,sI 27 (x0.Rows.length : Int),sC 26 (cF 3 x0.Rows zA.row),sA 2 2 2 0,sI 1 x1],[(6,(zA.row v8)),(2,(CV.frzRow (zD.row x0)))]⟩ ?_
       rw [h11]
       exact zEE n v8 y2 x0 x1 cx
      refine tB_ ?_
      refine gA 1 16 0 ?_
      refine te ?_
      obtain rfl := si H
      have H := Ho7
      dsimp only at H
      exact fF H
     have H := zJ h7 H
     refine Tr.draws mixed 36 kr ⟨82,0,[sB 68 true,sI 28 y2,sI 27 (x0.Rows.length : Int),sC 26 (cF 3 x0.Rows zA.row),sA 2 2 2 0,sI 1 x1],[(2,(CV.frzRow (zD.row x0)))]⟩ (fun cx => ?_) ?_
     ·refine mA za [(0,[]),(1,[2])] 34 [⟨[2],3,33,34⟩] fun cx => ?_
      refine mC za 2 ?_
      refine vA [.rd,.rd,.rd] (qH n v8.Id 1 99 r9 er9) ?_
      refine fA ?_
      refine mA za [(3,[]),(4,[])] 31 [⟨[2],3,33,34⟩] fun cx => ?_
      refine sA_ 163678519398 68 ⟨82,0,[sB 37 (!r9),sI 34 v8.Id,sA 33 6 3 0,sI 5 y2,sA 6 6 3 0,sI 28 y2,sI 27 (x0.Rows.length : Int),sC 26 (cF 3 x0.Rows zA.row),sA 2 2 2 0,sI 1 x1],[(6,(zA.row v8)),(2,(CV.frzRow (zD.row x0)))]⟩ ?_
      rw [h7]
      refine mA za [(5,[]),(6,[]),(7,[]),(8,[]),(9,[]),(10,[]),(11,[]),(12,[]),(13,[]),(14,[]),(15,[]),(16,[]),(17,[]),(18,[]),(19,[]),(20,[]),(21,[]),(22,[]),(23,[]),(24,[]),(25,[]),(26,[]),(27,[]),(28,[]),(29,[]),(30,[]),(31,[]),(32,[]),(33,[]),(34,[]),(35,[])] 0 [⟨[2],3,33,34⟩] fun cx => ?_
      exact mE za [68,28,27,26,2,1] [2]
     refine tB_ ?_
     refine gA 1 16 0 ?_
     refine te ?_
     obtain rfl := si H
     have H := Ho7
     dsimp only at H
     exact fF H
    rintro _ H
    have H : (Qq n x0) = some r := H
    unfold Qq at H
    refine tS ?_
    refine rA 2 ?_
    refine kF x0.Pv intRow ?_
    refine uA 1 0x3800000000000000004 4 ?_
    obtain ⟨o4,eo4,Ho4⟩ := bs H
    clear H
    refine Tr.mid (ι := Unit) (fun v => ⟨82,0,[],[]⟩) (fun v => Yu n = some r) ?_ ?_
    ·refine tB ?_
     refine Tr.loop (ι := Nat × (Int)) (fun v => ⟨82,0,[sI 73 v.2,sI 72 (x0.Pv.length : Int),sC 71 (cF 1 x0.Pv intRow),sA 2 2 2 0],[(2,(CV.frzRow (zD.row x0)))]⟩) (fun v => ZI n v.1 x0 v.2 = some o4) (fun v => v.1) (n,0) eo4 (St.sub_of [73,72,71,2] [2] kr) ?_
     rintro ⟨mo4,y3⟩ H
     have H : ZI n mo4 x0 y3 = some o4 := H
     obtain _ | mo4 := mo4
     ·exact nN H
     rw [ZI] at H
     refine gA 1 0x7800000000000000004 4 ?_
     refine tS ?_
     obtain ⟨h4,H⟩ | ⟨h4,H⟩ := bC H
     ·refine nA h4 ?_
      refine Tr.exit ?_
      refine aJ ?_
      obtain rfl := si H
      have H := Ho4
      dsimp only at H
      exact jA () H [] []
     refine tA h4 ?_
     refine tK ?_
     refine tS ?_
     refine tB ?_
     refine tR ?_
     obtain ⟨v5,ev5,H⟩ := bs H
     refine iA intRow ev5 ?_
     refine uA 2 0x3800000000000000104 4 ?_
     refine rA 2 ?_
     obtain ⟨r6,er6,H⟩ := bs H
     refine vA [.rd,.rd] (zGa n x0 v5 r6 er6) ?_
     refine uA 1 0x103800000000000000004 4 ?_
     obtain ⟨h5,H⟩ | ⟨h5,H⟩ := bC H
     ·refine nA h5 ?_
      refine tK ?_
      refine eA 2 0x3800000000000000004 4 ?_
      exact jB mo4 (IntKind.wrap .i64 (y3 + 1)) H [73,72,71,2] [2]
     refine tA h5 ?_
     refine gA 1 16 0 ?_
     refine te ?_
     obtain rfl := si H
     have H := Ho4
     dsimp only at H
     exact fF H
    rintro _ H
    have H : (Yu n) = some r := H
    unfold Yu at H
    refine gA 1 16 0 ?_
    exact te (fT H)
   refine tA h3 ?_
   refine gA 1 16 0 ?_
   exact te (fF H)
  have H := zJ h2 H
  refine uA 5 16777222 4 ?_
  refine tB_ ?_
  refine gA 1 16 0 ?_
  exact te (fF H)
 have H := zJ h1 H
 refine uA 12 16777222 4 ?_
 refine tB_ ?_
 refine gA 1 16 0 ?_
 exact te (fF H)
def ZY (n : Nat) (x0 : Int) : Option (Bool) :=
  ((z9 n x0 0 1000000).bind fun r1 => (some r1))
theorem Yf (n : Nat) (x0 : Int) (r : Bool) (H : ZY n x0 = some r) : zH Try.prog 63 [.val false [.lit (.int .i64 x0)]] [.val false [.lit (.bool r)]] [] := by
 refine cW Try.func63 (fun g d => sl [g 0,g 1] .ret) [.tmp 2] fun cx => ?_
 unfold ZY at H
 refine gA 1 1 0 ?_
 refine rA 1 ?_
 obtain ⟨r1,er1,H⟩ := bs H
 refine vA [.rd,.rd,.rd] (qH n x0 0 1000000 r1 er1) ?_
 refine uA 1 4 0 ?_
 exact te (fJ [(false,[cB r1])] H)
def QL (n : Nat) (x0 : zE) : Option (Bool) :=
  ((z9 n x0.Id 1 99).bind fun r2 => (bif (!r2) then (some false) else (bif (decide ((x0.Name.size : Int) > 10)) then (some false) else ((z9 n (x0.Ps.length : Int) 1 6).bind fun r3 => (bif (!r3) then (some false) else ((Y8 n x0.F).bind fun r4 => (bif (!r4) then (some false) else ((Yd n x0.V (x0.Ps.length : Int)).bind fun r5 => (bif (!r5) then (some false) else ((ZY n x0.Tk).bind fun r6 => (bif r6 then ((ZY n x0.Pa).bind fun r7 => (bif r7 then ((ZY n x0.Wo).bind fun r8 => (bif r8 then ((ZY n x0.Dr).bind fun r9 => (bif r9 then ((ZY n x0.Ve).bind fun r10 => (some r10)) else (some false))) else (some false))) else (some false))) else (some false))))))))))))
def ZD (n : Nat) : Nat → zE → Int → Option ((Unit) ⊕ (Bool))
  | 0,_,_ => none
  | mo11 + 1,x0,y1 => (bif (decide (y1 < (x0.Ps.length : Int))) then ((idx x0.Ps y1).bind fun v12 => ((Ja n v12).bind fun r13 => (bif (!r13) then (some (Sum.inr false)) else (ZD n mo11 x0 (IntKind.wrap .i64 (y1 + 1)))))) else (some (Sum.inl ())))
def Qp (n : Nat) (x0 : zE) : Option (Bool) :=
  ((ZD n n x0 0).bind fun o => match o with | .inl _ => (QL n x0) | .inr r => some r)
theorem zEt (n : Nat) (x0 : zE) (r : Bool) (H : Qp n x0 = some r) : zH Try.prog 24 [.val true (CV.frzRow (zE.row x0))] [.val false [.lit (.bool r)]] [] := by
 refine cW Try.func24 (fun g d => sl [g 0,sl [g 1] (.block 0 (.loop (sl [g 2,cn 9 .skip (.exit 0),.block 1 (sl [g 3,g 4] (cn 14 (sl [g 5] .ret) .skip))] (g 6)))),sl [g 7] (cn 47 (sl [g 8] .ret) .skip),g 9] .ret) [.tmp 2] fun cx => ?_
 unfold Qp at H
 refine gA 2 2 2 ?_
 refine tS ?_
 refine rA 2 ?_
 refine kF x0.Ps Pt.row ?_
 refine uA 1 450 2 ?_
 obtain ⟨o11,eo11,Ho11⟩ := bs H
 clear H
 refine Tr.mid (ι := Unit) (fun v => ⟨71,0,[sA 1 1 11 0],[(1,(CV.frzRow (zE.row x0)))]⟩) (fun v => QL n x0 = some r) ?_ ?_
 ·refine tB ?_
  refine Tr.loop (ι := Nat × (Int)) (fun v => ⟨71,0,[sI 8 v.2,sI 7 (x0.Ps.length : Int),sC 6 (cF 8 x0.Ps Pt.row),sA 1 1 11 0],[(1,(CV.frzRow (zE.row x0)))]⟩) (fun v => ZD n v.1 x0 v.2 = some o11) (fun v => v.1) (n,0) eo11 (St.sub_of [8,7,6,1] [1] kr) ?_
  rintro ⟨mo11,y1⟩ H
  have H : ZD n mo11 x0 y1 = some o11 := H
  obtain _ | mo11 := mo11
  ·exact nN H
  rw [ZD] at H
  refine gA 1 962 2 ?_
  refine tS ?_
  obtain ⟨h10,H⟩ | ⟨h10,H⟩ := bC H
  ·refine nA h10 ?_
   refine Tr.exit ?_
   refine aJ ?_
   obtain rfl := si H
   have H := Ho11
   dsimp only at H
   exact jA () H [1] [1]
  refine tA h10 ?_
  refine tK ?_
  refine tS ?_
  refine tB ?_
  refine tR ?_
  obtain ⟨v12,ev12,H⟩ := bs H
  refine iA Pt.row ev12 ?_
  refine uA 3 466 18 ?_
  refine rA 1 ?_
  obtain ⟨r13,er13,H⟩ := bs H
  refine vA [.rd] (zHA n v12 r13 er13) ?_
  refine uA 1 16834 2 ?_
  obtain ⟨h11,H⟩ | ⟨h11,H⟩ := bC H
  ·refine nA h11 ?_
   refine tK ?_
   refine eA 2 450 2 ?_
   exact jB mo11 (IntKind.wrap .i64 (y1 + 1)) H [8,7,6,1] [1]
  refine tA h11 ?_
  refine gA 1 4 0 ?_
  refine te ?_
  obtain rfl := si H
  have H := Ho11
  dsimp only at H
  exact fF H
 rintro _ H
 have H : (QL n x0) = some r := H
 unfold QL at H
 refine tS ?_
 refine rA 2 ?_
 obtain ⟨r2,er2,H⟩ := bs H
 refine vA [.rd,.rd,.rd] (qH n x0.Id 1 99 r2 er2) ?_
 refine lA 2 ?_
 refine sL 1048578 2 ⟨71,0,[sB 20 (!r2),sA 1 1 11 0],[(1,(CV.frzRow (zE.row x0)))]⟩ ?_
 cases h1 : (!r2)
 ·have H := zI h1 H
  refine lA 6 ?_
  refine sL 67108866 2 ⟨71,0,[sB 26 (decide ((x0.Name.size : Int) > 10)),sA 1 1 11 0],[(1,(CV.frzRow (zE.row x0)))]⟩ ?_
  cases h2 : (decide ((x0.Name.size : Int) > 10))
  ·have H := zI h2 H
   refine lA 2 ?_
   refine kF x0.Ps Pt.row ?_
   obtain ⟨r3,er3,H⟩ := bs H
   refine vA [.rd,.rd,.rd] (qH n (x0.Ps.length : Int) 1 6 r3 er3) ?_
   refine lA 3 ?_
   refine sL 8589934594 2 ⟨71,0,[sB 33 (!r3),sA 1 1 11 0],[(1,(CV.frzRow (zE.row x0)))]⟩ ?_
   cases h3 : (!r3)
   ·have H := zI h3 H
    refine lA 2 ?_
    obtain ⟨r4,er4,H⟩ := bs H
    refine vA [.rd] (zGZ n x0.F r4 er4) ?_
    refine lA 3 ?_
    refine sL 549755813890 2 ⟨71,0,[sB 39 (!r4),sA 1 1 11 0],[(1,(CV.frzRow (zE.row x0)))]⟩ ?_
    cases h4 : (!r4)
    ·have H := zI h4 H
     refine lA 4 ?_
     refine kF x0.Ps Pt.row ?_
     obtain ⟨r5,er5,H⟩ := bs H
     refine vA [.rd,.rd] (zFp n x0.V (x0.Ps.length : Int) r5 er5) ?_
     refine uA 2 0x800000000002 2 ?_
     obtain ⟨h5,H⟩ | ⟨h5,H⟩ := bC H
     ·refine nA h5 ?_
      refine tK ?_
      refine rA 2 ?_
      obtain ⟨r6,er6,H⟩ := bs H
      refine vA [.rd] (Yf n x0.Tk r6 er6) ?_
      refine lA 1 ?_
      refine sL 0x8000000000002 2 ⟨71,0,[sB 51 r6,sA 1 1 11 0],[(1,(CV.frzRow (zE.row x0)))]⟩ ?_
      cases h6 : r6
      ·have H := zI h6 H
       refine uA 20 4 0 ?_
       exact te (fF H)
      have H := zJ h6 H
      refine lA 2 ?_
      obtain ⟨r7,er7,H⟩ := bs H
      refine vA [.rd] (Yf n x0.Pa r7 er7) ?_
      refine lA 2 ?_
      refine sL 72057594037927938 2 ⟨71,0,[sB 56 r7,sA 1 1 11 0],[(1,(CV.frzRow (zE.row x0)))]⟩ ?_
      cases h7 : r7
      ·have H := zI h7 H
       refine uA 15 4 0 ?_
       exact te (fF H)
      have H := zJ h7 H
      refine lA 2 ?_
      obtain ⟨r8,er8,H⟩ := bs H
      refine vA [.rd] (Yf n x0.Wo r8 er8) ?_
      refine lA 2 ?_
      refine sL 0x2000000000000002 2 ⟨71,0,[sB 61 r8,sA 1 1 11 0],[(1,(CV.frzRow (zE.row x0)))]⟩ ?_
      cases h8 : r8
      ·have H := zI h8 H
       refine uA 10 4 0 ?_
       exact te (fF H)
      have H := zJ h8 H
      refine lA 2 ?_
      obtain ⟨r9,er9,H⟩ := bs H
      refine vA [.rd] (Yf n x0.Dr r9 er9) ?_
      refine lA 2 ?_
      refine sL 0x40000000000000002 2 ⟨71,0,[sB 66 r9,sA 1 1 11 0],[(1,(CV.frzRow (zE.row x0)))]⟩ ?_
      cases h9 : r9
      ·have H := zI h9 H
       refine uA 5 4 0 ?_
       exact te (fF H)
      have H := zJ h9 H
      refine lA 2 ?_
      obtain ⟨r10,er10,H⟩ := bs H
      refine vA [.rd] (Yf n x0.Ve r10 er10) ?_
      refine uA 2 4 0 ?_
      exact te (fJ [(false,[cB r10])] H)
     refine tA h5 ?_
     refine gA 1 4 0 ?_
     exact te (fF H)
    have H := zJ h4 H
    refine uA 8 0x800000000002 2 ?_
    refine tB_ ?_
    refine gA 1 4 0 ?_
    exact te (fF H)
   have H := zJ h3 H
   refine uA 14 0x800000000002 2 ?_
   refine tB_ ?_
   refine gA 1 4 0 ?_
   exact te (fF H)
  have H := zJ h2 H
  refine uA 21 0x800000000002 2 ?_
  refine tB_ ?_
  refine gA 1 4 0 ?_
  exact te (fF H)
 have H := zJ h1 H
 refine uA 27 0x800000000002 2 ?_
 refine tB_ ?_
 refine gA 1 4 0 ?_
 exact te (fF H)
def ZP (n : Nat) (x0 : Val) (x1 : (List Int)) : Option (zC) :=
  (bif (decide ([1,3,1].length + x1.length ≤ 268435456)) then (some (⟨([1,3,1] ++ x1),x0⟩ : zC)) else none)
theorem QA (n : Nat) (x0 : Val) (x1 : (List Int)) (r : zC) (H : ZP n x0 x1 = some r) : zH Try.prog 66 [.own true (Val.row x0),.val false [.sl false 1 (CV.frzEs (x1.map intRow))]] [.val true (zC.row r)] [] := by
 refine cW Try.func66 (fun g d => sl [g 0,d 1] .ret) [.cell 4 68] fun cx => ?_
 unfold ZP at H
 refine gA 2 22 20 ?_
 obtain ⟨hg1,H⟩ := gs H
 refine Tr.draws mixed 6 kr ⟨10,0,[sA 4 4 5 0],[(4,[cL 1 ([1,3,1] ++ x1) intRow,cI x0.K,cI x0.N,cS x0.S,cL 1 x0.O intRow])]⟩ (fun cx => ?_) ?_
 ·refine aA [(1,[]),(3,[4,5])] 4 [⟨[4,5],66,2,8⟩] fun cx => ?_
  refine bA 0 ?_
  refine lA 1 ?_
  refine fA ?_
  refine bA 2 ?_
  refine pD (X := [1,3,1]) intRow hg1 ?_
  refine fA ?_
  refine bA 4 ?_
  refine lA 1 ?_
  refine fA ?_
  refine bA 5 ?_
  refine lA 1 ?_
  refine fA ?_
  exact eE [4] [4]
 exact te (fJ [(true,[cL 1 ([1,3,1] ++ x1) intRow,cI x0.K,cI x0.N,cS x0.S,cL 1 x0.O intRow])] H)
def q8 (n : Nat) (x0 : Int) : Option (Val) :=
  (some (⟨2,x0,(⟨#[]⟩ : ByteArray),([] : List Int)⟩ : Val))
theorem QC (n : Nat) (x0 : Int) (r : Val) (H : q8 n x0 = some r) : zH Try.prog 67 [.val false [.lit (.int .i64 x0)]] [.val true (Val.row r)] [] := by
 refine cW Try.func67 (fun g d => sl [g 0,g 1] .ret) [.cell 2 66] fun cx => ?_
 unfold q8 at H
 refine gA 1 5 4 ?_
 refine gA 3 4 4 ?_
 exact te (fJ [(true,[cI 2,cI x0,cS (⟨#[]⟩ : ByteArray),cL 1 ([] : List Int) intRow])] H)
def zA0 (n : Nat) (x0 : Bool) : Option (Int) :=
  (bif x0 then (some 1) else (some 0))
theorem zHT (n : Nat) (x0 : Bool) (r : Int) (H : zA0 n x0 = some r) : zH Try.prog 121 [.val false [.lit (.bool x0)]] [.val false [.lit (.int .i64 r)]] [] := by
 refine cW Try.func121 (fun g d => sl [g 0,sl [g 1] (cn 3 (sl [g 2] .ret) .skip),g 3] .ret) [.tmp 2] fun cx => ?_
 unfold zA0 at H
 refine gA 1 1 0 ?_
 refine tS ?_
 refine gA 1 8 0 ?_
 cases h1 : x0
 ·have H := zI h1 H
  refine nB_ ?_
  refine tK ?_
  refine gA 1 4 0 ?_
  exact te (fJ [(false,[cI 0])] H)
 have H := zJ h1 H
 refine tB_ ?_
 refine gA 1 4 0 ?_
 exact te (fJ [(false,[cI 1])] H)
def JN (n : Nat) (x0 : Vec) (x1 : Int) : Option (Vec × Bool) :=
  ((YG n x0).bind fun r1 => (bif (!r1) then (some (x0,false)) else ((z9 n x1 1 1000).bind fun r2 => (bif (!r2) then (some (x0,false)) else ((YG n (⟨x0.Root,(IntKind.wrap .i64 (x0.Co + x1)),(IntKind.wrap .i64 (x0.Hops + 1)),x0.Bridge,x0.Port⟩ : Vec)).bind fun r3 => (bif (!r3) then (some (x0,false)) else (some ((⟨x0.Root,(IntKind.wrap .i64 (x0.Co + x1)),(IntKind.wrap .i64 (x0.Hops + 1)),x0.Bridge,x0.Port⟩ : Vec),true))))))))
theorem zFL (n : Nat) (x0 : Vec) (x1 : Int) (r : Vec × Bool) (H : JN n x0 x1 = some r) : zH Try.prog 160 [.val true (CV.frzRow (Vec.row x0)),.val false [.lit (.int .i64 x1)]] [.val true (Vec.row r.1),.val false [.lit (.bool r.2)]] [] := by
 refine cW Try.func160 (fun g d => sl [g 0,sl [g 1] (cn 14 (sl [g 2] .ret) .skip),g 3,g 4,g 5,sl [g 6] (cn 28 (sl [g 7] .ret) .skip),g 8] .ret) [.cell 4 46,.tmp 5] fun cx => ?_
 unfold JN at H
 refine gA 3 22 20 ?_
 refine tS ?_
 refine rA 1 ?_
 obtain ⟨r1,er1,H⟩ := bs H
 refine vA [.rd] (zBd n x0 r1 er1) ?_
 refine lA 2 ?_
 refine sL 1046 20 ⟨31,0,[sB 10 (!r1),sA 4 4 5 0,sA 2 2 5 0,sI 1 x1],[(4,[cI 0,cI 0,cI 0,cI 0,cI 0]),(2,(Vec.row x0))]⟩ ?_
 cases h1 : (!r1)
 ·have H := zI h1 H
  refine lA 1 ?_
  obtain ⟨r2,er2,H⟩ := bs H
  refine vA [.rd,.rd,.rd] (qH n x1 1 1000 r2 er2) ?_
  refine uA 2 16406 20 ?_
  obtain ⟨h2,H⟩ | ⟨h2,H⟩ := bC H
  ·refine nA h2 ?_
   refine tK ?_
   refine gA 3 86 84 ?_
   refine gA 6 84 84 ?_
   refine gA 5 84 84 ?_
   refine tS ?_
   refine rA 1 ?_
   obtain ⟨r3,er3,H⟩ := bs H
   refine vA [.rd] (zBd n (⟨x0.Root,(IntKind.wrap .i64 (x0.Co + x1)),(IntKind.wrap .i64 (x0.Hops + 1)),x0.Bridge,x0.Port⟩ : Vec) r3 er3) ?_
   refine uA 1 268435540 84 ?_
   obtain ⟨h3,H⟩ | ⟨h3,H⟩ := bC H
   ·refine nA h3 ?_
    refine tK ?_
    refine gA 3 48 16 ?_
    exact te (fJ [(true,[cI x0.Root,cI (IntKind.wrap .i64 (x0.Co + x1)),cI (IntKind.wrap .i64 (x0.Hops + 1)),cI x0.Bridge,cI x0.Port]),(false,[cB true])] H)
   refine tA h3 ?_
   refine gA 3 48 16 ?_
   exact te (fJ [(true,(Vec.row x0)),(false,[cB false])] H)
  refine tA h2 ?_
  refine gA 3 48 16 ?_
  exact te (fJ [(true,(Vec.row x0)),(false,[cB false])] H)
 have H := zJ h1 H
 refine uA 4 16406 20 ?_
 refine tB_ ?_
 refine gA 3 48 16 ?_
 exact te (fJ [(true,(Vec.row x0)),(false,[cB false])] H)
def Q8 (n : Nat) (x0 : Vec) (x1 : Vec) : Option (Bool) :=
  (bif (x0.Root != x1.Root) then (some (decide (x0.Root < x1.Root))) else (bif (x0.Co != x1.Co) then (some (decide (x0.Co < x1.Co))) else (bif (x0.Bridge != x1.Bridge) then (some (decide (x0.Bridge < x1.Bridge))) else (some (decide (x0.Port < x1.Port))))))
theorem zB4 (n : Nat) (x0 : Vec) (x1 : Vec) (r : Bool) (H : Q8 n x0 x1 = some r) : zH Try.prog 112 [.val true (CV.frzRow (Vec.row x0)),.val true (CV.frzRow (Vec.row x1))] [.val false [.lit (.bool r)]] [] := by
 refine cW Try.func112 (fun g d => sl [g 0,.block 0 (sl [g 1] (cn 5 (sl [g 2] .ret) (sl [g 3] (cn 16 (sl [g 4] .ret) (sl [g 5] (cn 27 (sl [g 6] .ret) .skip)))))),g 7] .ret) [.tmp 4] fun cx => ?_
 unfold Q8 at H
 refine gA 3 12 12 ?_
 refine tS ?_
 refine tB ?_
 refine gA 6 44 12 ?_
 obtain ⟨h1,H⟩ | ⟨h1,H⟩ := bC H
 ·refine nA h1 ?_
  refine gA 6 65548 12 ?_
  obtain ⟨h2,H⟩ | ⟨h2,H⟩ := bC H
  ·refine nA h2 ?_
   refine gA 6 134217740 12 ?_
   obtain ⟨h3,H⟩ | ⟨h3,H⟩ := bC H
   ·refine nA h3 ?_
    refine tK ?_
    refine gA 6 16 0 ?_
    exact te (fJ [(false,[cB (decide (x0.Port < x1.Port))])] H)
   refine tA h3 ?_
   refine gA 6 16 0 ?_
   exact te (fJ [(false,[cB (decide (x0.Bridge < x1.Bridge))])] H)
  refine tA h2 ?_
  refine gA 6 16 0 ?_
  exact te (fJ [(false,[cB (decide (x0.Co < x1.Co))])] H)
 refine tA h1 ?_
 refine gA 6 16 0 ?_
 exact te (fJ [(false,[cB (decide (x0.Root < x1.Root))])] H)
def YM (n : Nat) (x0 : Int) (y11 : Int) (y12 : Int) (y13 : Int) (y14 : Int) : Option (Vec × Int) :=
  (some ((⟨y12,y13,y14,x0,0⟩ : Vec),y11))
def qw (n : Nat) (k : (Int × Int × Int × Int × Int × Int × Int × Int × Int × Int → Option ((Int × Int × Int × Int) ⊕ (Vec × Int)))) (r17 : Vec × Bool) (y1 : Int) (y10 : Int) (y2 : Int) (y3 : Int) (y4 : Int) (y5 : Int) (y6 : Int) (y7 : Int) (y8 : Int) (y9 : Int) (y18 : Bool) (y19 : Bool) (y20 : Bool) (y21 : Bool) (y22 : Bool) (y23 : Bool) (y24 : Bool) : Option ((Int × Int × Int × Int) ⊕ (Vec × Int)) :=
  (bif y18 then (k ((IntKind.wrap .i64 (y1 + 1)),y1,r17.1.Root,r17.1.Co,r17.1.Hops,r17.1.Bridge,r17.1.Port,r17.1.Root,r17.1.Co,r17.1.Hops)) else (k ((IntKind.wrap .i64 (y1 + 1)),y2,y3,y4,y5,y6,y7,y8,y9,y10)))
def zw (n : Nat) : Nat → Int → (List Pt) → Int → Int → Int → Int → Int → Int → Int → Int → Int → Int → Option ((Int × Int × Int × Int) ⊕ (Vec × Int))
  | 0,_,_,_,_,_,_,_,_,_,_,_,_ => none
  | mo15 + 1,x0,x1,y1,y2,y3,y4,y5,y6,y7,y8,y9,y10 => (bif (decide (y1 < (x1.length : Int))) then ((idx x1 y1).bind fun v16 => (bif (!v16.Up) then (zw n mo15 x0 x1 (IntKind.wrap .i64 (y1 + 1)) y2 y3 y4 y5 y6 y7 y8 y9 y10) else (bif (!v16.Has) then (zw n mo15 x0 x1 (IntKind.wrap .i64 (y1 + 1)) y2 y3 y4 y5 y6 y7 y8 y9 y10) else ((JN n v16.Hd v16.Co).bind fun r17 => (bif r17.2 then (bif (decide (r17.1.Root < x0)) then (bif (decide (y2 < 0)) then (qw n (fun v => zw n mo15 x0 x1 v.1 v.2.1 v.2.2.1 v.2.2.2.1 v.2.2.2.2.1 v.2.2.2.2.2.1 v.2.2.2.2.2.2.1 v.2.2.2.2.2.2.2.1 v.2.2.2.2.2.2.2.2.1 v.2.2.2.2.2.2.2.2.2) r17 y1 y10 y2 y3 y4 y5 y6 y7 y8 y9 true true true true true true true) else ((Q8 n r17.1 (⟨y3,y4,y5,y6,y7⟩ : Vec)).bind fun r25 => (qw n (fun v => zw n mo15 x0 x1 v.1 v.2.1 v.2.2.1 v.2.2.2.1 v.2.2.2.2.1 v.2.2.2.2.2.1 v.2.2.2.2.2.2.1 v.2.2.2.2.2.2.2.1 v.2.2.2.2.2.2.2.2.1 v.2.2.2.2.2.2.2.2.2) r17 y1 y10 y2 y3 y4 y5 y6 y7 y8 y9 r25 true true true true true true))) else (qw n (fun v => zw n mo15 x0 x1 v.1 v.2.1 v.2.2.1 v.2.2.2.1 v.2.2.2.2.1 v.2.2.2.2.2.1 v.2.2.2.2.2.2.1 v.2.2.2.2.2.2.2.1 v.2.2.2.2.2.2.2.2.1 v.2.2.2.2.2.2.2.2.2) r17 y1 y10 y2 y3 y4 y5 y6 y7 y8 y9 false false false true true true true)) else (qw n (fun v => zw n mo15 x0 x1 v.1 v.2.1 v.2.2.1 v.2.2.2.1 v.2.2.2.2.1 v.2.2.2.2.2.1 v.2.2.2.2.2.2.1 v.2.2.2.2.2.2.2.1 v.2.2.2.2.2.2.2.2.1 v.2.2.2.2.2.2.2.2.2) r17 y1 y10 y2 y3 y4 y5 y6 y7 y8 y9 false false false false false false false)))))) else (some (Sum.inl (y2,y8,y9,y10))))
def QQ (n : Nat) (x0 : Int) (x1 : (List Pt)) : Option (Vec × Int) :=
  ((zw n n x0 x1 0 (-1) 0 0 0 0 0 x0 0 0).bind fun o => match o with | .inl (y11,y12,y13,y14) => (YM n x0 y11 y12 y13 y14) | .inr r => some r)
theorem zB1 (n : Nat) (x0 : Int) (x1 : (List Pt)) (r : Vec × Int) (H : QQ n x0 x1 = some r) : zH Try.prog 111 [.val false [.lit (.int .i64 x0)],.val false [.sl false 8 (CV.frzEs (x1.map Pt.row))]] [.val true (Vec.row r.1),.val false [.lit (.int .i64 r.2)]] [] := by
 refine cW Try.func111 (fun g d => sl [g 0,g 1,g 2,sl [g 3] (.block 0 (.loop (sl [g 4,cn 19 .skip (.exit 0),.block 1 (sl [g 5,sl [g 6] (cn 30 (.exit 1) .skip),g 7,g 8] (cn 54 (sl [g 9] (g 10)) .skip))] (g 11)))),g 12] .ret) [.cell 4 46,.tmp 5] fun cx => ?_
 unfold QQ at H
 refine gA 2 51 16 ?_
 refine gA 6 243 80 ?_
 refine gA 1 499 336 ?_
 refine tS ?_
 refine rA 1 ?_
 refine kF x1 Pt.row ?_
 refine uA 1 459249 336 ?_
 obtain ⟨o15,eo15,Ho15⟩ := bs H
 clear H
 refine Tr.mid (ι := Int × Int × Int × Int) (fun v => ⟨68,0,[sI 7 v.1,sA 6 6 5 0,sI 5 0,sA 4 4 5 0],[(6,[cI v.2.1,cI v.2.2.1,cI v.2.2.2,cI x0,cI 0]),(4,[cI 0,cI 0,cI 0,cI 0,cI 0])]⟩) (fun v => YM n x0 v.1 v.2.1 v.2.2.1 v.2.2.2 = some r) ?_ ?_
 ·refine tB ?_
  refine Tr.loop (ι := Nat × (Int × Int × Int × Int × Int × Int × Int × Int × Int × Int)) (fun v => ⟨68,0,[sI 18 v.2.1,sI 17 (x1.length : Int),sC 16 (cF 8 x1 Pt.row),sA 8 8 5 0,sI 7 v.2.2.1,sA 6 6 5 0,sI 5 0,sA 4 4 5 0,sI 0 x0],[(8,[cI v.2.2.2.1,cI v.2.2.2.2.1,cI v.2.2.2.2.2.1,cI v.2.2.2.2.2.2.1,cI v.2.2.2.2.2.2.2.1]),(6,[cI v.2.2.2.2.2.2.2.2.1,cI v.2.2.2.2.2.2.2.2.2.1,cI v.2.2.2.2.2.2.2.2.2.2,cI x0,cI 0]),(4,[cI 0,cI 0,cI 0,cI 0,cI 0])]⟩) (fun v => zw n v.1 x0 x1 v.2.1 v.2.2.1 v.2.2.2.1 v.2.2.2.2.1 v.2.2.2.2.2.1 v.2.2.2.2.2.2.1 v.2.2.2.2.2.2.2.1 v.2.2.2.2.2.2.2.2.1 v.2.2.2.2.2.2.2.2.2.1 v.2.2.2.2.2.2.2.2.2.2 = some o15) (fun v => v.1) (n,(0,(-1),0,0,0,0,0,x0,0,0)) eo15 (St.sub_of [18,17,16,8,7,6,5,4,0] [8,6,4] kr) ?_
  rintro ⟨mo15,y1,y2,y3,y4,y5,y6,y7,y8,y9,y10⟩ H
  have H : zw n mo15 x0 x1 y1 y2 y3 y4 y5 y6 y7 y8 y9 y10 = some o15 := H
  obtain _ | mo15 := mo15
  ·exact nN H
  rw [zw] at H
  refine gA 1 983537 336 ?_
  refine tS ?_
  obtain ⟨h1,H⟩ | ⟨h1,H⟩ := bC H
  ·refine nA h1 ?_
   refine Tr.exit ?_
   refine aJ ?_
   obtain rfl := si H
   have H := Ho15
   dsimp only at H
   exact jA (y2,y8,y9,y10) H [7,6,5,4] [6,4]
  refine tA h1 ?_
  refine tK ?_
  refine tS ?_
  refine tB ?_
  refine rA 1 ?_
  obtain ⟨v16,ev16,H⟩ := bs H
  refine iA Pt.row ev16 ?_
  refine uA 4 8325105 1360 ?_
  refine tS ?_
  refine rA 4 ?_
  refine sL 134154225 1360 ⟨68,0,[sB 26 (!v16.Up),sB 25 (!v16.Up),sB 24 v16.Up,sA 23 10 8 0,sI 9 y1,sA 10 10 8 0,sV 22 (Pt.row v16),(21,.fad ((Pt.row v16))),sI 20 y1,sB 19 (decide (y1 < (x1.length : Int))),sI 18 y1,sI 17 (x1.length : Int),sC 16 (cF 8 x1 Pt.row),sA 8 8 5 0,sI 7 y2,sA 6 6 5 0,sI 5 0,sA 4 4 5 0,sI 0 x0],[(10,(Pt.row v16)),(8,[cI y3,cI y4,cI y5,cI y6,cI y7]),(6,[cI y8,cI y9,cI y10,cI x0,cI 0]),(4,[cI 0,cI 0,cI 0,cI 0,cI 0])]⟩ ?_
  cases h2 : (!v16.Up)
  ·have H := zI h2 H
   refine uA 4 2147420145 1360 ?_
   obtain ⟨h3,H⟩ | ⟨h3,H⟩ := bC H
   ·refine nA h3 ?_
    refine tK ?_
    refine rA 4 ?_
    obtain ⟨r17,er17,H⟩ := bs H
    refine vA [.rd,.rd] (zFL n v16.Hd v16.Co r17 er17) ?_
    refine LAt.movT tOk (ty := 198) (t := 36) (d := 31) (g := none) [(true,(Vec.row r17.1)),(false,[cB r17.2])] _ kr (.inl rfl) kr kr kr kr rfl ?_
    refine uA 5 481036279793 3408 ?_
    refine tS ?_
    refine Tr.mid (ι := Bool × Bool × Bool × Bool × Bool × Bool × Bool) (fun v => ⟨68,0,[sB 54 v.1,sB 46 v.2.1,sB 45 v.2.2.1,sB 40 v.2.2.2.1,sB 39 v.2.2.2.2.1,sB 12 v.2.2.2.2.2.1,sA 11 11 5 0,sB 38 v.2.2.2.2.2.2,(31,.tup [(true,[.dead,.dead,.dead,.dead,.dead]),(false,[.dead])]),sV 37 (Vec.row r17.1),sI 35 v16.Co,sA 34 10 8 1,sV 33 ((Pt.row v16).drop 3),sA 32 10 8 3,sB 30 false,sB 29 false,sB 28 v16.Has,sA 27 10 8 2,sB 26 false,sB 25 false,sB 24 v16.Up,sA 23 10 8 0,sI 9 y1,sA 10 10 8 0,sV 22 (Pt.row v16),(21,.fad ((Pt.row v16))),sI 20 y1,sB 19 true,sI 18 y1,sI 17 (x1.length : Int),sC 16 (cF 8 x1 Pt.row),sA 8 8 5 0,sI 7 y2,sA 6 6 5 0,sI 5 0,sA 4 4 5 0,sI 0 x0],[(11,(Vec.row r17.1)),(10,(Pt.row v16)),(8,[cI y3,cI y4,cI y5,cI y6,cI y7]),(6,[cI y8,cI y9,cI y10,cI x0,cI 0]),(4,[cI 0,cI 0,cI 0,cI 0,cI 0])]⟩) (fun v => qw n (fun v => zw n mo15 x0 x1 v.1 v.2.1 v.2.2.1 v.2.2.2.1 v.2.2.2.2.1 v.2.2.2.2.2.1 v.2.2.2.2.2.2.1 v.2.2.2.2.2.2.2.1 v.2.2.2.2.2.2.2.2.1 v.2.2.2.2.2.2.2.2.2) r17 y1 y10 y2 y3 y4 y5 y6 y7 y8 y9 v.1 v.2.1 v.2.2.1 v.2.2.2.1 v.2.2.2.2.1 v.2.2.2.2.2.1 v.2.2.2.2.2.2 = some o15) ?_ ?_
    ·refine Tr.at ?_
     refine lA 2 ?_
     refine sL 2130303721457 3408 ⟨68,0,[sB 40 r17.2,sB 39 r17.2,sB 12 r17.2,sA 11 11 5 0,sB 38 r17.2,(31,.tup [(true,[.dead,.dead,.dead,.dead,.dead]),(false,[.dead])]),sV 37 (Vec.row r17.1),sI 35 v16.Co,sA 34 10 8 1,sV 33 ((Pt.row v16).drop 3),sA 32 10 8 3,sB 30 (!v16.Has),sB 29 (!v16.Has),sB 28 v16.Has,sA 27 10 8 2,sB 26 false,sB 25 false,sB 24 v16.Up,sA 23 10 8 0,sI 9 y1,sA 10 10 8 0,sV 22 (Pt.row v16),(21,.fad ((Pt.row v16))),sI 20 y1,sB 19 (decide (y1 < (x1.length : Int))),sI 18 y1,sI 17 (x1.length : Int),sC 16 (cF 8 x1 Pt.row),sA 8 8 5 0,sI 7 y2,sA 6 6 5 0,sI 5 0,sA 4 4 5 0,sI 0 x0],[(11,(Vec.row r17.1)),(10,(Pt.row v16)),(8,[cI y3,cI y4,cI y5,cI y6,cI y7]),(6,[cI y8,cI y9,cI y10,cI x0,cI 0]),(4,[cI 0,cI 0,cI 0,cI 0,cI 0])]⟩ ?_
     cases h5 : r17.2
     ·have H := zI h5 H
      refine uA 14 0x7fffefffff1ff1 3408 ?_
      refine sB' 0x7fffefffff1ff1 3408 ⟨68,0,[sB 54 false,(53,.tup []),(52,.tup []),(51,.tup []),(50,.tup []),(49,.tup []),(48,.tup []),(47,.tup []),sB 46 false,sB 45 false,(44,.tup []),(43,.tup []),(42,.tup []),(41,.tup []),sB 40 false,sB 39 false,sB 12 false,sA 11 11 5 0,sB 38 false,(31,.tup [(true,[.dead,.dead,.dead,.dead,.dead]),(false,[.dead])]),sV 37 (Vec.row r17.1),sI 35 v16.Co,sA 34 10 8 1,sV 33 ((Pt.row v16).drop 3),sA 32 10 8 3,sB 30 (!v16.Has),sB 29 (!v16.Has),sB 28 v16.Has,sA 27 10 8 2,sB 26 false,sB 25 false,sB 24 v16.Up,sA 23 10 8 0,sI 9 y1,sA 10 10 8 0,sV 22 (Pt.row v16),(21,.fad ((Pt.row v16))),sI 20 y1,sB 19 (decide (y1 < (x1.length : Int))),sI 18 y1,sI 17 (x1.length : Int),sC 16 (cF 8 x1 Pt.row),sA 8 8 5 0,sI 7 y2,sA 6 6 5 0,sI 5 0,sA 4 4 5 0,sI 0 x0],[(11,(Vec.row r17.1)),(10,(Pt.row v16)),(8,[cI y3,cI y4,cI y5,cI y6,cI y7]),(6,[cI y8,cI y9,cI y10,cI x0,cI 0]),(4,[cI 0,cI 0,cI 0,cI 0,cI 0])]⟩ ?_
      rw [h1]
      rw [h3]
      exact jA (false,false,false,false,false,false,false) H [54,46,45,40,39,12,11,38,31,37,35,34,33,32,30,29,28,27,26,25,24,23,9,10,22,21,20,19,18,17,16,8,7,6,5,4,0] [11,10,8,6,4]
     have H := zJ h5 H
     refine lA 6 ?_
     refine sL 0x7fefffff1ff1 3408 ⟨68,0,[sB 46 (decide (r17.1.Root < x0)),sB 45 (decide (r17.1.Root < x0)),sB 44 (decide (r17.1.Root < x0)),sI 43 x0,sI 42 r17.1.Root,sA 41 11 5 0,sB 40 true,sB 39 true,sB 12 true,sA 11 11 5 0,sB 38 true,(31,.tup [(true,[.dead,.dead,.dead,.dead,.dead]),(false,[.dead])]),sV 37 (Vec.row r17.1),sI 35 v16.Co,sA 34 10 8 1,sV 33 ((Pt.row v16).drop 3),sA 32 10 8 3,sB 30 (!v16.Has),sB 29 (!v16.Has),sB 28 v16.Has,sA 27 10 8 2,sB 26 false,sB 25 false,sB 24 v16.Up,sA 23 10 8 0,sI 9 y1,sA 10 10 8 0,sV 22 (Pt.row v16),(21,.fad ((Pt.row v16))),sI 20 y1,sB 19 (decide (y1 < (x1.length : Int))),sI 18 y1,sI 17 (x1.length : Int),sC 16 (cF 8 x1 Pt.row),sA 8 8 5 0,sI 7 y2,sA 6 6 5 0,sI 5 0,sA 4 4 5 0,sI 0 x0],[(11,(Vec.row r17.1)),(10,(Pt.row v16)),(8,[cI y3,cI y4,cI y5,cI y6,cI y7]),(6,[cI y8,cI y9,cI y10,cI x0,cI 0]),(4,[cI 0,cI 0,cI 0,cI 0,cI 0])]⟩ ?_
     cases h6 : (decide (r17.1.Root < x0))
     ·have H := zI h6 H
      refine uA 8 0x7fffefffff1ff1 3408 ?_
      refine sB' 0x7fffefffff1ff1 3408 ⟨68,0,[sB 54 false,(53,.tup []),(52,.tup []),(51,.tup []),(50,.tup []),(49,.tup []),(48,.tup []),(47,.tup []),sB 46 false,sB 45 false,sB 44 false,sI 43 x0,sI 42 r17.1.Root,sA 41 11 5 0,sB 40 true,sB 39 true,sB 12 true,sA 11 11 5 0,sB 38 true,(31,.tup [(true,[.dead,.dead,.dead,.dead,.dead]),(false,[.dead])]),sV 37 (Vec.row r17.1),sI 35 v16.Co,sA 34 10 8 1,sV 33 ((Pt.row v16).drop 3),sA 32 10 8 3,sB 30 (!v16.Has),sB 29 (!v16.Has),sB 28 v16.Has,sA 27 10 8 2,sB 26 false,sB 25 false,sB 24 v16.Up,sA 23 10 8 0,sI 9 y1,sA 10 10 8 0,sV 22 (Pt.row v16),(21,.fad ((Pt.row v16))),sI 20 y1,sB 19 (decide (y1 < (x1.length : Int))),sI 18 y1,sI 17 (x1.length : Int),sC 16 (cF 8 x1 Pt.row),sA 8 8 5 0,sI 7 y2,sA 6 6 5 0,sI 5 0,sA 4 4 5 0,sI 0 x0],[(11,(Vec.row r17.1)),(10,(Pt.row v16)),(8,[cI y3,cI y4,cI y5,cI y6,cI y7]),(6,[cI y8,cI y9,cI y10,cI x0,cI 0]),(4,[cI 0,cI 0,cI 0,cI 0,cI 0])]⟩ ?_
      rw [h1]
      rw [h3]
      exact jA (false,false,false,true,true,true,true) H [54,46,45,40,39,12,11,38,31,37,35,34,33,32,30,29,28,27,26,25,24,23,9,10,22,21,20,19,18,17,16,8,7,6,5,4,0] [11,10,8,6,4]
     have H := zJ h6 H
     refine lA 3 ?_
     refine sL 0x3ffefffff1ff1 3408 ⟨68,0,[sB 49 (decide (y2 < 0)),sB 48 (decide (y2 < 0)),sI 47 y2,sB 46 true,sB 45 true,sB 44 true,sI 43 x0,sI 42 r17.1.Root,sA 41 11 5 0,sB 40 true,sB 39 true,sB 12 true,sA 11 11 5 0,sB 38 true,(31,.tup [(true,[.dead,.dead,.dead,.dead,.dead]),(false,[.dead])]),sV 37 (Vec.row r17.1),sI 35 v16.Co,sA 34 10 8 1,sV 33 ((Pt.row v16).drop 3),sA 32 10 8 3,sB 30 (!v16.Has),sB 29 (!v16.Has),sB 28 v16.Has,sA 27 10 8 2,sB 26 false,sB 25 false,sB 24 v16.Up,sA 23 10 8 0,sI 9 y1,sA 10 10 8 0,sV 22 (Pt.row v16),(21,.fad ((Pt.row v16))),sI 20 y1,sB 19 (decide (y1 < (x1.length : Int))),sI 18 y1,sI 17 (x1.length : Int),sC 16 (cF 8 x1 Pt.row),sA 8 8 5 0,sI 7 y2,sA 6 6 5 0,sI 5 0,sA 4 4 5 0,sI 0 x0],[(11,(Vec.row r17.1)),(10,(Pt.row v16)),(8,[cI y3,cI y4,cI y5,cI y6,cI y7]),(6,[cI y8,cI y9,cI y10,cI x0,cI 0]),(4,[cI 0,cI 0,cI 0,cI 0,cI 0])]⟩ ?_
     cases h7 : (decide (y2 < 0))
     ·have H := zI h7 H
      refine lA 2 ?_
      obtain ⟨r25,er25,H⟩ := bs H
      refine vA [.rd,.rd] (zB4 n r17.1 (⟨y3,y4,y5,y6,y7⟩ : Vec) r25 er25) ?_
      refine uA 2 0x7fffefffff1ff1 3408 ?_
      refine sB' 0x7fffefffff1ff1 3408 ⟨68,0,[sB 54 r25,sB 53 r25,sB 52 r25,sV 51 [cI y3,cI y4,cI y5,cI y6,cI y7],sV 50 (Vec.row r17.1),sB 49 false,sB 48 false,sI 47 y2,sB 46 true,sB 45 true,sB 44 true,sI 43 x0,sI 42 r17.1.Root,sA 41 11 5 0,sB 40 true,sB 39 true,sB 12 true,sA 11 11 5 0,sB 38 true,(31,.tup [(true,[.dead,.dead,.dead,.dead,.dead]),(false,[.dead])]),sV 37 (Vec.row r17.1),sI 35 v16.Co,sA 34 10 8 1,sV 33 ((Pt.row v16).drop 3),sA 32 10 8 3,sB 30 (!v16.Has),sB 29 (!v16.Has),sB 28 v16.Has,sA 27 10 8 2,sB 26 false,sB 25 false,sB 24 v16.Up,sA 23 10 8 0,sI 9 y1,sA 10 10 8 0,sV 22 (Pt.row v16),(21,.fad ((Pt.row v16))),sI 20 y1,sB 19 (decide (y1 < (x1.length : Int))),sI 18 y1,sI 17 (x1.length : Int),sC 16 (cF 8 x1 Pt.row),sA 8 8 5 0,sI 7 y2,sA 6 6 5 0,sI 5 0,sA 4 4 5 0,sI 0 x0],[(11,(Vec.row r17.1)),(10,(Pt.row v16)),(8,[cI y3,cI y4,cI y5,cI y6,cI y7]),(6,[cI y8,cI y9,cI y10,cI x0,cI 0]),(4,[cI 0,cI 0,cI 0,cI 0,cI 0])]⟩ ?_
      rw [h1]
      rw [h3]
      exact jA (r25,true,true,true,true,true,true) H [54,46,45,40,39,12,11,38,31,37,35,34,33,32,30,29,28,27,26,25,24,23,9,10,22,21,20,19,18,17,16,8,7,6,5,4,0] [11,10,8,6,4]
     have H := zJ h7 H
     refine uA 5 0x7fffefffff1ff1 3408 ?_
     refine sB' 0x7fffefffff1ff1 3408 ⟨68,0,[sB 54 true,sB 53 true,(52,.tup []),(51,.tup []),(50,.tup []),sB 49 true,sB 48 true,sI 47 y2,sB 46 true,sB 45 true,sB 44 true,sI 43 x0,sI 42 r17.1.Root,sA 41 11 5 0,sB 40 true,sB 39 true,sB 12 true,sA 11 11 5 0,sB 38 true,(31,.tup [(true,[.dead,.dead,.dead,.dead,.dead]),(false,[.dead])]),sV 37 (Vec.row r17.1),sI 35 v16.Co,sA 34 10 8 1,sV 33 ((Pt.row v16).drop 3),sA 32 10 8 3,sB 30 (!v16.Has),sB 29 (!v16.Has),sB 28 v16.Has,sA 27 10 8 2,sB 26 false,sB 25 false,sB 24 v16.Up,sA 23 10 8 0,sI 9 y1,sA 10 10 8 0,sV 22 (Pt.row v16),(21,.fad ((Pt.row v16))),sI 20 y1,sB 19 (decide (y1 < (x1.length : Int))),sI 18 y1,sI 17 (x1.length : Int),sC 16 (cF 8 x1 Pt.row),sA 8 8 5 0,sI 7 y2,sA 6 6 5 0,sI 5 0,sA 4 4 5 0,sI 0 x0],[(11,(Vec.row r17.1)),(10,(Pt.row v16)),(8,[cI y3,cI y4,cI y5,cI y6,cI y7]),(6,[cI y8,cI y9,cI y10,cI x0,cI 0]),(4,[cI 0,cI 0,cI 0,cI 0,cI 0])]⟩ ?_
     rw [h1]
     rw [h3]
     exact jA (true,true,true,true,true,true,true) H [54,46,45,40,39,12,11,38,31,37,35,34,33,32,30,29,28,27,26,25,24,23,9,10,22,21,20,19,18,17,16,8,7,6,5,4,0] [11,10,8,6,4]
    rintro ⟨y18,y19,y20,y21,y22,y23,y24⟩ H
    have H : (qw n (fun v => zw n mo15 x0 x1 v.1 v.2.1 v.2.2.1 v.2.2.2.1 v.2.2.2.2.1 v.2.2.2.2.2.1 v.2.2.2.2.2.2.1 v.2.2.2.2.2.2.2.1 v.2.2.2.2.2.2.2.2.1 v.2.2.2.2.2.2.2.2.2) r17 y1 y10 y2 y3 y4 y5 y6 y7 y8 y9 y18 y19 y20 y21 y22 y23 y24) = some o15 := H
    unfold qw at H
    cases h4 : y18
    ·have H := zI h4 H
     refine nB_ ?_
     refine tK ?_
     refine eA 2 0x2004061efffff1ff1 3408 ?_
     exact jB mo15 ((IntKind.wrap .i64 (y1 + 1)),y2,y3,y4,y5,y6,y7,y8,y9,y10) H [18,17,16,8,7,6,5,4,0] [8,6,4]
    have H := zJ h4 H
    refine tB_ ?_
    refine gA 4 0x1c061efffff1ff1 3408 ?_
    refine eA 9 0x1ffc061efffff1ff1 3408 ?_
    refine eA 2 0x3ffc061efffff1ff1 3408 ?_
    exact jB mo15 ((IntKind.wrap .i64 (y1 + 1)),y1,r17.1.Root,r17.1.Co,r17.1.Hops,r17.1.Bridge,r17.1.Port,r17.1.Root,r17.1.Co,r17.1.Hops) H [18,17,16,8,7,6,5,4,0] [8,6,4]
   refine tA h3 ?_
   refine Tr.exit ?_
   refine aJ ?_
   refine eA 2 0x2000000007fff07f1 1360 ?_
   exact jB mo15 ((IntKind.wrap .i64 (y1 + 1)),y2,y3,y4,y5,y6,y7,y8,y9,y10) H [18,17,16,8,7,6,5,4,0] [8,6,4]
  have H := zJ h2 H
  refine uA 4 2147420145 1360 ?_
  refine tB_ ?_
  refine Tr.exit ?_
  refine aJ ?_
  refine eA 2 0x2000000007fff07f1 1360 ?_
  exact jB mo15 ((IntKind.wrap .i64 (y1 + 1)),y2,y3,y4,y5,y6,y7,y8,y9,y10) H [18,17,16,8,7,6,5,4,0] [8,6,4]
 rintro ⟨y11,y12,y13,y14⟩ H
 have H : (YM n x0 y11 y12 y13 y14) = some r := H
 unfold YM at H
 refine gA 4 48 16 ?_
 exact te (fJ [(true,[cI y12,cI y13,cI y14,cI x0,cI 0]),(false,[cI y11])] H)
def Yc (n : Nat) (x0 : Int) (x1 : (List Pt)) (x2 : Int) : Option (Vec) :=
  ((QQ n x0 x1).bind fun r1 => (some (⟨r1.1.Root,r1.1.Co,r1.1.Hops,r1.1.Bridge,x2⟩ : Vec)))
theorem zFo (n : Nat) (x0 : Int) (x1 : (List Pt)) (x2 : Int) (r : Vec) (H : Yc n x0 x1 x2 = some r) : zH Try.prog 113 [.val false [.lit (.int .i64 x0)],.val false [.sl false 8 (CV.frzEs (x1.map Pt.row))],.val false [.lit (.int .i64 x2)]] [.val true (Vec.row r)] [] := by
 refine cW Try.func113 (fun g d => sl [g 0,g 1,g 2,g 3] .ret) [.cell 6 46] fun cx => ?_
 unfold Yc at H
 refine gA 1 71 64 ?_
 refine rA 2 ?_
 obtain ⟨r1,er1,H⟩ := bs H
 refine vA [.rd,.rd] (zB1 n x0 x1 r1 er1) ?_
 refine LAt.movT tOk (ty := 157) (t := 12) (d := 9) (g := none) [(true,(Vec.row r1.1)),(false,[cI r1.2])] _ kr (.inl rfl) kr kr kr kr rfl ?_
 refine uA 5 196 192 ?_
 refine gA 3 192 192 ?_
 refine gA 2 64 64 ?_
 exact te (fJ [(true,[cI r1.1.Root,cI r1.1.Co,cI r1.1.Hops,cI r1.1.Bridge,cI x2])] H)
def Ya (n : Nat) (x0 : Int) (x1 : (List Pt)) (x2 : Int) : Option (Int) :=
  ((z9 n x2 0 (IntKind.wrap .i64 ((x1.length : Int) - 1))).bind fun r1 => (bif (!r1) then (some 4) else ((idx x1 x2).bind fun v2 => (bif (!v2.Up) then (some 4) else ((QQ n x0 x1).bind fun r3 => (bif (r3.2 == x2) then (some 1) else ((idx x1 x2).bind fun v4 => (bif (!v4.Has) then (some 2) else ((Yc n x0 x1 x2).bind fun r5 => ((idx x1 x2).bind fun v6 => ((Q8 n r5 v6.Hd).bind fun r7 => (bif r7 then (some 2) else (some 3)))))))))))))
def zIl : Tab := ⟨19,[0,0,3,4,8,16,32,64,64,64,960,64,64,6208,8256,16448,33856,65600,196608],[0,0,3,4,8,16,32,64,64,64,960,64,64,6208,8256,16448,33856,65600,131072],[0,0,3,7,15,31,63,127,127,127,1023,127,127,6271,14463,30847,65535,131071,262143]⟩
theorem Qy : zq (rg Try.f59 6) zIl = true := kr
theorem zFn (n : Nat) (x0 : Int) (x1 : (List Pt)) (x2 : Int) (r : Int) (H : Ya n x0 x1 x2 = some r) : zH Try.prog 59 [.val false [.lit (.int .i64 x0)],.val false [.sl false 8 (CV.frzEs (x1.map Pt.row))],.val false [.lit (.int .i64 x2)]] [.val false [.lit (.int .i64 r)]] [] := by
 refine cW Try.func59 (fun g d => sl [g 0,sl [g 1] (cn 22 (sl [g 2] .ret) .skip),g 3,.block 0 (sl [g 4] (cn 29 (sl [g 5] .ret) (sl [d 6] (cn 33 (sl [g 7] .ret) .skip)))),g 8] .ret) [.tmp 6] fun cx => ?_
 unfold Ya at H
 refine gA 1 7 0 ?_
 refine tS ?_
 refine rA 2 ?_
 refine kF x1 Pt.row ?_
 refine lA 1 ?_
 obtain ⟨r1,er1,H⟩ := bs H
 refine vA [.rd,.rd,.rd] (qH n x2 0 (IntKind.wrap .i64 ((x1.length : Int) - 1)) r1 er1) ?_
 refine lA 2 ?_
 refine sL 32775 0 ⟨52,0,[sB 15 (!r1),sI 0 x0,sC 1 (cF 8 x1 Pt.row),sI 2 x2],[]⟩ ?_
 cases h1 : (!r1)
 ·have H := zI h1 H
  refine lA 2 ?_
  obtain ⟨v2,ev2,H⟩ := bs H
  refine iA Pt.row ev2 ?_
  refine uA 4 4194311 0 ?_
  obtain ⟨h2,H⟩ | ⟨h2,H⟩ := bC H
  ·refine nA h2 ?_
   refine tK ?_
   refine rA 2 ?_
   obtain ⟨r3,er3,H⟩ := bs H
   refine vA [.rd,.rd] (zB1 n x0 x1 r3 er3) ?_
   refine LAt.movT tOk (ty := 157) (t := 26) (d := 23) (g := none) [(true,(Vec.row r3.1)),(false,[cI r3.2])] _ kr (.inl rfl) kr kr kr kr rfl ?_
   refine uA 5 263 0 ?_
   refine tS ?_
   refine tB ?_
   refine gA 4 536870919 0 ?_
   obtain ⟨h3,H⟩ | ⟨h3,H⟩ := bC H
   ·refine nA h3 ?_
    obtain ⟨v4,ev4,H⟩ := bs H
    refine sT ⟨52,0,[sB 29 (r3.2 == x2),sI 0 x0,sC 1 (cF 8 x1 Pt.row),sI 2 x2],[]⟩ ?_
    cases h4 : (!v4.Has)
    ·have H := zI h4 H
     obtain ⟨r5,er5,H⟩ := bs H
     obtain ⟨v6,ev6,H⟩ := bs H
     obtain ⟨r7,er7,H⟩ := bs H
     refine Tr.draws mixed 19 kr ⟨52,0,[sB 33 r7],[]⟩ (fun cx => ?_) ?_
     ·refine mA Qy [(0,[]),(1,[])] 17 [] fun cx => ?_
      refine iN Qy 2 Pt.row ev4 fun cx => ?_
      refine mA Qy [(3,[]),(4,[]),(5,[]),(6,[])] 12 [] fun cx => ?_
      refine sA_ 1099511627783 0 ⟨52,0,[sB 40 (!v4.Has),sI 0 x0,sC 1 (cF 8 x1 Pt.row),sI 2 x2],[]⟩ ?_
      rw [h4]
      refine mA Qy [(7,[]),(8,[]),(9,[]),(11,[]),(12,[])] 7 [] fun cx => ?_
      refine iN Qy 13 Pt.row ev6 fun cx => ?_
      refine mA Qy [(14,[]),(15,[])] 4 [] fun cx => ?_
      refine mC Qy 10 ?_
      refine vA [.rd,.rd,.rd] (zFo n x0 x1 x2 r5 er5) ?_
      refine fA ?_
      refine mC Qy 16 ?_
      refine vA [.rd,.rd] (zB4 n r5 v6.Hd r7 er7) ?_
      refine fA ?_
      refine mA Qy [(17,[]),(18,[])] 0 [] fun cx => ?_
      exact mE Qy [33] []
     cases h5 : r7
     ·have H := zI h5 H
      refine nB_ ?_
      refine tK ?_
      refine gA 1 64 0 ?_
      exact te (fJ [(false,[cI 3])] H)
     have H := zJ h5 H
     refine tB_ ?_
     refine gA 1 64 0 ?_
     exact te (fJ [(false,[cI 2])] H)
    have H := zJ h4 H
    refine Tr.draws mixed 19 kr ⟨52,0,[sB 33 true],[]⟩ (fun cx => ?_) ?_
    ·refine mA Qy [(0,[]),(1,[])] 17 [] fun cx => ?_
     refine iN Qy 2 Pt.row ev4 fun cx => ?_
     refine mA Qy [(3,[]),(4,[]),(5,[]),(6,[])] 12 [] fun cx => ?_
     refine sA_ 1099511627783 0 ⟨52,0,[sB 40 (!v4.Has),sI 0 x0,sC 1 (cF 8 x1 Pt.row),sI 2 x2],[]⟩ ?_
     rw [h4]
     refine mA Qy [(7,[]),(8,[]),(9,[]),(10,[]),(11,[]),(12,[]),(13,[]),(14,[]),(15,[]),(16,[]),(17,[]),(18,[])] 0 [] fun cx => ?_
     exact mE Qy [33] []
    refine tB_ ?_
    refine gA 1 64 0 ?_
    exact te (fJ [(false,[cI 2])] H)
   refine tA h3 ?_
   refine gA 1 64 0 ?_
   exact te (fJ [(false,[cI 1])] H)
  refine tA h2 ?_
  refine gA 1 64 0 ?_
  exact te (fJ [(false,[cI 4])] H)
 have H := zJ h1 H
 refine uA 7 4194311 0 ?_
 refine tB_ ?_
 refine gA 1 64 0 ?_
 exact te (fJ [(false,[cI 4])] H)
def Qc (n : Nat) (x0 : zE) (x1 : Int) (x2 : Int) : Option (Int) :=
  (bif (x1 == 1) then ((idx x0.Ps x2).bind fun v4 => ((zA0 n v4.Up).bind fun r5 => (some r5))) else (bif (x1 == 2) then ((idx x0.Ps x2).bind fun v3 => (some v3.Co)) else (bif (x1 == 3) then ((Ya n x0.Id x0.Ps x2).bind fun r2 => (some r2)) else ((idx x0.V.Pv x2).bind fun v1 => (some v1)))))
theorem zEF (n : Nat) (x0 : zE) (x1 : Int) (x2 : Int) (r : Int) (H : Qc n x0 x1 x2 = some r) : zH Try.prog 68 [.val true (CV.frzRow (zE.row x0)),.val false [.lit (.int .i64 x1)],.val false [.lit (.int .i64 x2)]] [.val false [.lit (.int .i64 r)]] [] := by
 refine cW Try.func68 (fun g d => sl [g 0,sl [g 1] (.block 0 (sl [g 2] (cn 8 (sl [g 3] .ret) (sl [g 4] (cn 17 (sl [g 5] .ret) (sl [g 6] (cn 25 (sl [g 7] .ret) .skip))))))),g 8] .ret) [.tmp 6] fun cx => ?_
 unfold Qc at H
 refine gA 2 14 8 ?_
 refine tS ?_
 refine gA 1 140 8 ?_
 refine tB ?_
 refine gA 2 396 8 ?_
 obtain ⟨h1,H⟩ | ⟨h1,H⟩ := bC H
 ·refine nA h1 ?_
  refine gA 2 131212 8 ?_
  obtain ⟨h2,H⟩ | ⟨h2,H⟩ := bC H
  ·refine nA h2 ?_
   refine gA 2 33554444 8 ?_
   obtain ⟨h3,H⟩ | ⟨h3,H⟩ := bC H
   ·refine nA h3 ?_
    refine tK ?_
    refine rA 4 ?_
    obtain ⟨v1,ev1,H⟩ := bs H
    refine iA intRow ev1 ?_
    refine uA 2 64 0 ?_
    exact te (fJ [(false,[cI v1])] H)
   refine tA h3 ?_
   refine rA 5 ?_
   obtain ⟨r2,er2,H⟩ := bs H
   refine vA [.rd,.rd,.rd] (zFn n x0.Id x0.Ps x2 r2 er2) ?_
   refine uA 1 64 0 ?_
   exact te (fJ [(false,[cI r2])] H)
  refine tA h2 ?_
  refine rA 3 ?_
  obtain ⟨v3,ev3,H⟩ := bs H
  refine iA Pt.row ev3 ?_
  refine uA 3 64 0 ?_
  exact te (fJ [(false,[cI v3.Co])] H)
 refine tA h1 ?_
 refine rA 3 ?_
 obtain ⟨v4,ev4,H⟩ := bs H
 refine iA Pt.row ev4 ?_
 refine lA 2 ?_
 obtain ⟨r5,er5,H⟩ := bs H
 refine vA [.rd] (zHT n v4.Up r5 er5) ?_
 refine uA 1 64 0 ?_
 exact te (fJ [(false,[cI r5])] H)
def YO (n : Nat) (y14 : (List zC)) : Option ((List zC)) :=
  (some y14)
def qy (n : Nat) : Nat → zE → Int → (List zC) → Option (((List zC)) ⊕ ((List zC)))
  | 0,_,_,_ => none
  | mo15 + 1,x0,y12,y13 => (bif (decide (y12 < (x0.F.length : Int))) then ((idx x0.F y12).bind fun v16 => ((q8 n (IntKind.wrap .i64 (v16.Port + 1))).bind fun r17 => ((ZP n r17 [4,1,v16.Tag,v16.Mac]).bind fun r18 => (bif (decide (y13.length + [r18].length ≤ 268435456)) then (qy n mo15 x0 (IntKind.wrap .i64 (y12 + 1)) (y13 ++ [r18])) else none)))) else (some (Sum.inl y13)))
def QZ (n : Nat) (x0 : zE) (y11 : (List zC)) : Option ((List zC)) :=
  ((qy n n x0 0 y11).bind fun o => match o with | .inl y14 => (YO n y14) | .inr r => some r)
def Qa (n : Nat) (k : (Int × (List zC) → Option (((List zC)) ⊕ ((List zC))))) (y9 : Int) (y23 : (List zC)) : Option (((List zC)) ⊕ ((List zC))) :=
  (k ((IntKind.wrap .i64 (y9 + 1)),y23))
def qz (n : Nat) : Nat → zE → Int → Int → (List zC) → Option (((List zC)) ⊕ ((List zC)))
  | 0,_,_,_,_ => none
  | mo24 + 1,x0,y9,y21,y22 => (bif (decide (y21 < (x0.V.Rows.length : Int))) then ((idx x0.V.Rows y21).bind fun v25 => ((idx [1,v25.Members,v25.Bare] (IntKind.wrap .i64 (y9 - 1))).bind fun v26 => ((q8 n v26).bind fun r27 => ((ZP n r27 [3,y9,v25.Id]).bind fun r28 => (bif (decide (y22.length + [r28].length ≤ 268435456)) then (qz n mo24 x0 y9 (IntKind.wrap .i64 (y21 + 1)) (y22 ++ [r28])) else none))))) else (some (Sum.inl y22)))
def qS (n : Nat) : Nat → zE → Int → (List zC) → Option (((List zC)) ⊕ ((List zC)))
  | 0,_,_,_ => none
  | mo20 + 1,x0,y9,y10 => (bif (decide (y9 ≤ 3)) then ((qz n n x0 y9 0 y10).bind fun o => match o with | .inl y23 => (Qa n (fun v => qS n mo20 x0 v.1 v.2) y9 y23) | .inr r => some (Sum.inr r)) else (some (Sum.inl y10)))
def QY (n : Nat) (x0 : zE) (y8 : (List zC)) : Option ((List zC)) :=
  ((qS n n x0 1 y8).bind fun o => match o with | .inl y11 => (QZ n x0 y11) | .inr r => some r)
def QM (n : Nat) (k : (Int × (List zC) → Option (((List zC)) ⊕ ((List zC))))) (y6 : Int) (y33 : (List zC)) : Option (((List zC)) ⊕ ((List zC))) :=
  (k ((IntKind.wrap .i64 (y6 + 1)),y33))
def qk (n : Nat) : Nat → zE → Int → Int → (List zC) → Option (((List zC)) ⊕ ((List zC)))
  | 0,_,_,_,_ => none
  | mo34 + 1,x0,y6,y31,y32 => (bif (decide (y31 < (x0.Ps.length : Int))) then ((Qc n x0 y6 y31).bind fun r35 => ((q8 n r35).bind fun r36 => ((ZP n r36 [2,y6,(IntKind.wrap .i64 (y31 + 1))]).bind fun r37 => (bif (decide (y32.length + [r37].length ≤ 268435456)) then (qk n mo34 x0 y6 (IntKind.wrap .i64 (y31 + 1)) (y32 ++ [r37])) else none)))) else (some (Sum.inl y32)))
def qT (n : Nat) : Nat → zE → Int → (List zC) → Option (((List zC)) ⊕ ((List zC)))
  | 0,_,_,_ => none
  | mo30 + 1,x0,y6,y7 => (bif (decide (y6 ≤ 4)) then ((qk n n x0 y6 0 y7).bind fun o => match o with | .inl y33 => (QM n (fun v => qT n mo30 x0 v.1 v.2) y6 y33) | .inr r => some (Sum.inr r)) else (some (Sum.inl y7)))
def QX (n : Nat) (x0 : zE) (y5 : (List zC)) : Option ((List zC)) :=
  ((qT n n x0 1 y5).bind fun o => match o with | .inl y8 => (QY n x0 y8) | .inr r => some r)
def z6 (n : Nat) : Nat → zE → Int → (List zC) → Option (((List zC)) ⊕ ((List zC)))
  | 0,_,_,_ => none
  | mo39 + 1,x0,y3,y4 => (bif (decide (y3 < ([x0.Tk,x0.Pa,x0.Wo,x0.Dr].length : Int))) then ((idx [x0.Tk,x0.Pa,x0.Wo,x0.Dr] y3).bind fun v40 => ((q8 n v40).bind fun r41 => ((ZP n r41 [1,(IntKind.wrap .i64 (y3 + 2))]).bind fun r42 => (bif (decide (y4.length + [r42].length ≤ 268435456)) then (z6 n mo39 x0 (IntKind.wrap .i64 (y3 + 1)) (y4 ++ [r42])) else none)))) else (some (Sum.inl y4)))
def QS (n : Nat) (x0 : zE) : Option ((List zC)) :=
  ((Qp n x0).bind fun r1 => (bif (!r1) then (some ([] : List zC)) else ((ZP n (⟨4,0,x0.Name,([] : List Int)⟩ : Val) [1,1]).bind fun r2 => ((z6 n n x0 0 [r2]).bind fun o => match o with | .inl y5 => (QX n x0 y5) | .inr r => some r))))
def zIP : Tab := ⟨19,[0,0,2,0,8,20,0,64,160,256,512,0,0,4096,10240,17408,32768,98305,262143],[0,0,2,0,8,20,0,64,160,256,512,0,0,4096,10240,17408,32768,65537,131073],[0,0,2,0,8,30,0,64,254,510,1022,0,0,4096,14336,32766,65534,131071,262143]⟩
theorem z7 : zq (rg Try.f27 23) zIP = true := kr
def zIQ : Tab := ⟨14,[0,0,2,4,8,0,32,0,128,320,528,1024,3073,8191],[0,0,2,4,8,0,32,0,128,320,528,1024,2049,4097],[0,0,2,6,14,0,32,0,128,480,1022,2046,4095,8191]⟩
theorem QV : zq (rg Try.f27 28) zIQ = true := kr
theorem zDW (n : Nat) (y9 : Int) (v25 : zA) (v26 : Int) (r27 : Val) (r28 : zC) (y22 : (List zC)) (y21 : Int) (x0 : zE) (ev26 : (idx [1,v25.Members,v25.Bare] (IntKind.wrap .i64 (y9 - 1))) = some v26) (er27 : (q8 n v26) = some r27) (er28 : (ZP n r27 [3,y9,v25.Id]) = some r28) (hg29 : (decide (y22.length + [r28].length ≤ 268435456)) = true) (cx : Cx) : AT Try.prog cx (rg Try.f27 23) [] 19 [] ⟨124,0,[sA 10 10 3 0,sI 79 y21,sI 78 (x0.V.Rows.length : Int),sC 77 (cF 3 x0.V.Rows zA.row),sI 8 y9,sC 3 (cL 5 y22 zC.row),sA 1 1 11 0],[(10,(zA.row v25)),(1,(CV.frzRow (zE.row x0)))]⟩ (fun s => s = ⟨124,0,[sC 3 (cL 5 (y22 ++ [r28]) zC.row),sI 79 y21,sI 78 (x0.V.Rows.length : Int),sC 77 (cF 3 x0.V.Rows zA.row),sI 8 y9,sA 1 1 11 0],[(1,(CV.frzRow (zE.row x0)))]⟩) := by
 refine mA z7 [(0,[]),(1,[]),(2,[5,10,15,16,17]),(3,[]),(4,[5,10,15,16,17]),(6,[]),(7,[]),(11,[]),(12,[]),(13,[14,15,16,17])] 9 [⟨[14,15,16,17],3,95,96⟩,⟨[5,10,15,16,17],3,86,87⟩,⟨[5,10,15,16,17],3,84,85⟩] fun cx => ?_
 refine mB2 tOk z7 5 14 kr (And.intro kr ?_) (And.intro kr ?_)
 ·refine lA 1 ?_
  refine fA ?_
  refine oN z7 8 intRow ev26 fun cx => ?_
  refine mB2 tOk z7 9 14 kr (And.intro kr ?_) (And.intro kr ?_)
  ·refine dE (tI 3) (.slot 88) [(0,((IntKind.wrap .i64 (y9 - 1)).toNat))] 1 0 [cL 1 [1,v25.Members,v25.Bare] intRow] (intRow v26) (qY rfl (ZH ev26).2) ?_
   refine fA ?_
   refine mB2 tOk z7 10 14 kr (And.intro kr ?_) (And.intro kr ?_)
   ·refine vA [.rd] (QC n v26 r27 er27) ?_
    refine fA ?_
    refine mC z7 14 ?_
    refine lA 1 ?_
    refine fA ?_
    refine mC z7 15 ?_
    refine vA [.own,.rd] (QA n r27 [3,y9,v25.Id] r28 er28) ?_
    refine fA ?_
    refine mC z7 16 ?_
    refine lA 1 ?_
    refine fA ?_
    refine mC z7 17 ?_
    refine LAt.appMU tOk (t := 27) (ty := 27) (e := 68) (x := (.tmp 83)) (y := (.tmp 99)) (d := 100) (g := none) (tI 68) zC.row y22 [r28] kr kr kr kr kr kr kr kr kr kr hg29 ?_
    refine fA ?_
    refine mC z7 18 ?_
    refine LAt.moveU (T := lk tab) (ty := 27) (x := (.tmp 100)) (d := 3) (g := none) false [cL 5 (y22 ++ [r28]) zC.row] kr kr kr kr kr ?_
    refine fA ?_
    exact mE z7 [3,79,78,77,8,1] [1]
   ·refine lA 1 ?_
    refine fA ?_
    refine mC z7 10 ?_
    refine vA [.rd] (QC n v26 r27 er27) ?_
    refine fA ?_
    refine mC z7 15 ?_
    refine vA [.own,.rd] (QA n r27 [3,y9,v25.Id] r28 er28) ?_
    refine fA ?_
    refine mC z7 16 ?_
    refine lA 1 ?_
    refine fA ?_
    refine mC z7 17 ?_
    refine LAt.appMU tOk (t := 27) (ty := 27) (e := 68) (x := (.tmp 83)) (y := (.tmp 99)) (d := 100) (g := none) (tI 68) zC.row y22 [r28] kr kr kr kr kr kr kr kr kr kr hg29 ?_
    refine fA ?_
    refine mC z7 18 ?_
    refine LAt.moveU (T := lk tab) (ty := 27) (x := (.tmp 100)) (d := 3) (g := none) false [cL 5 (y22 ++ [r28]) zC.row] kr kr kr kr kr ?_
    refine fA ?_
    exact mE z7 [3,79,78,77,8,1] [1]
  ·refine lA 1 ?_
   refine fA ?_
   refine mC z7 9 ?_
   refine dE (tI 3) (.slot 88) [(0,((IntKind.wrap .i64 (y9 - 1)).toNat))] 1 0 [cL 1 [1,v25.Members,v25.Bare] intRow] (intRow v26) (qY rfl (ZH ev26).2) ?_
   refine fA ?_
   refine mC z7 10 ?_
   refine vA [.rd] (QC n v26 r27 er27) ?_
   refine fA ?_
   refine mC z7 15 ?_
   refine vA [.own,.rd] (QA n r27 [3,y9,v25.Id] r28 er28) ?_
   refine fA ?_
   refine mC z7 16 ?_
   refine lA 1 ?_
   refine fA ?_
   refine mC z7 17 ?_
   refine LAt.appMU tOk (t := 27) (ty := 27) (e := 68) (x := (.tmp 83)) (y := (.tmp 99)) (d := 100) (g := none) (tI 68) zC.row y22 [r28] kr kr kr kr kr kr kr kr kr kr hg29 ?_
   refine fA ?_
   refine mC z7 18 ?_
   refine LAt.moveU (T := lk tab) (ty := 27) (x := (.tmp 100)) (d := 3) (g := none) false [cL 5 (y22 ++ [r28]) zC.row] kr kr kr kr kr ?_
   refine fA ?_
   exact mE z7 [3,79,78,77,8,1] [1]
 ·refine lA 1 ?_
  refine fA ?_
  refine mC z7 5 ?_
  refine lA 1 ?_
  refine fA ?_
  refine oN z7 8 intRow ev26 fun cx => ?_
  refine mC z7 9 ?_
  refine dE (tI 3) (.slot 88) [(0,((IntKind.wrap .i64 (y9 - 1)).toNat))] 1 0 [cL 1 [1,v25.Members,v25.Bare] intRow] (intRow v26) (qY rfl (ZH ev26).2) ?_
  refine fA ?_
  refine mC z7 10 ?_
  refine vA [.rd] (QC n v26 r27 er27) ?_
  refine fA ?_
  refine mC z7 15 ?_
  refine vA [.own,.rd] (QA n r27 [3,y9,v25.Id] r28 er28) ?_
  refine fA ?_
  refine mC z7 16 ?_
  refine lA 1 ?_
  refine fA ?_
  refine mC z7 17 ?_
  refine LAt.appMU tOk (t := 27) (ty := 27) (e := 68) (x := (.tmp 83)) (y := (.tmp 99)) (d := 100) (g := none) (tI 68) zC.row y22 [r28] kr kr kr kr kr kr kr kr kr kr hg29 ?_
  refine fA ?_
  refine mC z7 18 ?_
  refine LAt.moveU (T := lk tab) (ty := 27) (x := (.tmp 100)) (d := 3) (g := none) false [cL 5 (y22 ++ [r28]) zC.row] kr kr kr kr kr ?_
  refine fA ?_
  exact mE z7 [3,79,78,77,8,1] [1]
theorem zB5 (n : Nat) (x0 : zE) (r : (List zC)) (H : QS n x0 = some r) : zH Try.prog 27 [.val true (CV.frzRow (zE.row x0))] [.val false [.sl true 5 (r.map zC.row)]] [] := by
 refine cW Try.func27 (fun g d => sl [g 0,sl [g 1] (cn 15 (sl [g 2] .ret) .skip),g 3,sl [g 4] (.block 0 (.loop (sl [g 5,cn 33 .skip (.exit 0),.block 1 (sl [g 6] (g 7))] (g 8)))),sl [g 9] (.block 2 (.loop (sl [sl [g 10] (cn 48 .skip (.exit 2)),.block 3 (sl [g 12] (.block 4 (.loop (sl [g 13,cn 55 .skip (.exit 4),.block 5 (sl [g 14] (g 15))] (g 16)))))] (g 11)))),sl [g 17] (.block 6 (.loop (sl [sl [g 18] (cn 72 .skip (.exit 6)),.block 7 (sl [g 20] (.block 8 (.loop (sl [g 21,cn 80 .skip (.exit 8),.block 9 (sl [g 22] (d 23))] (g 24)))))] (g 19)))),sl [g 25] (.block 10 (.loop (sl [g 26,cn 106 .skip (.exit 10),.block 11 (sl [g 27] (d 28))] (g 29)))),g 30] .ret) [.tmp 2] fun cx => ?_
 unfold QS at H
 refine gA 2 2 2 ?_
 refine tS ?_
 refine rA 1 ?_
 obtain ⟨r1,er1,H⟩ := bs H
 refine vA [.rd] (zEt n x0 r1 er1) ?_
 refine uA 1 32770 2 ?_
 obtain ⟨h1,H⟩ | ⟨h1,H⟩ := bC H
 ·refine nA h1 ?_
  refine tK ?_
  refine rA 4 ?_
  obtain ⟨r2,er2,H⟩ := bs H
  refine vA [.own,.rd] (QA n (⟨4,0,x0.Name,([] : List Int)⟩ : Val) [1,1] r2 er2) ?_
  refine lA 1 ?_
  refine LAt.moveU (T := lk tab) (ty := 27) (x := (.tmp 21)) (d := 3) (g := none) false [cL 5 [r2] zC.row] kr kr kr kr kr ?_
  refine dA 10 2 ?_
  refine tS ?_
  refine rA 9 ?_
  refine kO [x0.Tk,x0.Pa,x0.Wo,x0.Dr] intRow ?_
  refine uA 1 7516192778 2 ?_
  obtain ⟨o39,eo39,Ho39⟩ := bs H
  clear H
  refine Tr.mid (ι := (List zC)) (fun v => ⟨124,0,[sC 3 (cL 5 v zC.row),sA 1 1 11 0],[(1,(CV.frzRow (zE.row x0)))]⟩) (fun v => QX n x0 v = some r) ?_ ?_
  ·refine tB ?_
   refine Tr.loop (ι := Nat × (Int × (List zC))) (fun v => ⟨124,0,[sI 32 v.2.1,sI 31 ([x0.Tk,x0.Pa,x0.Wo,x0.Dr].length : Int),sC 30 (cL 1 [x0.Tk,x0.Pa,x0.Wo,x0.Dr] intRow),sC 3 (cL 5 v.2.2 zC.row),sA 1 1 11 0],[(1,(CV.frzRow (zE.row x0)))]⟩) (fun v => z6 n v.1 x0 v.2.1 v.2.2 = some o39) (fun v => v.1) (n,(0,[r2])) eo39 (St.sub_of [32,31,30,3,1] [1] kr) ?_
   rintro ⟨mo39,y3,y4⟩ H
   have H : z6 n mo39 x0 y3 y4 = some o39 := H
   obtain _ | mo39 := mo39
   ·exact nN H
   rw [z6] at H
   refine gA 1 16106127370 2 ?_
   refine tS ?_
   obtain ⟨h7,H⟩ | ⟨h7,H⟩ := bC H
   ·refine nA h7 ?_
    refine Tr.exit ?_
    refine aJ ?_
    obtain rfl := si H
    have H := Ho39
    dsimp only at H
    exact jA y4 H [3,1] [1]
   refine tA h7 ?_
   refine tK ?_
   refine tS ?_
   refine tB ?_
   refine rA 1 ?_
   obtain ⟨v40,ev40,H⟩ := bs H
   refine oA intRow ev40 ?_
   refine dE (tI 3) (.slot 30) [(0,(y3.toNat))] 1 0 [cL 1 [x0.Tk,x0.Pa,x0.Wo,x0.Dr] intRow] (intRow v40) (qY rfl (ZH ev40).2) ?_
   refine uA 2 7516192826 2 ?_
   refine Tr.at ?_
   refine lA 2 ?_
   obtain ⟨r41,er41,H⟩ := bs H
   refine vA [.rd] (QC n v40 r41 er41) ?_
   refine lA 3 ?_
   obtain ⟨r42,er42,H⟩ := bs H
   refine vA [.own,.rd] (QA n r41 [1,(IntKind.wrap .i64 (y3 + 2))] r42 er42) ?_
   refine lA 1 ?_
   obtain ⟨hg43,H⟩ := gs H
   refine LAt.appMU tOk (t := 27) (ty := 27) (e := 68) (x := (.tmp 37)) (y := (.tmp 44)) (d := 45) (g := none) (tI 68) zC.row y4 [r42] kr kr kr kr kr kr kr kr kr kr hg43 ?_
   refine LAt.moveU (T := lk tab) (ty := 27) (x := (.tmp 45)) (d := 3) (g := none) false [cL 5 (y4 ++ [r42]) zC.row] kr kr kr kr kr ?_
   refine dA 7516192778 2 ?_
   refine eA 2 7516192778 2 ?_
   exact jB mo39 ((IntKind.wrap .i64 (y3 + 1)),(y4 ++ [r42])) H [32,31,30,3,1] [1]
  rintro y5 H
  have H : (QX n x0 y5) = some r := H
  unfold QX at H
  refine tS ?_
  refine gA 1 74 2 ?_
  obtain ⟨o30,eo30,Ho30⟩ := bs H
  clear H
  refine Tr.mid (ι := (List zC)) (fun v => ⟨124,0,[sC 3 (cL 5 v zC.row),sA 1 1 11 0],[(1,(CV.frzRow (zE.row x0)))]⟩) (fun v => QY n x0 v = some r) ?_ ?_
  ·refine tB ?_
   refine Tr.loop (ι := Nat × (Int × (List zC))) (fun v => ⟨124,0,[sI 6 v.2.1,sC 3 (cL 5 v.2.2 zC.row),sA 1 1 11 0],[(1,(CV.frzRow (zE.row x0)))]⟩) (fun v => qT n v.1 x0 v.2.1 v.2.2 = some o30) (fun v => v.1) (n,(1,y5)) eo30 (St.sub_of [6,3,1] [1] kr) ?_
   rintro ⟨mo30,y6,y7⟩ H
   have H : qT n mo30 x0 y6 y7 = some o30 := H
   obtain _ | mo30 := mo30
   ·exact nN H
   rw [qT] at H
   refine tS ?_
   refine gA 2 281474976710730 2 ?_
   obtain ⟨h5,H⟩ | ⟨h5,H⟩ := bC H
   ·refine nA h5 ?_
    refine Tr.exit ?_
    refine aJ ?_
    obtain rfl := si H
    have H := Ho30
    dsimp only at H
    exact jA y7 H [3,1] [1]
   refine tA h5 ?_
   refine tK ?_
   refine tS ?_
   refine tB ?_
   refine rA 2 ?_
   refine kF x0.Ps Pt.row ?_
   refine uA 1 0x6000000000004a 2 ?_
   obtain ⟨o34,eo34,Ho34⟩ := bs H
   clear H
   refine Tr.mid (ι := (List zC)) (fun v => ⟨124,0,[sI 6 y6,sC 3 (cL 5 v zC.row),sA 1 1 11 0],[(1,(CV.frzRow (zE.row x0)))]⟩) (fun v => QM n (fun v => qT n mo30 x0 v.1 v.2) y6 v = some o30) ?_ ?_
   ·refine tB ?_
    refine Tr.loop (ι := Nat × (Int × (List zC))) (fun v => ⟨124,0,[sI 54 v.2.1,sI 53 (x0.Ps.length : Int),sI 6 y6,sC 3 (cL 5 v.2.2 zC.row),sA 1 1 11 0],[(1,(CV.frzRow (zE.row x0)))]⟩) (fun v => qk n v.1 x0 y6 v.2.1 v.2.2 = some o34) (fun v => v.1) (n,(0,y7)) eo34 (St.sub_of [54,53,6,3,1] [1] kr) ?_
    rintro ⟨mo34,y31,y32⟩ H
    have H : qk n mo34 x0 y6 y31 y32 = some o34 := H
    obtain _ | mo34 := mo34
    ·exact nN H
    rw [qk] at H
    refine gA 1 0xe000000000004a 2 ?_
    refine tS ?_
    obtain ⟨h6,H⟩ | ⟨h6,H⟩ := bC H
    ·refine nA h6 ?_
     refine Tr.exit ?_
     refine aJ ?_
     obtain rfl := si H
     have H := Ho34
     dsimp only at H
     exact jA y32 H [6,3,1] [1]
    refine tA h6 ?_
    refine tK ?_
    refine tS ?_
    refine tB ?_
    refine gA 2 0x600000000000ca 2 ?_
    refine Tr.at ?_
    refine lA 4 ?_
    obtain ⟨r35,er35,H⟩ := bs H
    refine vA [.rd,.rd,.rd] (zEF n x0 y6 y31 r35 er35) ?_
    obtain ⟨r36,er36,H⟩ := bs H
    refine vA [.rd] (QC n r35 r36 er36) ?_
    refine lA 4 ?_
    obtain ⟨r37,er37,H⟩ := bs H
    refine vA [.own,.rd] (QA n r36 [2,y6,(IntKind.wrap .i64 (y31 + 1))] r37 er37) ?_
    refine lA 1 ?_
    obtain ⟨hg38,H⟩ := gs H
    refine LAt.appMU tOk (t := 27) (ty := 27) (e := 68) (x := (.tmp 57)) (y := (.tmp 68)) (d := 69) (g := none) (tI 68) zC.row y32 [r37] kr kr kr kr kr kr kr kr kr kr hg38 ?_
    refine LAt.moveU (T := lk tab) (ty := 27) (x := (.tmp 69)) (d := 3) (g := none) false [cL 5 (y32 ++ [r37]) zC.row] kr kr kr kr kr ?_
    refine dA 0x6000000000004a 2 ?_
    refine eA 2 0x6000000000004a 2 ?_
    exact jB mo34 ((IntKind.wrap .i64 (y31 + 1)),(y32 ++ [r37])) H [54,53,6,3,1] [1]
   rintro y33 H
   have H : (QM n (fun v => qT n mo30 x0 v.1 v.2) y6 y33) = some o30 := H
   unfold QM at H
   refine eA 3 74 2 ?_
   exact jB mo30 ((IntKind.wrap .i64 (y6 + 1)),y33) H [6,3,1] [1]
  rintro y8 H
  have H : (QY n x0 y8) = some r := H
  unfold QY at H
  refine tS ?_
  refine gA 1 266 2 ?_
  obtain ⟨o20,eo20,Ho20⟩ := bs H
  clear H
  refine Tr.mid (ι := (List zC)) (fun v => ⟨124,0,[sC 3 (cL 5 v zC.row),sA 1 1 11 0],[(1,(CV.frzRow (zE.row x0)))]⟩) (fun v => QZ n x0 v = some r) ?_ ?_
  ·refine tB ?_
   refine Tr.loop (ι := Nat × (Int × (List zC))) (fun v => ⟨124,0,[sI 8 v.2.1,sC 3 (cL 5 v.2.2 zC.row),sA 1 1 11 0],[(1,(CV.frzRow (zE.row x0)))]⟩) (fun v => qS n v.1 x0 v.2.1 v.2.2 = some o20) (fun v => v.1) (n,(1,y8)) eo20 (St.sub_of [8,3,1] [1] kr) ?_
   rintro ⟨mo20,y9,y10⟩ H
   have H : qS n mo20 x0 y9 y10 = some o20 := H
   obtain _ | mo20 := mo20
   ·exact nN H
   rw [qS] at H
   refine tS ?_
   refine gA 2 0x100000000000000010a 2 ?_
   obtain ⟨h3,H⟩ | ⟨h3,H⟩ := bC H
   ·refine nA h3 ?_
    refine Tr.exit ?_
    refine aJ ?_
    obtain rfl := si H
    have H := Ho20
    dsimp only at H
    exact jA y10 H [3,1] [1]
   refine tA h3 ?_
   refine tK ?_
   refine tS ?_
   refine tB ?_
   refine rA 3 ?_
   refine kF x0.V.Rows zA.row ?_
   refine uA 1 0xe000000000000000010a 2 ?_
   obtain ⟨o24,eo24,Ho24⟩ := bs H
   clear H
   refine Tr.mid (ι := (List zC)) (fun v => ⟨124,0,[sI 8 y9,sC 3 (cL 5 v zC.row),sA 1 1 11 0],[(1,(CV.frzRow (zE.row x0)))]⟩) (fun v => Qa n (fun v => qS n mo20 x0 v.1 v.2) y9 v = some o20) ?_ ?_
   ·refine tB ?_
    refine Tr.loop (ι := Nat × (Int × (List zC))) (fun v => ⟨124,0,[sI 79 v.2.1,sI 78 (x0.V.Rows.length : Int),sC 77 (cF 3 x0.V.Rows zA.row),sI 8 y9,sC 3 (cL 5 v.2.2 zC.row),sA 1 1 11 0],[(1,(CV.frzRow (zE.row x0)))]⟩) (fun v => qz n v.1 x0 y9 v.2.1 v.2.2 = some o24) (fun v => v.1) (n,(0,y10)) eo24 (St.sub_of [79,78,77,8,3,1] [1] kr) ?_
    rintro ⟨mo24,y21,y22⟩ H
    have H : qz n mo24 x0 y9 y21 y22 = some o24 := H
    obtain _ | mo24 := mo24
    ·exact nN H
    rw [qz] at H
    refine gA 1 0x1e000000000000000010a 2 ?_
    refine tS ?_
    obtain ⟨h4,H⟩ | ⟨h4,H⟩ := bC H
    ·refine nA h4 ?_
     refine Tr.exit ?_
     refine aJ ?_
     obtain rfl := si H
     have H := Ho24
     dsimp only at H
     exact jA y22 H [8,3,1] [1]
    refine tA h4 ?_
    refine tK ?_
    refine tS ?_
    refine tB ?_
    refine tR ?_
    obtain ⟨v25,ev25,H⟩ := bs H
    refine iA zA.row ev25 ?_
    refine uA 3 0xe000000000000000050a 1026 ?_
    obtain ⟨v26,ev26,H⟩ := bs H
    obtain ⟨r27,er27,H⟩ := bs H
    obtain ⟨r28,er28,H⟩ := bs H
    obtain ⟨hg29,H⟩ := gs H
    refine sT ⟨124,0,[sA 10 10 3 0,sI 79 y21,sI 78 (x0.V.Rows.length : Int),sC 77 (cF 3 x0.V.Rows zA.row),sI 8 y9,sC 3 (cL 5 y22 zC.row),sA 1 1 11 0],[(10,(zA.row v25)),(1,(CV.frzRow (zE.row x0)))]⟩ ?_
    refine Tr.draw mixed 19 kr ⟨124,0,[sC 3 (cL 5 (y22 ++ [r28]) zC.row),sI 79 y21,sI 78 (x0.V.Rows.length : Int),sC 77 (cF 3 x0.V.Rows zA.row),sI 8 y9,sA 1 1 11 0],[(1,(CV.frzRow (zE.row x0)))]⟩ (zDW n y9 v25 v26 r27 r28 y22 y21 x0 ev26 er27 er28 hg29) ?_
    refine eA 2 0xe000000000000000010a 2 ?_
    exact jB mo24 ((IntKind.wrap .i64 (y21 + 1)),(y22 ++ [r28])) H [79,78,77,8,3,1] [1]
   rintro y23 H
   have H : (Qa n (fun v => qS n mo20 x0 v.1 v.2) y9 y23) = some o20 := H
   unfold Qa at H
   refine eA 3 266 2 ?_
   exact jB mo20 ((IntKind.wrap .i64 (y9 + 1)),y23) H [8,3,1] [1]
  rintro y11 H
  have H : (QZ n x0 y11) = some r := H
  unfold QZ at H
  refine tS ?_
  refine rA 2 ?_
  refine kF x0.F zB.row ?_
  refine uA 1 0x380000000000000000000000008 0 ?_
  obtain ⟨o15,eo15,Ho15⟩ := bs H
  clear H
  refine Tr.mid (ι := (List zC)) (fun v => ⟨124,0,[sC 3 (cL 5 v zC.row)],[]⟩) (fun v => YO n v = some r) ?_ ?_
  ·refine tB ?_
   refine Tr.loop (ι := Nat × (Int × (List zC))) (fun v => ⟨124,0,[sI 105 v.2.1,sI 104 (x0.F.length : Int),sC 103 (cF 5 x0.F zB.row),sC 3 (cL 5 v.2.2 zC.row)],[]⟩) (fun v => qy n v.1 x0 v.2.1 v.2.2 = some o15) (fun v => v.1) (n,(0,y11)) eo15 (St.sub_of [105,104,103,3] [] kr) ?_
   rintro ⟨mo15,y12,y13⟩ H
   have H : qy n mo15 x0 y12 y13 = some o15 := H
   obtain _ | mo15 := mo15
   ·exact nN H
   rw [qy] at H
   refine gA 1 0x780000000000000000000000008 0 ?_
   refine tS ?_
   obtain ⟨h2,H⟩ | ⟨h2,H⟩ := bC H
   ·refine nA h2 ?_
    refine Tr.exit ?_
    refine aJ ?_
    obtain rfl := si H
    have H := Ho15
    dsimp only at H
    exact jA y13 H [3] []
   refine tA h2 ?_
   refine tK ?_
   refine tS ?_
   refine tB ?_
   refine tR ?_
   obtain ⟨v16,ev16,H⟩ := bs H
   refine iA zB.row ev16 ?_
   refine uA 3 0x380000000000000000000001008 4096 ?_
   obtain ⟨r17,er17,H⟩ := bs H
   obtain ⟨r18,er18,H⟩ := bs H
   obtain ⟨hg19,H⟩ := gs H
   refine Tr.draw mixed 14 kr ⟨124,0,[sC 3 (cL 5 (y13 ++ [r18]) zC.row),sI 105 y12,sI 104 (x0.F.length : Int),sC 103 (cF 5 x0.F zB.row)],[]⟩ (fun cx => ?_) ?_
   ·refine mA QV [(0,[]),(1,[]),(2,[4,10,11,12]),(3,[]),(5,[]),(6,[9,10,11,12]),(7,[]),(8,[9,10,11,12])] 6 [⟨[9,10,11,12],3,116,117⟩,⟨[9,10,11,12],3,114,115⟩,⟨[4,10,11,12],3,110,111⟩] fun cx => ?_
    refine mB2 tOk QV 4 9 kr (And.intro kr ?_) (And.intro kr ?_)
    ·refine vA [.rd] (QC n (IntKind.wrap .i64 (v16.Port + 1)) r17 er17) ?_
     refine fA ?_
     refine mC QV 9 ?_
     refine lA 1 ?_
     refine fA ?_
     refine mC QV 10 ?_
     refine vA [.own,.rd] (QA n r17 [4,1,v16.Tag,v16.Mac] r18 er18) ?_
     refine fA ?_
     refine mC QV 11 ?_
     refine lA 1 ?_
     refine fA ?_
     refine mC QV 12 ?_
     refine LAt.appMU tOk (t := 27) (ty := 27) (e := 68) (x := (.tmp 109)) (y := (.tmp 120)) (d := 121) (g := none) (tI 68) zC.row y13 [r18] kr kr kr kr kr kr kr kr kr kr hg19 ?_
     refine fA ?_
     refine mC QV 13 ?_
     refine LAt.moveU (T := lk tab) (ty := 27) (x := (.tmp 121)) (d := 3) (g := none) false [cL 5 (y13 ++ [r18]) zC.row] kr kr kr kr kr ?_
     refine fA ?_
     exact mE QV [3,105,104,103] []
    ·refine lA 1 ?_
     refine fA ?_
     refine mC QV 4 ?_
     refine vA [.rd] (QC n (IntKind.wrap .i64 (v16.Port + 1)) r17 er17) ?_
     refine fA ?_
     refine mC QV 10 ?_
     refine vA [.own,.rd] (QA n r17 [4,1,v16.Tag,v16.Mac] r18 er18) ?_
     refine fA ?_
     refine mC QV 11 ?_
     refine lA 1 ?_
     refine fA ?_
     refine mC QV 12 ?_
     refine LAt.appMU tOk (t := 27) (ty := 27) (e := 68) (x := (.tmp 109)) (y := (.tmp 120)) (d := 121) (g := none) (tI 68) zC.row y13 [r18] kr kr kr kr kr kr kr kr kr kr hg19 ?_
     refine fA ?_
     refine mC QV 13 ?_
     refine LAt.moveU (T := lk tab) (ty := 27) (x := (.tmp 121)) (d := 3) (g := none) false [cL 5 (y13 ++ [r18]) zC.row] kr kr kr kr kr ?_
     refine fA ?_
     exact mE QV [3,105,104,103] []
   refine eA 2 0x380000000000000000000000008 0 ?_
   exact jB mo15 ((IntKind.wrap .i64 (y12 + 1)),(y13 ++ [r18])) H [105,104,103,3] []
  rintro y14 H
  have H : (YO n y14) = some r := H
  unfold YO at H
  refine gA 2 12 0 ?_
  exact te (fJ [(false,[cL 5 y14 zC.row])] H)
 refine tA h1 ?_
 refine gA 1 4 0 ?_
 exact te (fJ [(false,[cL 5 ([] : List zC) zC.row])] H)
def YN (n : Nat) (x0 : (List Int)) (x1 : (List Int)) : Option (Bool) :=
  (some (decide ((x0.length : Int) < (x1.length : Int))))
def qx (n : Nat) : Nat → (List Int) → (List Int) → Int → Option ((Unit) ⊕ (Bool))
  | 0,_,_,_ => none
  | mo2 + 1,x0,x1,y1 => (bif (decide (y1 < (x0.length : Int))) then (bif (decide (y1 < (x1.length : Int))) then ((idx x0 y1).bind fun v3 => ((idx x1 y1).bind fun v4 => (bif (v3 != v4) then ((idx x0 y1).bind fun v5 => ((idx x1 y1).bind fun v6 => (some (Sum.inr (decide (v5 < v6)))))) else (qx n mo2 x0 x1 (IntKind.wrap .i64 (y1 + 1)))))) else (some (Sum.inl ()))) else (some (Sum.inl ())))
def QR (n : Nat) (x0 : (List Int)) (x1 : (List Int)) : Option (Bool) :=
  ((qx n n x0 x1 0).bind fun o => match o with | .inl _ => (YN n x0 x1) | .inr r => some r)
theorem zB3 (n : Nat) (x0 : (List Int)) (x1 : (List Int)) (r : Bool) (H : QR n x0 x1 = some r) : zH Try.prog 28 [.val false [.sl false 1 (CV.frzEs (x0.map intRow))],.val false [.sl false 1 (CV.frzEs (x1.map intRow))]] [.val false [.lit (.bool r)]] [] := by
 refine cW Try.func28 (fun g d => sl [g 0,sl [g 1] (.block 0 (.loop (sl [sl [g 2] (cn 15 .skip (.exit 0)),.block 1 (sl [d 4] (cn 26 (sl [d 5] .ret) .skip))] (g 3)))),g 6] .ret) [.tmp 4] fun cx => ?_
 unfold QR at H
 refine gA 1 3 0 ?_
 refine tS ?_
 refine gA 1 35 0 ?_
 obtain ⟨o2,eo2,Ho2⟩ := bs H
 clear H
 refine Tr.mid (ι := Unit) (fun v => ⟨41,0,[sC 0 (cF 1 x0 intRow),sC 1 (cF 1 x1 intRow)],[]⟩) (fun v => YN n x0 x1 = some r) ?_ ?_
 ·refine tB ?_
  refine Tr.loop (ι := Nat × (Int)) (fun v => ⟨41,0,[sI 5 v.2,sC 0 (cF 1 x0 intRow),sC 1 (cF 1 x1 intRow)],[]⟩) (fun v => qx n v.1 x0 x1 v.2 = some o2) (fun v => v.1) (n,0) eo2 (St.sub_of [5,0,1] [] kr) ?_
  rintro ⟨mo2,y1⟩ H
  have H : qx n mo2 x0 x1 y1 = some o2 := H
  obtain _ | mo2 := mo2
  ·exact nN H
  rw [qx] at H
  refine tS ?_
  refine rA 2 ?_
  refine kF x0 intRow ?_
  refine lA 2 ?_
  refine sL 1059 0 ⟨41,0,[sB 10 (decide (y1 < (x0.length : Int))),sI 5 y1,sC 0 (cF 1 x0 intRow),sC 1 (cF 1 x1 intRow)],[]⟩ ?_
  cases h1 : (decide (y1 < (x0.length : Int)))
  ·have H := zI h1 H
   refine uA 5 32803 0 ?_
   refine nB_ ?_
   refine Tr.exit ?_
   refine aJ ?_
   obtain rfl := si H
   have H := Ho2
   dsimp only at H
   exact jA () H [0,1] []
  have H := zJ h1 H
  refine lA 2 ?_
  refine kF x1 intRow ?_
  refine uA 2 32803 0 ?_
  obtain ⟨h2,H⟩ | ⟨h2,H⟩ := bC H
  ·refine nA h2 ?_
   refine Tr.exit ?_
   refine aJ ?_
   obtain rfl := si H
   have H := Ho2
   dsimp only at H
   exact jA () H [0,1] []
  refine tA h2 ?_
  refine tK ?_
  refine tS ?_
  refine tB ?_
  obtain ⟨v3,ev3,H⟩ := bs H
  obtain ⟨v4,ev4,H⟩ := bs H
  refine Tr.draws mixed 9 kr ⟨41,0,[sB 26 (v3 != v4),sI 5 y1,sC 0 (cF 1 x0 intRow),sC 1 (cF 1 x1 intRow)],[]⟩ (fun cx => ?_) ?_
  ·refine aA [(0,[]),(1,[])] 7 [] fun cx => ?_
   refine aI tOk 2 38 0 18 19 20 none ⟨(.slot 18),[],0,false,1,(CV.frzEs (x0.map intRow))⟩ y1 [cI v3] _ kr kr kr kr kr kr rfl (Qo ev3) rfl (fun cx => ?_)
   refine aA [(3,[]),(4,[]),(5,[])] 3 [] fun cx => ?_
   refine aI tOk 6 38 0 22 23 24 none ⟨(.slot 22),[],0,false,1,(CV.frzEs (x1.map intRow))⟩ y1 [cI v4] _ kr kr kr kr kr kr rfl (Qo ev4) rfl (fun cx => ?_)
   refine aA [(7,[]),(8,[])] 0 [] fun cx => ?_
   exact eE [26,5,0,1] []
  refine sT ⟨41,0,[sB 26 (v3 != v4),sI 5 y1,sC 0 (cF 1 x0 intRow),sC 1 (cF 1 x1 intRow)],[]⟩ ?_
  cases h3 : (v3 != v4)
  ·have H := zI h3 H
   refine nB_ ?_
   refine tK ?_
   refine eA 3 35 0 ?_
   exact jB mo2 (IntKind.wrap .i64 (y1 + 1)) H [5,0,1] []
  have H := zJ h3 H
  refine tB_ ?_
  obtain ⟨v5,ev5,H⟩ := bs H
  obtain ⟨v6,ev6,H⟩ := bs H
  refine Tr.draws mixed 10 kr ⟨41,0,[sB 4 (decide (v5 < v6))],[]⟩ (fun cx => ?_) ?_
  ·refine aA [(0,[]),(1,[])] 8 [] fun cx => ?_
   refine aI tOk 2 38 0 27 28 29 none ⟨(.slot 27),[],0,false,1,(CV.frzEs (x0.map intRow))⟩ y1 [cI v5] _ kr kr kr kr kr kr rfl (Qo ev5) rfl (fun cx => ?_)
   refine aA [(3,[]),(4,[]),(5,[])] 4 [] fun cx => ?_
   refine aI tOk 6 38 0 31 32 33 none ⟨(.slot 31),[],0,false,1,(CV.frzEs (x1.map intRow))⟩ y1 [cI v6] _ kr kr kr kr kr kr rfl (Qo ev6) rfl (fun cx => ?_)
   refine aA [(7,[]),(8,[]),(9,[])] 0 [] fun cx => ?_
   exact eE [4] []
  refine te ?_
  obtain rfl := si H
  have H := Ho2
  dsimp only at H
  exact fJ [(false,[cB (decide (v5 < v6))])] H
 rintro _ H
 have H : (YN n x0 x1) = some r := H
 unfold YN at H
 refine rA 1 ?_
 refine kF x0 intRow ?_
 refine lA 1 ?_
 refine kF x1 intRow ?_
 refine uA 2 16 0 ?_
 exact te (fJ [(false,[cB (decide ((x0.length : Int) < (x1.length : Int)))])] H)
def Qr (n : Nat) (x0 : (List Int)) : Option ((List Int)) :=
  (bif (decide (([] : List Int).length + x0.length ≤ 268435456)) then (some (([] : List Int) ++ x0)) else none)
theorem zEv (n : Nat) (x0 : (List Int)) (r : (List Int)) (H : Qr n x0 = some r) : zH Try.prog 65 [.val false [.sl false 1 (CV.frzEs (x0.map intRow))]] [.val false [.sl true 1 (r.map intRow)]] [] := by
 refine cW Try.func65 (fun g d => sl [g 0,g 1] .ret) [.tmp 2] fun cx => ?_
 unfold Qr at H
 refine gA 1 1 0 ?_
 refine rA 1 ?_
 obtain ⟨hg1,H⟩ := gs H
 refine LAt.appCU tOk (t := 38) (ty := 38) (e := 3) (x := (.const (.slice none 0 0))) (y := (.tmp 3)) (d := 4) (g := none) (tI 3) intRow ([] : List Int) x0 ⟨(.slot 3),[],0,false,1,(CV.frzEs (x0.map intRow))⟩ kr kr kr kr kr kr kr kr kr kr kr (.inr rfl) (fun _ => rfl) (fun _ => rfl) hg1 ?_
 refine LAt.moveU (T := lk tab) (ty := 38) (x := (.tmp 4)) (d := 2) (g := none) false [cL 1 (([] : List Int) ++ x0) intRow] kr kr kr kr kr ?_
 refine dA 4 0 ?_
 exact te (fJ [(false,[cL 1 (([] : List Int) ++ x0) intRow])] H)
def Qb (n : Nat) (x1 : (List Int)) : Option (zC) :=
  ((Qr n x1).bind fun r4 => (some (⟨r4,(⟨130,0,(⟨#[]⟩ : ByteArray),([] : List Int)⟩ : Val)⟩ : zC)))
def qU (n : Nat) : Nat → (List zC) → (List Int) → Int → (List (Option zC)) → Option ((Unit) ⊕ (zC))
  | 0,_,_,_,_ => none
  | mo5 + 1,r1,x1,y2,y3 => (bif (decide (y2 < (r1.length : Int))) then ((zD8 y3 y2).bind fun v6 => ((QR n x1 v6.O).bind fun r7 => (bif r7 then (some (Sum.inr v6)) else (qU n mo5 r1 x1 (IntKind.wrap .i64 (y2 + 1)) (y3.set (y2.toNat) none))))) else (some (Sum.inl ())))
def JL (n : Nat) (x0 : zE) (x1 : (List Int)) : Option (zC) :=
  ((QS n x0).bind fun r1 => ((qU n n r1 x1 0 (r1.map some)).bind fun o => match o with | .inl _ => (Qb n x1) | .inr r => some r))
theorem zFJ (n : Nat) (x0 : zE) (x1 : (List Int)) (r : zC) (H : JL n x0 x1 = some r) : zH Try.prog 26 [.val true (CV.frzRow (zE.row x0)),.val false [.sl false 1 (CV.frzEs (x1.map intRow))]] [.val true (zC.row r)] [] := by
 refine cW Try.func26 (fun g d => sl [g 0,sl [g 1] (.block 0 (.loop (sl [g 2,cn 11 .skip (.exit 0),.block 1 (sl [g 3,g 4] (cn 17 (sl [g 5] .ret) .skip))] (g 6)))),g 7] .ret) [.cell 4 68] fun cx => ?_
 unfold JL at H
 refine gA 2 22 20 ?_
 refine tS ?_
 refine rA 1 ?_
 obtain ⟨r1,er1,H⟩ := bs H
 refine vA [.rd] (zB5 n x0 r1 er1) ?_
 refine kO r1 zC.row ?_
 refine uA 1 1810 16 ?_
 refine sT ⟨24,0,[sI 10 0,sI 9 (r1.length : Int),sC 8 (cL 5 r1 zC.row),sA 4 4 5 0,sC 1 (cF 1 x1 intRow)],[(4,[cL 1 ([] : List Int) intRow,cI 0,cI 0,cS (⟨#[]⟩ : ByteArray),cL 1 ([] : List Int) intRow])]⟩ ?_
 rw [zIU 5 r1 zC.row]
 obtain ⟨o5,eo5,Ho5⟩ := bs H
 clear H
 refine Tr.mid (ι := Unit) (fun v => ⟨24,0,[sA 4 4 5 0,sC 1 (cF 1 x1 intRow)],[(4,[cL 1 ([] : List Int) intRow,cI 0,cI 0,cS (⟨#[]⟩ : ByteArray),cL 1 ([] : List Int) intRow])]⟩) (fun v => Qb n x1 = some r) ?_ ?_
 ·refine tB ?_
  refine Tr.loop (ι := Nat × (Int × (List (Option zC)))) (fun v => ⟨24,0,[sI 10 v.2.1,sI 9 (r1.length : Int),sC 8 (cL 5 v.2.2 (Qs 5 zC.row)),sA 4 4 5 0,sC 1 (cF 1 x1 intRow)],[(4,[cL 1 ([] : List Int) intRow,cI 0,cI 0,cS (⟨#[]⟩ : ByteArray),cL 1 ([] : List Int) intRow])]⟩) (fun v => qU n v.1 r1 x1 v.2.1 v.2.2 = some o5) (fun v => v.1) (n,(0,(r1.map some))) eo5 (St.sub_of [10,9,8,4,1] [4] kr) ?_
  rintro ⟨mo5,y2,y3⟩ H
  have H : qU n mo5 r1 x1 y2 y3 = some o5 := H
  obtain _ | mo5 := mo5
  ·exact nN H
  rw [qU] at H
  refine gA 1 3858 16 ?_
  refine tS ?_
  obtain ⟨h1,H⟩ | ⟨h1,H⟩ := bC H
  ·refine nA h1 ?_
   refine Tr.exit ?_
   refine aJ ?_
   obtain rfl := si H
   have H := Ho5
   dsimp only at H
   exact jA () H [4,1] [4]
  refine tA h1 ?_
  refine tK ?_
  refine tS ?_
  refine tB ?_
  refine tR ?_
  obtain ⟨v6,ev6,H⟩ := bs H
  refine lO tOk 27 0 8 10 12 none ⟨(.slot 8),[],0,true,5,(y3.map (Qs 5 zC.row))⟩ y2 (y2.toNat) ((Qs 5 zC.row) (some v6)) _ kr kr kr kr rfl kr (zHS ev6) rfl rfl ?_
  refine dE (tI 68) (.slot 8) [(0,(y2.toNat))] 5 0 [cL 5 y3 (Qs 5 zC.row)] ((Qs 5 zC.row) (some v6)) (qY rfl (zC1 ev6).2) ?_
  refine lA 1 ?_
  refine LAt.storeG tOk (t := 68) (ty := 0) (ad := (.tmp 6)) (g := none) (tI 68) true 13 8 0 (y2.toNat) 5 6 0 y3 zC.row v6 kr kr kr kr kr kr kr kr kr kr (zC1 ev6).2 kr kr kr kr ?_
  refine dA 1874 80 ?_
  refine rA 3 ?_
  obtain ⟨r7,er7,H⟩ := bs H
  refine vB [.rd,.rd] [.box 6] (zB3 n x1 v6.O r7 er7) (.inr (qa (zG zN qA) Zj)) ?_
  refine dA 132946 80 ?_
  cases h2 : r7
  ·have H := zI h2 H
   refine nB_ ?_
   refine tK ?_
   refine eA 2 1810 16 ?_
   exact jB mo5 ((IntKind.wrap .i64 (y2 + 1)),(y3.set (y2.toNat) none)) H [10,9,8,4,1] [4]
  have H := zJ h2 H
  refine tB_ ?_
  refine gA 2 16 16 ?_
  refine te ?_
  obtain rfl := si H
  have H := Ho5
  dsimp only at H
  exact fJ [(true,(zC.row v6))] H
 rintro _ H
 have H : (Qb n x1) = some r := H
 unfold Qb at H
 refine rA 1 ?_
 obtain ⟨r4,er4,H⟩ := bs H
 refine vA [.rd] (zEv n x1 r4 er4) ?_
 refine uA 3 16 16 ?_
 exact te (fJ [(true,[cL 1 r4 intRow,cI 130,cI 0,cS (⟨#[]⟩ : ByteArray),cL 1 ([] : List Int) intRow])] H)
def YP (n : Nat) : Option (Bool) :=
  (some true)
def q1 (n : Nat) : Nat → (List Int) → (List Int) → Int → Option ((Unit) ⊕ (Bool))
  | 0,_,_,_ => none
  | mo2 + 1,x0,x1,y1 => (bif (decide (y1 < (x0.length : Int))) then ((idx x0 y1).bind fun v3 => ((idx x1 y1).bind fun v4 => (bif (v3 != v4) then (some (Sum.inr false)) else (q1 n mo2 x0 x1 (IntKind.wrap .i64 (y1 + 1)))))) else (some (Sum.inl ())))
def ZB (n : Nat) (x0 : (List Int)) (x1 : (List Int)) : Option (Bool) :=
  (bif ((x0.length : Int) != (x1.length : Int)) then (some false) else ((q1 n n x0 x1 0).bind fun o => match o with | .inl _ => (YP n) | .inr r => some r))
theorem Jb (n : Nat) (x0 : (List Int)) (x1 : (List Int)) (r : Bool) (H : ZB n x0 x1 = some r) : zH Try.prog 29 [.val false [.sl false 1 (CV.frzEs (x0.map intRow))],.val false [.sl false 1 (CV.frzEs (x1.map intRow))]] [.val false [.lit (.bool r)]] [] := by
 refine cW Try.func29 (fun g d => sl [g 0,sl [g 1] (cn 10 (sl [g 2] .ret) .skip),sl [g 3] (.block 0 (.loop (sl [g 4,cn 14 .skip (.exit 0),.block 1 (sl [g 5,d 6] (cn 24 (sl [g 7] .ret) .skip))] (g 8)))),g 9] .ret) [.tmp 4] fun cx => ?_
 unfold ZB at H
 refine gA 1 3 0 ?_
 refine tS ?_
 refine rA 1 ?_
 refine kF x0 intRow ?_
 refine lA 1 ?_
 refine kF x1 intRow ?_
 refine uA 1 1027 0 ?_
 obtain ⟨h1,H⟩ | ⟨h1,H⟩ := bC H
 ·refine nA h1 ?_
  refine tK ?_
  refine tS ?_
  refine rA 1 ?_
  refine kF x0 intRow ?_
  refine uA 1 12291 0 ?_
  obtain ⟨o2,eo2,Ho2⟩ := bs H
  clear H
  refine Tr.mid (ι := Unit) (fun v => ⟨26,0,[],[]⟩) (fun v => YP n = some r) ?_ ?_
  ·refine tB ?_
   refine Tr.loop (ι := Nat × (Int)) (fun v => ⟨26,0,[sI 13 v.2,sI 12 (x0.length : Int),sC 0 (cF 1 x0 intRow),sC 1 (cF 1 x1 intRow)],[]⟩) (fun v => q1 n v.1 x0 x1 v.2 = some o2) (fun v => v.1) (n,0) eo2 (St.sub_of [13,12,0,1] [] kr) ?_
   rintro ⟨mo2,y1⟩ H
   have H : q1 n mo2 x0 x1 y1 = some o2 := H
   obtain _ | mo2 := mo2
   ·exact nN H
   rw [q1] at H
   refine gA 1 28675 0 ?_
   refine tS ?_
   obtain ⟨h2,H⟩ | ⟨h2,H⟩ := bC H
   ·refine nA h2 ?_
    refine Tr.exit ?_
    refine aJ ?_
    obtain rfl := si H
    have H := Ho2
    dsimp only at H
    exact jA () H [] []
   refine tA h2 ?_
   refine tK ?_
   refine tS ?_
   refine tB ?_
   refine gA 2 12323 0 ?_
   obtain ⟨v3,ev3,H⟩ := bs H
   obtain ⟨v4,ev4,H⟩ := bs H
   refine Tr.draws mixed 9 kr ⟨26,0,[sB 24 (v3 != v4),sI 13 y1,sI 12 (x0.length : Int),sC 0 (cF 1 x0 intRow),sC 1 (cF 1 x1 intRow)],[]⟩ (fun cx => ?_) ?_
   ·refine aA [(0,[]),(1,[])] 7 [] fun cx => ?_
    refine aI tOk 2 38 0 16 17 18 none ⟨(.slot 16),[],0,false,1,(CV.frzEs (x0.map intRow))⟩ y1 [cI v3] _ kr kr kr kr kr kr rfl (Qo ev3) rfl (fun cx => ?_)
    refine aA [(3,[]),(4,[]),(5,[])] 3 [] fun cx => ?_
    refine aI tOk 6 38 0 20 21 22 none ⟨(.slot 20),[],0,false,1,(CV.frzEs (x1.map intRow))⟩ y1 [cI v4] _ kr kr kr kr kr kr rfl (Qo ev4) rfl (fun cx => ?_)
    refine aA [(7,[]),(8,[])] 0 [] fun cx => ?_
    exact eE [24,13,12,0,1] []
   refine sT ⟨26,0,[sB 24 (v3 != v4),sI 13 y1,sI 12 (x0.length : Int),sC 0 (cF 1 x0 intRow),sC 1 (cF 1 x1 intRow)],[]⟩ ?_
   cases h3 : (v3 != v4)
   ·have H := zI h3 H
    refine nB_ ?_
    refine tK ?_
    refine eA 2 12291 0 ?_
    exact jB mo2 (IntKind.wrap .i64 (y1 + 1)) H [13,12,0,1] []
   have H := zJ h3 H
   refine tB_ ?_
   refine gA 1 16 0 ?_
   refine te ?_
   obtain rfl := si H
   have H := Ho2
   dsimp only at H
   exact fF H
  rintro _ H
  have H : (YP n) = some r := H
  unfold YP at H
  refine gA 1 16 0 ?_
  exact te (fT H)
 refine tA h1 ?_
 refine gA 1 16 0 ?_
 exact te (fF H)
def Q9 (n : Nat) (x0 : Val) (x1 : Val) : Option (Bool) :=
  (bif (x0.K == x1.K) then (bif (x0.N == x1.N) then (bif (x0.S.toList == x1.S.toList) then ((ZB n x0.O x1.O).bind fun r1 => (some r1)) else (some false)) else (some false)) else (some false))
theorem zFK (n : Nat) (x0 : Val) (x1 : Val) (r : Bool) (H : Q9 n x0 x1 = some r) : zH Try.prog 30 [.val true (CV.frzRow (Val.row x0)),.val true (CV.frzRow (Val.row x1))] [.val false [.lit (.bool r)]] [] := by
 refine cW Try.func30 (fun g d => sl [g 0,g 1] .ret) [.tmp 4] fun cx => ?_
 unfold Q9 at H
 refine gA 3 12 12 ?_
 refine rA 6 ?_
 refine sL 1036 12 ⟨31,0,[sB 10 (x0.K == x1.K),sA 3 3 4 0,sA 2 2 4 0],[(3,(CV.frzRow (Val.row x1))),(2,(CV.frzRow (Val.row x0)))]⟩ ?_
 cases h1 : (x0.K == x1.K)
 ·have H := zI h1 H
  refine uA 21 16 0 ?_
  exact te (fF H)
 have H := zJ h1 H
 refine lA 7 ?_
 refine sL 131084 12 ⟨31,0,[sB 17 (x0.N == x1.N),sA 3 3 4 0,sA 2 2 4 0],[(3,(CV.frzRow (Val.row x1))),(2,(CV.frzRow (Val.row x0)))]⟩ ?_
 cases h2 : (x0.N == x1.N)
 ·have H := zI h2 H
  refine uA 14 16 0 ?_
  exact te (fF H)
 have H := zJ h2 H
 refine lA 7 ?_
 refine sL 16777228 12 ⟨31,0,[sB 24 (x0.S.toList == x1.S.toList),sA 3 3 4 0,sA 2 2 4 0],[(3,(CV.frzRow (Val.row x1))),(2,(CV.frzRow (Val.row x0)))]⟩ ?_
 cases h3 : (x0.S.toList == x1.S.toList)
 ·have H := zI h3 H
  refine uA 7 16 0 ?_
  exact te (fF H)
 have H := zJ h3 H
 refine lA 4 ?_
 obtain ⟨r1,er1,H⟩ := bs H
 refine vA [.rd,.rd] (Jb n x0.O x1.O r1 er1) ?_
 refine uA 2 16 0 ?_
 exact te (fJ [(false,[cB r1])] H)
def Qd (n : Nat) (r2 : zE × (List Int)) (r3 : zC) (r4 : (List zC)) : Option (Bool) :=
  (bif (r3.V.K == 130) then ((ZB n r3.O r2.2).bind fun r6 => (bif r6 then (some (decide ((r4.length : Int) > 0))) else (some false))) else (some false))
def qV (n : Nat) : Nat → zE × (List Int) → zC → (List zC) → Int → Option ((Unit) ⊕ (Bool))
  | 0,_,_,_,_ => none
  | mo7 + 1,r2,r3,r4,y5 => (bif (decide (y5 < (r4.length : Int))) then ((idx r4 y5).bind fun v8 => ((QR n r2.2 v8.O).bind fun r9 => (bif r9 then ((ZB n r3.O v8.O).bind fun r10 => (bif r10 then ((Q9 n r3.V v8.V).bind fun r11 => (some (Sum.inr r11))) else (some (Sum.inr false)))) else (qV n mo7 r2 r3 r4 (IntKind.wrap .i64 (y5 + 1)))))) else (some (Sum.inl ())))
def JP (n : Nat) (x0 : (List Int)) : Option (Bool) :=
  ((zA2 n x0).bind fun r1 => (bif r1 then (some true) else ((Qf n x0).bind fun r2 => ((JL n r2.1 r2.2).bind fun r3 => ((QS n r2.1).bind fun r4 => ((qV n n r2 r3 r4 0).bind fun o => match o with | .inl _ => (Qd n r2 r3 r4) | .inr r => some r))))))
def zIm : Tab := ⟨19,[0,1,0,0,12,16,32,66,128,256,768,256,256,6400,8448,16640,34048,65792,262143],[0,1,0,0,12,16,32,66,128,256,768,256,256,6400,8448,16640,34048,65792,131072],[0,1,0,0,12,28,60,127,255,511,1023,511,511,6655,14847,31231,65535,131071,262143]⟩
theorem Zm : zq (rg Try.f5 10) zIm = true := kr
theorem zDd (n : Nat) (y5 : Int) (r4 : (List zC)) (v8 : zC) (r3 : zC) (r10 : Bool) (r2 : zE × (List Int)) (ev8 : (idx r4 y5) = some v8) (er10 : (ZB n r3.O v8.O) = some r10) (h6 : r10 = false) (cx : Cx) : AT Try.prog cx (rg Try.f5 10) [] 19 [] ⟨66,0,[sB 32 true,sI 7 y5,sC 6 (cL 5 r4 zC.row),sA 5 5 5 0,sC 4 (cL 1 r2.2 intRow)],[(5,(zC.row r3))]⟩ (fun s => s = ⟨66,0,[sB 2 false],[]⟩) := by
 refine mA Zm [(0,[]),(1,[7]),(2,[]),(3,[])] 15 [⟨[7],38,33,34⟩] fun cx => ?_
 refine oN Zm 4 zC.row ev8 fun cx => ?_
 refine mA Zm [(5,[])] 13 [⟨[7],38,33,34⟩] fun cx => ?_
 refine mC Zm 6 ?_
 refine dE (tI 38) (.slot 6) [(0,(y5.toNat))] 5 0 [cL 5 r4 zC.row] (zC.row v8) (qY rfl (ZH ev8).2) ?_
 refine fA ?_
 refine mC Zm 7 ?_
 refine LAt.callO tOk [.rd,.rd] (f := 29) (av := #[.tmp 34,.tmp 39]) (ats := #[38,38]) (d := (some 40)) (ty := 4) (g := none) [(39,zC.row v8)] none kr kr kr [.box 5,.slot 6] (Jb n r3.O v8.O r10 er10) (zBh (row := [cL 5 r4 zC.row]) (q := [(0,(y5.toNat))]) kr (qY rfl (ZH ev8).2) zCa) kr zCY (.inr (And.intro (qa (zG zN qA) Zj) zBi)) ?_
 refine fA ?_
 refine mA Zm [(8,[])] 10 [⟨[7],38,33,34⟩] fun cx => ?_
 refine sA_ 2224793059552 32 ⟨66,0,[sB 41 r10,sR 34 5 5 0 1 false,sA 33 5 5 0,sI 7 y5,sC 6 (cL 5 r4 zC.row),sA 5 5 5 0],[(5,(zC.row r3))]⟩ ?_
 rw [h6]
 refine mA Zm [(9,[]),(10,[]),(11,[]),(12,[]),(13,[]),(14,[]),(15,[]),(16,[]),(17,[]),(18,[])] 0 [⟨[7],38,33,34⟩] fun cx => ?_
 exact mE Zm [2] []
theorem zDe (n : Nat) (y5 : Int) (r4 : (List zC)) (v8 : zC) (r3 : zC) (r10 : Bool) (r11 : Bool) (r2 : zE × (List Int)) (ev8 : (idx r4 y5) = some v8) (er10 : (ZB n r3.O v8.O) = some r10) (h6 : r10 = true) (er11 : (Q9 n r3.V v8.V) = some r11) (cx : Cx) : AT Try.prog cx (rg Try.f5 10) [] 19 [] ⟨66,0,[sB 32 true,sI 7 y5,sC 6 (cL 5 r4 zC.row),sA 5 5 5 0,sC 4 (cL 1 r2.2 intRow)],[(5,(zC.row r3))]⟩ (fun s => s = ⟨66,0,[sB 2 r11],[]⟩) := by
 refine mA Zm [(0,[]),(1,[7,16]),(2,[]),(3,[])] 15 [⟨[7,16],38,33,34⟩] fun cx => ?_
 refine oN Zm 4 zC.row ev8 fun cx => ?_
 refine mA Zm [(5,[])] 13 [⟨[7,16],38,33,34⟩] fun cx => ?_
 refine mC Zm 6 ?_
 refine dE (tI 38) (.slot 6) [(0,(y5.toNat))] 5 0 [cL 5 r4 zC.row] (zC.row v8) (qY rfl (ZH ev8).2) ?_
 refine fA ?_
 refine mC Zm 7 ?_
 refine LAt.callO tOk [.rd,.rd] (f := 29) (av := #[.tmp 34,.tmp 39]) (ats := #[38,38]) (d := (some 40)) (ty := 4) (g := none) [(39,zC.row v8)] none kr kr kr [.box 5,.slot 6] (Jb n r3.O v8.O r10 er10) (zBh (row := [cL 5 r4 zC.row]) (q := [(0,(y5.toNat))]) kr (qY rfl (ZH ev8).2) zCa) kr zCY (.inr (And.intro (qa (zG zN qA) Zj) zBi)) ?_
 refine fA ?_
 refine mA Zm [(8,[])] 10 [⟨[7,16],38,33,34⟩] fun cx => ?_
 refine sA_ 2224793059552 32 ⟨66,0,[sB 41 r10,sR 34 5 5 0 1 false,sA 33 5 5 0,sI 7 y5,sC 6 (cL 5 r4 zC.row),sA 5 5 5 0],[(5,(zC.row r3))]⟩ ?_
 rw [h6]
 refine mA Zm [(9,[]),(10,[16]),(11,[]),(12,[])] 6 [⟨[16],66,42,43⟩,⟨[7,16],38,33,34⟩] fun cx => ?_
 refine oN Zm 13 zC.row ev8 fun cx => ?_
 refine mA Zm [(14,[])] 4 [⟨[16],66,42,43⟩,⟨[7,16],38,33,34⟩] fun cx => ?_
 refine mC Zm 15 ?_
 refine dE (tI 66) (.slot 6) [(0,(y5.toNat))] 5 1 [cL 5 r4 zC.row] (zC.row v8) (qY rfl (ZH ev8).2) ?_
 refine fA ?_
 refine mC Zm 16 ?_
 refine LAt.callO tOk [.rd,.rd] (f := 30) (av := #[.tmp 43,.tmp 48]) (ats := #[66,66]) (d := (some 49)) (ty := 4) (g := (some (8,true))) [(48,zC.row v8)] none kr kr kr [.box 5,.slot 6] (zFK n r3.V v8.V r11 er11) (zBh (row := [cL 5 r4 zC.row]) (q := [(0,(y5.toNat))]) kr (qY rfl (ZH ev8).2) zCa) kr zCY (.inr (And.intro (qa (zG zN qA) Zj) zBi)) ?_
 refine fA ?_
 refine mA Zm [(17,[]),(18,[])] 0 [⟨[16],66,42,43⟩,⟨[7,16],38,33,34⟩] fun cx => ?_
 exact mE Zm [2] []
theorem zFO (n : Nat) (x0 : (List Int)) (r : Bool) (H : JP n x0 = some r) : zH Try.prog 5 [.val false [.sl false 1 (CV.frzEs (x0.map zh))]] [.val false [.lit (.bool r)]] [] := by
 refine cW Try.func5 (fun g d => sl [g 0,sl [g 1] (cn 9 (sl [g 2] .ret) .skip),g 3,g 4,g 5,sl [g 6] (.block 0 (.loop (sl [sl [g 7] (cn 23 .skip (.exit 0)),.block 1 (sl [g 9] (cn 32 (sl [d 10] .ret) .skip))] (g 8)))),g 11] .ret) [.tmp 2] fun cx => ?_
 unfold JP at H
 refine gA 1 1 0 ?_
 refine tS ?_
 refine rA 1 ?_
 obtain ⟨r1,er1,H⟩ := bs H
 refine vA [.rd] (zHU n x0 r1 er1) ?_
 refine dA 513 0 ?_
 cases h1 : r1
 ·have H := zI h1 H
  refine nB_ ?_
  refine tK ?_
  refine rA 1 ?_
  obtain ⟨r2,er2,H⟩ := bs H
  refine vA [.rd] (zEN n x0 r2 er2) ?_
  refine LAt.movT tOk (ty := 63) (t := 12) (d := 10) (g := none) [(true,(CV.frzRow (zE.row r2.1))),(false,[cL 1 r2.2 intRow])] _ kr (.inl rfl) kr kr kr kr rfl ?_
  refine lA 4 ?_
  refine LAt.moveU (T := lk tab) (ty := 38) (x := (.tmp 14)) (d := 4) (g := none) false [cL 1 r2.2 intRow] kr kr kr kr kr ?_
  refine dA 24 8 ?_
  refine rA 2 ?_
  obtain ⟨r3,er3,H⟩ := bs H
  refine vB [.rd,.rd] [.slot 4] (zFJ n r2.1 r2.2 r3 er3) (.inr (qa (zC.row_mine _) Zj)) ?_
  refine uA 2 56 40 ?_
  refine rA 1 ?_
  obtain ⟨r4,er4,H⟩ := bs H
  refine vA [.rd] (zB5 n r2.1 r4 er4) ?_
  refine LAt.moveU (T := lk tab) (ty := 27) (x := (.tmp 19)) (d := 6) (g := none) false [cL 5 r4 zC.row] kr kr kr kr kr ?_
  refine dA 112 32 ?_
  refine tS ?_
  refine gA 1 240 32 ?_
  obtain ⟨o7,eo7,Ho7⟩ := bs H
  clear H
  refine Tr.mid (ι := Unit) (fun v => ⟨66,0,[sC 6 (cL 5 r4 zC.row),sA 5 5 5 0,sC 4 (cL 1 r2.2 intRow)],[(5,(zC.row r3))]⟩) (fun v => Qd n r2 r3 r4 = some r) ?_ ?_
  ·refine tB ?_
   refine Tr.loop (ι := Nat × (Int)) (fun v => ⟨66,0,[sI 7 v.2,sC 6 (cL 5 r4 zC.row),sA 5 5 5 0,sC 4 (cL 1 r2.2 intRow)],[(5,(zC.row r3))]⟩) (fun v => qV n v.1 r2 r3 r4 v.2 = some o7) (fun v => v.1) (n,0) eo7 (St.sub_of [7,6,5,4] [5] kr) ?_
   rintro ⟨mo7,y5⟩ H
   have H : qV n mo7 r2 r3 r4 y5 = some o7 := H
   obtain _ | mo7 := mo7
   ·exact nN H
   rw [qV] at H
   refine tS ?_
   refine rA 2 ?_
   refine kO r4 zC.row ?_
   refine uA 1 8388848 32 ?_
   obtain ⟨h4,H⟩ | ⟨h4,H⟩ := bC H
   ·refine nA h4 ?_
    refine Tr.exit ?_
    refine aJ ?_
    obtain rfl := si H
    have H := Ho7
    dsimp only at H
    exact jA () H [6,5,4] [5]
   refine tA h4 ?_
   refine tK ?_
   refine tS ?_
   refine tB ?_
   refine rA 3 ?_
   obtain ⟨v8,ev8,H⟩ := bs H
   refine oA zC.row ev8 ?_
   refine lA 1 ?_
   refine dE (tI 38) (.slot 6) [(0,(y5.toNat))] 5 0 [cL 5 r4 zC.row] (zC.row v8) (qY rfl (ZH ev8).2) ?_
   obtain ⟨r9,er9,H⟩ := bs H
   refine LAt.callO tOk [.rd,.rd] (f := 28) (av := #[.tmp 26,.tmp 31]) (ats := #[38,38]) (d := (some 32)) (ty := 4) (g := none) [(31,zC.row v8)] none kr kr kr [.slot 4,.slot 6] (zB3 n r2.2 v8.O r9 er9) (zBh (row := [cL 5 r4 zC.row]) (q := [(0,(y5.toNat))]) kr (qY rfl (ZH ev8).2) zCa) kr zCY (.inr (And.intro (qa (zG zN qA) Zj) zBi)) ?_
   refine dA 4294967536 32 ?_
   cases h5 : r9
   ·have H := zI h5 H
    refine nB_ ?_
    refine tK ?_
    refine eA 3 240 32 ?_
    exact jB mo7 (IntKind.wrap .i64 (y5 + 1)) H [7,6,5,4] [5]
   have H := zJ h5 H
   refine tB_ ?_
   obtain ⟨r10,er10,H⟩ := bs H
   refine sT ⟨66,0,[sB 32 true,sI 7 y5,sC 6 (cL 5 r4 zC.row),sA 5 5 5 0,sC 4 (cL 1 r2.2 intRow)],[(5,(zC.row r3))]⟩ ?_
   cases h6 : r10
   ·have H := zI h6 H
    refine sT ⟨66,0,[sB 32 true,sI 7 y5,sC 6 (cL 5 r4 zC.row),sA 5 5 5 0,sC 4 (cL 1 r2.2 intRow)],[(5,(zC.row r3))]⟩ ?_
    refine Tr.draws mixed 19 kr ⟨66,0,[sB 2 false],[]⟩ (zDd n y5 r4 v8 r3 r10 r2 ev8 er10 h6) ?_
    refine te ?_
    obtain rfl := si H
    have H := Ho7
    dsimp only at H
    exact fF H
   have H := zJ h6 H
   obtain ⟨r11,er11,H⟩ := bs H
   refine sT ⟨66,0,[sB 32 true,sI 7 y5,sC 6 (cL 5 r4 zC.row),sA 5 5 5 0,sC 4 (cL 1 r2.2 intRow)],[(5,(zC.row r3))]⟩ ?_
   refine Tr.draws mixed 19 kr ⟨66,0,[sB 2 r11],[]⟩ (zDe n y5 r4 v8 r3 r10 r11 r2 ev8 er10 h6 er11) ?_
   refine te ?_
   obtain rfl := si H
   have H := Ho7
   dsimp only at H
   exact fJ [(false,[cB r11])] H
  rintro _ H
  have H : (Qd n r2 r3 r4) = some r := H
  unfold Qd at H
  refine rA 5 ?_
  refine sL 0x80000000000070 32 ⟨66,0,[sB 55 (r3.V.K == 130),sC 6 (cL 5 r4 zC.row),sA 5 5 5 0,sC 4 (cL 1 r2.2 intRow)],[(5,(zC.row r3))]⟩ ?_
  cases h2 : (r3.V.K == 130)
  ·have H := zI h2 H
   refine uA 11 4 0 ?_
   exact te (fF H)
  have H := zJ h2 H
  refine lA 3 ?_
  obtain ⟨r6,er6,H⟩ := bs H
  refine vB [.rd,.rd] [.box 5,.slot 4] (Jb n r3.O r2.2 r6 er6) (.inr (qa (zG zN qA) Zj)) ?_
  refine lA 2 ?_
  refine sL 0x2000000000000040 0 ⟨66,0,[sB 61 r6,sC 6 (cL 5 r4 zC.row)],[]⟩ ?_
  cases h3 : r6
  ·have H := zI h3 H
   refine uA 5 4 0 ?_
   exact te (fF H)
  have H := zJ h3 H
  refine lA 1 ?_
  refine kO r4 zC.row ?_
  refine uA 3 4 0 ?_
  exact te (fJ [(false,[cB (decide ((r4.length : Int) > 0))])] H)
 have H := zJ h1 H
 refine tB_ ?_
 refine gA 1 4 0 ?_
 exact te (fT H)
end Go.Proofs.Ytajadnlejdpceaa.Tw
