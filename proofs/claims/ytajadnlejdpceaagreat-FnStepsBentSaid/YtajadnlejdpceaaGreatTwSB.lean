import Derived.Test.YtajadnlejdpceaaGreatProg
import Derived.Test.YtajadnlejdpceaaGreatTlRule
import Derived.Test.YtajadnlejdpceaaGreatTlU15
import Derived.Test.YtajadnlejdpceaaGreatTwSB2
import Derived.WalkKit
set_option linter.unusedVariables false
set_option linter.unusedSimpArgs false
set_option maxRecDepth 100000
set_option maxHeartbeats 1000000
namespace Go.Proofs.YtajadnlejdpceaaGreat.Tw
open Go Go.TL Go.Proofs
def zBH (n : Nat) (x0 : Int) (y11 : Int) (y12 : Int) (y13 : Int) (y14 : Int) : Option (Vec × Int) :=
  (some ((⟨y12,y13,y14,x0,0⟩ : Vec),y11))
def QT (n : Nat) (k : (Int × Int × Int × Int × Int × Int × Int × Int × Int × Int → Option ((Int × Int × Int × Int) ⊕ (Vec × Int)))) (r17 : Vec × Bool) (y1 : Int) (y10 : Int) (y2 : Int) (y3 : Int) (y4 : Int) (y5 : Int) (y6 : Int) (y7 : Int) (y8 : Int) (y9 : Int) (y18 : Bool) (y19 : Bool) (y20 : Bool) (y21 : Bool) (y22 : Bool) (y23 : Bool) (y24 : Bool) : Option ((Int × Int × Int × Int) ⊕ (Vec × Int)) :=
  (bif y18 then (k ((IntKind.wrap .i64 (y1 + 1)),y1,r17.1.Root,r17.1.Co,r17.1.Hops,r17.1.Bridge,r17.1.Port,r17.1.Root,r17.1.Co,r17.1.Hops)) else (k ((IntKind.wrap .i64 (y1 + 1)),y2,y3,y4,y5,y6,y7,y8,y9,y10)))
def qd (n : Nat) : Nat → Int → (List Pt) → Int → Int → Int → Int → Int → Int → Int → Int → Int → Int → Option ((Int × Int × Int × Int) ⊕ (Vec × Int))
  | 0,_,_,_,_,_,_,_,_,_,_,_,_ => none
  | mo15 + 1,x0,x1,y1,y2,y3,y4,y5,y6,y7,y8,y9,y10 => (bif (decide (y1 < (x1.length : Int))) then ((idx x1 y1).bind fun v16 => (bif (!v16.Up) then (qd n mo15 x0 x1 (IntKind.wrap .i64 (y1 + 1)) y2 y3 y4 y5 y6 y7 y8 y9 y10) else (bif (!v16.Has) then (qd n mo15 x0 x1 (IntKind.wrap .i64 (y1 + 1)) y2 y3 y4 y5 y6 y7 y8 y9 y10) else ((zCm n v16.Hd v16.Co).bind fun r17 => (bif r17.2 then (bif (decide (r17.1.Root < x0)) then (bif (decide (y2 < 0)) then (QT n (fun v => qd n mo15 x0 x1 v.1 v.2.1 v.2.2.1 v.2.2.2.1 v.2.2.2.2.1 v.2.2.2.2.2.1 v.2.2.2.2.2.2.1 v.2.2.2.2.2.2.2.1 v.2.2.2.2.2.2.2.2.1 v.2.2.2.2.2.2.2.2.2) r17 y1 y10 y2 y3 y4 y5 y6 y7 y8 y9 true true true true true true true) else ((zAr n r17.1 (⟨y3,y4,y5,y6,y7⟩ : Vec)).bind fun r25 => (QT n (fun v => qd n mo15 x0 x1 v.1 v.2.1 v.2.2.1 v.2.2.2.1 v.2.2.2.2.1 v.2.2.2.2.2.1 v.2.2.2.2.2.2.1 v.2.2.2.2.2.2.2.1 v.2.2.2.2.2.2.2.2.1 v.2.2.2.2.2.2.2.2.2) r17 y1 y10 y2 y3 y4 y5 y6 y7 y8 y9 r25 true true true true true true))) else (QT n (fun v => qd n mo15 x0 x1 v.1 v.2.1 v.2.2.1 v.2.2.2.1 v.2.2.2.2.1 v.2.2.2.2.2.1 v.2.2.2.2.2.2.1 v.2.2.2.2.2.2.2.1 v.2.2.2.2.2.2.2.2.1 v.2.2.2.2.2.2.2.2.2) r17 y1 y10 y2 y3 y4 y5 y6 y7 y8 y9 false false false true true true true)) else (QT n (fun v => qd n mo15 x0 x1 v.1 v.2.1 v.2.2.1 v.2.2.2.1 v.2.2.2.2.1 v.2.2.2.2.2.1 v.2.2.2.2.2.2.1 v.2.2.2.2.2.2.2.1 v.2.2.2.2.2.2.2.2.1 v.2.2.2.2.2.2.2.2.2) r17 y1 y10 y2 y3 y4 y5 y6 y7 y8 y9 false false false false false false false)))))) else (some (Sum.inl (y2,y8,y9,y10))))
def Jj (n : Nat) (x0 : Int) (x1 : (List Pt)) : Option (Vec × Int) :=
  ((qd n n x0 x1 0 (-1) 0 0 0 0 0 x0 0 0).bind fun o => match o with | .inl (y11,y12,y13,y14) => (zBH n x0 y11 y12 y13 y14) | .inr r => some r)
theorem zHn (n : Nat) (x0 : Int) (x1 : (List Pt)) (r : Vec × Int) (H : Jj n x0 x1 = some r) : zE Tryz.prog 137 [.val false [.lit (.int .i64 x0)],.val false [.sl false 8 (CV.frzEs (x1.map Pt.row))]] [.val true (Vec.row r.1),.val false [.lit (.int .i64 r.2)]] [] := by
 refine cW Tryz.func137 (fun g d => sl [g 0,g 1,g 2,sl [g 3] (.block 0 (.loop (sl [g 4,cn 19 .skip (.exit 0),.block 1 (sl [g 5,sl [g 6] (cn 30 (.exit 1) .skip),g 7,g 8] (cn 54 (sl [g 9] (g 10)) .skip))] (g 11)))),g 12] .ret) [.cell 4 33,.tmp 5] fun cx=>?_
 unfold Jj at H
 refine gA 2 51 16<|gA 6 243 80<|gA 1 499 336<|tS<|rA 1<|kF x1 Pt.row<|uA 1 459249 336 ?_
 obtain ⟨o15,eo15,Ho15⟩ := bs H
 clear H
 refine Tr.mid (ι := Int × Int × Int × Int) (fun v => ⟨68,0,[sI 7 v.1,sA 6 6 5 0,sI 5 0,sA 4 4 5 0],[(6,[cI v.2.1,cI v.2.2.1,cI v.2.2.2,cI x0,cI 0]),(4,[cI 0,cI 0,cI 0,cI 0,cI 0])]⟩) (fun v => zBH n x0 v.1 v.2.1 v.2.2.1 v.2.2.2 = some r) ?_ ?_
 ·refine tB<|Tr.loop (ι := Nat × (Int × Int × Int × Int × Int × Int × Int × Int × Int × Int)) (fun v => ⟨68,0,[sI 18 v.2.1,sI 17 (x1.length : Int),sC 16 (cF 8 x1 Pt.row),sA 8 8 5 0,sI 7 v.2.2.1,sA 6 6 5 0,sI 5 0,sA 4 4 5 0,sI 0 x0],[(8,[cI v.2.2.2.1,cI v.2.2.2.2.1,cI v.2.2.2.2.2.1,cI v.2.2.2.2.2.2.1,cI v.2.2.2.2.2.2.2.1]),(6,[cI v.2.2.2.2.2.2.2.2.1,cI v.2.2.2.2.2.2.2.2.2.1,cI v.2.2.2.2.2.2.2.2.2.2,cI x0,cI 0]),(4,[cI 0,cI 0,cI 0,cI 0,cI 0])]⟩) (fun v => qd n v.1 x0 x1 v.2.1 v.2.2.1 v.2.2.2.1 v.2.2.2.2.1 v.2.2.2.2.2.1 v.2.2.2.2.2.2.1 v.2.2.2.2.2.2.2.1 v.2.2.2.2.2.2.2.2.1 v.2.2.2.2.2.2.2.2.2.1 v.2.2.2.2.2.2.2.2.2.2 = some o15) (fun v => v.1) (n,(0,(-1),0,0,0,0,0,x0,0,0)) eo15 (St.sub_of [18,17,16,8,7,6,5,4,0] [8,6,4] kr) ?_
  rintro ⟨_ | mo15,y1,y2,y3,y4,y5,y6,y7,y8,y9,y10⟩ H
  ·exact nN H
  have H : qd n (mo15+1) x0 x1 y1 y2 y3 y4 y5 y6 y7 y8 y9 y10 = some o15 := H
  rw [qd] at H
  refine gA 1 983537 336<|tS ?_
  obtain ⟨h1,H⟩ | ⟨h1,H⟩ := bC H
  ·refine nA h1<|Tr.exit<|aJ ?_
   cases H
   exact jA (y2,y8,y9,y10) Ho15 [7,6,5,4] [6,4]
  refine tA h1<|tK<|tS<|tB<|rA 1<|bE H fun v16 ev16 H=> iA Pt.row ev16<|uA 4 8325105 1360<|tS<|rA 4 ?_
  obtain ⟨h2,H⟩ | ⟨h2,H⟩ := bC H
  ·refine qL 134154225 1360 [26,25] h2<|uA 4 2147420145 1360 ?_
   obtain ⟨h3,H⟩ | ⟨h3,H⟩ := bC H
   ·refine nA h3<|tK<|rA 4<|bE H fun r17 er17 H=> vA [.rd,.rd] (zLv n v16.Hd v16.Co r17 er17)<|LAt.movT tOk (ty := 167) (t := 36) (d := 31) (g := none) [(true,(Vec.row r17.1)),(false,[cB r17.2])] _ kr (.inl rfl) kr kr kr kr rfl<|uA 5 481036279793 3408<|tS<|Tr.mid (ι := Bool × Bool × Bool × Bool × Bool × Bool × Bool) (fun v => ⟨68,0,[sB 54 v.1,sB 46 v.2.1,sB 45 v.2.2.1,sB 40 v.2.2.2.1,sB 39 v.2.2.2.2.1,sB 12 v.2.2.2.2.2.1,sA 11 11 5 0,sB 38 v.2.2.2.2.2.2,(31,.tup [(true,[.dead,.dead,.dead,.dead,.dead]),(false,[.dead])]),sV 37 (Vec.row r17.1),sI 35 v16.Co,sA 34 10 8 1,sV 33 ((Pt.row v16).drop 3),sA 32 10 8 3,sB 30 false,sB 29 false,sB 28 v16.Has,sA 27 10 8 2,sB 26 false,sB 25 false,sB 24 v16.Up,sA 23 10 8 0,sI 9 y1,sA 10 10 8 0,sV 22 (Pt.row v16),(21,.fad ((Pt.row v16))),sI 20 y1,sB 19 true,sI 18 y1,sI 17 (x1.length : Int),sC 16 (cF 8 x1 Pt.row),sA 8 8 5 0,sI 7 y2,sA 6 6 5 0,sI 5 0,sA 4 4 5 0,sI 0 x0],[(11,(Vec.row r17.1)),(10,(Pt.row v16)),(8,[cI y3,cI y4,cI y5,cI y6,cI y7]),(6,[cI y8,cI y9,cI y10,cI x0,cI 0]),(4,[cI 0,cI 0,cI 0,cI 0,cI 0])]⟩) (fun v => QT n (fun v => qd n mo15 x0 x1 v.1 v.2.1 v.2.2.1 v.2.2.2.1 v.2.2.2.2.1 v.2.2.2.2.2.1 v.2.2.2.2.2.2.1 v.2.2.2.2.2.2.2.1 v.2.2.2.2.2.2.2.2.1 v.2.2.2.2.2.2.2.2.2) r17 y1 y10 y2 y3 y4 y5 y6 y7 y8 y9 v.1 v.2.1 v.2.2.1 v.2.2.2.1 v.2.2.2.2.1 v.2.2.2.2.2.1 v.2.2.2.2.2.2 = some o15) ?_ ?_
    ·refine Tr.at<|lA 2 ?_
     obtain ⟨h5,H⟩ | ⟨h5,H⟩ := bC H
     ·refine qL 2130303721457 3408 [40,39,12,38] h5<|uA 14 0x7fffefffff1ff1 3408<|sB' 0x7fffefffff1ff1 3408 ⟨68,0,[sB 54 false,(53,.tup []),(52,.tup []),(51,.tup []),(50,.tup []),(49,.tup []),(48,.tup []),(47,.tup []),sB 46 false,sB 45 false,(44,.tup []),(43,.tup []),(42,.tup []),(41,.tup []),sB 40 false,sB 39 false,sB 12 false,sA 11 11 5 0,sB 38 false,(31,.tup [(true,[.dead,.dead,.dead,.dead,.dead]),(false,[.dead])]),sV 37 (Vec.row r17.1),sI 35 v16.Co,sA 34 10 8 1,sV 33 ((Pt.row v16).drop 3),sA 32 10 8 3,sB 30 (!v16.Has),sB 29 (!v16.Has),sB 28 v16.Has,sA 27 10 8 2,sB 26 false,sB 25 false,sB 24 v16.Up,sA 23 10 8 0,sI 9 y1,sA 10 10 8 0,sV 22 (Pt.row v16),(21,.fad ((Pt.row v16))),sI 20 y1,sB 19 (decide (y1 < (x1.length : Int))),sI 18 y1,sI 17 (x1.length : Int),sC 16 (cF 8 x1 Pt.row),sA 8 8 5 0,sI 7 y2,sA 6 6 5 0,sI 5 0,sA 4 4 5 0,sI 0 x0],[(11,(Vec.row r17.1)),(10,(Pt.row v16)),(8,[cI y3,cI y4,cI y5,cI y6,cI y7]),(6,[cI y8,cI y9,cI y10,cI x0,cI 0]),(4,[cI 0,cI 0,cI 0,cI 0,cI 0])]⟩ ?_
      rw [h1]
      rw [h3]
      exact jA (false,false,false,false,false,false,false) H [54,46,45,40,39,12,11,38,31,37,35,34,33,32,30,29,28,27,26,25,24,23,9,10,22,21,20,19,18,17,16,8,7,6,5,4,0] [11,10,8,6,4]
     refine qL 2130303721457 3408 [40,39,12,38] h5<|lA 6 ?_
     obtain ⟨h6,H⟩ | ⟨h6,H⟩ := bC H
     ·refine qL 0x7fefffff1ff1 3408 [46,45,44] h6<|uA 8 0x7fffefffff1ff1 3408<|sB' 0x7fffefffff1ff1 3408 ⟨68,0,[sB 54 false,(53,.tup []),(52,.tup []),(51,.tup []),(50,.tup []),(49,.tup []),(48,.tup []),(47,.tup []),sB 46 false,sB 45 false,sB 44 false,sI 43 x0,sI 42 r17.1.Root,sA 41 11 5 0,sB 40 true,sB 39 true,sB 12 true,sA 11 11 5 0,sB 38 true,(31,.tup [(true,[.dead,.dead,.dead,.dead,.dead]),(false,[.dead])]),sV 37 (Vec.row r17.1),sI 35 v16.Co,sA 34 10 8 1,sV 33 ((Pt.row v16).drop 3),sA 32 10 8 3,sB 30 (!v16.Has),sB 29 (!v16.Has),sB 28 v16.Has,sA 27 10 8 2,sB 26 false,sB 25 false,sB 24 v16.Up,sA 23 10 8 0,sI 9 y1,sA 10 10 8 0,sV 22 (Pt.row v16),(21,.fad ((Pt.row v16))),sI 20 y1,sB 19 (decide (y1 < (x1.length : Int))),sI 18 y1,sI 17 (x1.length : Int),sC 16 (cF 8 x1 Pt.row),sA 8 8 5 0,sI 7 y2,sA 6 6 5 0,sI 5 0,sA 4 4 5 0,sI 0 x0],[(11,(Vec.row r17.1)),(10,(Pt.row v16)),(8,[cI y3,cI y4,cI y5,cI y6,cI y7]),(6,[cI y8,cI y9,cI y10,cI x0,cI 0]),(4,[cI 0,cI 0,cI 0,cI 0,cI 0])]⟩ ?_
      rw [h1]
      rw [h3]
      exact jA (false,false,false,true,true,true,true) H [54,46,45,40,39,12,11,38,31,37,35,34,33,32,30,29,28,27,26,25,24,23,9,10,22,21,20,19,18,17,16,8,7,6,5,4,0] [11,10,8,6,4]
     refine qL 0x7fefffff1ff1 3408 [46,45,44] h6<|lA 3 ?_
     obtain ⟨h7,H⟩ | ⟨h7,H⟩ := bC H
     ·refine qL 0x3ffefffff1ff1 3408 [49,48] h7<|lA 2<|bE H fun r25 er25 H=> vA [.rd,.rd] (zHp n r17.1 (⟨y3,y4,y5,y6,y7⟩ : Vec) r25 er25)<|uA 2 0x7fffefffff1ff1 3408<|sB' 0x7fffefffff1ff1 3408 ⟨68,0,[sB 54 r25,sB 53 r25,sB 52 r25,sV 51 [cI y3,cI y4,cI y5,cI y6,cI y7],sV 50 (Vec.row r17.1),sB 49 false,sB 48 false,sI 47 y2,sB 46 true,sB 45 true,sB 44 true,sI 43 x0,sI 42 r17.1.Root,sA 41 11 5 0,sB 40 true,sB 39 true,sB 12 true,sA 11 11 5 0,sB 38 true,(31,.tup [(true,[.dead,.dead,.dead,.dead,.dead]),(false,[.dead])]),sV 37 (Vec.row r17.1),sI 35 v16.Co,sA 34 10 8 1,sV 33 ((Pt.row v16).drop 3),sA 32 10 8 3,sB 30 (!v16.Has),sB 29 (!v16.Has),sB 28 v16.Has,sA 27 10 8 2,sB 26 false,sB 25 false,sB 24 v16.Up,sA 23 10 8 0,sI 9 y1,sA 10 10 8 0,sV 22 (Pt.row v16),(21,.fad ((Pt.row v16))),sI 20 y1,sB 19 (decide (y1 < (x1.length : Int))),sI 18 y1,sI 17 (x1.length : Int),sC 16 (cF 8 x1 Pt.row),sA 8 8 5 0,sI 7 y2,sA 6 6 5 0,sI 5 0,sA 4 4 5 0,sI 0 x0],[(11,(Vec.row r17.1)),(10,(Pt.row v16)),(8,[cI y3,cI y4,cI y5,cI y6,cI y7]),(6,[cI y8,cI y9,cI y10,cI x0,cI 0]),(4,[cI 0,cI 0,cI 0,cI 0,cI 0])]⟩ ?_
      rw [h1]
      rw [h3]
      exact jA (r25,true,true,true,true,true,true) H [54,46,45,40,39,12,11,38,31,37,35,34,33,32,30,29,28,27,26,25,24,23,9,10,22,21,20,19,18,17,16,8,7,6,5,4,0] [11,10,8,6,4]
     refine qL 0x3ffefffff1ff1 3408 [49,48] h7<|uA 5 0x7fffefffff1ff1 3408<|sB' 0x7fffefffff1ff1 3408 ⟨68,0,[sB 54 true,sB 53 true,(52,.tup []),(51,.tup []),(50,.tup []),sB 49 true,sB 48 true,sI 47 y2,sB 46 true,sB 45 true,sB 44 true,sI 43 x0,sI 42 r17.1.Root,sA 41 11 5 0,sB 40 true,sB 39 true,sB 12 true,sA 11 11 5 0,sB 38 true,(31,.tup [(true,[.dead,.dead,.dead,.dead,.dead]),(false,[.dead])]),sV 37 (Vec.row r17.1),sI 35 v16.Co,sA 34 10 8 1,sV 33 ((Pt.row v16).drop 3),sA 32 10 8 3,sB 30 (!v16.Has),sB 29 (!v16.Has),sB 28 v16.Has,sA 27 10 8 2,sB 26 false,sB 25 false,sB 24 v16.Up,sA 23 10 8 0,sI 9 y1,sA 10 10 8 0,sV 22 (Pt.row v16),(21,.fad ((Pt.row v16))),sI 20 y1,sB 19 (decide (y1 < (x1.length : Int))),sI 18 y1,sI 17 (x1.length : Int),sC 16 (cF 8 x1 Pt.row),sA 8 8 5 0,sI 7 y2,sA 6 6 5 0,sI 5 0,sA 4 4 5 0,sI 0 x0],[(11,(Vec.row r17.1)),(10,(Pt.row v16)),(8,[cI y3,cI y4,cI y5,cI y6,cI y7]),(6,[cI y8,cI y9,cI y10,cI x0,cI 0]),(4,[cI 0,cI 0,cI 0,cI 0,cI 0])]⟩ ?_
     rw [h1]
     rw [h3]
     exact jA (true,true,true,true,true,true,true) H [54,46,45,40,39,12,11,38,31,37,35,34,33,32,30,29,28,27,26,25,24,23,9,10,22,21,20,19,18,17,16,8,7,6,5,4,0] [11,10,8,6,4]
    rintro ⟨y18,y19,y20,y21,y22,y23,y24⟩ H
    have H : (QT n (fun v => qd n mo15 x0 x1 v.1 v.2.1 v.2.2.1 v.2.2.2.1 v.2.2.2.2.1 v.2.2.2.2.2.1 v.2.2.2.2.2.2.1 v.2.2.2.2.2.2.2.1 v.2.2.2.2.2.2.2.2.1 v.2.2.2.2.2.2.2.2.2) r17 y1 y10 y2 y3 y4 y5 y6 y7 y8 y9 y18 y19 y20 y21 y22 y23 y24) = some o15 := H
    unfold QT at H
    cases h4 : y18
    ·have H := qe h4 H
     exact nB_<|tK<|eA 2 0x2004061efffff1ff1 3408<|jB mo15 ((wI (y1 + 1)),y2,y3,y4,y5,y6,y7,y8,y9,y10) H [18,17,16,8,7,6,5,4,0] [8,6,4]
    have H := qf h4 H
    exact tB_<|gA 4 0x1c061efffff1ff1 3408<|eA 9 0x1ffc061efffff1ff1 3408<|eA 2 0x3ffc061efffff1ff1 3408<|jB mo15 ((wI (y1 + 1)),y1,r17.1.Root,r17.1.Co,r17.1.Hops,r17.1.Bridge,r17.1.Port,r17.1.Root,r17.1.Co,r17.1.Hops) H [18,17,16,8,7,6,5,4,0] [8,6,4]
   exact tA h3<|Tr.exit<|aJ<|eA 2 0x2000000007fff07f1 1360<|jB mo15 ((wI (y1 + 1)),y2,y3,y4,y5,y6,y7,y8,y9,y10) H [18,17,16,8,7,6,5,4,0] [8,6,4]
  exact qL 134154225 1360 [26,25] h2<|uA 4 2147420145 1360<|tB_<|Tr.exit<|aJ<|eA 2 0x2000000007fff07f1 1360<|jB mo15 ((wI (y1 + 1)),y2,y3,y4,y5,y6,y7,y8,y9,y10) H [18,17,16,8,7,6,5,4,0] [8,6,4]
 rintro ⟨y11,y12,y13,y14⟩ H
 have H : (zBH n x0 y11 y12 y13 y14) = some r := H
 unfold zBH at H
 exact gA 4 48 16<|te (fJ [(true,[cI y12,cI y13,cI y14,cI x0,cI 0]),(false,[cI y11])] H)
def zAK (n : Nat) (x0 : Int) (x1 : (List Pt)) (x2 : Int) : Option (Vec) :=
  ((Jj n x0 x1).bind fun r1 => (some (⟨r1.1.Root,r1.1.Co,r1.1.Hops,r1.1.Bridge,x2⟩ : Vec)))
theorem zIg (n : Nat) (x0 : Int) (x1 : (List Pt)) (x2 : Int) (r : Vec) (H : zAK n x0 x1 x2 = some r) : zE Tryz.prog 173 [.val false [.lit (.int .i64 x0)],.val false [.sl false 8 (CV.frzEs (x1.map Pt.row))],.val false [.lit (.int .i64 x2)]] [.val true (Vec.row r)] [] := by
 refine cW Tryz.func173 (fun g d => sl [g 0,g 1,g 2,g 3] .ret) [.cell 6 33] fun cx=>?_
 unfold zAK at H
 exact gA 1 71 64<|rA 2<|bE H fun r1 er1 H=> vA [.rd,.rd] (zHn n x0 x1 r1 er1)<|LAt.movT tOk (ty := 135) (t := 12) (d := 9) (g := none) [(true,(Vec.row r1.1)),(false,[cI r1.2])] _ kr (.inl rfl) kr kr kr kr rfl<|uA 5 196 192<|gA 3 192 192<|gA 2 64 64<|te (fJ [(true,[cI r1.1.Root,cI r1.1.Co,cI r1.1.Hops,cI r1.1.Bridge,cI x2])] H)
def JA (n : Nat) (x0 : Net) (x1 : Int) (x2 : Int) : Option (Vec) :=
  ((idx x0.Bs x1).bind fun v1 => ((idx x0.Bs x1).bind fun v2 => ((zAK n v1.Id v2.Ps x2).bind fun r3 => (some r3))))
def zPd : Tab := ⟨15,[0,1,0,6,8,16,0,64,0,384,512,1024,0,6176,16383],[0,1,0,6,8,16,0,64,0,384,512,1024,0,6176,8192],[0,1,0,7,15,31,0,64,0,448,960,1984,0,8191,16383]⟩
theorem zED : zc (rg Tryz.f113 1) zPd = true := kr
theorem zF1 (n : Nat) (x0 : Net) (x1 : Int) (x2 : Int) (r : Vec) (H : JA n x0 x1 x2 = some r) : zE Tryz.prog 113 [.val true (fR (Net.row x0)),.val false [.lit (.int .i64 x1)],.val false [.lit (.int .i64 x2)]] [.val true (Vec.row r)] [] := by
 refine cW Tryz.func113 (fun g d => sl [g 0,d 1] .ret) [.cell 6 33] fun cx=>?_
 unfold JA at H
 refine gA 2 78 72<|bE H fun v1 ev1 H=> bE H fun v2 ev2 H=> bE H fun r3 er3 H=> Tr.draws mixed 15 kr ⟨21,0,[sA 6 6 5 0],[(6,(Vec.row r3))]⟩ (fun cx=>?_) ?_
 ·exact mA zED [(0,[]),(1,[13,14]),(2,[])] 12 [⟨[13,14],49,7,8⟩] fun cx=>iN zED 3 zA.row ev1 fun cx=>mA zED (zl [4,5,6]++[(7,[13,14]),(8,[])]) 6 [⟨[13,14],49,13,14⟩,⟨[13,14],49,7,8⟩] fun cx=>iN zED 9 zA.row ev2 fun cx=>mA zED (zl [10,11,12]) 2 [⟨[13,14],49,13,14⟩,⟨[13,14],49,7,8⟩] fun cx=>mC zED 13<|vA [.rd,.rd,.rd] (zIg n v1.Id v2.Ps x2 r3 er3)<|fA<|mC zED 14<|lA 1<|fA<|mE zED [6] [6]
 exact te (fJ [(true,(Vec.row r3))] H)
def J9 (n : Nat) (x0 : Net) (y3 : (List Say)) : Option (Net) :=
  (some (⟨x0.Bs,x0.Ls,y3⟩ : Net))
def qg (n : Nat) : Nat → Net → Int → Int → (List Say) → Option (((List Say)) ⊕ (Net))
  | 0,_,_,_,_ => none
  | mo4 + 1,x0,x1,y1,y2 => (bif (decide (y1 < (x0.Ls.length : Int))) then ((idx x0.Ls y1).bind fun v5 => ((Z9 n (⟨x0.Bs,x0.Ls,y2⟩ : Net) y1).bind fun r6 => (bif (!r6) then (qg n mo4 x0 x1 (IntKind.wrap .i64 (y1 + 1)) y2) else (bif (decide ((y2.length : Int) ≥ 40)) then (qg n mo4 x0 x1 (IntKind.wrap .i64 (y1 + 1)) y2) else (bif (v5.A == x1) then ((JA n (⟨x0.Bs,x0.Ls,y2⟩ : Net) x1 v5.P).bind fun r9 => (bif (decide (y2.length + [(⟨y1,false,r9⟩ : Say)].length ≤ 268435456)) then (qg n mo4 x0 x1 (IntKind.wrap .i64 (y1 + 1)) (y2 ++ [(⟨y1,false,r9⟩ : Say)])) else none)) else (bif (v5.B == x1) then ((JA n (⟨x0.Bs,x0.Ls,y2⟩ : Net) x1 v5.Q).bind fun r7 => (bif (decide (y2.length + [(⟨y1,true,r7⟩ : Say)].length ≤ 268435456)) then (qg n mo4 x0 x1 (IntKind.wrap .i64 (y1 + 1)) (y2 ++ [(⟨y1,true,r7⟩ : Say)])) else none)) else (qg n mo4 x0 x1 (IntKind.wrap .i64 (y1 + 1)) y2))))))) else (some (Sum.inl y2)))
def Jr (n : Nat) (x0 : Net) (x1 : Int) : Option (Net) :=
  ((qg n n x0 x1 0 x0.Said).bind fun o => match o with | .inl y3 => (J9 n x0 y3) | .inr r => some r)
def zPj : Tab := ⟨19,[0,0,2,4,8,0,0,64,128,0,0,1024,2816,4128,8192,20496,65535,131071,196607],[0,0,2,4,8,0,0,64,128,0,0,1024,2816,4128,8192,16400,1,65536,163840],[0,0,2,6,14,0,0,64,192,0,0,1024,4032,8160,16352,32766,65535,131071,262143]⟩
noncomputable abbrev zIy (k : Nat) := Rg Tryz.f140 k
noncomputable abbrev zPO (k : Nat) := Rd Tryz.f140 k
theorem zEF : zc (rg Tryz.f140 7) zPj = true := kr
def zPi : Tab := ⟨19,[0,0,2,4,8,0,0,64,128,0,0,1024,2816,4128,8192,20496,65535,131071,196607],[0,0,2,4,8,0,0,64,128,0,0,1024,2816,4128,8192,16400,1,65536,163840],[0,0,2,6,14,0,0,64,192,0,0,1024,4032,8160,16352,32766,65535,131071,262143]⟩
theorem zEE : zc (rg Tryz.f140 5) zPi = true := kr
theorem zKT (n : Nat) (x0 : Net) (x1 : Int) (r : Net) (H : Jr n x0 x1 = some r) : zE Tryz.prog 140 [.ptr (Net.row x0),.val false [.lit (.int .i64 x1)]] [] [(0,(Net.row r))] := by
 refine zE.of_body tOk Tryz.func140 rfl (c := (.seq (zIy 0) (.block 0 (.loop (.seq (zIy 1) (.seq (.cond (.tmp 12) .skip (.exit 0)) (.seq (.block 1 (.seq (zIy 2) (.seq (.seq (zIy 3) (.cond (.tmp 29) (.exit 1) .skip)) (.seq (zIy 4) (.cond (.tmp 33) (zPO 5) (.seq (zIy 6) (.cond (.tmp 55) (zPO 7) .skip))))))) (zIy 8)))))))) kr (Nat.le_of_ble_eq_true kr) 1 (rs := []) rfl [] .nil [] [] [(0,(Net.row r))] fun cx=>?_
 show Tr _ _ _ ⟨75,1,[sA 0 0 3 0,sI 1 x1],[(0,(Net.row x0))]⟩ _
 unfold Jr at H
 refine rA 4<|kO x0.Ls Link.row<|uA 1 3587 1 ?_
 obtain ⟨o4,eo4,Ho4⟩ := bs H
 clear H
 refine Tr.mid (ι := (List Say)) (fun v => ⟨75,1,[sA 0 0 3 0],[(0,[cL 11 x0.Bs zA.row,cL 4 x0.Ls Link.row,cL 7 v Say.row])]⟩) (fun v => J9 n x0 v = some r) ?_ ?_
 ·refine tB<|Tr.loop (ι := Nat × (Int × (List Say))) (fun v => ⟨75,1,[sI 11 v.2.1,sI 10 (x0.Ls.length : Int),sR 9 0 3 1 1 false,sA 0 0 3 0,sI 1 x1],[(0,[cL 11 x0.Bs zA.row,cL 4 x0.Ls Link.row,cL 7 v.2.2 Say.row])]⟩) (fun v => qg n v.1 x0 x1 v.2.1 v.2.2 = some o4) (fun v => v.1) (n,(0,x0.Said)) eo4 (St.sub_of [11,10,9,0,1] [0] kr) ?_
  rintro ⟨_ | mo4,y1,y2⟩ H
  ·exact nN H
  have H : qg n (mo4+1) x0 x1 y1 y2 = some o4 := H
  rw [qg] at H
  refine gA 1 7683 1<|tS ?_
  obtain ⟨h1,H⟩ | ⟨h1,H⟩ := bC H
  ·refine nA h1<|Tr.exit<|aJ ?_
   cases H
   exact jA y2 Ho4 [0] [0]
  refine tA h1<|tK<|tS<|tB<|rA 1<|bE H fun v5 ev5 H=> oA Link.row ev5<|dE (tI 78) (.box 0) [(0,0),(1,(y1.toNat))] 4 0 [.sl true 3 [[cL 11 x0.Bs zA.row,cL 4 x0.Ls Link.row,cL 7 y2 Say.row]]] (Link.row v5) (zQ rfl (zK ev5).2)<|uA 3 3635 33<|tS<|rA 4<|bE H fun r6 er6 H=> vB [.rd,.rd] [.box 0] (zD3 n (⟨x0.Bs,x0.Ls,y2⟩ : Net) y1 r6 er6) (.inr (zM (zJ zN zg) zT))<|lA 2 ?_
  obtain ⟨h2,H⟩ | ⟨h2,H⟩ := bC H
  ·refine qL 4197939 33 [22] h2<|lA 4<|kO y2 Say.row<|uA 2 536874547 33 ?_
   obtain ⟨h3,H⟩ | ⟨h3,H⟩ := bC H
   ·refine nA h3<|tK<|gA 4 8589938227 33 ?_
    obtain ⟨h4,H⟩ | ⟨h4,H⟩ := bC H
    ·refine nA h4<|gA 4 0x80000000000e33 33 ?_
     obtain ⟨h5,H⟩ | ⟨h5,H⟩ := bC H
     ·exact nA h5<|tK<|eA 2 3587 1<|jB mo4 ((wI (y1 + 1)),y2) H [11,10,9,0,1] [0]
     refine tA h5<|bE H fun r7 er7 H=> gE H fun hg8 H=> Tr.draw mixed 19 kr ⟨75,1,[sI 11 y1,sI 10 (x0.Ls.length : Int),sA 0 0 3 0,sI 1 x1,sR 9 0 3 1 1 false],[(0,[cL 11 x0.Bs zA.row,cL 4 x0.Ls Link.row,cL 7 (y2 ++ [(⟨y1,true,r7⟩ : Say)]) Say.row])]⟩ (fun cx=>?_) ?_
     ·exact mA zEF (zl [0,1,2,3]++[(4,[15,18])]++zl [5,6,7]++[(8,[12,13,14,15,18]),(9,[]),(10,[]),(11,[12,13,14,15,18])]) 7 [⟨[12,13,14,15,18],3,66,67⟩,⟨[12,13,14,15,18],53,63,64⟩,⟨[15,18],51,59,60⟩] fun cx=>mC zEF 12<|vB [.rd,.rd,.rd] [.box 0] (zF1 n (⟨x0.Bs,x0.Ls,y2⟩ : Net) x1 v5.Q r7 er7) (.inr (zM (Vec.row_mine _) zT))<|fA<|mC zEF 13<|lA 1<|fA<|mC zEF 14<|lA 1<|fA<|mC zEF 15<|LAt.grab 60 kr<|LAt.appMU tOk (t := 51) (ty := 51) (e := 127) (x := (.tmp 60)) (y := (.tmp 70)) (d := 71) (g := none) (tI 127) Say.row y2 [(⟨y1,true,r7⟩ : Say)] kr kr kr kr kr kr kr kr kr kr hg8<|fA<|mA zEF [(16,[]),(17,[])] 1 [⟨[12,13,14,15,18],3,66,67⟩,⟨[12,13,14,15,18],53,63,64⟩,⟨[15,18],51,59,60⟩] fun cx=>mC zEF 18<|LAt.storeO tOk (t := 51) (ty := 0) (ad := (.tmp 73)) (x := (.tmp 71)) (g := none) (tI 51) false [cL 7 (y2 ++ [(⟨y1,true,r7⟩ : Say)]) Say.row] 0 2 [cL 11 x0.Bs zA.row,cL 4 x0.Ls Link.row,.dead] kr kr kr kr kr kr kr kr<|fA<|mE zEF [11,10,0,1,9] [0]
     exact eA 2 3587 1<|jB mo4 ((wI (y1 + 1)),(y2 ++ [(⟨y1,true,r7⟩ : Say)])) H [11,10,9,0,1] [0]
    refine tA h4<|bE H fun r9 er9 H=> gE H fun hg10 H=> Tr.draw mixed 19 kr ⟨75,1,[sI 11 y1,sI 10 (x0.Ls.length : Int),sA 0 0 3 0,sI 1 x1,sR 9 0 3 1 1 false],[(0,[cL 11 x0.Bs zA.row,cL 4 x0.Ls Link.row,cL 7 (y2 ++ [(⟨y1,false,r9⟩ : Say)]) Say.row])]⟩ (fun cx=>?_) ?_
    ·exact mA zEE (zl [0,1,2,3]++[(4,[15,18])]++zl [5,6,7]++[(8,[12,13,14,15,18]),(9,[]),(10,[]),(11,[12,13,14,15,18])]) 7 [⟨[12,13,14,15,18],3,44,45⟩,⟨[12,13,14,15,18],53,41,42⟩,⟨[15,18],51,37,38⟩] fun cx=>mC zEE 12<|vB [.rd,.rd,.rd] [.box 0] (zF1 n (⟨x0.Bs,x0.Ls,y2⟩ : Net) x1 v5.P r9 er9) (.inr (zM (Vec.row_mine _) zT))<|fA<|mC zEE 13<|lA 1<|fA<|mC zEE 14<|lA 1<|fA<|mC zEE 15<|LAt.grab 38 kr<|LAt.appMU tOk (t := 51) (ty := 51) (e := 127) (x := (.tmp 38)) (y := (.tmp 48)) (d := 49) (g := none) (tI 127) Say.row y2 [(⟨y1,false,r9⟩ : Say)] kr kr kr kr kr kr kr kr kr kr hg10<|fA<|mA zEE [(16,[]),(17,[])] 1 [⟨[12,13,14,15,18],3,44,45⟩,⟨[12,13,14,15,18],53,41,42⟩,⟨[15,18],51,37,38⟩] fun cx=>mC zEE 18<|LAt.storeO tOk (t := 51) (ty := 0) (ad := (.tmp 51)) (x := (.tmp 49)) (g := none) (tI 51) false [cL 7 (y2 ++ [(⟨y1,false,r9⟩ : Say)]) Say.row] 0 2 [cL 11 x0.Bs zA.row,cL 4 x0.Ls Link.row,.dead] kr kr kr kr kr kr kr kr<|fA<|mE zEE [11,10,0,1,9] [0]
    exact eA 2 3587 1<|jB mo4 ((wI (y1 + 1)),(y2 ++ [(⟨y1,false,r9⟩ : Say)])) H [11,10,9,0,1] [0]
   exact tA h3<|Tr.exit<|aJ<|eA 2 3587 1<|jB mo4 ((wI (y1 + 1)),y2) H [11,10,9,0,1] [0]
  exact qL 4197939 33 [22] h2<|uA 7 536874547 33<|tB_<|Tr.exit<|aJ<|eA 2 3587 1<|jB mo4 ((wI (y1 + 1)),y2) H [11,10,9,0,1] [0]
 rintro y3 H
 have H : (J9 n x0 y3) = some r := H
 unfold J9 at H
 exact fY [] [(0,[cL 11 x0.Bs zA.row,cL 4 x0.Ls Link.row,cL 7 y3 Say.row])] H
def zB5 (n : Nat) (x0 : Int) : Option (Int) :=
  (some (if 1000000 < (IntKind.wrap .i64 (x0 + 1)) then 1000000 else (IntKind.wrap .i64 (x0 + 1))))
theorem zLE (n : Nat) (x0 : Int) (r : Int) (H : zB5 n x0 = some r) : zE Tryz.prog 93 [.val false [.lit (.int .i64 x0)]] [.val false [.lit (.int .i64 r)]] [] := by
 refine cW Tryz.func93 (fun g d => sl [g 0,g 1] .ret) [.tmp 2] fun cx=>?_
 unfold zB5 at H
 exact gA 1 1 0<|gA 4 4 0<|te (fJ [(false,[cI (if 1000000 < (wI (x0 + 1)) then 1000000 else (wI (x0 + 1)))])] H)
def zBz (n : Nat) (y3 : (List zB)) : Option ((List zB)) :=
  (some y3)
def Zp (n : Nat) : Nat → (List zB) → Int → (List zB) → Option (((List zB)) ⊕ ((List zB)))
  | 0,_,_,_ => none
  | mo4 + 1,x0,y1,y2 => (bif (decide (y1 < (x0.length : Int))) then ((idx x0 y1).bind fun v5 => (bif (!v5.Sc) then (bif (decide (v5.Age ≥ 4)) then (Zp n mo4 x0 (IntKind.wrap .i64 (y1 + 1)) y2) else (bif (decide (y2.length + [(⟨v5.Tag,v5.Mac,v5.Port,(IntKind.wrap .i64 (v5.Age + 1)),v5.Sc⟩ : zB)].length ≤ 268435456)) then (Zp n mo4 x0 (IntKind.wrap .i64 (y1 + 1)) (y2 ++ [(⟨v5.Tag,v5.Mac,v5.Port,(IntKind.wrap .i64 (v5.Age + 1)),v5.Sc⟩ : zB)])) else none)) else (bif (decide (y2.length + [v5].length ≤ 268435456)) then (Zp n mo4 x0 (IntKind.wrap .i64 (y1 + 1)) (y2 ++ [v5])) else none))) else (some (Sum.inl y2)))
def zBa (n : Nat) (x0 : (List zB)) : Option ((List zB)) :=
  ((Zp n n x0 0 ([] : List zB)).bind fun o => match o with | .inl y3 => (zBz n y3) | .inr r => some r)
theorem zMV (n : Nat) (x0 : (List zB)) (r : (List zB)) (H : zBa n x0 = some r) : zE Tryz.prog 94 [.val false [.sl false 5 (CV.frzEs (x0.map zB.row))]] [.val false [.sl true 5 (r.map zB.row)]] [] := by
 refine cW Tryz.func94 (fun g d => sl [g 0,g 1,sl [g 2] (.block 0 (.loop (sl [g 3,cn 9 .skip (.exit 0),.block 1 (sl [g 4,sl [g 5] (cn 14 (sl [sl [g 6] (cn 17 (.exit 1) .skip)] (g 7)) .skip)] (g 8))] (g 9)))),g 10] .ret) [.tmp 2] fun cx=>?_
 unfold zBa at H
 refine gA 1 1 0<|gA 1 9 0<|tS<|rA 1<|kF x0 zB.row<|uA 1 456 0 ?_
 obtain ⟨o4,eo4,Ho4⟩ := bs H
 clear H
 refine Tr.mid (ι := (List zB)) (fun v => ⟨28,0,[sC 3 (cL 5 v zB.row)],[]⟩) (fun v => zBz n v = some r) ?_ ?_
 ·refine tB<|Tr.loop (ι := Nat × (Int × (List zB))) (fun v => ⟨28,0,[sI 8 v.2.1,sI 7 (x0.length : Int),sC 6 (cF 5 x0 zB.row),sC 3 (cL 5 v.2.2 zB.row)],[]⟩) (fun v => Zp n v.1 x0 v.2.1 v.2.2 = some o4) (fun v => v.1) (n,(0,([] : List zB))) eo4 (St.sub_of [8,7,6,3] [] kr) ?_
  rintro ⟨_ | mo4,y1,y2⟩ H
  ·exact nN H
  have H : Zp n (mo4+1) x0 y1 y2 = some o4 := H
  rw [Zp] at H
  refine gA 1 968 0<|tS ?_
  obtain ⟨h1,H⟩ | ⟨h1,H⟩ := bC H
  ·refine nA h1<|Tr.exit<|aJ ?_
   cases H
   exact jA y2 Ho4 [3] []
  refine tA h1<|tK<|tS<|tB<|tR<|bE H fun v5 ev5 H=> iA zB.row ev5<|uA 3 488 32<|tS<|gA 3 16872 32 ?_
  obtain ⟨h2,H⟩ | ⟨h2,H⟩ := bC H
  ·exact nA h2<|tK<|Tr.at<|lA 3<|gE H fun hg6 H=> LAt.appMU tOk (t := 25) (ty := 25) (e := 103) (x := (.tmp 22)) (y := (.tmp 24)) (d := 25) (g := none) (tI 103) zB.row y2 [v5] kr kr kr kr kr kr kr kr kr kr hg6<|LAt.moveU (T := lk tab) (ty := 25) (x := (.tmp 25)) (d := 3) (g := none) false [cL 5 (y2 ++ [v5]) zB.row] kr kr kr kr kr<|dA 456 0<|eA 2 456 0<|jB mo4 ((wI (y1 + 1)),(y2 ++ [v5])) H [8,7,6,3] []
  refine tA h2<|tS<|gA 3 131560 32 ?_
  obtain ⟨h3,H⟩ | ⟨h3,H⟩ := bC H
  ·exact nA h3<|tK<|eA 5 488 32<|Tr.at<|lA 3<|gE H fun hg7 H=> LAt.appMU tOk (t := 25) (ty := 25) (e := 103) (x := (.tmp 22)) (y := (.tmp 24)) (d := 25) (g := none) (tI 103) zB.row y2 [(⟨v5.Tag,v5.Mac,v5.Port,(wI (v5.Age + 1)),v5.Sc⟩ : zB)] kr kr kr kr kr kr kr kr kr kr hg7<|LAt.moveU (T := lk tab) (ty := 25) (x := (.tmp 25)) (d := 3) (g := none) false [cL 5 (y2 ++ [(⟨v5.Tag,v5.Mac,v5.Port,(wI (v5.Age + 1)),v5.Sc⟩ : zB)]) zB.row] kr kr kr kr kr<|dA 456 0<|eA 2 456 0<|jB mo4 ((wI (y1 + 1)),(y2 ++ [(⟨v5.Tag,v5.Mac,v5.Port,(wI (v5.Age + 1)),v5.Sc⟩ : zB)])) H [8,7,6,3] []
  exact tA h3<|Tr.exit<|aJ<|eA 2 456 0<|jB mo4 ((wI (y1 + 1)),y2) H [8,7,6,3] []
 rintro y3 H
 have H : (zBz n y3) = some r := H
 unfold zBz at H
 exact gA 2 12 0<|te (fJ [(false,[cL 5 y3 zB.row])] H)
def zBb (n : Nat) (x0 : Int) (x1 : (List Pt)) (x2 : Int) : Option (Int) :=
  ((qK n x2 0 (IntKind.wrap .i64 ((x1.length : Int) - 1))).bind fun r1 => (bif (!r1) then (some 4) else ((idx x1 x2).bind fun v2 => (bif (!v2.Up) then (some 4) else ((Jj n x0 x1).bind fun r3 => (bif (r3.2 == x2) then (some 1) else ((idx x1 x2).bind fun v4 => (bif (!v4.Has) then (some 2) else ((zAK n x0 x1 x2).bind fun r5 => ((idx x1 x2).bind fun v6 => ((zAr n r5 v6.Hd).bind fun r7 => (bif r7 then (some 2) else (some 3)))))))))))))
def zP4 : Tab := ⟨19,[0,0,3,4,8,16,32,64,64,64,960,64,64,6208,8256,16448,33856,65600,196608],[0,0,3,4,8,16,32,64,64,64,960,64,64,6208,8256,16448,33856,65600,131072],[0,0,3,7,15,31,63,127,127,127,1023,127,127,6271,14463,30847,65535,131071,262143]⟩
theorem JQ : zc (rg Tryz.f188 6) zP4 = true := kr
theorem zMW (n : Nat) (x0 : Int) (x1 : (List Pt)) (x2 : Int) (r : Int) (H : zBb n x0 x1 x2 = some r) : zE Tryz.prog 188 [.val false [.lit (.int .i64 x0)],.val false [.sl false 8 (CV.frzEs (x1.map Pt.row))],.val false [.lit (.int .i64 x2)]] [.val false [.lit (.int .i64 r)]] [] := by
 refine cW Tryz.func188 (fun g d => sl [g 0,sl [g 1] (cn 22 (sl [g 2] .ret) .skip),g 3,.block 0 (sl [g 4] (cn 29 (sl [g 5] .ret) (sl [d 6] (cn 33 (sl [g 7] .ret) .skip)))),g 8] .ret) [.tmp 6] fun cx=>?_
 unfold zBb at H
 refine gA 1 7 0<|tS<|rA 2<|kF x1 Pt.row<|lA 1<|bE H fun r1 er1 H=> vA [.rd,.rd,.rd] (qS n x2 0 (wI ((x1.length : Int) - 1)) r1 er1)<|lA 2 ?_
 obtain ⟨h1,H⟩ | ⟨h1,H⟩ := bC H
 ·refine qL 32775 0 [15] h1<|lA 2<|bE H fun v2 ev2 H=> iA Pt.row ev2<|uA 4 4194311 0 ?_
  obtain ⟨h2,H⟩ | ⟨h2,H⟩ := bC H
  ·refine nA h2<|tK<|rA 2<|bE H fun r3 er3 H=> vA [.rd,.rd] (zHn n x0 x1 r3 er3)<|LAt.movT tOk (ty := 135) (t := 26) (d := 23) (g := none) [(true,(Vec.row r3.1)),(false,[cI r3.2])] _ kr (.inl rfl) kr kr kr kr rfl<|uA 5 263 0<|tS<|tB<|gA 4 536870919 0 ?_
   obtain ⟨h3,H⟩ | ⟨h3,H⟩ := bC H
   ·refine nA h3<|bE H fun v4 ev4 H=> sT ⟨52,0,[sB 29 (r3.2 == x2),sI 0 x0,sC 1 (cF 8 x1 Pt.row),sI 2 x2],[]⟩ ?_
    cases h4 : (!v4.Has)
    ·have H := qe h4 H
     refine bE H fun r5 er5 H=> bE H fun v6 ev6 H=> bE H fun r7 er7 H=> Tr.draws mixed 19 kr ⟨52,0,[sB 33 r7],[]⟩ (fun cx=>?_) ?_
     ·exact mA JQ [(0,[]),(1,[])] 17 [] fun cx=>iN JQ 2 Pt.row ev4 fun cx=>mA JQ (zl [3,4,5,6]) 12 [] fun cx=>qA 1099511627783 0 [40] h4<|mA JQ (zl [7,8,9,11,12]) 7 [] fun cx=>iN JQ 13 Pt.row ev6 fun cx=>mA JQ [(14,[]),(15,[])] 4 [] fun cx=>mC JQ 10<|vA [.rd,.rd,.rd] (zIg n x0 x1 x2 r5 er5)<|fA<|mC JQ 16<|vA [.rd,.rd] (zHp n r5 v6.Hd r7 er7)<|fA<|mA JQ [(17,[]),(18,[])] 0 [] fun cx=>mE JQ [33] []
     cases h5 : r7
     ·have H := qe h5 H
      exact nB_<|tK<|gA 1 64 0<|te (fJ [(false,[cI 3])] H)
     have H := qf h5 H
     exact tB_<|gA 1 64 0<|te (fJ [(false,[cI 2])] H)
    have H := qf h4 H
    refine Tr.draws mixed 19 kr ⟨52,0,[sB 33 true],[]⟩ (fun cx=>?_) ?_
    ·exact mA JQ [(0,[]),(1,[])] 17 [] fun cx=>iN JQ 2 Pt.row ev4 fun cx=>mA JQ (zl [3,4,5,6]) 12 [] fun cx=>qA 1099511627783 0 [40] h4<|mA JQ (zl [7,8,9,10,11,12,13,14,15,16,17,18]) 0 [] fun cx=>mE JQ [33] []
    exact tB_<|gA 1 64 0<|te (fJ [(false,[cI 2])] H)
   exact tA h3<|gA 1 64 0<|te (fJ [(false,[cI 1])] H)
  exact tA h2<|gA 1 64 0<|te (fJ [(false,[cI 4])] H)
 exact qL 32775 0 [15] h1<|uA 7 4194311 0<|tB_<|gA 1 64 0<|te (fJ [(false,[cI 4])] H)
def zCl (n : Nat) (y3 : Int) : Option (Int) :=
  (some y3)
def QF (n : Nat) : Nat → Int → (List Pt) → Int → Int → Option ((Int) ⊕ (Int))
  | 0,_,_,_,_ => none
  | mo4 + 1,x0,x1,y1,y2 => (bif (decide (y1 < (x1.length : Int))) then (bif (decide (y1 < 6)) then ((zBb n x0 x1 y1).bind fun r5 => (bif (r5 == 1) then (bif (decide ((0 : Int) ≤ y1)) then (QF n mo4 x0 x1 (IntKind.wrap .i64 (y1 + 1)) (IntKind.wrap .i64 (BitVec.ofInt (IntKind.bits .i64) y2 ||| BitVec.ofInt (IntKind.bits .i64) (IntKind.wrap .i64 (1 * 2 ^ min ((y1 : Int)).toNat (IntKind.bits .i64)))).toNat)) else none) else (bif (r5 == 2) then (bif (decide ((0 : Int) ≤ y1)) then (QF n mo4 x0 x1 (IntKind.wrap .i64 (y1 + 1)) (IntKind.wrap .i64 (BitVec.ofInt (IntKind.bits .i64) y2 ||| BitVec.ofInt (IntKind.bits .i64) (IntKind.wrap .i64 (1 * 2 ^ min ((y1 : Int)).toNat (IntKind.bits .i64)))).toNat)) else none) else (QF n mo4 x0 x1 (IntKind.wrap .i64 (y1 + 1)) y2)))) else (some (Sum.inl y2))) else (some (Sum.inl y2)))
def zCW (n : Nat) (x0 : Int) (x1 : (List Pt)) : Option (Int) :=
  ((QF n n x0 x1 0 0).bind fun o => match o with | .inl y3 => (zCl n y3) | .inr r => some r)
theorem zNQ (n : Nat) (x0 : Int) (x1 : (List Pt)) (r : Int) (H : zCW n x0 x1 = some r) : zE Tryz.prog 161 [.val false [.lit (.int .i64 x0)],.val false [.sl false 8 (CV.frzEs (x1.map Pt.row))]] [.val false [.lit (.int .i64 r)]] [] := by
 refine cW Tryz.func161 (fun g d => sl [g 0,g 1,sl [g 2] (.block 0 (.loop (sl [sl [g 3] (cn 15 .skip (.exit 0)),.block 1 (sl [g 5,g 6] (cn 27 (g 7) .skip))] (g 4)))),g 8] .ret) [.tmp 4] fun cx=>?_
 unfold zCW at H
 refine gA 1 3 0<|gA 1 35 0<|tS<|gA 1 99 0 ?_
 obtain ⟨o4,eo4,Ho4⟩ := bs H
 clear H
 refine Tr.mid (ι := Int) (fun v => ⟨33,0,[sI 5 v],[]⟩) (fun v => zCl n v = some r) ?_ ?_
 ·refine tB<|Tr.loop (ι := Nat × (Int × Int)) (fun v => ⟨33,0,[sI 6 v.2.1,sI 5 v.2.2,sI 0 x0,sC 1 (cF 8 x1 Pt.row)],[]⟩) (fun v => QF n v.1 x0 x1 v.2.1 v.2.2 = some o4) (fun v => v.1) (n,(0,0)) eo4 (St.sub_of [6,5,0,1] [] kr) ?_
  rintro ⟨_ | mo4,y1,y2⟩ H
  ·exact nN H
  have H : QF n (mo4+1) x0 x1 y1 y2 = some o4 := H
  rw [QF] at H
  refine tS<|rA 2<|kF x1 Pt.row<|lA 2 ?_
  obtain ⟨h1,H⟩ | ⟨h1,H⟩ := bC H
  ·refine qL 4195 0 [12] h1<|uA 3 32867 0<|nB_<|Tr.exit<|aJ ?_
   cases H
   exact jA y2 Ho4 [5] []
  refine qL 4195 0 [12] h1<|uA 3 32867 0 ?_
  obtain ⟨h2,H⟩ | ⟨h2,H⟩ := bC H
  ·refine nA h2<|Tr.exit<|aJ ?_
   cases H
   exact jA y2 Ho4 [5] []
  refine tA h2<|tK<|tS<|tB<|rA 3<|bE H fun r5 er5 H=> vA [.rd,.rd,.rd] (zMW n x0 x1 y1 r5 er5)<|uA 1 227 0<|rA 3 ?_
  obtain ⟨h3,H⟩ | ⟨h3,H⟩ := bC H
  ·refine qL 16777443 0 [24] h3<|uA 3 134217827 0 ?_
   obtain ⟨h4,H⟩ | ⟨h4,H⟩ := bC H
   ·exact nA h4<|tK<|eA 3 99 0<|jB mo4 ((wI (y1 + 1)),y2) H [6,5,0,1] []
   exact tA h4<|Tr.at<|lA 2<|gE H fun hg6 H=> LAt.binC tOk (op := .shl) (t := 3) (ty := 3) (ty' := 3) (x := (.const (.int .i64 1))) (y := (.tmp 29)) (d := 30) (g := none) (.int .i64 1) (.int .i64 y1) (.int .i64 (wI (1 * 2 ^ min ((y1 : Int)).toNat (IntKind.bits .i64)))) _ kr kr kr kr kr (φ := (0 : Int) ≤ y1) kr (of_decide_eq_true hg6) rfl<|uA 2 99 0<|eA 3 99 0<|jB mo4 ((wI (y1 + 1)),(wI (bO y2 ||| bO (wI (1 * 2 ^ min ((y1 : Int)).toNat (IntKind.bits .i64)))).toNat)) H [6,5,0,1] []
  exact qL 16777443 0 [24] h3<|uA 3 134217827 0<|tB_<|Tr.at<|lA 2<|gE H fun hg7 H=> LAt.binC tOk (op := .shl) (t := 3) (ty := 3) (ty' := 3) (x := (.const (.int .i64 1))) (y := (.tmp 29)) (d := 30) (g := none) (.int .i64 1) (.int .i64 y1) (.int .i64 (wI (1 * 2 ^ min ((y1 : Int)).toNat (IntKind.bits .i64)))) _ kr kr kr kr kr (φ := (0 : Int) ≤ y1) kr (of_decide_eq_true hg7) rfl<|uA 2 99 0<|eA 3 99 0<|jB mo4 ((wI (y1 + 1)),(wI (bO y2 ||| bO (wI (1 * 2 ^ min ((y1 : Int)).toNat (IntKind.bits .i64)))).toNat)) H [6,5,0,1] []
 rintro y3 H
 have H : (zCl n y3) = some r := H
 unfold zCl at H
 exact gA 2 16 0<|te (fJ [(false,[cI y3])] H)
def zAw (n : Nat) (x0 : Int) (x1 : Int) : Option (Bool) :=
  ((qK n x1 0 62).bind fun r1 => (bif r1 then (bif (decide ((0 : Int) ≤ x1)) then (some ((IntKind.wrap .i64 (BitVec.ofInt (IntKind.bits .i64) (Int.fdiv x0 (2 ^ min ((x1 : Int)).toNat (IntKind.bits .i64))) &&& BitVec.ofInt (IntKind.bits .i64) 1).toNat) == 1)) else none) else (some false)))
theorem zLx (n : Nat) (x0 : Int) (x1 : Int) (r : Bool) (H : zAw n x0 x1 = some r) : zE Tryz.prog 162 [.val false [.lit (.int .i64 x0)],.val false [.lit (.int .i64 x1)]] [.val false [.lit (.bool r)]] [] := by
 refine cW Tryz.func162 (fun g d => sl [g 0,g 1] .ret) [.tmp 4] fun cx=>?_
 unfold zAw at H
 refine gA 1 3 0<|rA 1<|bE H fun r1 er1 H=> vA [.rd,.rd,.rd] (qS n x1 0 62 r1 er1)<|lA 1 ?_
 obtain ⟨h1,H⟩ | ⟨h1,H⟩ := bC H
 ·exact qL 131 0 [7] h1<|uA 7 16 0<|te (fF H)
 exact qL 131 0 [7] h1<|lA 2<|gE H fun hg2 H=> LAt.binC tOk (op := .shr) (t := 3) (ty := 3) (ty' := 3) (x := (.tmp 8)) (y := (.tmp 9)) (d := 10) (g := (some (2,true))) (.int .i64 x0) (.int .i64 x1) (.int .i64 (Int.fdiv x0 (2 ^ min ((x1 : Int)).toNat (IntKind.bits .i64)))) _ kr kr kr kr kr (φ := (0 : Int) ≤ x1) kr (of_decide_eq_true hg2) rfl<|uA 4 16 0<|te (fJ [(false,[cB ((wI (bO (Int.fdiv x0 (2 ^ min ((x1 : Int)).toNat (IntKind.bits .i64))) &&& bO 1).toNat) == 1)])] H)
def Y6 (n : Nat) (y3 : (List zB)) : Option ((List zB)) :=
  (some y3)
def qr (n : Nat) : Nat → (List zB) → Int → Int → (List zB) → Option (((List zB)) ⊕ ((List zB)))
  | 0,_,_,_,_ => none
  | mo4 + 1,x0,x1,y1,y2 => (bif (decide (y1 < (x0.length : Int))) then ((idx x0 y1).bind fun v5 => (bif v5.Sc then (bif (decide (y2.length + [v5].length ≤ 268435456)) then (qr n mo4 x0 x1 (IntKind.wrap .i64 (y1 + 1)) (y2 ++ [v5])) else none) else (bif (v5.Port != x1) then (bif (decide (y2.length + [v5].length ≤ 268435456)) then (qr n mo4 x0 x1 (IntKind.wrap .i64 (y1 + 1)) (y2 ++ [v5])) else none) else (qr n mo4 x0 x1 (IntKind.wrap .i64 (y1 + 1)) y2)))) else (some (Sum.inl y2)))
def Jq (n : Nat) (x0 : (List zB)) (x1 : Int) : Option ((List zB)) :=
  ((qr n n x0 x1 0 ([] : List zB)).bind fun o => match o with | .inl y3 => (Y6 n y3) | .inr r => some r)
theorem zKS (n : Nat) (x0 : (List zB)) (x1 : Int) (r : (List zB)) (H : Jq n x0 x1 = some r) : zE Tryz.prog 163 [.val false [.sl false 5 (CV.frzEs (x0.map zB.row))],.val false [.lit (.int .i64 x1)]] [.val false [.sl true 5 (r.map zB.row)]] [] := by
 refine cW Tryz.func163 (fun g d => sl [g 0,g 1,sl [g 2] (.block 0 (.loop (sl [g 3,cn 11 .skip (.exit 0),.block 1 (sl [g 4,g 5] (cn 21 (g 6) .skip))] (g 7)))),g 8] .ret) [.tmp 4] fun cx=>?_
 unfold Jq at H
 refine gA 1 3 0<|gA 1 35 0<|tS<|rA 1<|kF x0 zB.row<|uA 1 1826 0 ?_
 obtain ⟨o4,eo4,Ho4⟩ := bs H
 clear H
 refine Tr.mid (ι := (List zB)) (fun v => ⟨28,0,[sC 5 (cL 5 v zB.row)],[]⟩) (fun v => Y6 n v = some r) ?_ ?_
 ·refine tB<|Tr.loop (ι := Nat × (Int × (List zB))) (fun v => ⟨28,0,[sI 10 v.2.1,sI 9 (x0.length : Int),sC 8 (cF 5 x0 zB.row),sC 5 (cL 5 v.2.2 zB.row),sI 1 x1],[]⟩) (fun v => qr n v.1 x0 x1 v.2.1 v.2.2 = some o4) (fun v => v.1) (n,(0,([] : List zB))) eo4 (St.sub_of [10,9,8,5,1] [] kr) ?_
  rintro ⟨_ | mo4,y1,y2⟩ H
  ·exact nN H
  have H : qr n (mo4+1) x0 x1 y1 y2 = some o4 := H
  rw [qr] at H
  refine gA 1 3874 0<|tS ?_
  obtain ⟨h1,H⟩ | ⟨h1,H⟩ := bC H
  ·refine nA h1<|Tr.exit<|aJ ?_
   cases H
   exact jA y2 Ho4 [5] []
  refine tA h1<|tK<|tS<|tB<|tR<|bE H fun v5 ev5 H=> iA zB.row ev5<|uA 3 1954 128<|tS<|Tr.at<|lA 3 ?_
  obtain ⟨h2,H⟩ | ⟨h2,H⟩ := bC H
  ·refine qL 67490 128 [16] h2<|uA 5 2099106 128 ?_
   obtain ⟨h3,H⟩ | ⟨h3,H⟩ := bC H
   ·exact nA h3<|tK<|eA 2 1826 0<|jB mo4 ((wI (y1 + 1)),y2) H [10,9,8,5,1] []
   exact tA h3<|Tr.at<|lA 3<|gE H fun hg6 H=> LAt.appMU tOk (t := 25) (ty := 25) (e := 103) (x := (.tmp 22)) (y := (.tmp 24)) (d := 25) (g := none) (tI 103) zB.row y2 [v5] kr kr kr kr kr kr kr kr kr kr hg6<|LAt.moveU (T := lk tab) (ty := 25) (x := (.tmp 25)) (d := 5) (g := none) false [cL 5 (y2 ++ [v5]) zB.row] kr kr kr kr kr<|dA 1826 0<|eA 2 1826 0<|jB mo4 ((wI (y1 + 1)),(y2 ++ [v5])) H [10,9,8,5,1] []
  exact qL 67490 128 [16] h2<|uA 5 2099106 128<|tB_<|Tr.at<|lA 3<|gE H fun hg7 H=> LAt.appMU tOk (t := 25) (ty := 25) (e := 103) (x := (.tmp 22)) (y := (.tmp 24)) (d := 25) (g := none) (tI 103) zB.row y2 [v5] kr kr kr kr kr kr kr kr kr kr hg7<|LAt.moveU (T := lk tab) (ty := 25) (x := (.tmp 25)) (d := 5) (g := none) false [cL 5 (y2 ++ [v5]) zB.row] kr kr kr kr kr<|dA 1826 0<|eA 2 1826 0<|jB mo4 ((wI (y1 + 1)),(y2 ++ [v5])) H [10,9,8,5,1] []
 rintro y3 H
 have H : (Y6 n y3) = some r := H
 unfold Y6 at H
 exact gA 2 48 0<|te (fJ [(false,[cL 5 y3 zB.row])] H)
def Jf (n : Nat) (r1 : Int) (x0 : zA) (y5 : (List zB)) : Option (zA) :=
  (some (⟨x0.Id,x0.Name,x0.Ps,y5,x0.V,x0.Tk,x0.Pa,x0.Wo,x0.Dr,r1⟩ : zA))
def ZB (n : Nat) : Nat → Int → zA → Int → (List zB) → Option (((List zB)) ⊕ (zA))
  | 0,_,_,_,_ => none
  | mo6 + 1,r2,x0,y3,y4 => (bif (decide (y3 < (x0.Ps.length : Int))) then ((zAw n r2 y3).bind fun r7 => (bif (!r7) then ((Jq n y4 y3).bind fun r8 => (ZB n mo6 r2 x0 (IntKind.wrap .i64 (y3 + 1)) r8)) else (ZB n mo6 r2 x0 (IntKind.wrap .i64 (y3 + 1)) y4))) else (some (Sum.inl y4)))
def ZC (n : Nat) (x0 : zA) : Option (zA) :=
  ((zB5 n x0.Ve).bind fun r1 => ((zCW n x0.Id x0.Ps).bind fun r2 => ((ZB n n r2 x0 0 x0.F).bind fun o => match o with | .inl y5 => (Jf n r1 x0 y5) | .inr r => some r)))
noncomputable abbrev G89 (k : Nat) := Rg Tryz.f89 k
noncomputable abbrev D89 (k : Nat) := Rd Tryz.f89 k
theorem zCz (n : Nat) (x0 : zA) (r : zA) (H : ZC n x0 = some r) : zE Tryz.prog 89 [.ptr (zA.row x0)] [] [(0,(zA.row r))] := by
 refine zE.of_body tOk Tryz.func89 rfl (c := (.seq (G89 0) (.seq (D89 1) (.seq (G89 2) (.block 0 (.loop (.seq (G89 3) (.seq (.cond (.tmp 27) .skip (.exit 0)) (.seq (.block 1 (.seq (G89 4) (.seq (G89 5) (.cond (.tmp 32) (G89 6) .skip)))) (G89 7)))))))))) kr (Nat.le_of_ble_eq_true kr) 1 (rs := []) rfl [] .nil [] [] [(0,(zA.row r))] fun cx=>?_
 show Tr _ _ _ ⟨43,1,[sA 0 0 11 0],[(0,(zA.row x0))]⟩ _
 unfold ZC at H
 refine rA 5<|bE H fun r1 er1 H=> vA [.rd] (zLE n x0.Ve r1 er1)<|uA 3 1 1<|bE H fun r2 er2 H=> Tr.draws mixed 10 kr ⟨43,1,[sI 2 r2,sA 0 0 11 0],[(0,[cI x0.Id,cS x0.Name,cL 8 x0.Ps Pt.row,cL 5 x0.F zB.row,cL 3 x0.V.Rows zC.row,cL 1 x0.V.Pv intRow,cI x0.Tk,cI x0.Pa,cI x0.Wo,cI x0.Dr,cI r1])]⟩ (fun cx=>?_) ?_
 ·exact aA (zl [0,1,2]++[(3,[8])]++zl [4,5,6]++[(7,[8])]) 2 [⟨[8],24,18,19⟩,⟨[8],3,14,15⟩] fun cx=>bA 8<|vB [.rd,.rd] [.box 0] (zNQ n x0.Id x0.Ps r2 er2) (.inr (zM (zJ zN zg) zT))<|fA<|aA [(9,[])] 0 [⟨[8],24,18,19⟩,⟨[8],3,14,15⟩] fun cx=>eE [2,0] [0]
 refine rA 4<|kO x0.Ps Pt.row<|uA 1 100663301 1 ?_
 obtain ⟨o6,eo6,Ho6⟩ := bs H
 clear H
 refine Tr.mid (ι := (List zB)) (fun v => ⟨43,1,[sA 0 0 11 0],[(0,[cI x0.Id,cS x0.Name,cL 8 x0.Ps Pt.row,cL 5 v zB.row,cL 3 x0.V.Rows zC.row,cL 1 x0.V.Pv intRow,cI x0.Tk,cI x0.Pa,cI x0.Wo,cI x0.Dr,cI r1])]⟩) (fun v => Jf n r1 x0 v = some r) ?_ ?_
 ·refine tB<|Tr.loop (ι := Nat × (Int × (List zB))) (fun v => ⟨43,1,[sI 26 v.2.1,sI 25 (x0.Ps.length : Int),sI 2 r2,sA 0 0 11 0],[(0,[cI x0.Id,cS x0.Name,cL 8 x0.Ps Pt.row,cL 5 v.2.2 zB.row,cL 3 x0.V.Rows zC.row,cL 1 x0.V.Pv intRow,cI x0.Tk,cI x0.Pa,cI x0.Wo,cI x0.Dr,cI r1])]⟩) (fun v => ZB n v.1 r2 x0 v.2.1 v.2.2 = some o6) (fun v => v.1) (n,(0,x0.F)) eo6 (St.sub_of [26,25,2,0] [0] kr) ?_
  rintro ⟨_ | mo6,y3,y4⟩ H
  ·exact nN H
  have H : ZB n (mo6+1) r2 x0 y3 y4 = some o6 := H
  rw [ZB] at H
  refine gA 1 234881029 1<|tS ?_
  obtain ⟨h1,H⟩ | ⟨h1,H⟩ := bC H
  ·refine nA h1<|Tr.exit<|aJ ?_
   cases H
   exact jA y4 Ho6 [0] [0]
  refine tA h1<|tK<|tS<|tB<|gA 2 100663309 1<|rA 2<|bE H fun r7 er7 H=> vA [.rd,.rd] (zLx n r2 y3 r7 er7)<|uA 1 4395630605 1 ?_
  obtain ⟨h2,H⟩ | ⟨h2,H⟩ := bC H
  ·exact nA h2<|tK<|eA 2 100663301 1<|jB mo6 ((wI (y3 + 1)),y4) H [26,25,2,0] [0]
  exact tA h2<|Tr.at<|lA 6<|bE H fun r8 er8 H=> vB [.rd,.rd] [.box 0] (zKS n y4 y3 r8 er8) (.inr (zM (zJ (Q6 (Zv zB.row_mine _)) zg) zT))<|uA 3 100663301 1<|eA 2 100663301 1<|jB mo6 ((wI (y3 + 1)),r8) H [26,25,2,0] [0]
 rintro y5 H
 have H : (Jf n r1 x0 y5) = some r := H
 unfold Jf at H
 exact fY [] [(0,[cI x0.Id,cS x0.Name,cL 8 x0.Ps Pt.row,cL 5 y5 zB.row,cL 3 x0.V.Rows zC.row,cL 1 x0.V.Pv intRow,cI x0.Tk,cI x0.Pa,cI x0.Wo,cI x0.Dr,cI r1])] H
def zB1 (n : Nat) (x0 : zA) : Option (zA) :=
  ((Zd n x0).bind fun r1 => ((Q0 n x0).bind fun r2 => (bif r2 then ((zB5 n x0.Tk).bind fun r3 => ((zBa n x0.F).bind fun r4 => ((ZC n (⟨r1.Id,r1.Name,r1.Ps,r4,r1.V,r3,r1.Pa,r1.Wo,r1.Dr,r1.Ve⟩ : zA)).bind fun r5 => (some r5)))) else (some r1))))
theorem zN1 (n : Nat) (x0 : zA) (r : zA) (H : zB1 n x0 = some r) : zE Tryz.prog 21 [.val true (fR (zA.row x0))] [.val true (zA.row r)] [] := by
 refine cW Tryz.func21 (fun g d => sl [g 0,g 1,sl [g 2] (cn 7 (sl [g 3,g 4] (g 5)) .skip),g 6] .ret) [.cell 2 31] fun cx=>?_
 unfold zB1 at H
 refine gA 2 6 6<|rA 1<|bE H fun r1 er1 H=> vA [.rd] (zBJ n x0 r1 er1)<|uA 2 14 14<|tS<|rA 1<|bE H fun r2 er2 H=> vA [.rd] (zEq n x0 r2 er2)<|dA 142 14 ?_
 cases h1 : r2
 ·have H := qe h1 H
  exact nB_<|tK<|gA 2 4 4<|te (fJ [(true,(zA.row r1))] H)
 have H := qf h1 H
 exact tB_<|rA 2<|bE H fun r3 er3 H=> vA [.rd] (zLE n x0.Tk r3 er3)<|uA 2 14 14<|rA 2<|bE H fun r4 er4 H=> vA [.rd] (zMV n x0.F r4 er4)<|uA 2 12 12<|Tr.at<|bE H fun r5 er5 H=> vL [.lend] (zCz n (⟨r1.Id,r1.Name,r1.Ps,r4,r1.V,r3,r1.Pa,r1.Wo,r1.Dr,r1.Ve⟩ : zA) r5 er5)<|dA 12 12<|gA 2 4 4<|te (fJ [(true,(zA.row r5))] H)
def zAN (n : Nat) (x0 : zA) (x1 : Int) : Option (Bool) :=
  ((Q0 n x0).bind fun r1 => (bif r1 then ((qK n x1 0 (IntKind.wrap .i64 ((x0.Ps.length : Int) - 1))).bind fun r2 => (some r2)) else (some false)))
theorem zIh (n : Nat) (x0 : zA) (x1 : Int) (r : Bool) (H : zAN n x0 x1 = some r) : zE Tryz.prog 87 [.val true (fR (zA.row x0)),.val false [.lit (.int .i64 x1)]] [.val false [.lit (.bool r)]] [] := by
 refine cW Tryz.func87 (fun g d => sl [g 0,g 1] .ret) [.tmp 4] fun cx=>?_
 unfold zAN at H
 refine gA 2 6 4<|rA 1<|bE H fun r1 er1 H=> vA [.rd] (zEq n x0 r1 er1)<|lA 1 ?_
 obtain ⟨h1,H⟩ | ⟨h1,H⟩ := bC H
 ·exact qL 134 4 [7] h1<|uA 8 16 0<|te (fF H)
 exact qL 134 4 [7] h1<|lA 3<|kF x0.Ps Pt.row<|lA 1<|bE H fun r2 er2 H=> vA [.rd,.rd,.rd] (qS n x1 0 (wI ((x0.Ps.length : Int) - 1)) r2 er2)<|uA 2 16 0<|te (fJ [(false,[cB r2])] H)
def QU (n : Nat) (r1 : zA) (x1 : Int) (x2 : Vec) (y2 : Bool) : Option (zA) :=
  (bif y2 then ((idx r1.Ps x1).bind fun v3 => ((idx (r1.Ps.set (x1.toNat) (⟨v3.Up,v3.Co,true,v3.Hd⟩ : Pt)) x1).bind fun v4 => ((ZC n (⟨r1.Id,r1.Name,((r1.Ps.set (x1.toNat) (⟨v3.Up,v3.Co,true,v3.Hd⟩ : Pt)).set (x1.toNat) (⟨v4.Up,v4.Co,v4.Has,x2⟩ : Pt)),r1.F,r1.V,r1.Tk,r1.Pa,r1.Wo,r1.Dr,r1.Ve⟩ : zA)).bind fun r5 => (some r5)))) else (some r1))
def Zg (n : Nat) (x0 : zA) (x1 : Int) (x2 : Vec) : Option (zA) :=
  ((Zd n x0).bind fun r1 => ((zAN n x0 x1).bind fun r6 => (bif r6 then ((idx x0.Ps x1).bind fun v7 => (bif v7.Up then ((JE n x2).bind fun r8 => (QU n r1 x1 x2 r8)) else (QU n r1 x1 x2 false))) else (QU n r1 x1 x2 false))))
def zQU : Tab := ⟨13,[0,1,0,0,8,0,0,23,151,279,1023,2047,3071],[0,1,0,0,8,0,0,6,128,256,48,1024,2112],[0,1,0,0,8,0,0,31,159,415,1023,2047,4095]⟩
theorem zFs : zc (rg Tryz.f17 3) zQU = true := kr
theorem zLt (n : Nat) (x0 : zA) (x1 : Int) (x2 : Vec) (r : zA) (H : Zg n x0 x1 x2 = some r) : zE Tryz.prog 17 [.val true (fR (zA.row x0)),.val false [.lit (.int .i64 x1)],.val true (fR (Vec.row x2))] [.val true (zA.row r)] [] := by
 refine cW Tryz.func17 (fun g d => sl [g 0,g 1,sl [g 2] (cn 24 (sl [d 3] (g 4)) .skip),g 5] .ret) [.cell 6 31] fun cx=>?_
 unfold Zg at H
 refine gA 3 106 104<|rA 1<|bE H fun r1 er1 H=> vA [.rd] (zBJ n x0 r1 er1)<|uA 2 234 232<|tS<|tS<|Tr.mid (ι := Bool) (fun v => ⟨38,0,[sB 24 v,sA 7 7 11 0,sA 6 6 11 0,sA 5 5 5 0,sI 1 x1],[(7,(zA.row r1)),(6,[cI 0,cS (⟨#[]⟩ : ByteArray),cL 8 ([] : List Pt) Pt.row,cL 5 ([] : List zB) zB.row,cL 3 ([] : List zC) zC.row,cL 1 ([] : List Int) intRow,cI 0,cI 0,cI 0,cI 0,cI 0]),(5,(Vec.row x2))]⟩) (fun v => QU n r1 x1 x2 v = some r) ?_ ?_
 ·refine Tr.at<|lA 2<|bE H fun r6 er6 H=> vA [.rd,.rd] (zIh n x0 x1 r6 er6)<|lA 1 ?_
  obtain ⟨h2,H⟩ | ⟨h2,H⟩ := bC H
  ·exact qL 8426 232 [13] h2<|uA 11 16777442 224<|jA false H [24,7,6,5,1] [7,6,5]
  refine qL 8426 232 [13] h2<|lA 3<|bE H fun v7 ev7 H=> iA Pt.row ev7<|lA 4 ?_
  obtain ⟨h3,H⟩ | ⟨h3,H⟩ := bC H
  ·exact qL 2097378 224 [21] h3<|uA 3 16777442 224<|jA false H [24,7,6,5,1] [7,6,5]
  exact qL 2097378 224 [21] h3<|lA 1<|bE H fun r8 er8 H=> vA [.rd] (zDJ n x2 r8 er8)<|uA 1 16777442 224<|jA r8 H [24,7,6,5,1] [7,6,5]
 rintro y2 H
 have H : (QU n r1 x1 x2 y2) = some r := H
 unfold QU at H
 cases h1 : y2
 ·have H := qe h1 H
  exact nB_<|tK<|gA 2 64 64<|te (fJ [(true,(zA.row r1))] H)
 have H := qf h1 H
 refine tB_<|bE H fun v3 ev3 H=> bE H fun v4 ev4 H=> Tr.draws mixed 13 kr ⟨38,0,[sA 7 7 11 0,sA 6 6 11 0],[(7,[cI r1.Id,cS r1.Name,cL 8 ((r1.Ps.set (x1.toNat) (⟨v3.Up,v3.Co,true,v3.Hd⟩ : Pt)).set (x1.toNat) (⟨v4.Up,v4.Co,v4.Has,x2⟩ : Pt)) Pt.row,cL 5 r1.F zB.row,cL 3 r1.V.Rows zC.row,cL 1 r1.V.Pv intRow,cI r1.Tk,cI r1.Pa,cI r1.Wo,cI r1.Dr,cI r1.Ve]),(6,[cI 0,cS (⟨#[]⟩ : ByteArray),cL 8 ([] : List Pt) Pt.row,cL 5 ([] : List zB) zB.row,cL 3 ([] : List zC) zC.row,cL 1 ([] : List Int) intRow,cI 0,cI 0,cI 0,cI 0,cI 0])]⟩ (fun cx=>?_) ?_
 ·refine mA zFs [(0,[]),(1,[9,12]),(2,[]),(3,[]),(4,[9,12]),(5,[]),(6,[12])] 6 [⟨[12],33,5,31⟩,⟨[9,12],24,28,29⟩,⟨[9,12],24,25,26⟩] fun cx=>oN zFs 7 Pt.row ev3 fun cx=>mA zFs [(8,[])] 4 [⟨[12],33,5,31⟩,⟨[9,12],24,28,29⟩,⟨[9,12],24,25,26⟩] fun cx=>sA_ 12717129952 224 ⟨38,0,[(33,.adr (.box 7) [(0,0),(2,(x1.toNat))] 8 2),sV 31 (Vec.row x2),sI 30 x1,sR 29 7 11 2 1 false,sA 28 7 11 2,sR 26 7 11 2 1 false,sA 25 7 11 2,sA 7 7 11 0,sA 6 6 11 0,sA 5 5 5 0],[(7,(zA.row r1)),(6,[cI 0,cS (⟨#[]⟩ : ByteArray),cL 8 ([] : List Pt) Pt.row,cL 5 ([] : List zB) zB.row,cL 3 ([] : List zC) zC.row,cL 1 ([] : List Int) intRow,cI 0,cI 0,cI 0,cI 0,cI 0]),(5,(Vec.row x2))]⟩<|mC zFs 9<|LAt.storeB tOk (t := 4) (ty := 0) (ad := (.tmp 33)) (x := (.const (.bool true))) (g := none) (tI 4) false [cB true] 7 2 (x1.toNat) 8 2 8 r1.Ps Pt.row v3 (⟨v3.Up,v3.Co,true,v3.Hd⟩ : Pt) kr kr kr kr kr kr kr kr (zK ev3).2 kr kr kr kr<|fA<|oN zFs 10 Pt.row ev4 fun cx=>mA zFs [(11,[])] 1 [⟨[12],33,5,31⟩,⟨[9,12],24,28,29⟩,⟨[9,12],24,25,26⟩] fun cx=>sA_ 37413191904 224 ⟨38,0,[(35,.adr (.box 7) [(0,0),(2,(x1.toNat))] 8 3),sV 31 (Vec.row x2),sA 28 7 11 2,sA 25 7 11 2,sA 7 7 11 0,sA 6 6 11 0,sA 5 5 5 0,sR 29 7 11 2 1 false,sR 26 7 11 2 1 false],[(7,[cI r1.Id,cS r1.Name,cL 8 (r1.Ps.set (x1.toNat) (⟨v3.Up,v3.Co,true,v3.Hd⟩ : Pt)) Pt.row,cL 5 r1.F zB.row,cL 3 r1.V.Rows zC.row,cL 1 r1.V.Pv intRow,cI r1.Tk,cI r1.Pa,cI r1.Wo,cI r1.Dr,cI r1.Ve]),(6,[cI 0,cS (⟨#[]⟩ : ByteArray),cL 8 ([] : List Pt) Pt.row,cL 5 ([] : List zB) zB.row,cL 3 ([] : List zC) zC.row,cL 1 ([] : List Int) intRow,cI 0,cI 0,cI 0,cI 0,cI 0]),(5,(Vec.row x2))]⟩ ?_
  exact mC zFs 12<|LAt.storeB tOk (t := 33) (ty := 0) (ad := (.tmp 35)) (x := (.tmp 31)) (g := none) (tI 33) true (Vec.row x2) 7 2 (x1.toNat) 8 3 8 (r1.Ps.set (x1.toNat) (⟨v3.Up,v3.Co,true,v3.Hd⟩ : Pt)) Pt.row v4 (⟨v4.Up,v4.Co,v4.Has,x2⟩ : Pt) kr kr kr kr kr kr kr kr (zK ev4).2 kr kr kr kr<|fA<|mE zFs [7,6] [7,6]
 exact Tr.at<|bE H fun r5 er5 H=> vL [.lend] (zCz n (⟨r1.Id,r1.Name,((r1.Ps.set (x1.toNat) (⟨v3.Up,v3.Co,true,v3.Hd⟩ : Pt)).set (x1.toNat) (⟨v4.Up,v4.Co,v4.Has,x2⟩ : Pt)),r1.F,r1.V,r1.Tk,r1.Pa,r1.Wo,r1.Dr,r1.Ve⟩ : zA) r5 er5)<|dA 192 192<|gA 2 64 64<|te (fJ [(true,(zA.row r5))] H)
def ZF (n : Nat) (x0 : Net) (x1 : Int) (x2 : Int) (x3 : Vec) : Option (Net) :=
  ((idx x0.Bs x1).bind fun v1 => ((Zg n v1 x2 x3).bind fun r2 => (some (⟨(x0.Bs.set (x1.toNat) r2),x0.Ls,x0.Said⟩ : Net))))
def zPt : Tab := ⟨17,[0,1,2,4,0,0,32,64,128,0,768,1024,0,0,14336,32767,65535],[0,1,2,4,0,0,32,64,128,0,768,1024,0,0,14336,24,49152],[0,1,3,7,0,0,32,96,224,0,992,2016,0,0,16352,32767,65535]⟩
noncomputable abbrev G147 (k : Nat) := Rg Tryz.f147 k
noncomputable abbrev D147 (k : Nat) := Rd Tryz.f147 k
theorem zEM : zc (rg Tryz.f147 1) zPt = true := kr
theorem zCi (n : Nat) (x0 : Net) (x1 : Int) (x2 : Int) (x3 : Vec) (r : Net) (H : ZF n x0 x1 x2 x3 = some r) : zE Tryz.prog 147 [.ptr (Net.row x0),.val false [.lit (.int .i64 x1)],.val false [.lit (.int .i64 x2)],.val true (fR (Vec.row x3))] [] [(0,(Net.row r))] := by
 refine zE.of_body tOk Tryz.func147 rfl (c := (.seq (G147 0) (D147 1))) kr (Nat.le_of_ble_eq_true kr) 1 (rs := []) rfl [] .nil [] [] [(0,(Net.row r))] fun cx=>?_
 show Tr _ _ _ ⟨24,1,[sA 0 0 3 0,sI 1 x1,sI 2 x2,sV 3 (Vec.row x3)],[(0,(Net.row x0))]⟩ _
 unfold ZF at H
 refine gA 1 135 129<|bE H fun v1 ev1 H=> bE H fun r2 er2 H=> Tr.draw mixed 17 kr ⟨24,1,[sA 0 0 3 0],[(0,[cL 11 (x0.Bs.set (x1.toNat) r2) zA.row,cL 4 x0.Ls Link.row,cL 7 x0.Said Say.row])]⟩ (fun cx=>?_) ?_
 ·exact mA zEM (zl [0,1,2]++[(3,[16])]++zl [4,5,6,7]++[(8,[14,16]),(9,[])]) 7 [⟨[14,16],49,15,16⟩,⟨[16],49,10,11⟩] fun cx=>oN zEM 10 zA.row ev1 fun cx=>mA zEM [(12,[]),(13,[14,16])] 4 [⟨[14,16],33,7,21⟩,⟨[14,16],49,15,16⟩,⟨[16],49,10,11⟩] fun cx=>mC zEM 11<|dE (tI 31) (.box 0) [(0,0),(0,(x1.toNat))] 11 0 [.sl true 3 [(Net.row x0)]] (zA.row v1) (zQ rfl (zK ev1).2)<|fA<|mC zEM 14<|LAt.callO tOk [.rd,.rd,.rd] (f := 17) (av := #[.tmp 19,.tmp 20,.tmp 21]) (ats := #[31,3,33]) (d := (some 22)) (ty := 31) (g := none) [(19,zA.row v1)] none kr kr kr [.box 0] (zLt n v1 x2 x3 r2 er2) (zBk (row := [.sl true 3 [(Net.row x0)]]) (q := [(0,0),(0,(x1.toNat))]) kr (zQ rfl (zK ev1).2) zC8) kr zC7 (.inr (And.intro (zM (zA.row_mine _) zT) zBl))<|fA<|oN zEM 15 zA.row ev1 fun cx=>sA_ 14781569 129 ⟨24,1,[(23,.adr (.box 0) [(0,0),(0,(x1.toNat))] 11 0),sV 22 (zA.row r2),sV 21 (Vec.row x3),sR 16 0 3 0 1 false,sA 15 0 3 0,sR 11 0 3 0 1 false,sA 10 0 3 0,sA 7 7 5 0,sA 0 0 3 0],[(7,(Vec.row x3)),(0,(Net.row x0))]⟩<|mC zEM 16<|LAt.storeB tOk (t := 31) (ty := 0) (ad := (.tmp 23)) (x := (.tmp 22)) (g := none) (tI 31) true (zA.row r2) 0 0 (x1.toNat) 11 0 11 x0.Bs zA.row v1 r2 kr kr kr kr kr kr kr kr (zK ev1).2 kr kr kr kr<|fA<|mE zEM [0] [0]
 exact fY [] [(0,[cL 11 (x0.Bs.set (x1.toNat) r2) zA.row,cL 4 x0.Ls Link.row,cL 7 x0.Said Say.row])] H
def Yb (n : Nat) (x0 : Net) (x1 : Int) (x2 : Bool) : Option (Net) :=
  ((idx x0.Said x1).bind fun v1 => (bif (decide ((0 : Int) ≤ 0) && (decide ((0 : Int) ≤ x1) && decide ((x1 : Int) ≤ (x0.Said.length : Int)))) then (bif (decide (([] : List Say).length + ((x0.Said.drop ((0 : Int)).toNat).take (((x1 : Int)).toNat - ((0 : Int)).toNat)).length ≤ 268435456)) then (bif (decide ((0 : Int) ≤ (IntKind.wrap .i64 (x1 + 1))) && (decide (((IntKind.wrap .i64 (x1 + 1)) : Int) ≤ (x0.Said.length : Int)) && decide (((x0.Said.length : Int) : Int) ≤ (x0.Said.length : Int)))) then (bif (decide ((([] : List Say) ++ ((x0.Said.drop ((0 : Int)).toNat).take (((x1 : Int)).toNat - ((0 : Int)).toNat))).length + ((x0.Said.drop (((IntKind.wrap .i64 (x1 + 1)) : Int)).toNat).take ((((x0.Said.length : Int) : Int)).toNat - (((IntKind.wrap .i64 (x1 + 1)) : Int)).toNat)).length ≤ 268435456)) then (bif (!x2) then (some (⟨x0.Bs,x0.Ls,((([] : List Say) ++ ((x0.Said.drop ((0 : Int)).toNat).take (((x1 : Int)).toNat - ((0 : Int)).toNat))) ++ ((x0.Said.drop (((IntKind.wrap .i64 (x1 + 1)) : Int)).toNat).take ((((x0.Said.length : Int) : Int)).toNat - (((IntKind.wrap .i64 (x1 + 1)) : Int)).toNat)))⟩ : Net)) else ((Z9 n (⟨x0.Bs,x0.Ls,((([] : List Say) ++ ((x0.Said.drop ((0 : Int)).toNat).take (((x1 : Int)).toNat - ((0 : Int)).toNat))) ++ ((x0.Said.drop (((IntKind.wrap .i64 (x1 + 1)) : Int)).toNat).take ((((x0.Said.length : Int) : Int)).toNat - (((IntKind.wrap .i64 (x1 + 1)) : Int)).toNat)))⟩ : Net) v1.Link).bind fun r6 => (bif (!r6) then (some (⟨x0.Bs,x0.Ls,((([] : List Say) ++ ((x0.Said.drop ((0 : Int)).toNat).take (((x1 : Int)).toNat - ((0 : Int)).toNat))) ++ ((x0.Said.drop (((IntKind.wrap .i64 (x1 + 1)) : Int)).toNat).take ((((x0.Said.length : Int) : Int)).toNat - (((IntKind.wrap .i64 (x1 + 1)) : Int)).toNat)))⟩ : Net)) else ((idx x0.Ls v1.Link).bind fun v7 => (bif v1.Back then ((ZF n (⟨x0.Bs,x0.Ls,((([] : List Say) ++ ((x0.Said.drop ((0 : Int)).toNat).take (((x1 : Int)).toNat - ((0 : Int)).toNat))) ++ ((x0.Said.drop (((IntKind.wrap .i64 (x1 + 1)) : Int)).toNat).take ((((x0.Said.length : Int) : Int)).toNat - (((IntKind.wrap .i64 (x1 + 1)) : Int)).toNat)))⟩ : Net) v7.A v7.P v1.V).bind fun r9 => (some r9)) else ((ZF n (⟨x0.Bs,x0.Ls,((([] : List Say) ++ ((x0.Said.drop ((0 : Int)).toNat).take (((x1 : Int)).toNat - ((0 : Int)).toNat))) ++ ((x0.Said.drop (((IntKind.wrap .i64 (x1 + 1)) : Int)).toNat).take ((((x0.Said.length : Int) : Int)).toNat - (((IntKind.wrap .i64 (x1 + 1)) : Int)).toNat)))⟩ : Net) v7.B v7.Q v1.V).bind fun r8 => (some r8))))))) else none) else none) else none) else none))
def zPk : Tab := ⟨19,[0,0,2,4,8,0,48,64,0,256,512,1024,0,4096,10240,16512,65535,131071,196607],[0,0,2,4,8,0,48,64,0,256,512,1024,0,4096,10240,16512,1,65536,163840],[0,0,2,6,14,0,62,126,0,256,768,1792,0,4096,16128,32766,65535,131071,262143]⟩
noncomputable abbrev zNE (k : Nat) := Rg Tryz.f141 k
noncomputable abbrev zOK (k : Nat) := Rd Tryz.f141 k
theorem YB : zc (rg Tryz.f141 1) zPk = true := kr
theorem zJi (n : Nat) (x0 : Net) (x1 : Int) (x2 : Bool) (r : Net) (H : Yb n x0 x1 x2 = some r) : zE Tryz.prog 141 [.ptr (Net.row x0),.val false [.lit (.int .i64 x1)],.val false [.lit (.bool x2)]] [] [(0,(Net.row r))] := by
 refine zE.of_body tOk Tryz.func141 rfl (c := (.seq (zNE 0) (.seq (zOK 1) (.seq (.seq (zOK 2) (.cond (.tmp 43) .ret .skip)) (.seq (zOK 3) (.seq (zNE 4) (.cond (.tmp 53) (zNE 5) (zNE 6)))))))) kr (Nat.le_of_ble_eq_true kr) 1 (rs := []) rfl [] .nil [] [] [(0,(Net.row r))] fun cx=>?_
 show Tr _ _ _ ⟨70,1,[sA 0 0 3 0,sI 1 x1,sB 2 x2],[(0,(Net.row x0))]⟩ _
 unfold Yb at H
 refine rA 5<|bE H fun v1 ev1 H=> oA Say.row ev1<|dE (tI 127) (.box 0) [(0,0),(2,(x1.toNat))] 7 0 [.sl true 3 [(Net.row x0)]] (Say.row v1) (zQ rfl (zK ev1).2)<|uA 2 71 65<|Tr.frzP 0 2 1<|gE H fun hg2 H=> gE H fun hg3 H=> gE H fun hg4 H=> gE H fun hg5 H=> Tr.draws mixed 19 kr ⟨70,1,[sA 6 6 7 0,sA 0 0 3 0,sB 2 x2],[(0,[cL 11 x0.Bs zA.row,cL 4 x0.Ls Link.row,cL 7 ((([] : List Say) ++ ((x0.Said.drop ((0 : Int)).toNat).take (((x1 : Int)).toNat - ((0 : Int)).toNat))) ++ ((x0.Said.drop (((wI (x1 + 1)) : Int)).toNat).take ((((x0.Said.length : Int) : Int)).toNat - (((wI (x1 + 1)) : Int)).toNat))) Say.row]),(6,(Say.row v1))]⟩ (fun cx=>?_) ?_
 ·refine mA YB (zl [0,1,2,3]++[(4,[6,7,15,18])]++zl [5,8,9,10]++[(11,[14,15,18]),(12,[]),(13,[])]) 7 [⟨[14,15,18],51,25,26⟩,⟨[6,7,15,18],51,18,19⟩] fun cx=>mB2 tOk YB 6 14 kr (And.intro kr ?_) (And.intro kr ?_)
  ·refine LAt.cutG tOk (t := 51) (ty := 51) (e := 127) (x := (.tmp 19)) (lo := none) (hi := (some (.tmp 20))) (d := 21) (g := none) (tI 127) Say.row x0.Said ⟨(.box 0),[(0,0)],2,false,7,(CV.frzEs (x0.Said.map Say.row))⟩ 0 x1 kr kr kr kr kr kr rfl kr rfl kr kr hg2<|fA<|mB2 tOk YB 7 14 kr (And.intro kr ?_) (And.intro kr ?_)
   ·exact LAt.appCU tOk (t := 51) (ty := 51) (e := 127) (x := (.const (.slice none 0 0))) (y := (.tmp 21)) (d := 22) (g := none) (tI 127) Say.row ([] : List Say) ((x0.Said.drop ((0 : Int)).toNat).take (((x1 : Int)).toNat - ((0 : Int)).toNat)) ⟨(.slot 21),[],0,false,7,(CV.frzEs (((x0.Said.drop ((0 : Int)).toNat).take (((x1 : Int)).toNat - ((0 : Int)).toNat)).map Say.row))⟩ kr kr kr kr kr kr kr kr kr kr kr (.inr rfl) (fun _ => rfl) (fun _ => rfl) hg3<|fA<|mC YB 14<|LAt.cutG tOk (t := 51) (ty := 51) (e := 127) (x := (.tmp 26)) (lo := (some (.tmp 28))) (hi := none) (d := 29) (g := none) (tI 127) Say.row x0.Said ⟨(.box 0),[(0,0)],2,false,7,(CV.frzEs (x0.Said.map Say.row))⟩ (wI (x1 + 1)) (x0.Said.length : Int) kr kr kr kr kr kr rfl kr rfl kr kr hg4<|fA<|mC YB 15<|pD Say.row hg5<|fA<|mA YB [(16,[]),(17,[])] 1 [⟨[14,15,18],51,25,26⟩,⟨[6,7,15,18],51,18,19⟩] fun cx=>mC YB 18<|lA 1<|fA<|mE YB [6,0,2] [0,6]
   ·exact LAt.cutG tOk (t := 51) (ty := 51) (e := 127) (x := (.tmp 26)) (lo := (some (.tmp 28))) (hi := none) (d := 29) (g := none) (tI 127) Say.row x0.Said ⟨(.box 0),[(0,0)],2,false,7,(CV.frzEs (x0.Said.map Say.row))⟩ (wI (x1 + 1)) (x0.Said.length : Int) kr kr kr kr kr kr rfl kr rfl kr kr hg4<|fA<|mC YB 7<|LAt.appCU tOk (t := 51) (ty := 51) (e := 127) (x := (.const (.slice none 0 0))) (y := (.tmp 21)) (d := 22) (g := none) (tI 127) Say.row ([] : List Say) ((x0.Said.drop ((0 : Int)).toNat).take (((x1 : Int)).toNat - ((0 : Int)).toNat)) ⟨(.slot 21),[],0,false,7,(CV.frzEs (((x0.Said.drop ((0 : Int)).toNat).take (((x1 : Int)).toNat - ((0 : Int)).toNat)).map Say.row))⟩ kr kr kr kr kr kr kr kr kr kr kr (.inr rfl) (fun _ => rfl) (fun _ => rfl) hg3<|fA<|mC YB 15<|pD Say.row hg5<|fA<|mA YB [(16,[]),(17,[])] 1 [⟨[14,15,18],51,25,26⟩,⟨[6,7,15,18],51,18,19⟩] fun cx=>mC YB 18<|lA 1<|fA<|mE YB [6,0,2] [0,6]
  ·exact LAt.cutG tOk (t := 51) (ty := 51) (e := 127) (x := (.tmp 26)) (lo := (some (.tmp 28))) (hi := none) (d := 29) (g := none) (tI 127) Say.row x0.Said ⟨(.box 0),[(0,0)],2,false,7,(CV.frzEs (x0.Said.map Say.row))⟩ (wI (x1 + 1)) (x0.Said.length : Int) kr kr kr kr kr kr rfl kr rfl kr kr hg4<|fA<|mC YB 6<|LAt.cutG tOk (t := 51) (ty := 51) (e := 127) (x := (.tmp 19)) (lo := none) (hi := (some (.tmp 20))) (d := 21) (g := none) (tI 127) Say.row x0.Said ⟨(.box 0),[(0,0)],2,false,7,(CV.frzEs (x0.Said.map Say.row))⟩ 0 x1 kr kr kr kr kr kr rfl kr rfl kr kr hg2<|fA<|mC YB 7<|LAt.appCU tOk (t := 51) (ty := 51) (e := 127) (x := (.const (.slice none 0 0))) (y := (.tmp 21)) (d := 22) (g := none) (tI 127) Say.row ([] : List Say) ((x0.Said.drop ((0 : Int)).toNat).take (((x1 : Int)).toNat - ((0 : Int)).toNat)) ⟨(.slot 21),[],0,false,7,(CV.frzEs (((x0.Said.drop ((0 : Int)).toNat).take (((x1 : Int)).toNat - ((0 : Int)).toNat)).map Say.row))⟩ kr kr kr kr kr kr kr kr kr kr kr (.inr rfl) (fun _ => rfl) (fun _ => rfl) hg3<|fA<|mC YB 15<|pD Say.row hg5<|fA<|mA YB [(16,[]),(17,[])] 1 [⟨[14,15,18],51,25,26⟩,⟨[6,7,15,18],51,18,19⟩] fun cx=>mC YB 18<|lA 1<|fA<|mE YB [6,0,2] [0,6]
 refine tS<|sT ⟨70,1,[sA 6 6 7 0,sA 0 0 3 0,sB 2 x2],[(0,[cL 11 x0.Bs zA.row,cL 4 x0.Ls Link.row,cL 7 ((([] : List Say) ++ ((x0.Said.drop ((0 : Int)).toNat).take (((x1 : Int)).toNat - ((0 : Int)).toNat))) ++ ((x0.Said.drop (((wI (x1 + 1)) : Int)).toNat).take ((((x0.Said.length : Int) : Int)).toNat - (((wI (x1 + 1)) : Int)).toNat))) Say.row]),(6,(Say.row v1))]⟩ ?_
 cases h1 : (!x2)
 ·have H := qe h1 H
  refine bE H fun r6 er6 H=> Tr.draws mixed 11 kr ⟨70,1,[sB 43 (!r6),sA 6 6 7 0,sA 0 0 3 0],[(0,[cL 11 x0.Bs zA.row,cL 4 x0.Ls Link.row,cL 7 ((([] : List Say) ++ ((x0.Said.drop ((0 : Int)).toNat).take (((x1 : Int)).toNat - ((0 : Int)).toNat))) ++ ((x0.Said.drop (((wI (x1 + 1)) : Int)).toNat).take ((((x0.Said.length : Int) : Int)).toNat - (((wI (x1 + 1)) : Int)).toNat))) Say.row]),(6,(Say.row v1))]⟩ (fun cx=>?_) ?_
  ·exact aA (zl [0,1,2]) 8 [] fun cx=>qA 34359738433 65 [35] h1<|aA [(3,[]),(4,[]),(5,[8]),(6,[]),(7,[8])] 3 [⟨[8],3,39,40⟩,⟨[8],53,37,38⟩] fun cx=>bA 8<|vB [.rd,.rd] [.box 0] (zD3 n (⟨x0.Bs,x0.Ls,((([] : List Say) ++ ((x0.Said.drop ((0 : Int)).toNat).take (((x1 : Int)).toNat - ((0 : Int)).toNat))) ++ ((x0.Said.drop (((wI (x1 + 1)) : Int)).toNat).take ((((x0.Said.length : Int) : Int)).toNat - (((wI (x1 + 1)) : Int)).toNat)))⟩ : Net) v1.Link r6 er6) (.inr (zM (zJ zN zg) zT))<|fA<|aA [(9,[]),(10,[])] 0 [⟨[8],3,39,40⟩,⟨[8],53,37,38⟩] fun cx=>eE [43,6,0] [0,6]
  obtain ⟨h2,H⟩ | ⟨h2,H⟩ := bC H
  ·refine qT [43] h2<|nB_<|tK<|bE H fun v7 ev7 H=> Tr.draws mixed 10 kr ⟨70,1,[sA 7 7 4 0,sA 6 6 7 0,sA 0 0 3 0],[(7,(Link.row v7)),(0,[cL 11 x0.Bs zA.row,cL 4 x0.Ls Link.row,cL 7 ((([] : List Say) ++ ((x0.Said.drop ((0 : Int)).toNat).take (((x1 : Int)).toNat - ((0 : Int)).toNat))) ++ ((x0.Said.drop (((wI (x1 + 1)) : Int)).toNat).take ((((x0.Said.length : Int) : Int)).toNat - (((wI (x1 + 1)) : Int)).toNat))) Say.row]),(6,(Say.row v1))]⟩ (fun cx=>?_) ?_
   ·refine aA (zl [0,1,2]++[(3,[9]),(4,[]),(5,[9])]) 4 [⟨[9],3,48,49⟩,⟨[9],50,46,47⟩] fun cx=>aO tOk 6 50 0 47 49 50 none ⟨(.box 0),[(0,0)],1,true,4,(x0.Ls.map Link.row)⟩ v1.Link (v1.Link.toNat) (Link.row v7) _ kr kr kr kr kr kr rfl kr (Qz ev7) rfl rfl (fun cx=>?_)
    refine AT.big2 tOk 7 8 kr (And.intro kr ?_) (And.intro kr ?_)
    ·exact dE (tI 78) (.box 0) [(0,0),(1,(v1.Link.toNat))] 4 0 [.sl true 3 [[cL 11 x0.Bs zA.row,cL 4 x0.Ls Link.row,cL 7 ((([] : List Say) ++ ((x0.Said.drop ((0 : Int)).toNat).take (((x1 : Int)).toNat - ((0 : Int)).toNat))) ++ ((x0.Said.drop (((wI (x1 + 1)) : Int)).toNat).take ((((x0.Said.length : Int) : Int)).toNat - (((wI (x1 + 1)) : Int)).toNat))) Say.row]]] (Link.row v7) (zQ rfl (zK ev7).2)<|fA<|bA 8<|lA 1<|fA<|sA_ 0xbc000000000c1 193 ⟨70,1,[sA 7 7 4 0,sV 51 (Link.row v7),sI 49 v1.Link,sA 48 6 7 0,sR 47 0 3 1 1 false,sA 46 0 3 1,sA 6 6 7 0,sA 0 0 3 0],[(7,[cI 0,cI 0,cI 0,cI 0]),(0,[cL 11 x0.Bs zA.row,cL 4 x0.Ls Link.row,cL 7 ((([] : List Say) ++ ((x0.Said.drop ((0 : Int)).toNat).take (((x1 : Int)).toNat - ((0 : Int)).toNat))) ++ ((x0.Said.drop (((wI (x1 + 1)) : Int)).toNat).take ((((x0.Said.length : Int) : Int)).toNat - (((wI (x1 + 1)) : Int)).toNat))) Say.row]),(6,(Say.row v1))]⟩<|bA 9<|lA 1<|fA<|eE [7,6,0] [7,0,6]
    ·exact lA 1<|fA<|bA 7<|dE (tI 78) (.box 0) [(0,0),(1,(v1.Link.toNat))] 4 0 [.sl true 3 [[cL 11 x0.Bs zA.row,cL 4 x0.Ls Link.row,cL 7 ((([] : List Say) ++ ((x0.Said.drop ((0 : Int)).toNat).take (((x1 : Int)).toNat - ((0 : Int)).toNat))) ++ ((x0.Said.drop (((wI (x1 + 1)) : Int)).toNat).take ((((x0.Said.length : Int) : Int)).toNat - (((wI (x1 + 1)) : Int)).toNat))) Say.row]]] (Link.row v7) (zQ rfl (zK ev7).2)<|fA<|sA_ 0xbc000000000c1 193 ⟨70,1,[sV 51 (Link.row v7),sA 7 7 4 0,sI 49 v1.Link,sA 48 6 7 0,sR 47 0 3 1 1 false,sA 46 0 3 1,sA 6 6 7 0,sA 0 0 3 0],[(7,[cI 0,cI 0,cI 0,cI 0]),(0,[cL 11 x0.Bs zA.row,cL 4 x0.Ls Link.row,cL 7 ((([] : List Say) ++ ((x0.Said.drop ((0 : Int)).toNat).take (((x1 : Int)).toNat - ((0 : Int)).toNat))) ++ ((x0.Said.drop (((wI (x1 + 1)) : Int)).toNat).take ((((x0.Said.length : Int) : Int)).toNat - (((wI (x1 + 1)) : Int)).toNat))) Say.row]),(6,(Say.row v1))]⟩<|bA 9<|lA 1<|fA<|eE [7,6,0] [7,0,6]
   refine gA 2 9007199254741185 193 ?_
   obtain ⟨h3,H⟩ | ⟨h3,H⟩ := bC H
   ·exact qT [53] h3<|nB_<|Tr.at<|lA 7<|bE H fun r8 er8 H=> vL [.lend,.rd,.rd,.rd] (zCi n (⟨x0.Bs,x0.Ls,((([] : List Say) ++ ((x0.Said.drop ((0 : Int)).toNat).take (((x1 : Int)).toNat - ((0 : Int)).toNat))) ++ ((x0.Said.drop (((wI (x1 + 1)) : Int)).toNat).take ((((x0.Said.length : Int) : Int)).toNat - (((wI (x1 + 1)) : Int)).toNat)))⟩ : Net) v7.B v7.Q v1.V r8 er8)<|dA 1 1<|fY [] [(0,(Net.row r8))] H
   exact qT [53] h3<|tB_<|Tr.at<|lA 7<|bE H fun r9 er9 H=> vL [.lend,.rd,.rd,.rd] (zCi n (⟨x0.Bs,x0.Ls,((([] : List Say) ++ ((x0.Said.drop ((0 : Int)).toNat).take (((x1 : Int)).toNat - ((0 : Int)).toNat))) ++ ((x0.Said.drop (((wI (x1 + 1)) : Int)).toNat).take ((((x0.Said.length : Int) : Int)).toNat - (((wI (x1 + 1)) : Int)).toNat)))⟩ : Net) v7.A v7.P v1.V r9 er9)<|dA 1 1<|fY [] [(0,(Net.row r9))] H
  exact qT [43] h2<|tB_<|te<|fY [] [(0,[cL 11 x0.Bs zA.row,cL 4 x0.Ls Link.row,cL 7 ((([] : List Say) ++ ((x0.Said.drop ((0 : Int)).toNat).take (((x1 : Int)).toNat - ((0 : Int)).toNat))) ++ ((x0.Said.drop (((wI (x1 + 1)) : Int)).toNat).take ((((x0.Said.length : Int) : Int)).toNat - (((wI (x1 + 1)) : Int)).toNat))) Say.row])] H
 have H := qf h1 H
 refine Tr.draws mixed 11 kr ⟨70,1,[sB 43 true,sA 6 6 7 0,sA 0 0 3 0],[(0,[cL 11 x0.Bs zA.row,cL 4 x0.Ls Link.row,cL 7 ((([] : List Say) ++ ((x0.Said.drop ((0 : Int)).toNat).take (((x1 : Int)).toNat - ((0 : Int)).toNat))) ++ ((x0.Said.drop (((wI (x1 + 1)) : Int)).toNat).take ((((x0.Said.length : Int) : Int)).toNat - (((wI (x1 + 1)) : Int)).toNat))) Say.row]),(6,(Say.row v1))]⟩ (fun cx=>?_) ?_
 ·exact aA (zl [0,1,2]) 8 [] fun cx=>qA 34359738433 65 [35] h1<|aA (zl [3,4,5,6,7,8,9,10]) 0 [] fun cx=>eE [43,6,0] [0,6]
 exact tB_<|te<|fY [] [(0,[cL 11 x0.Bs zA.row,cL 4 x0.Ls Link.row,cL 7 ((([] : List Say) ++ ((x0.Said.drop ((0 : Int)).toNat).take (((x1 : Int)).toNat - ((0 : Int)).toNat))) ++ ((x0.Said.drop (((wI (x1 + 1)) : Int)).toNat).take ((((x0.Said.length : Int) : Int)).toNat - (((wI (x1 + 1)) : Int)).toNat))) Say.row])] H
def YN (n : Nat) (x0 : zA) (x1 : Int) (x2 : Bool) : Option (zA) :=
  ((Zd n x0).bind fun r1 => ((zAN n x0 x1).bind fun r2 => (bif r2 then ((idx x0.Ps x1).bind fun v3 => ((idx r1.Ps x1).bind fun v4 => ((ZC n (⟨r1.Id,r1.Name,(r1.Ps.set (x1.toNat) (⟨x2,v3.Co,false,(⟨0,0,0,0,0⟩ : Vec)⟩ : Pt)),r1.F,r1.V,r1.Tk,r1.Pa,r1.Wo,r1.Dr,r1.Ve⟩ : zA)).bind fun r5 => (some r5)))) else (some r1))))
def zQV : Tab := ⟨13,[0,1,0,0,0,16,0,96,128,256,520,2047,4095],[0,1,0,0,0,16,0,96,128,256,520,6,3072],[0,1,0,0,0,16,0,112,240,496,1016,2047,4095]⟩
theorem zGn : zc (rg Tryz.f19 3) zQV = true := kr
theorem zHq (n : Nat) (x0 : zA) (x1 : Int) (x2 : Bool) (r : zA) (H : YN n x0 x1 x2 = some r) : zE Tryz.prog 19 [.val true (fR (zA.row x0)),.val false [.lit (.int .i64 x1)],.val false [.lit (.bool x2)]] [.val true (zA.row r)] [] := by
 refine cW Tryz.func19 (fun g d => sl [g 0,g 1,sl [g 2] (cn 12 (sl [d 3] (g 4)) .skip),g 5] .ret) [.cell 6 31] fun cx=>?_
 unfold YN at H
 refine gA 2 78 72<|rA 1<|bE H fun r1 er1 H=> vA [.rd] (zBJ n x0 r1 er1)<|uA 2 206 200<|tS<|rA 2<|bE H fun r2 er2 H=> vA [.rd,.rd] (zIh n x0 x1 r2 er2)<|dA 4302 200 ?_
 cases h1 : r2
 ·have H := qe h1 H
  exact nB_<|tK<|gA 2 64 64<|te (fJ [(true,(zA.row r1))] H)
 have H := qf h1 H
 refine tB_<|bE H fun v3 ev3 H=> bE H fun v4 ev4 H=> Tr.draws mixed 13 kr ⟨27,0,[sA 7 7 11 0,sA 6 6 11 0],[(7,[cI r1.Id,cS r1.Name,cL 8 (r1.Ps.set (x1.toNat) (⟨x2,v3.Co,false,(⟨0,0,0,0,0⟩ : Vec)⟩ : Pt)) Pt.row,cL 5 r1.F zB.row,cL 3 r1.V.Rows zC.row,cL 1 r1.V.Pv intRow,cI r1.Tk,cI r1.Pa,cI r1.Wo,cI r1.Dr,cI r1.Ve]),(6,[cI 0,cS (⟨#[]⟩ : ByteArray),cL 8 ([] : List Pt) Pt.row,cL 5 ([] : List zB) zB.row,cL 3 ([] : List zC) zC.row,cL 1 ([] : List Int) intRow,cI 0,cI 0,cI 0,cI 0,cI 0])]⟩ (fun cx=>?_) ?_
 ·exact mA zGn ([(0,[]),(1,[12])]++zl [2,3,4]++[(5,[10,12]),(6,[])]) 6 [⟨[10,12],24,17,18⟩,⟨[12],24,13,14⟩] fun cx=>iN zGn 7 Pt.row ev3 fun cx=>mA zGn [(8,[]),(9,[])] 3 [⟨[10,12],24,17,18⟩,⟨[12],24,13,14⟩] fun cx=>mC zGn 10<|lA 1<|fA<|oN zGn 11 Pt.row ev4 fun cx=>mC zGn 12<|LAt.storeB tOk (t := 100) (ty := 0) (ad := (.tmp 24)) (x := (.tmp 23)) (g := none) (tI 100) true [cB x2,cI v3.Co,cB false,cI 0,cI 0,cI 0,cI 0,cI 0] 7 2 (x1.toNat) 8 0 8 r1.Ps Pt.row v4 (⟨x2,v3.Co,false,(⟨0,0,0,0,0⟩ : Vec)⟩ : Pt) kr kr kr kr kr kr kr kr (zK ev4).2 kr kr kr kr<|fA<|mE zGn [7,6] [7,6]
 exact Tr.at<|bE H fun r5 er5 H=> vL [.lend] (zCz n (⟨r1.Id,r1.Name,(r1.Ps.set (x1.toNat) (⟨x2,v3.Co,false,(⟨0,0,0,0,0⟩ : Vec)⟩ : Pt)),r1.F,r1.V,r1.Tk,r1.Pa,r1.Wo,r1.Dr,r1.Ve⟩ : zA) r5 er5)<|dA 192 192<|gA 2 64 64<|te (fJ [(true,(zA.row r5))] H)
def zAI (n : Nat) (x0 : Net) (x1 : Int) (x2 : Bool) : Option (Net) :=
  ((Z9 n x0 x1).bind fun r1 => (bif (r1 == x2) then (some x0) else ((idx x0.Ls x1).bind fun v2 => ((idx x0.Bs v2.A).bind fun v3 => ((YN n v3 v2.P x2).bind fun r4 => ((idx (x0.Bs.set (v2.A.toNat) r4) v2.B).bind fun v5 => ((YN n v5 v2.Q x2).bind fun r6 => (some (⟨((x0.Bs.set (v2.A.toNat) r4).set (v2.B.toNat) r6),x0.Ls,x0.Said⟩ : Net)))))))))
def zPl : Tab := ⟨20,[0,1,2,4,0,16,0,64,128,256,0,1024,2560,4096,0,16384,0,106496,262143,524287],[0,1,2,4,0,16,0,64,128,256,0,1024,2560,4096,0,16384,0,106496,40,393216],[0,1,3,7,0,16,0,64,192,448,0,1024,4032,8128,0,16384,0,131008,262143,524287]⟩
noncomputable abbrev zPV (k : Nat) := Rg Tryz.f142 k
noncomputable abbrev zPP (k : Nat) := Rd Tryz.f142 k
theorem zEG : zc (rg Tryz.f142 2) zPl = true := kr
def zPm : Tab := ⟨20,[0,1,2,4,0,16,0,64,128,256,0,1024,2560,4096,0,16384,0,106496,262143,524287],[0,1,2,4,0,16,0,64,128,256,0,1024,2560,4096,0,16384,0,106496,40,393216],[0,1,3,7,0,16,0,64,192,448,0,1024,4032,8128,0,16384,0,131008,262143,524287]⟩
theorem zEH : zc (rg Tryz.f142 3) zPm = true := kr
theorem zLQ (n : Nat) (x0 : Net) (x1 : Int) (x2 : Bool) (r : Net) (H : zAI n x0 x1 x2 = some r) : zE Tryz.prog 142 [.ptr (Net.row x0),.val false [.lit (.int .i64 x1)],.val false [.lit (.bool x2)]] [] [(0,(Net.row r))] := by
 refine zE.of_body tOk Tryz.func142 rfl (c := (.seq (.seq (zPV 0) (.cond (.tmp 13) .ret .skip)) (.seq (zPV 1) (.seq (zPP 2) (zPP 3))))) kr (Nat.le_of_ble_eq_true kr) 1 (rs := []) rfl [] .nil [] [] [(0,(Net.row r))] fun cx=>?_
 show Tr _ _ _ ⟨59,1,[sA 0 0 3 0,sI 1 x1,sB 2 x2],[(0,(Net.row x0))]⟩ _
 unfold zAI at H
 refine tS<|rA 4<|bE H fun r1 er1 H=> vB [.rd,.rd] [.box 0] (zD3 n x0 x1 r1 er1) (.inr (zM (zJ zN zg) zT))<|uA 2 8199 1 ?_
 obtain ⟨h1,H⟩ | ⟨h1,H⟩ := bC H
 ·refine nA h1<|tK<|rA 5<|bE H fun v2 ev2 H=> oA Link.row ev2<|dE (tI 78) (.box 0) [(0,0),(1,(x1.toNat))] 4 0 [.sl true 3 [(Net.row x0)]] (Link.row v2) (zQ rfl (zK ev2).2)<|uA 2 69 65<|bE H fun v3 ev3 H=> bE H fun r4 er4 H=> Tr.draws mixed 20 kr ⟨59,1,[sA 6 6 4 0,sA 0 0 3 0,sB 2 x2],[(0,[cL 11 (x0.Bs.set (v2.A.toNat) r4) zA.row,cL 4 x0.Ls Link.row,cL 7 x0.Said Say.row]),(6,(Link.row v2))]⟩ (fun cx=>?_) ?_
  ·refine mA zEG (zl [0,1,2]++[(3,[19]),(4,[]),(5,[19])]++zl [6,7,8]++[(9,[17,19]),(10,[]),(11,[17,19])]) 8 [⟨[17,19],3,31,32⟩,⟨[17,19],49,29,30⟩,⟨[19],3,25,26⟩,⟨[19],49,23,24⟩] fun cx=>oN zEG 12 zA.row ev3 fun cx=>mA zEG [(14,[]),(15,[17,19]),(16,[])] 4 [⟨[17,19],3,35,36⟩,⟨[17,19],3,31,32⟩,⟨[17,19],49,29,30⟩,⟨[19],3,25,26⟩,⟨[19],49,23,24⟩] fun cx=>mC zEG 13<|dE (tI 31) (.box 0) [(0,0),(0,(v2.A.toNat))] 11 0 [.sl true 3 [(Net.row x0)]] (zA.row v3) (zQ rfl (zK ev3).2)<|fA<|mC zEG 17<|LAt.callO tOk [.rd,.rd,.rd] (f := 19) (av := #[.tmp 34,.tmp 36,.tmp 37]) (ats := #[31,3,4]) (d := (some 38)) (ty := 31) (g := none) [(34,zA.row v3)] none kr kr kr [.box 0] (zHq n v3 v2.P x2 r4 er4) (zBk (row := [.sl true 3 [(Net.row x0)]]) (q := [(0,0),(0,(v2.A.toNat))]) kr (zQ rfl (zK ev3).2) zC8) kr zC7 (.inr (And.intro (zM (zA.row_mine _) zT) zBl))<|fA<|oN zEG 18 zA.row ev3 fun cx=>sA_ 935891828805 65 ⟨59,1,[(39,.adr (.box 0) [(0,0),(0,(v2.A.toNat))] 11 0),sV 38 (zA.row r4),sI 36 v2.P,sA 35 6 4 1,sI 32 v2.A,sA 31 6 4 0,sR 30 0 3 0 1 false,sA 29 0 3 0,sI 26 v2.A,sA 25 6 4 0,sR 24 0 3 0 1 false,sA 23 0 3 0,sA 6 6 4 0,sA 0 0 3 0,sB 2 x2],[(6,(Link.row v2)),(0,(Net.row x0))]⟩<|mC zEG 19<|LAt.storeB tOk (t := 31) (ty := 0) (ad := (.tmp 39)) (x := (.tmp 38)) (g := none) (tI 31) true (zA.row r4) 0 0 (v2.A.toNat) 11 0 11 x0.Bs zA.row v3 r4 kr kr kr kr kr kr kr kr (zK ev3).2 kr kr kr kr ?_
   exact fA<|mE zEG [6,0,2] [0,6]
  refine bE H fun v5 ev5 H=> bE H fun r6 er6 H=> Tr.draw mixed 20 kr ⟨59,1,[sA 0 0 3 0],[(0,[cL 11 ((x0.Bs.set (v2.A.toNat) r4).set (v2.B.toNat) r6) zA.row,cL 4 x0.Ls Link.row,cL 7 x0.Said Say.row])]⟩ (fun cx=>?_) ?_
  ·refine mA zEH (zl [0,1,2]++[(3,[19]),(4,[]),(5,[19])]++zl [6,7,8]++[(9,[17,19]),(10,[]),(11,[17,19])]) 8 [⟨[17,19],3,50,51⟩,⟨[17,19],49,48,49⟩,⟨[19],3,44,45⟩,⟨[19],49,42,43⟩] fun cx=>oN zEH 12 zA.row ev5 fun cx=>mA zEH [(14,[]),(15,[17,19]),(16,[])] 4 [⟨[17,19],3,54,55⟩,⟨[17,19],3,50,51⟩,⟨[17,19],49,48,49⟩,⟨[19],3,44,45⟩,⟨[19],49,42,43⟩] fun cx=>mC zEH 13<|dE (tI 31) (.box 0) [(0,0),(0,(v2.B.toNat))] 11 0 [.sl true 3 [[cL 11 (x0.Bs.set (v2.A.toNat) r4) zA.row,cL 4 x0.Ls Link.row,cL 7 x0.Said Say.row]]] (zA.row v5) (zQ rfl (zK ev5).2)<|fA<|mC zEH 17<|LAt.callO tOk [.rd,.rd,.rd] (f := 19) (av := #[.tmp 53,.tmp 55,.tmp 56]) (ats := #[31,3,4]) (d := (some 57)) (ty := 31) (g := none) [(53,zA.row v5)] none kr kr kr [.box 0] (zHq n v5 v2.Q x2 r6 er6) (zBk (row := [.sl true 3 [[cL 11 (x0.Bs.set (v2.A.toNat) r4) zA.row,cL 4 x0.Ls Link.row,cL 7 x0.Said Say.row]]]) (q := [(0,0),(0,(v2.B.toNat))]) kr (zQ rfl (zK ev5).2) zC8) kr zC7 (.inr (And.intro (zM (zA.row_mine _) zT) zBl))<|fA<|oN zEH 18 zA.row ev5 fun cx=>sA_ 0x6cf3c0000000001 65 ⟨59,1,[(58,.adr (.box 0) [(0,0),(0,(v2.B.toNat))] 11 0),sV 57 (zA.row r6),sI 55 v2.Q,sA 54 6 4 3,sI 51 v2.B,sA 50 6 4 2,sR 49 0 3 0 1 false,sA 48 0 3 0,sI 45 v2.B,sA 44 6 4 2,sR 43 0 3 0 1 false,sA 42 0 3 0,sA 0 0 3 0],[(0,[cL 11 (x0.Bs.set (v2.A.toNat) r4) zA.row,cL 4 x0.Ls Link.row,cL 7 x0.Said Say.row]),(6,(Link.row v2))]⟩ ?_
   exact mC zEH 19<|LAt.storeB tOk (t := 31) (ty := 0) (ad := (.tmp 58)) (x := (.tmp 57)) (g := none) (tI 31) true (zA.row r6) 0 0 (v2.B.toNat) 11 0 11 (x0.Bs.set (v2.A.toNat) r4) zA.row v5 r6 kr kr kr kr kr kr kr kr (zK ev5).2 kr kr kr kr<|fA<|mE zEH [0] [0]
  exact fY [] [(0,[cL 11 ((x0.Bs.set (v2.A.toNat) r4).set (v2.B.toNat) r6) zA.row,cL 4 x0.Ls Link.row,cL 7 x0.Said Say.row])] H
 exact tA h1<|te<|fY [] [(0,(Net.row x0))] H
def JU (n : Nat) (r1 : Net) (x1 : Event) (y5 : Bool) : Option (Net × Bool) :=
  (bif y5 then ((Yb n r1 x1.At (x1.Ki == 2)).bind fun r7 => (some (r7,true))) else ((zAI n r1 x1.At (x1.Ki == 5)).bind fun r6 => (some (r6,true))))
def ZM (n : Nat) (r1 : Net) (x0 : Net) (x1 : Event) (y3 : Int) : Option (Net × Bool) :=
  ((qK n x1.At 0 (IntKind.wrap .i64 (y3 - 1))).bind fun r4 => (bif (!r4) then (some (r1,false)) else (bif (x1.Ki == 1) then ((Jr n r1 x1.At).bind fun r11 => (some (r11,true))) else (bif (x1.Ki == 6) then ((idx x0.Bs x1.At).bind fun v8 => ((zB1 n v8).bind fun r9 => ((idx r1.Bs x1.At).bind fun v10 => (some ((⟨(r1.Bs.set (x1.At.toNat) r9),r1.Ls,r1.Said⟩ : Net),true))))) else (bif (x1.Ki == 2) then (JU n r1 x1 true) else (JU n r1 x1 (x1.Ki == 3)))))))
def Ym (n : Nat) (r1 : Net) (x0 : Net) (x1 : Event) (y13 : Bool) : Option (Net × Bool) :=
  (bif y13 then (ZM n r1 x0 x1 (x0.Said.length : Int)) else (bif (x1.Ki == 4) then (ZM n r1 x0 x1 (x0.Ls.length : Int)) else (bif (x1.Ki == 5) then (ZM n r1 x0 x1 (x0.Ls.length : Int)) else (ZM n r1 x0 x1 0))))
def Zi (n : Nat) (r1 : Net) (x0 : Net) (x1 : Event) (y12 : Bool) : Option (Net × Bool) :=
  (bif y12 then (ZM n r1 x0 x1 (x0.Bs.length : Int)) else (bif (x1.Ki == 2) then (Ym n r1 x0 x1 true) else (Ym n r1 x0 x1 (x1.Ki == 3))))
def Y9 (n : Nat) (x0 : Net) (x1 : Event) : Option (Net × Bool) :=
  ((YO n x0).bind fun r1 => ((Q9 n x0).bind fun r2 => (bif (!r2) then (some (r1,false)) else (bif (x1.Ki == 1) then (Zi n r1 x0 x1 true) else (Zi n r1 x0 x1 (x1.Ki == 6))))))
def zQB : Tab := ⟨13,[0,1,0,4,0,16,0,64,160,256,512,2047,4095],[0,1,0,4,0,16,0,64,160,256,512,10,3072],[0,1,0,4,0,16,0,64,240,496,1008,2047,4095]⟩
theorem zFQ : zc (rg Tryz.f66 22) zQB = true := kr
theorem zLD (n : Nat) (x0 : Net) (x1 : Event) (r : Net × Bool) (H : Y9 n x0 x1 = some r) : zE Tryz.prog 66 [.val true (fR (Net.row x0)),.val true (fR (Event.row x1))] [.val true (Net.row r.1),.val false [.lit (.bool r.2)]] [] := by
 refine cW Tryz.func66 (fun g d => sl [g 0,g 1,sl [g 2] (cn 12 (sl [g 3] .ret) .skip),g 4,sl [g 5] (.block 0 (sl [sl [g 6] (cn 16 .skip (g 7))] (cn 16 (g 8) (sl [sl [g 9] (cn 22 .skip (g 10))] (cn 22 (g 11) (sl [sl [g 12] (cn 28 .skip (g 13))] (cn 28 (g 14) .skip))))))),sl [g 15] (cn 39 (sl [g 16] .ret) .skip),sl [g 17] (.block 1 (sl [g 19] (cn 49 (g 20) (sl [g 21] (cn 54 (d 22) (sl [sl [g 23] (cn 68 .skip (g 24))] (cn 68 (g 25) (g 18)))))))),g 26] .ret) [.cell 4 53,.tmp 5] fun cx=>?_
 unfold Y9 at H
 refine gA 4 28 28<|rA 1<|bE H fun r1 er1 H=> vA [.rd] (zDK n x0 r1 er1)<|uA 2 92 92<|tS<|rA 1<|bE H fun r2 er2 H=> vA [.rd] (zJh n x0 r2 er2)<|uA 1 4188 92 ?_
 obtain ⟨h1,H⟩ | ⟨h1,H⟩ := bC H
 ·refine nA h1<|tK<|gA 1 220 92<|tS<|Tr.mid (ι := Int) (fun v => ⟨78,0,[sI 7 v,sA 6 6 3 0,sA 4 4 3 0,sA 3 3 2 0,sA 2 2 3 0],[(6,(Net.row r1)),(4,[cL 11 ([] : List zA) zA.row,cL 4 ([] : List Link) Link.row,cL 7 ([] : List Say) Say.row]),(3,(Event.row x1)),(2,(fR (Net.row x0)))]⟩) (fun v => ZM n r1 x0 x1 v = some r) ?_ ?_
  ·refine gA 2 32988 92<|tB<|tS<|Tr.mid (ι := Bool) (fun v => ⟨78,0,[sB 16 v,sI 15 x1.Ki,sI 7 0,sA 6 6 3 0,sA 4 4 3 0,sA 3 3 2 0,sA 2 2 3 0],[(6,(Net.row r1)),(4,[cL 11 ([] : List zA) zA.row,cL 4 ([] : List Link) Link.row,cL 7 ([] : List Say) Say.row]),(3,(Event.row x1)),(2,(fR (Net.row x0)))]⟩) (fun v => Zi n r1 x0 x1 v = some r) ?_ ?_
   ·refine gA 2 98524 92 ?_
    obtain ⟨h12,H⟩ | ⟨h12,H⟩ := bC H
    ·exact qT [16] h12<|nB_<|eA 2 98524 92<|jA (x1.Ki == 6) H [16,15,7,6,4,3,2] [6,4,3,2]
    exact qT [16] h12<|tB_<|tK<|jA true H [16,15,7,6,4,3,2] [6,4,3,2]
   rintro y12 H
   have H : (Zi n r1 x0 x1 y12) = some r := H
   unfold Zi at H
   cases h7 : y12
   ·have H := qe h7 H
    refine nB_<|tS<|Tr.mid (ι := Bool) (fun v => ⟨78,0,[sB 22 v,sI 15 x1.Ki,sI 7 0,sA 6 6 3 0,sA 4 4 3 0,sA 3 3 2 0,sA 2 2 3 0],[(6,(Net.row r1)),(4,[cL 11 ([] : List zA) zA.row,cL 4 ([] : List Link) Link.row,cL 7 ([] : List Say) Say.row]),(3,(Event.row x1)),(2,(fR (Net.row x0)))]⟩) (fun v => Ym n r1 x0 x1 v = some r) ?_ ?_
    ·refine gA 2 4227292 92 ?_
     obtain ⟨h11,H⟩ | ⟨h11,H⟩ := bC H
     ·exact qT [22] h11<|nB_<|eA 2 4227292 92<|jA (x1.Ki == 3) H [22,15,7,6,4,3,2] [6,4,3,2]
     exact qT [22] h11<|tB_<|tK<|jA true H [22,15,7,6,4,3,2] [6,4,3,2]
    rintro y13 H
    have H : (Ym n r1 x0 x1 y13) = some r := H
    unfold Ym at H
    cases h8 : y13
    ·have H := qe h8 H
     refine nB_<|tS<|gA 2 268468444 92 ?_
     obtain ⟨h9,H⟩ | ⟨h9,H⟩ := bC H
     ·refine qT [28] h9<|nB_<|eA 2 268435676 92 ?_
      obtain ⟨h10,H⟩ | ⟨h10,H⟩ := bC H
      ·exact nA h10<|tK<|jA 0 H [7,6,4,3,2] [6,4,3,2]
      exact tA h10<|Tr.at<|lA 2<|kF x0.Ls Link.row<|uA 1 220 92<|jA (x0.Ls.length : Int) H [7,6,4,3,2] [6,4,3,2]
     exact qT [28] h9<|tB_<|tK<|tB_<|Tr.at<|lA 2<|kF x0.Ls Link.row<|uA 1 220 92<|jA (x0.Ls.length : Int) H [7,6,4,3,2] [6,4,3,2]
    have H := qf h8 H
    exact tB_<|Tr.at<|lA 2<|kF x0.Said Say.row<|uA 1 220 92<|jA (x0.Said.length : Int) H [7,6,4,3,2] [6,4,3,2]
   have H := qf h7 H
   exact tB_<|Tr.at<|lA 2<|kF x0.Bs zA.row<|uA 1 220 92<|jA (x0.Bs.length : Int) H [7,6,4,3,2] [6,4,3,2]
  rintro y3 H
  have H : (ZM n r1 x0 x1 y3) = some r := H
  unfold ZM at H
  refine tS<|rA 4<|bE H fun r4 er4 H=> vA [.rd,.rd,.rd] (qS n x1.At 0 (wI (y3 - 1)) r4 er4)<|uA 1 549755813980 92 ?_
  obtain ⟨h2,H⟩ | ⟨h2,H⟩ := bC H
  ·refine nA h2<|tK<|tS<|gA 2 4398046511196 92<|tB<|gA 2 567347999932508 92 ?_
   obtain ⟨h3,H⟩ | ⟨h3,H⟩ := bC H
   ·refine nA h3<|gA 2 0x4004000000005c 92 ?_
    obtain ⟨h4,H⟩ | ⟨h4,H⟩ := bC H
    ·refine nA h4<|tS<|Tr.mid (ι := Bool) (fun v => ⟨78,0,[sB 68 v,sA 6 6 3 0,sA 4 4 3 0,sA 3 3 2 0],[(6,(Net.row r1)),(4,[cL 11 ([] : List zA) zA.row,cL 4 ([] : List Link) Link.row,cL 7 ([] : List Say) Say.row]),(3,(Event.row x1))]⟩) (fun v => JU n r1 x1 v = some r) ?_ ?_
     ·refine gA 2 0x100000040000000058 88 ?_
      obtain ⟨h6,H⟩ | ⟨h6,H⟩ := bC H
      ·exact qT [68] h6<|nB_<|eA 2 0x100000000000000058 88<|jA (x1.Ki == 3) H [68,6,4,3] [6,4,3]
      exact qT [68] h6<|tB_<|tK<|jA true H [68,6,4,3] [6,4,3]
     rintro y5 H
     have H : (JU n r1 x1 y5) = some r := H
     unfold JU at H
     cases h5 : y5
     ·have H := qe h5 H
      exact nB_<|Tr.at<|lA 5<|bE H fun r6 er6 H=> vL [.lend,.rd,.rd] (zLQ n r1 x1.At (x1.Ki == 5) r6 er6)<|dA 80 80<|gA 3 48 16<|te (fJ [(true,(Net.row r6)),(false,[cB true])] H)
     have H := qf h5 H
     exact tB_<|Tr.at<|lA 5<|bE H fun r7 er7 H=> vL [.lend,.rd,.rd] (zJi n r1 x1.At (x1.Ki == 2) r7 er7)<|dA 80 80<|gA 3 48 16<|te (fJ [(true,(Net.row r7)),(false,[cB true])] H)
    refine tA h4<|bE H fun v8 ev8 H=> bE H fun r9 er9 H=> bE H fun v10 ev10 H=> Tr.draw mixed 13 kr ⟨78,0,[sA 6 6 3 0,sA 4 4 3 0],[(6,[cL 11 (r1.Bs.set (x1.At.toNat) r9) zA.row,cL 4 r1.Ls Link.row,cL 7 r1.Said Say.row]),(4,[cL 11 ([] : List zA) zA.row,cL 4 ([] : List Link) Link.row,cL 7 ([] : List Say) Say.row])]⟩ (fun cx=>?_) ?_
    ·exact mA zFQ [(0,[]),(1,[12]),(2,[]),(3,[12]),(4,[]),(5,[10,12]),(6,[]),(7,[10,12])] 5 [⟨[10,12],3,62,63⟩,⟨[10,12],49,60,61⟩,⟨[12],3,58,59⟩,⟨[12],49,56,57⟩] fun cx=>iN zFQ 8 zA.row ev8 fun cx=>mA zFQ [(9,[])] 3 [⟨[10,12],3,62,63⟩,⟨[10,12],49,60,61⟩,⟨[12],3,58,59⟩,⟨[12],49,56,57⟩] fun cx=>mC zFQ 10<|vA [.rd] (zN1 n v8 r9 er9)<|fA<|oN zFQ 11 zA.row ev10 fun cx=>mC zFQ 12<|LAt.storeB tOk (t := 31) (ty := 0) (ad := (.tmp 67)) (x := (.tmp 66)) (g := none) (tI 31) true (zA.row r9) 6 0 (x1.At.toNat) 11 0 11 r1.Bs zA.row v10 r9 kr kr kr kr kr kr kr kr (zK ev10).2 kr kr kr kr<|fA<|mE zFQ [6,4] [6,4]
    exact gA 3 48 16<|te (fJ [(true,[cL 11 (r1.Bs.set (x1.At.toNat) r9) zA.row,cL 4 r1.Ls Link.row,cL 7 r1.Said Say.row]),(false,[cB true])] H)
   exact tA h3<|Tr.at<|lA 2<|bE H fun r11 er11 H=> vL [.lend,.rd] (zKT n r1 x1.At r11 er11)<|dA 80 80<|gA 3 48 16<|te (fJ [(true,(Net.row r11)),(false,[cB true])] H)
  exact tA h2<|gA 3 48 16<|te (fJ [(true,(Net.row r1)),(false,[cB false])] H)
 exact tA h1<|gA 3 48 16<|te (fJ [(true,(Net.row r1)),(false,[cB false])] H)
def zAE (n : Nat) (y7 : (List Event)) (y8 : (List Int)) (y9 : Int) (y10 : Int) : Option ((List Event) × Src) :=
  (some (y7,(⟨y8,y9,y10⟩ : Src)))
def Zt (n : Nat) : Nat → Int → (List Event) → (List Int) → Int → Int → Option (((List Event) × (List Int) × Int × Int) ⊕ ((List Event) × Src))
  | 0,_,_,_,_,_ => none
  | mo11 + 1,y2,y3,y4,y5,y6 => (bif (decide (y2 > 0)) then ((zX n (⟨y4,y5,y6⟩ : Src) [1,1,1,2,2,2,2,3,4,5,6]).bind fun r12 => ((zG n r12.2 4).bind fun r13 => (bif (decide (y3.length + [(⟨r12.1,r13.1⟩ : Event)].length ≤ 268435456)) then (Zt n mo11 (IntKind.wrap .i64 (y2 - 1)) (y3 ++ [(⟨r12.1,r13.1⟩ : Event)]) r13.2.b r13.2.i r13.2.h) else none))) else (some (Sum.inl (y3,y4,y5,y6))))
def J4 (n : Nat) (x0 : Src) (x1 : Int) : Option ((List Event) × Src) :=
  ((zG n x0 x1).bind fun r1 => ((Zt n n r1.1 ([] : List Event) r1.2.b r1.2.i r1.2.h).bind fun o => match o with | .inl (y7,y8,y9,y10) => (zAE n y7 y8 y9 y10) | .inr r => some r))
noncomputable abbrev zIx (k : Nat) := Rg Tryz.f110 k
theorem zKq (n : Nat) (x0 : Src) (x1 : Int) (r : (List Event) × Src) (H : J4 n x0 x1 = some r) : zE Tryz.prog 110 [.ptr (fR (Src.row x0)),.val false [.lit (.int .i64 x1)]] [.val false [.sl true 2 (r.1.map Event.row)]] [(0,(fR (Src.row r.2)))] := by
 refine zE.of_body tOk Tryz.func110 rfl (c := (.seq (zIx 0) (.seq (zIx 1) (.seq (.seq (zIx 2) (.block 0 (.loop (.seq (.seq (zIx 3) (.cond (.tmp 12) .skip (.exit 0))) (.seq (.block 1 (zIx 5)) (zIx 4)))))) (.seq (zIx 6) .ret))))) kr (Nat.le_of_ble_eq_true kr) 1 (rs := [.tmp 4]) rfl [] .nil [(false,[.sl true 2 (r.1.map Event.row)])] [] [(0,(fR (Src.row r.2)))] fun cx=>?_
 show Tr _ _ _ ⟨25,1,[sA 0 0 3 0,sI 1 x1],[(0,(fR (Src.row x0)))]⟩ _
 unfold J4 at H
 refine gA 1 3 1<|rA 1<|LAt.moveU (T := lk tab) (ty := 54) (x := (.tmp 7)) (d := 5) (g := none) false [cL 2 ([] : List Event) Event.row] kr kr kr kr kr<|dA 35 1<|tS<|rA 2<|bE H fun r1 er1 H=> vL [.lend,.rd] (zL n x0 x1 r1 er1)<|uA 1 97 1 ?_
 obtain ⟨o11,eo11,Ho11⟩ := bs H
 clear H
 refine Tr.mid (ι := (List Event) × (List Int) × Int × Int) (fun v => ⟨25,1,[sC 5 (cL 2 v.1 Event.row),sA 0 0 3 0],[(0,[cF 1 v.2.1 zZ,cI v.2.2.1,cI v.2.2.2])]⟩) (fun v => zAE n v.1 v.2.1 v.2.2.1 v.2.2.2 = some r) ?_ ?_
 ·refine tB<|Tr.loop (ι := Nat × (Int × (List Event) × (List Int) × Int × Int)) (fun v => ⟨25,1,[sI 6 v.2.1,sC 5 (cL 2 v.2.2.1 Event.row),sA 0 0 3 0],[(0,[cF 1 v.2.2.2.1 zZ,cI v.2.2.2.2.1,cI v.2.2.2.2.2])]⟩) (fun v => Zt n v.1 v.2.1 v.2.2.1 v.2.2.2.1 v.2.2.2.2.1 v.2.2.2.2.2 = some o11) (fun v => v.1) (n,(r1.1,([] : List Event),r1.2.b,r1.2.i,r1.2.h)) eo11 (St.sub_of [6,5,0] [0] kr) ?_
  rintro ⟨_ | mo11,y2,y3,y4,y5,y6⟩ H
  ·exact nN H
  have H : Zt n (mo11+1) y2 y3 y4 y5 y6 = some o11 := H
  rw [Zt] at H
  refine tS<|gA 2 4193 1 ?_
  obtain ⟨h1,H⟩ | ⟨h1,H⟩ := bC H
  ·refine nA h1<|Tr.exit<|aJ ?_
   cases H
   exact jA (y3,y4,y5,y6) Ho11 [5,0] [0]
  exact tA h1<|tK<|tS<|tB<|Tr.at<|lA 3<|bE H fun r12 er12 H=> vL [.lend,.rd] (zj n (⟨y4,y5,y6⟩ : Src) [1,1,1,2,2,2,2,3,4,5,6] r12 er12)<|lA 1<|bE H fun r13 er13 H=> vL [.lend,.rd] (zL n r12.2 4 r13 er13)<|lA 2<|gE H fun hg14 H=> LAt.appMU tOk (t := 54) (ty := 54) (e := 84) (x := (.tmp 15)) (y := (.tmp 22)) (d := 23) (g := none) (tI 84) Event.row y3 [(⟨r12.1,r13.1⟩ : Event)] kr kr kr kr kr kr kr kr kr kr hg14<|LAt.moveU (T := lk tab) (ty := 54) (x := (.tmp 23)) (d := 5) (g := none) false [cL 2 (y3 ++ [(⟨r12.1,r13.1⟩ : Event)]) Event.row] kr kr kr kr kr<|dA 97 1<|eA 3 97 1<|jB mo11 ((wI (y2 - 1)),(y3 ++ [(⟨r12.1,r13.1⟩ : Event)]),r13.2.b,r13.2.i,r13.2.h) H [6,5,0] [0]
 rintro ⟨y7,y8,y9,y10⟩ H
 have H : (zAE n y7 y8 y9 y10) = some r := H
 unfold zAE at H
 exact gA 2 49 1<|te<|fY [(false,[cL 2 y7 Event.row])] [(0,[cF 1 y8 zZ,cI y9,cI y10])] H
def Jy (n : Nat) (x0 : (List Int)) : Option (Net × (List Event)) :=
  ((JJ n x0).bind fun r1 => ((Yr n r1 2).bind fun r2 => ((Yw n x0 12).bind fun r3 => ((J4 n r2.2 (IntKind.wrap .i64 (6 + r3))).bind fun r4 => (some (r2.1,r4.1))))))
theorem zKi (n : Nat) (x0 : (List Int)) (r : Net × (List Event)) (H : Jy n x0 = some r) : zE Tryz.prog 68 [.val false [.sl false 1 (CV.frzEs (x0.map zZ))]] [.val true (Net.row r.1),.val false [.sl true 2 (r.2.map Event.row)]] [] := by
 refine cW Tryz.func68 (fun g d => sl [g 0,g 1,g 2] .ret) [.cell 2 53,.tmp 3] fun cx=>?_
 unfold Jy at H
 exact gA 2 5 4<|rA 1<|bE H fun r1 er1 H=> vA [.rd] (zFI n x0 r1 er1)<|uA 1 21 68<|rA 1<|bE H fun r2 er2 H=> vL [.lend,.rd] (zD7 n r1 2 r2 er2)<|lA 2<|bE H fun r3 er3 H=> vA [.rd,.rd] (zEA n x0 12 r3 er3)<|lA 1<|bE H fun r4 er4 H=> vL [.lend,.rd] (zKq n r2.2 (wI (6 + r3)) r4 er4)<|lA 1<|LAt.moveU (T := lk tab) (ty := 54) (x := (.tmp 13)) (d := 3) (g := none) false [cL 2 r4.1 Event.row] kr kr kr kr kr<|dA 12 4<|te (fJ [(true,(Net.row r2.1)),(false,[cL 2 r4.1 Event.row])] H)
def Jx (n : Nat) (x0 : (List Int)) : Option (Net) :=
  ((JJ n x0).bind fun r1 => ((Yw n x0 10).bind fun r2 => ((Yr n r1 r2).bind fun r3 => (some r3.1))))
theorem zKh (n : Nat) (x0 : (List Int)) (r : Net) (H : Jx n x0 = some r) : zE Tryz.prog 69 [.val false [.sl false 1 (CV.frzEs (x0.map zZ))]] [.val true (Net.row r)] [] := by
 refine cW Tryz.func69 (fun g d => sl [g 0,g 1,g 2] .ret) [.cell 2 53] fun cx=>?_
 unfold Jx at H
 exact gA 1 5 4<|rA 1<|bE H fun r1 er1 H=> vA [.rd] (zFI n x0 r1 er1)<|uA 1 13 36<|rA 2<|bE H fun r2 er2 H=> vA [.rd,.rd] (zEA n x0 10 r2 er2)<|bE H fun r3 er3 H=> vL [.lend,.rd] (zD7 n r1 r2 r3 er3)<|uA 1 4 4<|te (fJ [(true,(Net.row r3.1))] H)
def JW (n : Nat) (x0 : (List Int)) : Option (Net × Int) :=
  ((JJ n x0).bind fun r1 => ((Yw n x0 6).bind fun r2 => ((Yr n r1 r2).bind fun r3 => ((zX n r3.2 [0,1,2,5,(-1)]).bind fun r4 => (some (r3.1,r4.1))))))
theorem zJz (n : Nat) (x0 : (List Int)) (r : Net × Int) (H : JW n x0 = some r) : zE Tryz.prog 70 [.val false [.sl false 1 (CV.frzEs (x0.map zZ))]] [.val true (Net.row r.1),.val false [.lit (.int .i64 r.2)]] [] := by
 refine cW Tryz.func70 (fun g d => sl [g 0,g 1,g 2] .ret) [.cell 2 53,.tmp 3] fun cx=>?_
 unfold JW at H
 exact gA 2 5 4<|rA 1<|bE H fun r1 er1 H=> vA [.rd] (zFI n x0 r1 er1)<|uA 1 21 68<|rA 2<|bE H fun r2 er2 H=> vA [.rd,.rd] (zEA n x0 6 r2 er2)<|bE H fun r3 er3 H=> vL [.lend,.rd] (zD7 n r1 r2 r3 er3)<|lA 2<|bE H fun r4 er4 H=> vL [.lend,.rd] (zj n r3.2 [0,1,2,5,(-1)] r4 er4)<|uA 2 12 4<|te (fJ [(true,(Net.row r3.1)),(false,[cI r4.1])] H)
def zAj (n : Nat) : Option (Bool) :=
  (some true)
def Ze (n : Nat) : Nat → (List zC) → (List zC) → Int → Option ((Unit) ⊕ (Bool))
  | 0,_,_,_ => none
  | mo2 + 1,x0,x1,y1 => (bif (decide (y1 < (x0.length : Int))) then ((idx x0 y1).bind fun v3 => ((idx x1 y1).bind fun v4 => (bif (!((v3.Id == v4.Id) && ((v3.Members == v4.Members) && ((v3.Bare == v4.Bare) && true)))) then (some (Sum.inr false)) else (Ze n mo2 x0 x1 (IntKind.wrap .i64 (y1 + 1)))))) else (some (Sum.inl ())))
def zAO (n : Nat) (x0 : (List zC)) (x1 : (List zC)) : Option (Bool) :=
  (bif ((x0.length : Int) != (x1.length : Int)) then (some false) else ((Ze n n x0 x1 0).bind fun o => match o with | .inl _ => (zAj n) | .inr r => some r))
theorem zLU (n : Nat) (x0 : (List zC)) (x1 : (List zC)) (r : Bool) (H : zAO n x0 x1 = some r) : zE Tryz.prog 84 [.val false [.sl false 3 (CV.frzEs (x0.map zC.row))],.val false [.sl false 3 (CV.frzEs (x1.map zC.row))]] [.val false [.lit (.bool r)]] [] := by
 refine cW Tryz.func84 (fun g d => sl [g 0,sl [g 1] (cn 10 (sl [g 2] .ret) .skip),sl [g 3] (.block 0 (.loop (sl [g 4,cn 14 .skip (.exit 0),.block 1 (sl [g 5,d 6] (cn 24 (sl [g 7] .ret) .skip))] (g 8)))),g 9] .ret) [.tmp 4] fun cx=>?_
 unfold zAO at H
 refine gA 1 3 0<|tS<|rA 1<|kF x0 zC.row<|lA 1<|kF x1 zC.row<|uA 1 1027 0 ?_
 obtain ⟨h1,H⟩ | ⟨h1,H⟩ := bC H
 ·refine nA h1<|tK<|tS<|rA 1<|kF x0 zC.row<|uA 1 12291 0 ?_
  obtain ⟨o2,eo2,Ho2⟩ := bs H
  clear H
  refine Tr.mid (ι := Unit) (fun v => ⟨26,0,[],[]⟩) (fun v => zAj n = some r) ?_ ?_
  ·refine tB<|Tr.loop (ι := Nat × (Int)) (fun v => ⟨26,0,[sI 13 v.2,sI 12 (x0.length : Int),sC 0 (cF 3 x0 zC.row),sC 1 (cF 3 x1 zC.row)],[]⟩) (fun v => Ze n v.1 x0 x1 v.2 = some o2) (fun v => v.1) (n,0) eo2 (St.sub_of [13,12,0,1] [] kr) ?_
   rintro ⟨_ | mo2,y1⟩ H
   ·exact nN H
   have H : Ze n (mo2+1) x0 x1 y1 = some o2 := H
   rw [Ze] at H
   refine gA 1 28675 0<|tS ?_
   obtain ⟨h2,H⟩ | ⟨h2,H⟩ := bC H
   ·refine nA h2<|Tr.exit<|aJ ?_
    cases H
    exact jA () Ho2 [] []
   refine tA h2<|tK<|tS<|tB<|gA 2 12323 0<|bE H fun v3 ev3 H=> bE H fun v4 ev4 H=> Tr.draws mixed 9 kr ⟨26,0,[sB 24 (!((v3.Id == v4.Id) && ((v3.Members == v4.Members) && ((v3.Bare == v4.Bare) && true)))),sI 13 y1,sI 12 (x0.length : Int),sC 0 (cF 3 x0 zC.row),sC 1 (cF 3 x1 zC.row)],[]⟩ (fun cx=>?_) ?_
   ·refine aA [(0,[]),(1,[])] 7 [] fun cx=>aI tOk 2 26 0 16 17 18 none ⟨(.slot 16),[],0,false,3,(CV.frzEs (x0.map zC.row))⟩ y1 (zC.row v3) _ kr kr kr kr kr kr rfl (Qb ev3) rfl (fun cx=>?_)
    refine aA (zl [3,4,5]) 3 [] fun cx=>aI tOk 6 26 0 20 21 22 none ⟨(.slot 20),[],0,false,3,(CV.frzEs (x1.map zC.row))⟩ y1 (zC.row v4) _ kr kr kr kr kr kr rfl (Qb ev4) rfl (fun cx=>?_)
    exact aA [(7,[])] 1 [] fun cx=>bA 8<|LAt.eqSG true (t := 113) (ty := 113) (ty' := 4) (x := (.tmp 19)) (y := (.tmp 23)) (d := 24) (g := none) ((v3.Id == v4.Id) && ((v3.Members == v4.Members) && ((v3.Bare == v4.Bare) && true))) _ kr kr kr kr rfl<|fA<|eE [24,13,12,0,1] []
   obtain ⟨h3,H⟩ | ⟨h3,H⟩ := bC H
   ·exact qT [24] h3<|nB_<|tK<|eA 2 12291 0<|jB mo2 (wI (y1 + 1)) H [13,12,0,1] []
   refine qT [24] h3<|tB_<|gA 1 16 0<|te ?_
   cases H
   exact fF Ho2
  rintro _ H
  have H : (zAj n) = some r := H
  unfold zAj at H
  exact gA 1 16 0<|te (fT H)
 exact tA h1<|gA 1 16 0<|te (fF H)
def zBI (n : Nat) : Option (Bool) :=
  (some true)
def Zz (n : Nat) : Nat → (List Int) → (List Int) → Int → Option ((Unit) ⊕ (Bool))
  | 0,_,_,_ => none
  | mo2 + 1,x0,x1,y1 => (bif (decide (y1 < (x0.length : Int))) then ((idx x0 y1).bind fun v3 => ((idx x1 y1).bind fun v4 => (bif (v3 != v4) then (some (Sum.inr false)) else (Zz n mo2 x0 x1 (IntKind.wrap .i64 (y1 + 1)))))) else (some (Sum.inl ())))
def zAv (n : Nat) (x0 : (List Int)) (x1 : (List Int)) : Option (Bool) :=
  (bif ((x0.length : Int) != (x1.length : Int)) then (some false) else ((Zz n n x0 x1 0).bind fun o => match o with | .inl _ => (zBI n) | .inr r => some r))
theorem zLu (n : Nat) (x0 : (List Int)) (x1 : (List Int)) (r : Bool) (H : zAv n x0 x1 = some r) : zE Tryz.prog 85 [.val false [.sl false 1 (CV.frzEs (x0.map intRow))],.val false [.sl false 1 (CV.frzEs (x1.map intRow))]] [.val false [.lit (.bool r)]] [] := by
 refine cW Tryz.func85 (fun g d => sl [g 0,sl [g 1] (cn 10 (sl [g 2] .ret) .skip),sl [g 3] (.block 0 (.loop (sl [g 4,cn 14 .skip (.exit 0),.block 1 (sl [g 5,d 6] (cn 24 (sl [g 7] .ret) .skip))] (g 8)))),g 9] .ret) [.tmp 4] fun cx=>?_
 unfold zAv at H
 refine gA 1 3 0<|tS<|rA 1<|kF x0 intRow<|lA 1<|kF x1 intRow<|uA 1 1027 0 ?_
 obtain ⟨h1,H⟩ | ⟨h1,H⟩ := bC H
 ·refine nA h1<|tK<|tS<|rA 1<|kF x0 intRow<|uA 1 12291 0 ?_
  obtain ⟨o2,eo2,Ho2⟩ := bs H
  clear H
  refine Tr.mid (ι := Unit) (fun v => ⟨26,0,[],[]⟩) (fun v => zBI n = some r) ?_ ?_
  ·refine tB<|Tr.loop (ι := Nat × (Int)) (fun v => ⟨26,0,[sI 13 v.2,sI 12 (x0.length : Int),sC 0 (cF 1 x0 intRow),sC 1 (cF 1 x1 intRow)],[]⟩) (fun v => Zz n v.1 x0 x1 v.2 = some o2) (fun v => v.1) (n,0) eo2 (St.sub_of [13,12,0,1] [] kr) ?_
   rintro ⟨_ | mo2,y1⟩ H
   ·exact nN H
   have H : Zz n (mo2+1) x0 x1 y1 = some o2 := H
   rw [Zz] at H
   refine gA 1 28675 0<|tS ?_
   obtain ⟨h2,H⟩ | ⟨h2,H⟩ := bC H
   ·refine nA h2<|Tr.exit<|aJ ?_
    cases H
    exact jA () Ho2 [] []
   refine tA h2<|tK<|tS<|tB<|gA 2 12323 0<|bE H fun v3 ev3 H=> bE H fun v4 ev4 H=> Tr.draws mixed 9 kr ⟨26,0,[sB 24 (v3 != v4),sI 13 y1,sI 12 (x0.length : Int),sC 0 (cF 1 x0 intRow),sC 1 (cF 1 x1 intRow)],[]⟩ (fun cx=>?_) ?_
   ·refine aA [(0,[]),(1,[])] 7 [] fun cx=>aI tOk 2 27 0 16 17 18 none ⟨(.slot 16),[],0,false,1,(CV.frzEs (x0.map intRow))⟩ y1 [cI v3] _ kr kr kr kr kr kr rfl (Qb ev3) rfl (fun cx=>?_)
    refine aA (zl [3,4,5]) 3 [] fun cx=>aI tOk 6 27 0 20 21 22 none ⟨(.slot 20),[],0,false,1,(CV.frzEs (x1.map intRow))⟩ y1 [cI v4] _ kr kr kr kr kr kr rfl (Qb ev4) rfl (fun cx=>?_)
    exact aA [(7,[]),(8,[])] 0 [] fun cx=>eE [24,13,12,0,1] []
   obtain ⟨h3,H⟩ | ⟨h3,H⟩ := bC H
   ·exact qT [24] h3<|nB_<|tK<|eA 2 12291 0<|jB mo2 (wI (y1 + 1)) H [13,12,0,1] []
   refine qT [24] h3<|tB_<|gA 1 16 0<|te ?_
   cases H
   exact fF Ho2
  rintro _ H
  have H : (zBI n) = some r := H
  unfold zBI at H
  exact gA 1 16 0<|te (fT H)
 exact tA h1<|gA 1 16 0<|te (fF H)
def Yl (n : Nat) (x0 : zA) (x1 : zA) : Option (Bool) :=
  (bif (x0.Tk == x1.Tk) then (bif (x0.Pa == x1.Pa) then (bif (x0.Wo == x1.Wo) then (bif (x0.Dr == x1.Dr) then (some (x0.Ve == x1.Ve)) else (some false)) else (some false)) else (some false)) else (some false))
def ZK (n : Nat) : Nat → zA → zA → Int → Option ((Unit) ⊕ (Bool))
  | 0,_,_,_ => none
  | mo5 + 1,x0,x1,y4 => (bif (decide (y4 < (x0.F.length : Int))) then ((idx x0.F y4).bind fun v6 => ((idx x1.F y4).bind fun v7 => (bif (!((v6.Tag == v7.Tag) && ((v6.Mac == v7.Mac) && ((v6.Port == v7.Port) && ((v6.Age == v7.Age) && ((v6.Sc == v7.Sc) && true)))))) then (some (Sum.inr false)) else (ZK n mo5 x0 x1 (IntKind.wrap .i64 (y4 + 1)))))) else (some (Sum.inl ())))
def Yk (n : Nat) (x0 : zA) (x1 : zA) : Option (Bool) :=
  ((ZK n n x0 x1 0).bind fun o => match o with | .inl _ => (Yl n x0 x1) | .inr r => some r)
def ZL (n : Nat) : Nat → zA → zA → Int → Option ((Unit) ⊕ (Bool))
  | 0,_,_,_ => none
  | mo8 + 1,x0,x1,y3 => (bif (decide (y3 < (x0.Ps.length : Int))) then ((idx x0.Ps y3).bind fun v9 => ((idx x1.Ps y3).bind fun v10 => (bif (!((v9.Up == v10.Up) && ((v9.Co == v10.Co) && ((v9.Has == v10.Has) && (((v9.Hd.Root == v10.Hd.Root) && ((v9.Hd.Co == v10.Hd.Co) && ((v9.Hd.Hops == v10.Hd.Hops) && ((v9.Hd.Bridge == v10.Hd.Bridge) && ((v9.Hd.Port == v10.Hd.Port) && true))))) && true))))) then (some (Sum.inr false)) else (ZL n mo8 x0 x1 (IntKind.wrap .i64 (y3 + 1)))))) else (some (Sum.inl ())))
def JT (n : Nat) (x0 : zA) (x1 : zA) : Option (Bool) :=
  (bif (x0.Id != x1.Id) then (some false) else (bif (!(x0.Name.toList == x1.Name.toList)) then (some false) else (bif ((x0.Ps.length : Int) != (x1.Ps.length : Int)) then (some false) else (bif ((x0.F.length : Int) != (x1.F.length : Int)) then (some false) else ((zAO n x0.V.Rows x1.V.Rows).bind fun r1 => (bif (!r1) then (some false) else ((zAv n x0.V.Pv x1.V.Pv).bind fun r2 => (bif (!r2) then (some false) else ((ZL n n x0 x1 0).bind fun o => match o with | .inl _ => (Yk n x0 x1) | .inr r => some r)))))))))
theorem zJk (n : Nat) (x0 : zA) (x1 : zA) (r : Bool) (H : JT n x0 x1 = some r) : zE Tryz.prog 16 [.val true (fR (zA.row x0)),.val true (fR (zA.row x1))] [.val false [.lit (.bool r)]] [] := by
 refine cW Tryz.func16 (fun g d => sl [g 0,sl [g 1] (cn 56 (sl [g 2] .ret) .skip),sl [g 3] (.block 0 (.loop (sl [g 4,cn 61 .skip (.exit 0),.block 1 (sl [g 5,d 6] (cn 73 (sl [g 7] .ret) .skip))] (g 8)))),sl [g 9] (.block 2 (.loop (sl [g 10,cn 79 .skip (.exit 2),.block 3 (sl [g 11,d 12] (cn 91 (sl [g 13] .ret) .skip))] (g 14)))),g 15] .ret) [.tmp 4] fun cx=>?_
 unfold JT at H
 refine gA 3 12 12<|tS<|rA 6 ?_
 obtain ⟨h1,H⟩ | ⟨h1,H⟩ := bC H
 ·refine qL 4108 12 [12] h1<|lA 7 ?_
  obtain ⟨h2,H⟩ | ⟨h2,H⟩ := bC H
  ·refine qL 524300 12 [19] h2<|lA 2<|kF x0.Ps Pt.row<|lA 2<|kF x1.Ps Pt.row<|lA 3 ?_
   obtain ⟨h3,H⟩ | ⟨h3,H⟩ := bC H
   ·refine qL 268435468 12 [28] h3<|lA 2<|kF x0.F zB.row<|lA 2<|kF x1.F zB.row<|lA 3 ?_
    obtain ⟨h4,H⟩ | ⟨h4,H⟩ := bC H
    ·refine qL 137438953484 12 [37] h4<|lA 6<|bE H fun r1 er1 H=> vA [.rd,.rd] (zLU n x0.V.Rows x1.V.Rows r1 er1)<|lA 3 ?_
     obtain ⟨h5,H⟩ | ⟨h5,H⟩ := bC H
     ·refine qL 0x80000000000c 12 [47] h5<|lA 6<|bE H fun r2 er2 H=> vA [.rd,.rd] (zLu n x0.V.Pv x1.V.Pv r2 er2)<|uA 2 72057594037927948 12 ?_
      obtain ⟨h6,H⟩ | ⟨h6,H⟩ := bC H
      ·refine nA h6<|tK<|tS<|rA 2<|kF x0.Ps Pt.row<|uA 1 0x180000000000000c 12 ?_
       obtain ⟨o8,eo8,Ho8⟩ := bs H
       clear H
       refine Tr.mid (ι := Unit) (fun v => ⟨126,0,[sA 3 3 11 0,sA 2 2 11 0],[(3,(fR (zA.row x1))),(2,(fR (zA.row x0)))]⟩) (fun v => Yk n x0 x1 = some r) ?_ ?_
       ·refine tB<|Tr.loop (ι := Nat × (Int)) (fun v => ⟨126,0,[sI 60 v.2,sI 59 (x0.Ps.length : Int),sA 3 3 11 0,sA 2 2 11 0],[(3,(fR (zA.row x1))),(2,(fR (zA.row x0)))]⟩) (fun v => ZL n v.1 x0 x1 v.2 = some o8) (fun v => v.1) (n,0) eo8 (St.sub_of [60,59,3,2] [3,2] kr) ?_
        rintro ⟨_ | mo8,y3⟩ H
        ·exact nN H
        have H : ZL n (mo8+1) x0 x1 y3 = some o8 := H
        rw [ZL] at H
        refine gA 1 0x380000000000000c 12<|tS ?_
        obtain ⟨h13,H⟩ | ⟨h13,H⟩ := bC H
        ·refine nA h13<|Tr.exit<|aJ ?_
         cases H
         exact jA () Ho8 [3,2] [3,2]
        refine tA h13<|tK<|tS<|tB<|gA 2 0x180000000000002c 12<|bE H fun v9 ev9 H=> bE H fun v10 ev10 H=> Tr.draws mixed 11 kr ⟨126,0,[sB 73 (!((v9.Up == v10.Up) && ((v9.Co == v10.Co) && ((v9.Has == v10.Has) && (((v9.Hd.Root == v10.Hd.Root) && ((v9.Hd.Co == v10.Hd.Co) && ((v9.Hd.Hops == v10.Hd.Hops) && ((v9.Hd.Bridge == v10.Hd.Bridge) && ((v9.Hd.Port == v10.Hd.Port) && true))))) && true))))),sI 60 y3,sI 59 (x0.Ps.length : Int),sA 3 3 11 0,sA 2 2 11 0],[(3,(fR (zA.row x1))),(2,(fR (zA.row x0)))]⟩ (fun cx=>?_) ?_
        ·refine aA [(0,[]),(1,[10]),(2,[])] 8 [⟨[10],24,63,64⟩] fun cx=>aI tOk 3 24 0 64 65 66 none ⟨(.box 2),[(0,0)],2,false,8,(CV.frzEs (x0.Ps.map Pt.row))⟩ y3 (Pt.row v9) _ kr kr kr kr kr kr rfl (Qb ev9) rfl (fun cx=>?_)
         refine aA [(4,[]),(5,[]),(6,[10]),(7,[])] 3 [⟨[10],24,68,69⟩,⟨[10],24,63,64⟩] fun cx=>aI tOk 8 24 0 69 70 71 none ⟨(.box 3),[(0,0)],2,false,8,(CV.frzEs (x1.Ps.map Pt.row))⟩ y3 (Pt.row v10) _ kr kr kr kr kr kr rfl (Qb ev10) rfl (fun cx=>?_)
         exact aA [(9,[])] 1 [⟨[10],24,68,69⟩,⟨[10],24,63,64⟩] fun cx=>bA 10<|LAt.eqSG true (t := 100) (ty := 100) (ty' := 4) (x := (.tmp 67)) (y := (.tmp 72)) (d := 73) (g := none) ((v9.Up == v10.Up) && ((v9.Co == v10.Co) && ((v9.Has == v10.Has) && (((v9.Hd.Root == v10.Hd.Root) && ((v9.Hd.Co == v10.Hd.Co) && ((v9.Hd.Hops == v10.Hd.Hops) && ((v9.Hd.Bridge == v10.Hd.Bridge) && ((v9.Hd.Port == v10.Hd.Port) && true))))) && true)))) _ kr kr kr kr rfl<|fA<|eE [73,60,59,3,2] [3,2]
        obtain ⟨h14,H⟩ | ⟨h14,H⟩ := bC H
        ·exact qT [73] h14<|nB_<|tK<|eA 2 0x180000000000000c 12<|jB mo8 (wI (y3 + 1)) H [60,59,3,2] [3,2]
        refine qT [73] h14<|tB_<|gA 1 16 0<|te ?_
        cases H
        exact fF Ho8
       rintro _ H
       have H : (Yk n x0 x1) = some r := H
       unfold Yk at H
       refine tS<|rA 2<|kF x0.F zB.row<|uA 1 0x6000000000000000000c 12 ?_
       obtain ⟨o5,eo5,Ho5⟩ := bs H
       clear H
       refine Tr.mid (ι := Unit) (fun v => ⟨126,0,[sA 3 3 11 0,sA 2 2 11 0],[(3,(fR (zA.row x1))),(2,(fR (zA.row x0)))]⟩) (fun v => Yl n x0 x1 = some r) ?_ ?_
       ·refine tB<|Tr.loop (ι := Nat × (Int)) (fun v => ⟨126,0,[sI 78 v.2,sI 77 (x0.F.length : Int),sA 3 3 11 0,sA 2 2 11 0],[(3,(fR (zA.row x1))),(2,(fR (zA.row x0)))]⟩) (fun v => ZK n v.1 x0 x1 v.2 = some o5) (fun v => v.1) (n,0) eo5 (St.sub_of [78,77,3,2] [3,2] kr) ?_
        rintro ⟨_ | mo5,y4⟩ H
        ·exact nN H
        have H : ZK n (mo5+1) x0 x1 y4 = some o5 := H
        rw [ZK] at H
        refine gA 1 0xe000000000000000000c 12<|tS ?_
        obtain ⟨h11,H⟩ | ⟨h11,H⟩ := bC H
        ·refine nA h11<|Tr.exit<|aJ ?_
         cases H
         exact jA () Ho5 [3,2] [3,2]
        refine tA h11<|tK<|tS<|tB<|gA 2 0x6000000000000000004c 12<|bE H fun v6 ev6 H=> bE H fun v7 ev7 H=> Tr.draws mixed 11 kr ⟨126,0,[sB 91 (!((v6.Tag == v7.Tag) && ((v6.Mac == v7.Mac) && ((v6.Port == v7.Port) && ((v6.Age == v7.Age) && ((v6.Sc == v7.Sc) && true)))))),sI 78 y4,sI 77 (x0.F.length : Int),sA 3 3 11 0,sA 2 2 11 0],[(3,(fR (zA.row x1))),(2,(fR (zA.row x0)))]⟩ (fun cx=>?_) ?_
        ·refine aA [(0,[]),(1,[10]),(2,[])] 8 [⟨[10],25,81,82⟩] fun cx=>aI tOk 3 25 0 82 83 84 none ⟨(.box 2),[(0,0)],3,false,5,(CV.frzEs (x0.F.map zB.row))⟩ y4 (zB.row v6) _ kr kr kr kr kr kr rfl (Qb ev6) rfl (fun cx=>?_)
         refine aA [(4,[]),(5,[]),(6,[10]),(7,[])] 3 [⟨[10],25,86,87⟩,⟨[10],25,81,82⟩] fun cx=>aI tOk 8 25 0 87 88 89 none ⟨(.box 3),[(0,0)],3,false,5,(CV.frzEs (x1.F.map zB.row))⟩ y4 (zB.row v7) _ kr kr kr kr kr kr rfl (Qb ev7) rfl (fun cx=>?_)
         exact aA [(9,[])] 1 [⟨[10],25,86,87⟩,⟨[10],25,81,82⟩] fun cx=>bA 10<|LAt.eqSG true (t := 103) (ty := 103) (ty' := 4) (x := (.tmp 85)) (y := (.tmp 90)) (d := 91) (g := none) ((v6.Tag == v7.Tag) && ((v6.Mac == v7.Mac) && ((v6.Port == v7.Port) && ((v6.Age == v7.Age) && ((v6.Sc == v7.Sc) && true))))) _ kr kr kr kr rfl<|fA<|eE [91,78,77,3,2] [3,2]
        obtain ⟨h12,H⟩ | ⟨h12,H⟩ := bC H
        ·exact qT [91] h12<|nB_<|tK<|eA 2 0x6000000000000000000c 12<|jB mo5 (wI (y4 + 1)) H [78,77,3,2] [3,2]
        refine qT [91] h12<|tB_<|gA 1 16 0<|te ?_
        cases H
        exact fF Ho5
       rintro _ H
       have H : (Yl n x0 x1) = some r := H
       unfold Yl at H
       refine rA 6 ?_
       obtain ⟨h7,H⟩ | ⟨h7,H⟩ := bC H
       ·exact qL 0x400000000000000000000000c 12 [98] h7<|uA 28 16 0<|te (fF H)
       refine qL 0x400000000000000000000000c 12 [98] h7<|lA 7 ?_
       obtain ⟨h8,H⟩ | ⟨h8,H⟩ := bC H
       ·exact qL 0x20000000000000000000000000c 12 [105] h8<|uA 21 16 0<|te (fF H)
       refine qL 0x20000000000000000000000000c 12 [105] h8<|lA 7 ?_
       obtain ⟨h9,H⟩ | ⟨h9,H⟩ := bC H
       ·exact qL 0x1000000000000000000000000000c 12 [112] h9<|uA 14 16 0<|te (fF H)
       refine qL 0x1000000000000000000000000000c 12 [112] h9<|lA 7 ?_
       obtain ⟨h10,H⟩ | ⟨h10,H⟩ := bC H
       ·exact qL 0x80000000000000000000000000000c 12 [119] h10<|uA 7 16 0<|te (fF H)
       exact qL 0x80000000000000000000000000000c 12 [119] h10<|uA 7 16 0<|te (fJ [(false,[cB (x0.Ve == x1.Ve)])] H)
      exact tA h6<|gA 1 16 0<|te (fF H)
     exact qL 0x80000000000c 12 [47] h5<|uA 9 72057594037927948 12<|tB_<|gA 1 16 0<|te (fF H)
    exact qL 137438953484 12 [37] h4<|uA 19 72057594037927948 12<|tB_<|gA 1 16 0<|te (fF H)
   exact qL 268435468 12 [28] h3<|uA 28 72057594037927948 12<|tB_<|gA 1 16 0<|te (fF H)
  exact qL 524300 12 [19] h2<|uA 37 72057594037927948 12<|tB_<|gA 1 16 0<|te (fF H)
 exact qL 4108 12 [12] h1<|uA 44 72057594037927948 12<|tB_<|gA 1 16 0<|te (fF H)
def zBM (n : Nat) : Option (Bool) :=
  (some true)
def Z3 (n : Nat) : Nat → Net → Net → Int → Option ((Unit) ⊕ (Bool))
  | 0,_,_,_ => none
  | mo4 + 1,x0,x1,y3 => (bif (decide (y3 < (x0.Said.length : Int))) then ((idx x0.Said y3).bind fun v5 => ((idx x1.Said y3).bind fun v6 => (bif (!((v5.Link == v6.Link) && ((v5.Back == v6.Back) && (((v5.V.Root == v6.V.Root) && ((v5.V.Co == v6.V.Co) && ((v5.V.Hops == v6.V.Hops) && ((v5.V.Bridge == v6.V.Bridge) && ((v5.V.Port == v6.V.Port) && true))))) && true)))) then (some (Sum.inr false)) else (Z3 n mo4 x0 x1 (IntKind.wrap .i64 (y3 + 1)))))) else (some (Sum.inl ())))
def Ju (n : Nat) (x0 : Net) (x1 : Net) : Option (Bool) :=
  ((Z3 n n x0 x1 0).bind fun o => match o with | .inl _ => (zBM n) | .inr r => some r)
def Z4 (n : Nat) : Nat → Net → Net → Int → Option ((Unit) ⊕ (Bool))
  | 0,_,_,_ => none
  | mo7 + 1,x0,x1,y2 => (bif (decide (y2 < (x0.Ls.length : Int))) then ((idx x0.Ls y2).bind fun v8 => ((idx x1.Ls y2).bind fun v9 => (bif (!((v8.A == v9.A) && ((v8.P == v9.P) && ((v8.B == v9.B) && ((v8.Q == v9.Q) && true))))) then (some (Sum.inr false)) else (Z4 n mo7 x0 x1 (IntKind.wrap .i64 (y2 + 1)))))) else (some (Sum.inl ())))
def Jt (n : Nat) (x0 : Net) (x1 : Net) : Option (Bool) :=
  ((Z4 n n x0 x1 0).bind fun o => match o with | .inl _ => (Ju n x0 x1) | .inr r => some r)
def Z5 (n : Nat) : Nat → Net → Net → Int → Option ((Unit) ⊕ (Bool))
  | 0,_,_,_ => none
  | mo10 + 1,x0,x1,y1 => (bif (decide (y1 < (x0.Bs.length : Int))) then ((idx x0.Bs y1).bind fun v11 => ((idx x1.Bs y1).bind fun v12 => ((JT n v11 v12).bind fun r13 => (bif (!r13) then (some (Sum.inr false)) else (Z5 n mo10 x0 x1 (IntKind.wrap .i64 (y1 + 1))))))) else (some (Sum.inl ())))
def qR (n : Nat) (x0 : Net) (x1 : Net) : Option (Bool) :=
  (bif ((x0.Bs.length : Int) != (x1.Bs.length : Int)) then (some false) else (bif ((x0.Ls.length : Int) != (x1.Ls.length : Int)) then (some false) else (bif ((x0.Said.length : Int) != (x1.Said.length : Int)) then (some false) else ((Z5 n n x0 x1 0).bind fun o => match o with | .inl _ => (Jt n x0 x1) | .inr r => some r))))
def zQX : Tab := ⟨12,[0,1,0,6,8,0,32,0,192,256,528,1024],[0,1,0,6,8,0,32,0,192,256,528,1024],[0,1,0,7,15,0,32,0,224,480,1023,2047]⟩
theorem zFt : zc (rg Tryz.f45 6) zQX = true := kr
theorem Qe (n : Nat) (x0 : Net) (x1 : Net) (r : Bool) (H : qR n x0 x1 = some r) : zE Tryz.prog 45 [.val true (fR (Net.row x0)),.val true (fR (Net.row x1))] [.val false [.lit (.bool r)]] [] := by
 refine cW Tryz.func45 (fun g d => sl [g 0,sl [g 1] (cn 32 (sl [g 2] .ret) .skip),sl [g 3] (.block 0 (.loop (sl [sl [g 4] (cn 37 .skip (.exit 0)),.block 1 (sl [d 6] (cn 51 (sl [g 7] .ret) .skip))] (g 5)))),sl [g 8] (.block 2 (.loop (sl [sl [g 9] (cn 56 .skip (.exit 2)),.block 3 (sl [d 11] (cn 69 (sl [g 12] .ret) .skip))] (g 10)))),sl [g 13] (.block 4 (.loop (sl [sl [g 14] (cn 74 .skip (.exit 4)),.block 5 (sl [d 16] (cn 87 (sl [g 17] .ret) .skip))] (g 15)))),g 18] .ret) [.tmp 4] fun cx=>?_
 unfold qR at H
 refine gA 3 12 12<|tS<|rA 2<|kF x0.Bs zA.row<|lA 2<|kF x1.Bs zA.row<|lA 2 ?_
 obtain ⟨h1,H⟩ | ⟨h1,H⟩ := bC H
 ·refine qL 32780 12 [15] h1<|lA 2<|kF x0.Ls Link.row<|lA 2<|kF x1.Ls Link.row<|lA 3 ?_
  obtain ⟨h2,H⟩ | ⟨h2,H⟩ := bC H
  ·refine qL 16777228 12 [24] h2<|lA 2<|kF x0.Said Say.row<|lA 2<|kF x1.Said Say.row<|uA 2 4294967308 12 ?_
   obtain ⟨h3,H⟩ | ⟨h3,H⟩ := bC H
   ·refine nA h3<|tK<|tS<|gA 1 44 12 ?_
    obtain ⟨o10,eo10,Ho10⟩ := bs H
    clear H
    refine Tr.mid (ι := Unit) (fun v => ⟨88,0,[sA 3 3 3 0,sA 2 2 3 0],[(3,(fR (Net.row x1))),(2,(fR (Net.row x0)))]⟩) (fun v => Jt n x0 x1 = some r) ?_ ?_
    ·refine tB<|Tr.loop (ι := Nat × (Int)) (fun v => ⟨88,0,[sI 5 v.2,sA 3 3 3 0,sA 2 2 3 0],[(3,(fR (Net.row x1))),(2,(fR (Net.row x0)))]⟩) (fun v => Z5 n v.1 x0 x1 v.2 = some o10) (fun v => v.1) (n,0) eo10 (St.sub_of [5,3,2] [3,2] kr) ?_
     rintro ⟨_ | mo10,y1⟩ H
     ·exact nN H
     have H : Z5 n (mo10+1) x0 x1 y1 = some o10 := H
     rw [Z5] at H
     refine tS<|rA 3<|kF x0.Bs zA.row<|uA 1 137438953516 12 ?_
     obtain ⟨h8,H⟩ | ⟨h8,H⟩ := bC H
     ·refine nA h8<|Tr.exit<|aJ ?_
      cases H
      exact jA () Ho10 [3,2] [3,2]
     refine tA h8<|tK<|tS<|tB<|bE H fun v11 ev11 H=> bE H fun v12 ev12 H=> bE H fun r13 er13 H=> Tr.draws mixed 12 kr ⟨88,0,[sB 51 (!r13),sI 5 y1,sA 3 3 3 0,sA 2 2 3 0],[(3,(fR (Net.row x1))),(2,(fR (Net.row x0)))]⟩ (fun cx=>?_) ?_
     ·exact mA zFt [(0,[]),(1,[10]),(2,[])] 9 [⟨[10],49,40,41⟩] fun cx=>iN zFt 3 zA.row ev11 fun cx=>mA zFt [(4,[]),(5,[]),(6,[10]),(7,[])] 4 [⟨[10],49,45,46⟩,⟨[10],49,40,41⟩] fun cx=>iN zFt 8 zA.row ev12 fun cx=>mA zFt [(9,[])] 2 [⟨[10],49,45,46⟩,⟨[10],49,40,41⟩] fun cx=>mC zFt 10<|vA [.rd,.rd] (zJk n v11 v12 r13 er13)<|fA<|mA zFt [(11,[])] 0 [⟨[10],49,45,46⟩,⟨[10],49,40,41⟩] fun cx=>mE zFt [51,5,3,2] [3,2]
     obtain ⟨h9,H⟩ | ⟨h9,H⟩ := bC H
     ·exact qT [51] h9<|nB_<|tK<|eA 3 44 12<|jB mo10 (wI (y1 + 1)) H [5,3,2] [3,2]
     refine qT [51] h9<|tB_<|gA 1 16 0<|te ?_
     cases H
     exact fF Ho10
    rintro _ H
    have H : (Jt n x0 x1) = some r := H
    unfold Jt at H
    refine tS<|gA 1 76 12 ?_
    obtain ⟨o7,eo7,Ho7⟩ := bs H
    clear H
    refine Tr.mid (ι := Unit) (fun v => ⟨88,0,[sA 3 3 3 0,sA 2 2 3 0],[(3,(fR (Net.row x1))),(2,(fR (Net.row x0)))]⟩) (fun v => Ju n x0 x1 = some r) ?_ ?_
    ·refine tB<|Tr.loop (ι := Nat × (Int)) (fun v => ⟨88,0,[sI 6 v.2,sA 3 3 3 0,sA 2 2 3 0],[(3,(fR (Net.row x1))),(2,(fR (Net.row x0)))]⟩) (fun v => Z4 n v.1 x0 x1 v.2 = some o7) (fun v => v.1) (n,0) eo7 (St.sub_of [6,3,2] [3,2] kr) ?_
     rintro ⟨_ | mo7,y2⟩ H
     ·exact nN H
     have H : Z4 n (mo7+1) x0 x1 y2 = some o7 := H
     rw [Z4] at H
     refine tS<|rA 3<|kF x0.Ls Link.row<|uA 1 72057594037928012 12 ?_
     obtain ⟨h6,H⟩ | ⟨h6,H⟩ := bC H
     ·refine nA h6<|Tr.exit<|aJ ?_
      cases H
      exact jA () Ho7 [3,2] [3,2]
     refine tA h6<|tK<|tS<|tB<|bE H fun v8 ev8 H=> bE H fun v9 ev9 H=> Tr.draws mixed 11 kr ⟨88,0,[sB 69 (!((v8.A == v9.A) && ((v8.P == v9.P) && ((v8.B == v9.B) && ((v8.Q == v9.Q) && true))))),sI 6 y2,sA 3 3 3 0,sA 2 2 3 0],[(3,(fR (Net.row x1))),(2,(fR (Net.row x0)))]⟩ (fun cx=>?_) ?_
     ·refine aA [(0,[]),(1,[10]),(2,[])] 8 [⟨[10],50,59,60⟩] fun cx=>aI tOk 3 50 0 60 61 62 none ⟨(.box 2),[(0,0)],1,false,4,(CV.frzEs (x0.Ls.map Link.row))⟩ y2 (Link.row v8) _ kr kr kr kr kr kr rfl (Qb ev8) rfl (fun cx=>?_)
      refine aA [(4,[]),(5,[]),(6,[10]),(7,[])] 3 [⟨[10],50,64,65⟩,⟨[10],50,59,60⟩] fun cx=>aI tOk 8 50 0 65 66 67 none ⟨(.box 3),[(0,0)],1,false,4,(CV.frzEs (x1.Ls.map Link.row))⟩ y2 (Link.row v9) _ kr kr kr kr kr kr rfl (Qb ev9) rfl (fun cx=>?_)
      exact aA [(9,[])] 1 [⟨[10],50,64,65⟩,⟨[10],50,59,60⟩] fun cx=>bA 10<|LAt.eqSG true (t := 78) (ty := 78) (ty' := 4) (x := (.tmp 63)) (y := (.tmp 68)) (d := 69) (g := none) ((v8.A == v9.A) && ((v8.P == v9.P) && ((v8.B == v9.B) && ((v8.Q == v9.Q) && true)))) _ kr kr kr kr rfl<|fA<|eE [69,6,3,2] [3,2]
     obtain ⟨h7,H⟩ | ⟨h7,H⟩ := bC H
     ·exact qT [69] h7<|nB_<|tK<|eA 3 76 12<|jB mo7 (wI (y2 + 1)) H [6,3,2] [3,2]
     refine qT [69] h7<|tB_<|gA 1 16 0<|te ?_
     cases H
     exact fF Ho7
    rintro _ H
    have H : (Ju n x0 x1) = some r := H
    unfold Ju at H
    refine tS<|gA 1 140 12 ?_
    obtain ⟨o4,eo4,Ho4⟩ := bs H
    clear H
    refine Tr.mid (ι := Unit) (fun v => ⟨88,0,[],[]⟩) (fun v => zBM n = some r) ?_ ?_
    ·refine tB<|Tr.loop (ι := Nat × (Int)) (fun v => ⟨88,0,[sI 7 v.2,sA 3 3 3 0,sA 2 2 3 0],[(3,(fR (Net.row x1))),(2,(fR (Net.row x0)))]⟩) (fun v => Z3 n v.1 x0 x1 v.2 = some o4) (fun v => v.1) (n,0) eo4 (St.sub_of [7,3,2] [3,2] kr) ?_
     rintro ⟨_ | mo4,y3⟩ H
     ·exact nN H
     have H : Z3 n (mo4+1) x0 x1 y3 = some o4 := H
     rw [Z3] at H
     refine tS<|rA 3<|kF x0.Said Say.row<|uA 1 0x400000000000000008c 12 ?_
     obtain ⟨h4,H⟩ | ⟨h4,H⟩ := bC H
     ·refine nA h4<|Tr.exit<|aJ ?_
      cases H
      exact jA () Ho4 [] []
     refine tA h4<|tK<|tS<|tB<|bE H fun v5 ev5 H=> bE H fun v6 ev6 H=> Tr.draws mixed 11 kr ⟨88,0,[sB 87 (!((v5.Link == v6.Link) && ((v5.Back == v6.Back) && (((v5.V.Root == v6.V.Root) && ((v5.V.Co == v6.V.Co) && ((v5.V.Hops == v6.V.Hops) && ((v5.V.Bridge == v6.V.Bridge) && ((v5.V.Port == v6.V.Port) && true))))) && true)))),sI 7 y3,sA 3 3 3 0,sA 2 2 3 0],[(3,(fR (Net.row x1))),(2,(fR (Net.row x0)))]⟩ (fun cx=>?_) ?_
     ·refine aA [(0,[]),(1,[10]),(2,[])] 8 [⟨[10],51,77,78⟩] fun cx=>aI tOk 3 51 0 78 79 80 none ⟨(.box 2),[(0,0)],2,false,7,(CV.frzEs (x0.Said.map Say.row))⟩ y3 (Say.row v5) _ kr kr kr kr kr kr rfl (Qb ev5) rfl (fun cx=>?_)
      refine aA [(4,[]),(5,[]),(6,[10]),(7,[])] 3 [⟨[10],51,82,83⟩,⟨[10],51,77,78⟩] fun cx=>aI tOk 8 51 0 83 84 85 none ⟨(.box 3),[(0,0)],2,false,7,(CV.frzEs (x1.Said.map Say.row))⟩ y3 (Say.row v6) _ kr kr kr kr kr kr rfl (Qb ev6) rfl (fun cx=>?_)
      exact aA [(9,[])] 1 [⟨[10],51,82,83⟩,⟨[10],51,77,78⟩] fun cx=>bA 10<|LAt.eqSG true (t := 127) (ty := 127) (ty' := 4) (x := (.tmp 81)) (y := (.tmp 86)) (d := 87) (g := none) ((v5.Link == v6.Link) && ((v5.Back == v6.Back) && (((v5.V.Root == v6.V.Root) && ((v5.V.Co == v6.V.Co) && ((v5.V.Hops == v6.V.Hops) && ((v5.V.Bridge == v6.V.Bridge) && ((v5.V.Port == v6.V.Port) && true))))) && true))) _ kr kr kr kr rfl<|fA<|eE [87,7,3,2] [3,2]
     obtain ⟨h5,H⟩ | ⟨h5,H⟩ := bC H
     ·exact qT [87] h5<|nB_<|tK<|eA 3 140 12<|jB mo4 (wI (y3 + 1)) H [7,3,2] [3,2]
     refine qT [87] h5<|tB_<|gA 1 16 0<|te ?_
     cases H
     exact fF Ho4
    rintro _ H
    have H : (zBM n) = some r := H
    unfold zBM at H
    exact gA 1 16 0<|te (fT H)
   exact tA h3<|gA 1 16 0<|te (fF H)
  exact qL 16777228 12 [24] h2<|uA 8 4294967308 12<|tB_<|gA 1 16 0<|te (fF H)
 exact qL 32780 12 [15] h1<|uA 17 4294967308 12<|tB_<|gA 1 16 0<|te (fF H)
def zCn (n : Nat) (y6 : (List zA)) (y7 : (List Link)) (y8 : (List Say)) : Option (Net) :=
  (some (⟨y6,y7,y8⟩ : Net))
def Zj (n : Nat) : Nat → (List Event) → Int → (List zA) → (List Link) → (List Say) → Option (((List zA) × (List Link) × (List Say)) ⊕ (Net))
  | 0,_,_,_,_,_ => none
  | mo9 + 1,x1,y2,y3,y4,y5 => (bif (decide (y2 < (x1.length : Int))) then ((idx x1 y2).bind fun v10 => (bif (decide (y2 < 60)) then ((Y9 n (⟨y3,y4,y5⟩ : Net) v10).bind fun r11 => (Zj n mo9 x1 (IntKind.wrap .i64 (y2 + 1)) r11.1.Bs r11.1.Ls r11.1.Said)) else (Zj n mo9 x1 (IntKind.wrap .i64 (y2 + 1)) y3 y4 y5))) else (some (Sum.inl (y3,y4,y5))))
def JD (n : Nat) (x0 : Net) (x1 : (List Event)) : Option (Net) :=
  ((YO n x0).bind fun r1 => ((Zj n n x1 0 r1.Bs r1.Ls r1.Said).bind fun o => match o with | .inl (y6,y7,y8) => (zCn n y6 y7 y8) | .inr r => some r))
theorem zG2 (n : Nat) (x0 : Net) (x1 : (List Event)) (r : Net) (H : JD n x0 x1 = some r) : zE Tryz.prog 71 [.val true (fR (Net.row x0)),.val false [.sl false 2 (CV.frzEs (x1.map Event.row))]] [.val true (Net.row r)] [] := by
 refine cW Tryz.func71 (fun g d => sl [g 0,g 1,sl [g 2] (.block 0 (.loop (sl [g 3,cn 13 .skip (.exit 0),.block 1 (sl [g 4,g 5] (cn 18 (g 6) .skip))] (g 7)))),g 8] .ret) [.cell 4 53] fun cx=>?_
 unfold JD at H
 refine gA 2 22 20<|rA 1<|bE H fun r1 er1 H=> vA [.rd] (zDK n x0 r1 er1)<|uA 2 50 48<|tS<|rA 1<|kF x1 Event.row<|uA 1 7216 48 ?_
 obtain ⟨o9,eo9,Ho9⟩ := bs H
 clear H
 refine Tr.mid (ι := (List zA) × (List Link) × (List Say)) (fun v => ⟨27,0,[sA 5 5 3 0,sA 4 4 3 0],[(5,[cL 11 v.1 zA.row,cL 4 v.2.1 Link.row,cL 7 v.2.2 Say.row]),(4,[cL 11 ([] : List zA) zA.row,cL 4 ([] : List Link) Link.row,cL 7 ([] : List Say) Say.row])]⟩) (fun v => zCn n v.1 v.2.1 v.2.2 = some r) ?_ ?_
 ·refine tB<|Tr.loop (ι := Nat × (Int × (List zA) × (List Link) × (List Say))) (fun v => ⟨27,0,[sI 12 v.2.1,sI 11 (x1.length : Int),sC 10 (cF 2 x1 Event.row),sA 5 5 3 0,sA 4 4 3 0],[(5,[cL 11 v.2.2.1 zA.row,cL 4 v.2.2.2.1 Link.row,cL 7 v.2.2.2.2 Say.row]),(4,[cL 11 ([] : List zA) zA.row,cL 4 ([] : List Link) Link.row,cL 7 ([] : List Say) Say.row])]⟩) (fun v => Zj n v.1 x1 v.2.1 v.2.2.1 v.2.2.2.1 v.2.2.2.2 = some o9) (fun v => v.1) (n,(0,r1.Bs,r1.Ls,r1.Said)) eo9 (St.sub_of [12,11,10,5,4] [5,4] kr) ?_
  rintro ⟨_ | mo9,y2,y3,y4,y5⟩ H
  ·exact nN H
  have H : Zj n (mo9+1) x1 y2 y3 y4 y5 = some o9 := H
  rw [Zj] at H
  refine gA 1 15408 48<|tS ?_
  obtain ⟨h1,H⟩ | ⟨h1,H⟩ := bC H
  ·refine nA h1<|Tr.exit<|aJ ?_
   cases H
   exact jA (y3,y4,y5) Ho9 [5,4] [5,4]
  refine tA h1<|tK<|tS<|tB<|rA 1<|bE H fun v10 ev10 H=> iA Event.row ev10<|uA 4 7408 176<|gA 2 269488 176 ?_
  obtain ⟨h2,H⟩ | ⟨h2,H⟩ := bC H
  ·exact nA h2<|tK<|eA 2 7216 48<|jB mo9 ((wI (y2 + 1)),y3,y4,y5) H [12,11,10,5,4] [5,4]
  exact tA h2<|Tr.at<|lA 2<|bE H fun r11 er11 H=> vB [.rd,.rd] [.box 5] (zLD n (⟨y3,y4,y5⟩ : Net) v10 r11 er11) (.inr (zM (Net.row_mine _) (zM (zJ zN zg) zT)))<|LAt.movT tOk (ty := 87) (t := 22) (d := 19) (g := none) [(true,(Net.row r11.1)),(false,[cB r11.2])] _ kr (.inl rfl) kr kr kr kr rfl<|uA 3 7216 48<|eA 2 7216 48<|jB mo9 ((wI (y2 + 1)),r11.1.Bs,r11.1.Ls,r11.1.Said) H [12,11,10,5,4] [5,4]
 rintro ⟨y6,y7,y8⟩ H
 have H : (zCn n y6 y7 y8) = some r := H
 unfold zCn at H
 exact gA 2 16 16<|te (fJ [(true,[cL 11 y6 zA.row,cL 4 y7 Link.row,cL 7 y8 Say.row])] H)
def zCv (n : Nat) (y6 : (List zA)) (y7 : (List Link)) (y8 : (List Say)) : Option (Net) :=
  (some (⟨y6,y7,y8⟩ : Net))
def YR (n : Nat) : Nat → (List Event) → Int → (List zA) → (List Link) → (List Say) → Option (((List zA) × (List Link) × (List Say)) ⊕ (Net))
  | 0,_,_,_,_,_ => none
  | mo9 + 1,x1,y2,y3,y4,y5 => (bif (decide (y2 < (x1.length : Int))) then (bif (decide (y2 < 60)) then ((idx x1 y2).bind fun v10 => ((YE n (⟨y3,y4,y5⟩ : Net) v10).bind fun r11 => (YR n mo9 x1 (IntKind.wrap .i64 (y2 + 1)) r11.1.Bs r11.1.Ls r11.1.Said))) else (some (Sum.inl (y3,y4,y5)))) else (some (Sum.inl (y3,y4,y5))))
def JH (n : Nat) (x0 : Net) (x1 : (List Event)) : Option (Net) :=
  ((YU n x0).bind fun r1 => ((YR n n x1 0 r1.Bs r1.Ls r1.Said).bind fun o => match o with | .inl (y6,y7,y8) => (zCv n y6 y7 y8) | .inr r => some r))
theorem zHI (n : Nat) (x0 : Net) (x1 : (List Event)) (r : Net) (H : JH n x0 x1 = some r) : zE Tryz.prog 72 [.val true (fR (Net.row x0)),.val false [.sl false 2 (CV.frzEs (x1.map Event.row))]] [.val true (Net.row r)] [] := by
 refine cW Tryz.func72 (fun g d => sl [g 0,g 1,sl [g 2] (.block 0 (.loop (sl [sl [g 3] (cn 16 .skip (.exit 0)),.block 1 (d 5)] (g 4)))),g 6] .ret) [.cell 4 53] fun cx=>?_
 unfold JH at H
 refine gA 2 22 20<|rA 1<|bE H fun r1 er1 H=> vA [.rd] (zDU n x0 r1 er1)<|uA 2 50 48<|tS<|gA 1 114 48 ?_
 obtain ⟨o9,eo9,Ho9⟩ := bs H
 clear H
 refine Tr.mid (ι := (List zA) × (List Link) × (List Say)) (fun v => ⟨29,0,[sA 5 5 3 0,sA 4 4 3 0],[(5,[cL 11 v.1 zA.row,cL 4 v.2.1 Link.row,cL 7 v.2.2 Say.row]),(4,[cL 11 ([] : List zA) zA.row,cL 4 ([] : List Link) Link.row,cL 7 ([] : List Say) Say.row])]⟩) (fun v => zCv n v.1 v.2.1 v.2.2 = some r) ?_ ?_
 ·refine tB<|Tr.loop (ι := Nat × (Int × (List zA) × (List Link) × (List Say))) (fun v => ⟨29,0,[sI 6 v.2.1,sA 5 5 3 0,sA 4 4 3 0,sC 1 (cF 2 x1 Event.row)],[(5,[cL 11 v.2.2.1 zA.row,cL 4 v.2.2.2.1 Link.row,cL 7 v.2.2.2.2 Say.row]),(4,[cL 11 ([] : List zA) zA.row,cL 4 ([] : List Link) Link.row,cL 7 ([] : List Say) Say.row])]⟩) (fun v => YR n v.1 x1 v.2.1 v.2.2.1 v.2.2.2.1 v.2.2.2.2 = some o9) (fun v => v.1) (n,(0,r1.Bs,r1.Ls,r1.Said)) eo9 (St.sub_of [6,5,4,1] [5,4] kr) ?_
  rintro ⟨_ | mo9,y2,y3,y4,y5⟩ H
  ·exact nN H
  have H : YR n (mo9+1) x1 y2 y3 y4 y5 = some o9 := H
  rw [YR] at H
  refine tS<|rA 2<|kF x1 Event.row<|lA 2 ?_
  obtain ⟨h1,H⟩ | ⟨h1,H⟩ := bC H
  ·refine qL 8306 48 [13] h1<|uA 3 65650 48<|nB_<|Tr.exit<|aJ ?_
   cases H
   exact jA (y3,y4,y5) Ho9 [5,4] [5,4]
  refine qL 8306 48 [13] h1<|uA 3 65650 48 ?_
  obtain ⟨h2,H⟩ | ⟨h2,H⟩ := bC H
  ·refine nA h2<|Tr.exit<|aJ ?_
   cases H
   exact jA (y3,y4,y5) Ho9 [5,4] [5,4]
  refine tA h2<|tK<|tS<|tB<|bE H fun v10 ev10 H=> bE H fun r11 er11 H=> Tr.draw mixed 10 kr ⟨29,0,[sI 6 y2,sA 5 5 3 0,sA 4 4 3 0,sC 1 (cF 2 x1 Event.row)],[(5,(Net.row r11.1)),(4,[cL 11 ([] : List zA) zA.row,cL 4 ([] : List Link) Link.row,cL 7 ([] : List Say) Say.row])]⟩ (fun cx=>?_) ?_
  ·refine aA [(0,[5,9]),(1,[]),(2,[])] 7 [⟨[5,9],53,5,20⟩] fun cx=>aI tOk 3 54 0 21 22 23 none ⟨(.slot 21),[],0,false,2,(CV.frzEs (x1.map Event.row))⟩ y2 (Event.row v10) _ kr kr kr kr kr kr rfl (Qb ev10) rfl (fun cx=>?_)
   refine aA [(4,[])] 5 [⟨[5,9],53,5,20⟩] fun cx=>bA 5<|vB [.rd,.rd] [.box 5] (zH8 n (⟨y3,y4,y5⟩ : Net) v10 r11 er11) (.inr (zM (Net.row_mine _) (zM (zJ zN zg) zT)))<|fA<|AT.movT tOk 6 (ty := 87) (t := 25) (d := 19) (g := none) [(true,(Net.row r11.1)),(false,[cB r11.2])] _ kr kr kr (.inl rfl) kr kr kr kr rfl (fun cx=>?_)
   exact aA [(7,[]),(8,[])] 1 [⟨[5,9],53,5,20⟩] fun cx=>bA 9<|lA 1<|fA<|eE [6,5,4,1] [5,4]
  exact eA 3 114 48<|jB mo9 ((wI (y2 + 1)),r11.1.Bs,r11.1.Ls,r11.1.Said) H [6,5,4,1] [5,4]
 rintro ⟨y6,y7,y8⟩ H
 have H : (zCv n y6 y7 y8) = some r := H
 unfold zCv at H
 exact gA 2 16 16<|te (fJ [(true,[cL 11 y6 zA.row,cL 4 y7 Link.row,cL 7 y8 Say.row])] H)
def zCj (n : Nat) (y7 : (List zA)) (y8 : (List Link)) (y9 : (List Say)) : Option (Net) :=
  (some (⟨y7,y8,y9⟩ : Net))
def Qh (n : Nat) : Nat → Net → Int → (List zA) → (List Link) → (List Say) → Option (((List zA) × (List Link) × (List Say)) ⊕ (Net))
  | 0,_,_,_,_,_ => none
  | mo10 + 1,x0,y3,y4,y5,y6 => (bif (decide (y3 < (x0.Ls.length : Int))) then ((idx x0.Ls y3).bind fun v11 => ((Z9 n x0 y3).bind fun r12 => (bif r12 then ((JA n x0 v11.B v11.Q).bind fun r13 => ((ZF n (⟨y4,y5,y6⟩ : Net) v11.A v11.P r13).bind fun r14 => ((JA n x0 v11.A v11.P).bind fun r15 => ((ZF n r14 v11.B v11.Q r15).bind fun r16 => (Qh n mo10 x0 (IntKind.wrap .i64 (y3 + 1)) r16.Bs r16.Ls r16.Said))))) else (Qh n mo10 x0 (IntKind.wrap .i64 (y3 + 1)) y4 y5 y6)))) else (some (Sum.inl (y4,y5,y6))))
def JC (n : Nat) (x0 : Net) : Option (Net) :=
  ((YO n x0).bind fun r1 => ((Q9 n x0).bind fun r2 => (bif (!r2) then (some r1) else ((Qh n n x0 0 r1.Bs r1.Ls ([] : List Say)).bind fun o => match o with | .inl (y7,y8,y9) => (zCj n y7 y8 y9) | .inr r => some r))))
theorem zG1 (n : Nat) (x0 : Net) (r : Net) (H : JC n x0 = some r) : zE Tryz.prog 73 [.val true (fR (Net.row x0))] [.val true (Net.row r)] [] := by
 refine cW Tryz.func73 (fun g d => sl [g 0,g 1,sl [g 2] (cn 10 (sl [g 3] .ret) .skip),g 4,sl [g 5] (.block 0 (.loop (sl [g 6,cn 17 .skip (.exit 0),.block 1 (sl [g 7,g 8] (cn 23 (sl [d 9] (d 10)) .skip))] (g 11)))),g 12] .ret) [.cell 2 53] fun cx=>?_
 unfold JC at H
 refine gA 2 6 6<|rA 1<|bE H fun r1 er1 H=> vA [.rd] (zDK n x0 r1 er1)<|uA 2 14 14<|tS<|rA 1<|bE H fun r2 er2 H=> vA [.rd] (zJh n x0 r2 er2)<|uA 1 1038 14 ?_
 obtain ⟨h1,H⟩ | ⟨h1,H⟩ := bC H
 ·refine nA h1<|tK<|gA 2 14 14<|tS<|rA 2<|kF x0.Ls Link.row<|uA 1 114702 14 ?_
  obtain ⟨o10,eo10,Ho10⟩ := bs H
  clear H
  refine Tr.mid (ι := (List zA) × (List Link) × (List Say)) (fun v => ⟨48,0,[sA 3 3 3 0,sA 2 2 3 0],[(3,[cL 11 v.1 zA.row,cL 4 v.2.1 Link.row,cL 7 v.2.2 Say.row]),(2,[cL 11 ([] : List zA) zA.row,cL 4 ([] : List Link) Link.row,cL 7 ([] : List Say) Say.row])]⟩) (fun v => zCj n v.1 v.2.1 v.2.2 = some r) ?_ ?_
  ·refine tB<|Tr.loop (ι := Nat × (Int × (List zA) × (List Link) × (List Say))) (fun v => ⟨48,0,[sI 16 v.2.1,sI 15 (x0.Ls.length : Int),sC 14 (cF 4 x0.Ls Link.row),sA 3 3 3 0,sA 2 2 3 0,sA 1 1 3 0],[(3,[cL 11 v.2.2.1 zA.row,cL 4 v.2.2.2.1 Link.row,cL 7 v.2.2.2.2 Say.row]),(2,[cL 11 ([] : List zA) zA.row,cL 4 ([] : List Link) Link.row,cL 7 ([] : List Say) Say.row]),(1,(fR (Net.row x0)))]⟩) (fun v => Qh n v.1 x0 v.2.1 v.2.2.1 v.2.2.2.1 v.2.2.2.2 = some o10) (fun v => v.1) (n,(0,r1.Bs,r1.Ls,([] : List Say))) eo10 (St.sub_of [16,15,14,3,2,1] [3,2,1] kr) ?_
   rintro ⟨_ | mo10,y3,y4,y5,y6⟩ H
   ·exact nN H
   have H : Qh n (mo10+1) x0 y3 y4 y5 y6 = some o10 := H
   rw [Qh] at H
   refine gA 1 245774 14<|tS ?_
   obtain ⟨h2,H⟩ | ⟨h2,H⟩ := bC H
   ·refine nA h2<|Tr.exit<|aJ ?_
    cases H
    exact jA (y4,y5,y6) Ho10 [3,2] [3,2]
   refine tA h2<|tK<|tS<|tB<|rA 1<|bE H fun v11 ev11 H=> iA Link.row ev11<|uA 4 114750 46<|rA 2<|bE H fun r12 er12 H=> vA [.rd,.rd] (zD3 n x0 y3 r12 er12)<|dA 8503342 46 ?_
   cases h3 : r12
   ·have H := qe h3 H
    exact nB_<|tK<|eA 2 114702 14<|jB mo10 ((wI (y3 + 1)),y4,y5,y6) H [16,15,14,3,2,1] [3,2,1]
   have H := qf h3 H
   refine tB_<|bE H fun r13 er13 H=> bE H fun r14 er14 H=> Tr.draws mixed 11 kr ⟨48,0,[sA 5 5 4 0,sI 16 y3,sI 15 (x0.Ls.length : Int),sC 14 (cF 4 x0.Ls Link.row),sA 3 3 3 0,sA 2 2 3 0,sA 1 1 3 0],[(3,(Net.row r14)),(5,(Link.row v11)),(2,[cL 11 ([] : List zA) zA.row,cL 4 ([] : List Link) Link.row,cL 7 ([] : List Say) Say.row]),(1,(fR (Net.row x0)))]⟩ (fun cx=>?_) ?_
   ·exact aA [(0,[]),(1,[10]),(2,[]),(3,[10]),(4,[9,10]),(5,[]),(6,[9,10]),(7,[]),(8,[9,10])] 2 [⟨[9,10],3,31,32⟩,⟨[9,10],3,29,30⟩,⟨[9,10],53,1,28⟩,⟨[10],3,26,27⟩,⟨[10],3,24,25⟩] fun cx=>bA 9<|vA [.rd,.rd,.rd] (zF1 n x0 v11.B v11.Q r13 er13)<|fA<|bA 10<|vL [.lend,.rd,.rd,.rd] (zCi n (⟨y4,y5,y6⟩ : Net) v11.A v11.P r13 r14 er14)<|fA<|eE [5,16,15,14,3,2,1] [3,5,2,1]
   refine bE H fun r15 er15 H=> bE H fun r16 er16 H=> Tr.draw mixed 11 kr ⟨48,0,[sI 16 y3,sI 15 (x0.Ls.length : Int),sC 14 (cF 4 x0.Ls Link.row),sA 3 3 3 0,sA 2 2 3 0,sA 1 1 3 0],[(3,(Net.row r16)),(2,[cL 11 ([] : List zA) zA.row,cL 4 ([] : List Link) Link.row,cL 7 ([] : List Say) Say.row]),(1,(fR (Net.row x0)))]⟩ (fun cx=>?_) ?_
   ·exact aA [(0,[]),(1,[10]),(2,[]),(3,[10]),(4,[9,10]),(5,[]),(6,[9,10]),(7,[]),(8,[9,10])] 2 [⟨[9,10],3,42,43⟩,⟨[9,10],3,40,41⟩,⟨[9,10],53,1,39⟩,⟨[10],3,37,38⟩,⟨[10],3,35,36⟩] fun cx=>bA 9<|vA [.rd,.rd,.rd] (zF1 n x0 v11.A v11.P r15 er15)<|fA<|bA 10<|vL [.lend,.rd,.rd,.rd] (zCi n r14 v11.B v11.Q r15 r16 er16)<|fA<|eE [16,15,14,3,2,1] [3,2,1]
   exact eA 2 114702 14<|jB mo10 ((wI (y3 + 1)),r16.Bs,r16.Ls,r16.Said) H [16,15,14,3,2,1] [3,2,1]
  rintro ⟨y7,y8,y9⟩ H
  have H : (zCj n y7 y8 y9) = some r := H
  unfold zCj at H
  exact gA 2 4 4<|te (fJ [(true,[cL 11 y7 zA.row,cL 4 y8 Link.row,cL 7 y9 Say.row])] H)
 exact tA h1<|gA 2 4 4<|te (fJ [(true,(Net.row r1))] H)
def zCs (n : Nat) (y7 : (List zA)) (y8 : (List Link)) (y9 : (List Say)) : Option (Net) :=
  (some (⟨y7,y8,y9⟩ : Net))
def Qk (n : Nat) : Nat → Net → Int → (List zA) → (List Link) → (List Say) → Option (((List zA) × (List Link) × (List Say)) ⊕ (Net))
  | 0,_,_,_,_,_ => none
  | mo10 + 1,x0,y3,y4,y5,y6 => (bif (decide (y3 < (x0.Ls.length : Int))) then ((ZW n x0 y3).bind fun r11 => (bif r11 then ((YI n x0 y3 true).bind fun r12 => ((Qm n (⟨y4,y5,y6⟩ : Net) y3 true r12).bind fun r13 => ((YI n x0 y3 false).bind fun r14 => ((Qm n r13 y3 false r14).bind fun r15 => (Qk n mo10 x0 (IntKind.wrap .i64 (y3 + 1)) r15.Bs r15.Ls r15.Said))))) else (Qk n mo10 x0 (IntKind.wrap .i64 (y3 + 1)) y4 y5 y6))) else (some (Sum.inl (y4,y5,y6))))
def JF (n : Nat) (x0 : Net) : Option (Net) :=
  ((YU n x0).bind fun r1 => ((QH n x0).bind fun r2 => (bif (!r2) then (some r1) else ((Qk n n x0 0 r1.Bs r1.Ls ([] : List Say)).bind fun o => match o with | .inl (y7,y8,y9) => (zCs n y7 y8 y9) | .inr r => some r))))
theorem zHH (n : Nat) (x0 : Net) (r : Net) (H : JF n x0 = some r) : zE Tryz.prog 74 [.val true (fR (Net.row x0))] [.val true (Net.row r)] [] := by
 refine cW Tryz.func74 (fun g d => sl [g 0,g 1,sl [g 2] (cn 9 (sl [g 3] .ret) .skip),g 4,sl [g 5] (.block 0 (.loop (sl [sl [g 6] (cn 17 .skip (.exit 0)),.block 1 (sl [g 8] (cn 22 (sl [g 9] (g 10)) .skip))] (g 7)))),g 11] .ret) [.cell 2 53] fun cx=>?_
 unfold JF at H
 refine gA 2 6 6<|rA 1<|bE H fun r1 er1 H=> vA [.rd] (zDU n x0 r1 er1)<|uA 2 14 14<|tS<|rA 1<|bE H fun r2 er2 H=> vA [.rd] (zHG n x0 r2 er2)<|uA 1 526 14 ?_
 obtain ⟨h1,H⟩ | ⟨h1,H⟩ := bC H
 ·refine nA h1<|tK<|gA 3 14 14<|tS<|gA 1 30 14 ?_
  obtain ⟨o10,eo10,Ho10⟩ := bs H
  clear H
  refine Tr.mid (ι := (List zA) × (List Link) × (List Say)) (fun v => ⟨34,0,[sA 3 3 3 0,sA 2 2 3 0],[(3,[cL 11 v.1 zA.row,cL 4 v.2.1 Link.row,cL 7 v.2.2 Say.row]),(2,[cL 11 ([] : List zA) zA.row,cL 4 ([] : List Link) Link.row,cL 7 ([] : List Say) Say.row])]⟩) (fun v => zCs n v.1 v.2.1 v.2.2 = some r) ?_ ?_
  ·refine tB<|Tr.loop (ι := Nat × (Int × (List zA) × (List Link) × (List Say))) (fun v => ⟨34,0,[sI 4 v.2.1,sA 3 3 3 0,sA 2 2 3 0,sA 1 1 3 0],[(3,[cL 11 v.2.2.1 zA.row,cL 4 v.2.2.2.1 Link.row,cL 7 v.2.2.2.2 Say.row]),(2,[cL 11 ([] : List zA) zA.row,cL 4 ([] : List Link) Link.row,cL 7 ([] : List Say) Say.row]),(1,(fR (Net.row x0)))]⟩) (fun v => Qk n v.1 x0 v.2.1 v.2.2.1 v.2.2.2.1 v.2.2.2.2 = some o10) (fun v => v.1) (n,(0,r1.Bs,r1.Ls,([] : List Say))) eo10 (St.sub_of [4,3,2,1] [3,2,1] kr) ?_
   rintro ⟨_ | mo10,y3,y4,y5,y6⟩ H
   ·exact nN H
   have H : Qk n (mo10+1) x0 y3 y4 y5 y6 = some o10 := H
   rw [Qk] at H
   refine tS<|rA 3<|kF x0.Ls Link.row<|uA 1 131102 14 ?_
   obtain ⟨h2,H⟩ | ⟨h2,H⟩ := bC H
   ·refine nA h2<|Tr.exit<|aJ ?_
    cases H
    exact jA (y4,y5,y6) Ho10 [3,2] [3,2]
   refine tA h2<|tK<|tS<|tB<|rA 2<|bE H fun r11 er11 H=> vA [.rd,.rd] (zD6 n x0 y3 r11 er11)<|dA 4194334 14 ?_
   cases h3 : r11
   ·have H := qe h3 H
    exact nB_<|tK<|eA 3 30 14<|jB mo10 ((wI (y3 + 1)),y4,y5,y6) H [4,3,2,1] [3,2,1]
   have H := qf h3 H
   exact tB_<|rA 3<|bE H fun r12 er12 H=> vA [.rd,.rd,.rd] (zD8 n x0 y3 true r12 er12)<|bE H fun r13 er13 H=> vL [.lend,.rd,.rd,.rd] (zFk n (⟨y4,y5,y6⟩ : Net) y3 true r12 r13 er13)<|dA 30 14<|Tr.at<|lA 3<|bE H fun r14 er14 H=> vA [.rd,.rd,.rd] (zD8 n x0 y3 false r14 er14)<|bE H fun r15 er15 H=> vL [.lend,.rd,.rd,.rd] (zFk n r13 y3 false r14 r15 er15)<|dA 30 14<|eA 3 30 14<|jB mo10 ((wI (y3 + 1)),r15.Bs,r15.Ls,r15.Said) H [4,3,2,1] [3,2,1]
  rintro ⟨y7,y8,y9⟩ H
  have H : (zCs n y7 y8 y9) = some r := H
  unfold zCs at H
  exact gA 2 4 4<|te (fJ [(true,[cL 11 y7 zA.row,cL 4 y8 Link.row,cL 7 y9 Say.row])] H)
 exact tA h1<|gA 2 4 4<|te (fJ [(true,(Net.row r1))] H)
def zB0 (n : Nat) (y6 : (List zA)) (y7 : (List Link)) (y8 : (List Say)) : Option (Net) :=
  (some (⟨y6,y7,y8⟩ : Net))
def Q1 (n : Nat) : Nat → Int → Int → (List zA) → (List Link) → (List Say) → Option (((List zA) × (List Link) × (List Say)) ⊕ (Net))
  | 0,_,_,_,_,_ => none
  | mo9 + 1,x1,y2,y3,y4,y5 => (bif (decide (y2 < (if (if 30 < x1 then 30 else x1) > 0 then (if 30 < x1 then 30 else x1) else 0))) then ((JC n (⟨y3,y4,y5⟩ : Net)).bind fun r10 => (Q1 n mo9 x1 (IntKind.wrap .i64 (y2 + 1)) r10.Bs r10.Ls r10.Said)) else (some (Sum.inl (y3,y4,y5))))
def zAJ (n : Nat) (x0 : Net) (x1 : Int) : Option (Net) :=
  ((YO n x0).bind fun r1 => ((Q1 n n x1 0 r1.Bs r1.Ls r1.Said).bind fun o => match o with | .inl (y6,y7,y8) => (zB0 n y6 y7 y8) | .inr r => some r))
theorem zMX (n : Nat) (x0 : Net) (x1 : Int) (r : Net) (H : zAJ n x0 x1 = some r) : zE Tryz.prog 28 [.val true (fR (Net.row x0)),.val false [.lit (.int .i64 x1)]] [.val true (Net.row r)] [] := by
 refine cW Tryz.func28 (fun g d => sl [g 0,g 1,sl [g 2] (.block 0 (.loop (sl [g 3,cn 12 .skip (.exit 0),.block 1 (g 4)] (g 5)))),g 6] .ret) [.cell 4 53] fun cx=>?_
 unfold zAJ at H
 refine gA 2 22 20<|rA 1<|bE H fun r1 er1 H=> vA [.rd] (zDK n x0 r1 er1)<|uA 2 50 48<|tS<|gA 4 3120 48 ?_
 obtain ⟨o9,eo9,Ho9⟩ := bs H
 clear H
 refine Tr.mid (ι := (List zA) × (List Link) × (List Say)) (fun v => ⟨17,0,[sA 5 5 3 0,sA 4 4 3 0],[(5,[cL 11 v.1 zA.row,cL 4 v.2.1 Link.row,cL 7 v.2.2 Say.row]),(4,[cL 11 ([] : List zA) zA.row,cL 4 ([] : List Link) Link.row,cL 7 ([] : List Say) Say.row])]⟩) (fun v => zB0 n v.1 v.2.1 v.2.2 = some r) ?_ ?_
 ·refine tB<|Tr.loop (ι := Nat × (Int × (List zA) × (List Link) × (List Say))) (fun v => ⟨17,0,[sI 11 v.2.1,sI 10 (if (if 30 < x1 then 30 else x1) > 0 then (if 30 < x1 then 30 else x1) else 0),sA 5 5 3 0,sA 4 4 3 0],[(5,[cL 11 v.2.2.1 zA.row,cL 4 v.2.2.2.1 Link.row,cL 7 v.2.2.2.2 Say.row]),(4,[cL 11 ([] : List zA) zA.row,cL 4 ([] : List Link) Link.row,cL 7 ([] : List Say) Say.row])]⟩) (fun v => Q1 n v.1 x1 v.2.1 v.2.2.1 v.2.2.2.1 v.2.2.2.2 = some o9) (fun v => v.1) (n,(0,r1.Bs,r1.Ls,r1.Said)) eo9 (St.sub_of [11,10,5,4] [5,4] kr) ?_
  rintro ⟨_ | mo9,y2,y3,y4,y5⟩ H
  ·exact nN H
  have H : Q1 n (mo9+1) x1 y2 y3 y4 y5 = some o9 := H
  rw [Q1] at H
  refine gA 1 7216 48<|tS ?_
  obtain ⟨h1,H⟩ | ⟨h1,H⟩ := bC H
  ·refine nA h1<|Tr.exit<|aJ ?_
   cases H
   exact jA (y3,y4,y5) Ho9 [5,4] [5,4]
  exact tA h1<|tK<|tS<|tB<|Tr.at<|lA 1<|bE H fun r10 er10 H=> vB [.rd] [.box 5] (zG1 n (⟨y3,y4,y5⟩ : Net) r10 er10) (.inr (zM (Net.row_mine _) zT))<|uA 1 3120 48<|eA 2 3120 48<|jB mo9 ((wI (y2 + 1)),r10.Bs,r10.Ls,r10.Said) H [11,10,5,4] [5,4]
 rintro ⟨y6,y7,y8⟩ H
 have H : (zB0 n y6 y7 y8) = some r := H
 unfold zB0 at H
 exact gA 2 16 16<|te (fJ [(true,[cL 11 y6 zA.row,cL 4 y7 Link.row,cL 7 y8 Say.row])] H)
def zCC (n : Nat) (y6 : (List zA)) (y7 : (List Link)) (y8 : (List Say)) : Option (Net) :=
  (some (⟨y6,y7,y8⟩ : Net))
def Q7 (n : Nat) : Nat → Int → Int → (List zA) → (List Link) → (List Say) → Option (((List zA) × (List Link) × (List Say)) ⊕ (Net))
  | 0,_,_,_,_,_ => none
  | mo9 + 1,x1,y2,y3,y4,y5 => (bif (decide (y2 < x1)) then (bif (decide (y2 < 30)) then ((JF n (⟨y3,y4,y5⟩ : Net)).bind fun r10 => (Q7 n mo9 x1 (IntKind.wrap .i64 (y2 + 1)) r10.Bs r10.Ls r10.Said)) else (some (Sum.inl (y3,y4,y5)))) else (some (Sum.inl (y3,y4,y5))))
def zAS (n : Nat) (x0 : Net) (x1 : Int) : Option (Net) :=
  ((YU n x0).bind fun r1 => ((Q7 n n x1 0 r1.Bs r1.Ls r1.Said).bind fun o => match o with | .inl (y6,y7,y8) => (zCC n y6 y7 y8) | .inr r => some r))
theorem zMk (n : Nat) (x0 : Net) (x1 : Int) (r : Net) (H : zAS n x0 x1 = some r) : zE Tryz.prog 75 [.val true (fR (Net.row x0)),.val false [.lit (.int .i64 x1)]] [.val true (Net.row r)] [] := by
 refine cW Tryz.func75 (fun g d => sl [g 0,g 1,sl [g 2] (.block 0 (.loop (sl [sl [g 3] (cn 15 .skip (.exit 0)),.block 1 (g 5)] (g 4)))),g 6] .ret) [.cell 4 53] fun cx=>?_
 unfold zAS at H
 refine gA 2 22 20<|rA 1<|bE H fun r1 er1 H=> vA [.rd] (zDU n x0 r1 er1)<|uA 2 50 48<|tS<|gA 1 114 48 ?_
 obtain ⟨o9,eo9,Ho9⟩ := bs H
 clear H
 refine Tr.mid (ι := (List zA) × (List Link) × (List Say)) (fun v => ⟨21,0,[sA 5 5 3 0,sA 4 4 3 0],[(5,[cL 11 v.1 zA.row,cL 4 v.2.1 Link.row,cL 7 v.2.2 Say.row]),(4,[cL 11 ([] : List zA) zA.row,cL 4 ([] : List Link) Link.row,cL 7 ([] : List Say) Say.row])]⟩) (fun v => zCC n v.1 v.2.1 v.2.2 = some r) ?_ ?_
 ·refine tB<|Tr.loop (ι := Nat × (Int × (List zA) × (List Link) × (List Say))) (fun v => ⟨21,0,[sI 6 v.2.1,sA 5 5 3 0,sA 4 4 3 0,sI 1 x1],[(5,[cL 11 v.2.2.1 zA.row,cL 4 v.2.2.2.1 Link.row,cL 7 v.2.2.2.2 Say.row]),(4,[cL 11 ([] : List zA) zA.row,cL 4 ([] : List Link) Link.row,cL 7 ([] : List Say) Say.row])]⟩) (fun v => Q7 n v.1 x1 v.2.1 v.2.2.1 v.2.2.2.1 v.2.2.2.2 = some o9) (fun v => v.1) (n,(0,r1.Bs,r1.Ls,r1.Said)) eo9 (St.sub_of [6,5,4,1] [5,4] kr) ?_
  rintro ⟨_ | mo9,y2,y3,y4,y5⟩ H
  ·exact nN H
  have H : Q7 n (mo9+1) x1 y2 y3 y4 y5 = some o9 := H
  rw [Q7] at H
  refine tS<|rA 4 ?_
  obtain ⟨h1,H⟩ | ⟨h1,H⟩ := bC H
  ·refine qL 4210 48 [12] h1<|uA 3 32882 48<|nB_<|Tr.exit<|aJ ?_
   cases H
   exact jA (y3,y4,y5) Ho9 [5,4] [5,4]
  refine qL 4210 48 [12] h1<|uA 3 32882 48 ?_
  obtain ⟨h2,H⟩ | ⟨h2,H⟩ := bC H
  ·refine nA h2<|Tr.exit<|aJ ?_
   cases H
   exact jA (y3,y4,y5) Ho9 [5,4] [5,4]
  exact tA h2<|tK<|tS<|tB<|Tr.at<|lA 1<|bE H fun r10 er10 H=> vB [.rd] [.box 5] (zHH n (⟨y3,y4,y5⟩ : Net) r10 er10) (.inr (zM (Net.row_mine _) zT))<|uA 1 114 48<|eA 3 114 48<|jB mo9 ((wI (y2 + 1)),r10.Bs,r10.Ls,r10.Said) H [6,5,4,1] [5,4]
 rintro ⟨y6,y7,y8⟩ H
 have H : (zCC n y6 y7 y8) = some r := H
 unfold zCC at H
 exact gA 2 16 16<|te (fJ [(true,[cL 11 y6 zA.row,cL 4 y7 Link.row,cL 7 y8 Say.row])] H)
def zAA (n : Nat) (x0 : (List Int)) : Option (Bool) :=
  ((zF3 n x0).bind fun r1 => (bif r1 then (some true) else ((zAP n x0).bind fun r2 => ((Y9 n r2.1 r2.2).bind fun r3 => ((YE n r2.1 r2.2).bind fun r4 => ((Jy n x0).bind fun r5 => ((Jx n x0).bind fun r6 => ((JW n x0).bind fun r7 => (bif (r3.2 == r4.2) then ((qR n r3.1 r4.1).bind fun r8 => (bif r8 then ((JD n r5.1 r5.2).bind fun r9 => ((JH n r5.1 r5.2).bind fun r10 => ((qR n r9 r10).bind fun r11 => (bif r11 then ((JC n r6).bind fun r12 => ((JF n r6).bind fun r13 => ((qR n r12 r13).bind fun r14 => (bif r14 then ((zAJ n r7.1 r7.2).bind fun r15 => ((zAS n r7.1 r7.2).bind fun r16 => ((qR n r15 r16).bind fun r17 => (some r17)))) else (some false))))) else (some false))))) else (some false))) else (some false))))))))))
def T7x9 : Tab := ⟨34,[0,0,3,4,8,8,56,72,192,256,256,1792,256,256,14592,18688,33024,98304,131072,393216,131072,1703936,2752512,4325376,12582912,16777216,16777216,117440512,16777216,16777216,956301312,1224736768,2164260864,8589934591],[0,0,3,4,8,8,56,72,128,256,256,1792,256,256,12544,18688,33024,65536,131072,393216,131072,1179648,2752512,4325376,8388608,16777216,16777216,117440512,16777216,16777216,822083584,1224736768,2164260864,4294967296],[0,0,3,7,15,15,63,127,255,511,511,2047,511,511,16383,32767,65535,131071,262143,524287,262143,2097151,4194303,8388607,16777215,33554431,33554431,134217727,33554431,33554431,1073741823,2147483647,4294967295,8589934591]⟩
theorem qb : zc (rg Tryz.f7 9) T7x9 = true := kr
theorem zHX (n : Nat) (r3 : Net × Bool) (r4 : Net × Bool) (r7 : Net × Int) (r5 : Net × (List Event)) (r6 : Net) (r8 : Bool) (h2 : (r3.2 == r4.2) = true) (er8 : (qR n r3.1 r4.1) = some r8) (h3 : r8 = false) (cx : Cx) : AT Tryz.prog cx (rg Tryz.f7 9) [] 34 [] ⟨78,0,[sI 13 r7.2,sA 12 12 3 0,sA 11 11 3 0,sC 10 (cL 2 r5.2 Event.row),sA 9 9 3 0,sB 8 r4.2,sA 7 7 3 0,sB 6 r3.2,sA 5 5 3 0],[(12,(Net.row r7.1)),(11,(Net.row r6)),(9,(Net.row r5.1)),(7,(Net.row r4.1)),(5,(Net.row r3.1))]⟩ (fun s => s = ⟨78,0,[sB 2 false],[]⟩) := by
 exact mA qb (zl [0,1,2,3]) 30 [] fun cx=>qA 281474976726688 6816 [48] h2<|mA qb [(4,[6]),(5,[6])] 28 [⟨[6],53,7,50⟩,⟨[6],53,5,49⟩] fun cx=>mC qb 6<|vB [.rd,.rd] [.box 5,.box 7] (Qe n r3.1 r4.1 r8 er8) (.inr (zM (zJ zN zg) zT))<|fA<|mA qb [(7,[]),(8,[])] 25 [⟨[6],53,7,50⟩,⟨[6],53,5,49⟩] fun cx=>qA 0x26000000003ea0 6816 [53] h3<|mA qb (zl [9,10,11,12,13,14,15,16,17,18,19,20,21,22,23,24,25,26,27,28,29,30,31,32,33]) 0 [⟨[6],53,7,50⟩,⟨[6],53,5,49⟩] fun cx=>mE qb [2] []
theorem zHY (n : Nat) (r3 : Net × Bool) (r4 : Net × Bool) (r7 : Net × Int) (r5 : Net × (List Event)) (r6 : Net) (r8 : Bool) (r9 : Net) (r10 : Net) (r11 : Bool) (h2 : (r3.2 == r4.2) = true) (er8 : (qR n r3.1 r4.1) = some r8) (h3 : r8 = true) (er9 : (JD n r5.1 r5.2) = some r9) (er10 : (JH n r5.1 r5.2) = some r10) (er11 : (qR n r9 r10) = some r11) (h4 : r11 = false) (cx : Cx) : AT Tryz.prog cx (rg Tryz.f7 9) [] 34 [] ⟨78,0,[sI 13 r7.2,sA 12 12 3 0,sA 11 11 3 0,sC 10 (cL 2 r5.2 Event.row),sA 9 9 3 0,sB 8 r4.2,sA 7 7 3 0,sB 6 r3.2,sA 5 5 3 0],[(12,(Net.row r7.1)),(11,(Net.row r6)),(9,(Net.row r5.1)),(7,(Net.row r4.1)),(5,(Net.row r3.1))]⟩ (fun s => s = ⟨78,0,[sB 2 false],[]⟩) := by
 exact mA qb (zl [0,1,2,3]) 30 [] fun cx=>qA 281474976726688 6816 [48] h2<|mA qb [(4,[6,11,14,15]),(5,[6,11,14,15])] 28 [⟨[6,11,14,15],53,7,50⟩,⟨[6,11,14,15],53,5,49⟩] fun cx=>mC qb 6<|vB [.rd,.rd] [.box 5,.box 7] (Qe n r3.1 r4.1 r8 er8) (.inr (zM (zJ zN zg) zT))<|fA<|mA qb [(7,[]),(8,[])] 25 [⟨[6,11,14,15],53,7,50⟩,⟨[6,11,14,15],53,5,49⟩] fun cx=>qA 0x26000000003ea0 6816 [53] h3<|mA qb [(9,[11,14,15]),(10,[]),(12,[14,15]),(13,[])] 21 [⟨[14,15],53,9,57⟩,⟨[11,14,15],53,9,54⟩,⟨[6,11,14,15],53,7,50⟩,⟨[6,11,14,15],53,5,49⟩] fun cx=>mC qb 11<|vB [.rd,.rd] [.box 9,.slot 10] (zG2 n r5.1 r5.2 r9 er9) (.inr (zM (Net.row_mine _) zT))<|fA<|mC qb 14<|vB [.rd,.rd] [.box 9,.slot 10] (zHI n r5.1 r5.2 r10 er10) (.inr (zM (Net.row_mine _) zT))<|fA<|mC qb 15<|vA [.rd,.rd] (Qe n r9 r10 r11 er11)<|fA<|mA qb [(16,[]),(17,[])] 16 [⟨[14,15],53,9,57⟩,⟨[11,14,15],53,9,54⟩,⟨[6,11,14,15],53,7,50⟩,⟨[6,11,14,15],53,5,49⟩] fun cx=>qA 0x4246000000003aa0 6816 [62] h4<|mA qb (zl [18,19,20,21,22,23,24,25,26,27,28,29,30,31,32,33]) 0 [⟨[14,15],53,9,57⟩,⟨[11,14,15],53,9,54⟩,⟨[6,11,14,15],53,7,50⟩,⟨[6,11,14,15],53,5,49⟩] fun cx=>mE qb [2] []
theorem zHZ (n : Nat) (r3 : Net × Bool) (r4 : Net × Bool) (r7 : Net × Int) (r5 : Net × (List Event)) (r6 : Net) (r8 : Bool) (r9 : Net) (r10 : Net) (r11 : Bool) (r12 : Net) (r13 : Net) (r14 : Bool) (h2 : (r3.2 == r4.2) = true) (er8 : (qR n r3.1 r4.1) = some r8) (h3 : r8 = true) (er9 : (JD n r5.1 r5.2) = some r9) (er10 : (JH n r5.1 r5.2) = some r10) (er11 : (qR n r9 r10) = some r11) (h4 : r11 = true) (er12 : (JC n r6) = some r12) (er13 : (JF n r6) = some r13) (er14 : (qR n r12 r13) = some r14) (h5 : r14 = false) (cx : Cx) : AT Tryz.prog cx (rg Tryz.f7 9) [] 34 [] ⟨78,0,[sI 13 r7.2,sA 12 12 3 0,sA 11 11 3 0,sC 10 (cL 2 r5.2 Event.row),sA 9 9 3 0,sB 8 r4.2,sA 7 7 3 0,sB 6 r3.2,sA 5 5 3 0],[(12,(Net.row r7.1)),(11,(Net.row r6)),(9,(Net.row r5.1)),(7,(Net.row r4.1)),(5,(Net.row r3.1))]⟩ (fun s => s = ⟨78,0,[sB 2 false],[]⟩) := by
 refine mA qb (zl [0,1,2,3]) 30 [] fun cx=>qA 281474976726688 6816 [48] h2<|mA qb [(4,[6,11,14,15,19,21,22]),(5,[6,11,14,15,19,21,22])] 28 [⟨[6,11,14,15,19,21,22],53,7,50⟩,⟨[6,11,14,15,19,21,22],53,5,49⟩] fun cx=>mC qb 6<|vB [.rd,.rd] [.box 5,.box 7] (Qe n r3.1 r4.1 r8 er8) (.inr (zM (zJ zN zg) zT))<|fA<|mA qb [(7,[]),(8,[])] 25 [⟨[6,11,14,15,19,21,22],53,7,50⟩,⟨[6,11,14,15,19,21,22],53,5,49⟩] fun cx=>qA 0x26000000003ea0 6816 [53] h3<|mA qb [(9,[11,14,15,19,21,22]),(10,[]),(12,[14,15,19,21,22]),(13,[])] 21 [⟨[14,15,19,21,22],53,9,57⟩,⟨[11,14,15,19,21,22],53,9,54⟩,⟨[6,11,14,15,19,21,22],53,7,50⟩,⟨[6,11,14,15,19,21,22],53,5,49⟩] fun cx=>mC qb 11<|vB [.rd,.rd] [.box 9,.slot 10] (zG2 n r5.1 r5.2 r9 er9) (.inr (zM (Net.row_mine _) zT))<|fA<|mC qb 14<|vB [.rd,.rd] [.box 9,.slot 10] (zHI n r5.1 r5.2 r10 er10) (.inr (zM (Net.row_mine _) zT))<|fA<|mC qb 15<|vA [.rd,.rd] (Qe n r9 r10 r11 er11)<|fA<|mA qb [(16,[]),(17,[])] 16 [⟨[14,15,19,21,22],53,9,57⟩,⟨[11,14,15,19,21,22],53,9,54⟩,⟨[6,11,14,15,19,21,22],53,7,50⟩,⟨[6,11,14,15,19,21,22],53,5,49⟩] fun cx=>qA 0x4246000000003aa0 6816 [62] h4<|mA qb [(18,[19,21,22]),(20,[21,22])] 14 [⟨[21,22],53,11,65⟩,⟨[19,21,22],53,11,63⟩,⟨[14,15,19,21,22],53,9,57⟩,⟨[11,14,15,19,21,22],53,9,54⟩,⟨[6,11,14,15,19,21,22],53,7,50⟩,⟨[6,11,14,15,19,21,22],53,5,49⟩] fun cx=>mC qb 19<|vB [.rd] [.box 11] (zG1 n r6 r12 er12) (.inr (zM (Net.row_mine _) zT)) ?_
 exact fA<|mC qb 21<|vB [.rd] [.box 11] (zHH n r6 r13 er13) (.inr (zM (Net.row_mine _) zT))<|fA<|mC qb 22<|vA [.rd,.rd] (Qe n r12 r13 r14 er14)<|fA<|mA qb [(23,[]),(24,[])] 9 [⟨[21,22],53,11,65⟩,⟨[19,21,22],53,11,63⟩,⟨[14,15,19,21,22],53,9,57⟩,⟨[11,14,15,19,21,22],53,9,54⟩,⟨[6,11,14,15,19,21,22],53,7,50⟩,⟨[6,11,14,15,19,21,22],53,5,49⟩] fun cx=>qA 0x228246000000003aa0 6816 [69] h5<|mA qb (zl [25,26,27,28,29,30,31,32,33]) 0 [⟨[21,22],53,11,65⟩,⟨[19,21,22],53,11,63⟩,⟨[14,15,19,21,22],53,9,57⟩,⟨[11,14,15,19,21,22],53,9,54⟩,⟨[6,11,14,15,19,21,22],53,7,50⟩,⟨[6,11,14,15,19,21,22],53,5,49⟩] fun cx=>mE qb [2] []
theorem zHa (n : Nat) (r3 : Net × Bool) (r4 : Net × Bool) (r7 : Net × Int) (r5 : Net × (List Event)) (r6 : Net) (r8 : Bool) (r9 : Net) (r10 : Net) (r11 : Bool) (r12 : Net) (r13 : Net) (r14 : Bool) (r15 : Net) (r16 : Net) (r17 : Bool) (h2 : (r3.2 == r4.2) = true) (er8 : (qR n r3.1 r4.1) = some r8) (h3 : r8 = true) (er9 : (JD n r5.1 r5.2) = some r9) (er10 : (JH n r5.1 r5.2) = some r10) (er11 : (qR n r9 r10) = some r11) (h4 : r11 = true) (er12 : (JC n r6) = some r12) (er13 : (JF n r6) = some r13) (er14 : (qR n r12 r13) = some r14) (h5 : r14 = true) (er15 : (zAJ n r7.1 r7.2) = some r15) (er16 : (zAS n r7.1 r7.2) = some r16) (er17 : (qR n r15 r16) = some r17) (cx : Cx) : AT Tryz.prog cx (rg Tryz.f7 9) [] 34 [] ⟨78,0,[sI 13 r7.2,sA 12 12 3 0,sA 11 11 3 0,sC 10 (cL 2 r5.2 Event.row),sA 9 9 3 0,sB 8 r4.2,sA 7 7 3 0,sB 6 r3.2,sA 5 5 3 0],[(12,(Net.row r7.1)),(11,(Net.row r6)),(9,(Net.row r5.1)),(7,(Net.row r4.1)),(5,(Net.row r3.1))]⟩ (fun s => s = ⟨78,0,[sB 2 r17],[]⟩) := by
 refine mA qb (zl [0,1,2,3]) 30 [] fun cx=>qA 281474976726688 6816 [48] h2<|mA qb [(4,[6,11,14,15,19,21,22,27,30,31]),(5,[6,11,14,15,19,21,22,27,30,31])] 28 [⟨[6,11,14,15,19,21,22,27,30,31],53,7,50⟩,⟨[6,11,14,15,19,21,22,27,30,31],53,5,49⟩] fun cx=>mC qb 6<|vB [.rd,.rd] [.box 5,.box 7] (Qe n r3.1 r4.1 r8 er8) (.inr (zM (zJ zN zg) zT))<|fA<|mA qb [(7,[]),(8,[])] 25 [⟨[6,11,14,15,19,21,22,27,30,31],53,7,50⟩,⟨[6,11,14,15,19,21,22,27,30,31],53,5,49⟩] fun cx=>qA 0x26000000003ea0 6816 [53] h3<|mA qb [(9,[11,14,15,19,21,22,27,30,31]),(10,[]),(12,[14,15,19,21,22,27,30,31]),(13,[])] 21 [⟨[14,15,19,21,22,27,30,31],53,9,57⟩,⟨[11,14,15,19,21,22,27,30,31],53,9,54⟩,⟨[6,11,14,15,19,21,22,27,30,31],53,7,50⟩,⟨[6,11,14,15,19,21,22,27,30,31],53,5,49⟩] fun cx=>mC qb 11<|vB [.rd,.rd] [.box 9,.slot 10] (zG2 n r5.1 r5.2 r9 er9) (.inr (zM (Net.row_mine _) zT))<|fA<|mC qb 14<|vB [.rd,.rd] [.box 9,.slot 10] (zHI n r5.1 r5.2 r10 er10) (.inr (zM (Net.row_mine _) zT))<|fA<|mC qb 15<|vA [.rd,.rd] (Qe n r9 r10 r11 er11)<|fA<|mA qb [(16,[]),(17,[])] 16 [⟨[14,15,19,21,22,27,30,31],53,9,57⟩,⟨[11,14,15,19,21,22,27,30,31],53,9,54⟩,⟨[6,11,14,15,19,21,22,27,30,31],53,7,50⟩,⟨[6,11,14,15,19,21,22,27,30,31],53,5,49⟩] fun cx=>qA 0x4246000000003aa0 6816 [62] h4<|mA qb [(18,[19,21,22,27,30,31]),(20,[21,22,27,30,31])] 14 [⟨[21,22,27,30,31],53,11,65⟩,⟨[19,21,22,27,30,31],53,11,63⟩,⟨[14,15,19,21,22,27,30,31],53,9,57⟩,⟨[11,14,15,19,21,22,27,30,31],53,9,54⟩,⟨[6,11,14,15,19,21,22,27,30,31],53,7,50⟩,⟨[6,11,14,15,19,21,22,27,30,31],53,5,49⟩] fun cx=>?_
 refine mC qb 19<|vB [.rd] [.box 11] (zG1 n r6 r12 er12) (.inr (zM (Net.row_mine _) zT))<|fA<|mC qb 21<|vB [.rd] [.box 11] (zHH n r6 r13 er13) (.inr (zM (Net.row_mine _) zT))<|fA<|mC qb 22<|vA [.rd,.rd] (Qe n r12 r13 r14 er14)<|fA<|mA qb [(23,[]),(24,[])] 9 [⟨[21,22,27,30,31],53,11,65⟩,⟨[19,21,22,27,30,31],53,11,63⟩,⟨[14,15,19,21,22,27,30,31],53,9,57⟩,⟨[11,14,15,19,21,22,27,30,31],53,9,54⟩,⟨[6,11,14,15,19,21,22,27,30,31],53,7,50⟩,⟨[6,11,14,15,19,21,22,27,30,31],53,5,49⟩] fun cx=>qA 0x228246000000003aa0 6816 [69] h5<|mA qb [(25,[27,30,31]),(26,[]),(28,[30,31]),(29,[])] 5 [⟨[30,31],53,12,73⟩,⟨[27,30,31],53,12,70⟩,⟨[21,22,27,30,31],53,11,65⟩,⟨[19,21,22,27,30,31],53,11,63⟩,⟨[14,15,19,21,22,27,30,31],53,9,57⟩,⟨[11,14,15,19,21,22,27,30,31],53,9,54⟩,⟨[6,11,14,15,19,21,22,27,30,31],53,7,50⟩,⟨[6,11,14,15,19,21,22,27,30,31],53,5,49⟩] fun cx=>mC qb 27<|vB [.rd,.rd] [.box 12] (zMX n r7.1 r7.2 r15 er15) (.inr (zM (Net.row_mine _) zT))<|fA<|mC qb 30<|vB [.rd,.rd] [.box 12] (zMk n r7.1 r7.2 r16 er16) (.inr (zM (Net.row_mine _) zT))<|fA<|mC qb 31<|vA [.rd,.rd] (Qe n r15 r16 r17 er17)<|fA<|mA qb [(32,[]),(33,[])] 0 [⟨[30,31],53,12,73⟩,⟨[27,30,31],53,12,70⟩,⟨[21,22,27,30,31],53,11,65⟩,⟨[19,21,22,27,30,31],53,11,63⟩,⟨[14,15,19,21,22,27,30,31],53,9,57⟩,⟨[11,14,15,19,21,22,27,30,31],53,9,54⟩,⟨[6,11,14,15,19,21,22,27,30,31],53,7,50⟩,⟨[6,11,14,15,19,21,22,27,30,31],53,5,49⟩] fun cx=>?_
 exact mE qb [2] []
theorem zI2 (n : Nat) (x0 : (List Int)) (r : Bool) (H : zAA n x0 = some r) : zE Tryz.prog 7 [.val false [.sl false 1 (CV.frzEs (x0.map zZ))]] [.val false [.lit (.bool r)]] [] := by
 refine cW Tryz.func7 (fun g d => sl [g 0,sl [g 1] (cn 15 (sl [g 2] .ret) .skip),g 3,g 4,g 5,g 6,g 7,g 8,d 9] .ret) [.tmp 2] fun cx=>?_
 unfold zAA at H
 refine gA 1 1 0<|tS<|rA 1<|bE H fun r1 er1 H=> vA [.rd] (zOZ n x0 r1 er1)<|dA 32769 0 ?_
 cases h1 : r1
 ·have H := qe h1 H
  refine nB_<|tK<|rA 1<|bE H fun r2 er2 H=> vA [.rd] (zLX n x0 r2 er2)<|LAt.movT tOk (ty := 85) (t := 18) (d := 16) (g := none) [(true,(fR (Net.row r2.1))),(true,(Event.row r2.2))] _ kr (.inl rfl) kr kr kr kr rfl<|uA 6 25 24<|rA 2<|bE H fun r3 er3 H=> vA [.rd,.rd] (zLD n r2.1 r2.2 r3 er3)<|LAt.movT tOk (ty := 87) (t := 24) (d := 21) (g := none) [(true,(Net.row r3.1)),(false,[cB r3.2])] _ kr (.inl rfl) kr kr kr kr rfl<|uA 5 121 56<|rA 2<|bE H fun r4 er4 H=> vA [.rd,.rd] (zH8 n r2.1 r2.2 r4 er4)<|LAt.movT tOk (ty := 87) (t := 30) (d := 27) (g := none) [(true,(Net.row r4.1)),(false,[cB r4.2])] _ kr (.inl rfl) kr kr kr kr rfl<|uA 5 481 160<|rA 1<|bE H fun r5 er5 H=> vA [.rd] (zKi n x0 r5 er5)<|LAt.movT tOk (ty := 55) (t := 35) (d := 33) (g := none) [(true,(Net.row r5.1)),(false,[cL 2 r5.2 Event.row])] _ kr (.inl rfl) kr kr kr kr rfl<|lA 4<|LAt.moveU (T := lk tab) (ty := 54) (x := (.tmp 37)) (d := 10) (g := none) false [cL 2 r5.2 Event.row] kr kr kr kr kr<|dA 2017 672<|rA 1<|bE H fun r6 er6 H=> vA [.rd] (zKh n x0 r6 er6)<|uA 2 4065 2720<|rA 1<|bE H fun r7 er7 H=> vA [.rd] (zJz n x0 r7 er7)<|LAt.movT tOk (ty := 73) (t := 42) (d := 40) (g := none) [(true,(Net.row r7.1)),(false,[cI r7.2])] _ kr (.inl rfl) kr kr kr kr rfl<|uA 5 16352 6816<|sT ⟨78,0,[sI 13 r7.2,sA 12 12 3 0,sA 11 11 3 0,sC 10 (cL 2 r5.2 Event.row),sA 9 9 3 0,sB 8 r4.2,sA 7 7 3 0,sB 6 r3.2,sA 5 5 3 0],[(12,(Net.row r7.1)),(11,(Net.row r6)),(9,(Net.row r5.1)),(7,(Net.row r4.1)),(5,(Net.row r3.1))]⟩ ?_
  cases h2 : (r3.2 == r4.2)
  ·have H := qe h2 H
   refine Tr.draws mixed 34 kr ⟨78,0,[sB 2 false],[]⟩ (fun cx=>?_) ?_
   ·exact mA qb (zl [0,1,2,3]) 30 [] fun cx=>qA 281474976726688 6816 [48] h2<|mA qb (zl [4,5,6,7,8,9,10,11,12,13,14,15,16,17,18,19,20,21,22,23,24,25,26,27,28,29,30,31,32,33]) 0 [] fun cx=>mE qb [2] []
   exact te (fF H)
  have H := qf h2 H
  refine bE H fun r8 er8 H=> sT ⟨78,0,[sI 13 r7.2,sA 12 12 3 0,sA 11 11 3 0,sC 10 (cL 2 r5.2 Event.row),sA 9 9 3 0,sB 8 r4.2,sA 7 7 3 0,sB 6 r3.2,sA 5 5 3 0],[(12,(Net.row r7.1)),(11,(Net.row r6)),(9,(Net.row r5.1)),(7,(Net.row r4.1)),(5,(Net.row r3.1))]⟩ ?_
  cases h3 : r8
  ·have H := qe h3 H
   exact sT ⟨78,0,[sI 13 r7.2,sA 12 12 3 0,sA 11 11 3 0,sC 10 (cL 2 r5.2 Event.row),sA 9 9 3 0,sB 8 r4.2,sA 7 7 3 0,sB 6 r3.2,sA 5 5 3 0],[(12,(Net.row r7.1)),(11,(Net.row r6)),(9,(Net.row r5.1)),(7,(Net.row r4.1)),(5,(Net.row r3.1))]⟩<|Tr.draws mixed 34 kr ⟨78,0,[sB 2 false],[]⟩ (zHX n r3 r4 r7 r5 r6 r8 h2 er8 h3)<|te (fF H)
  have H := qf h3 H
  refine bE H fun r9 er9 H=> bE H fun r10 er10 H=> bE H fun r11 er11 H=> sT ⟨78,0,[sI 13 r7.2,sA 12 12 3 0,sA 11 11 3 0,sC 10 (cL 2 r5.2 Event.row),sA 9 9 3 0,sB 8 r4.2,sA 7 7 3 0,sB 6 r3.2,sA 5 5 3 0],[(12,(Net.row r7.1)),(11,(Net.row r6)),(9,(Net.row r5.1)),(7,(Net.row r4.1)),(5,(Net.row r3.1))]⟩ ?_
  cases h4 : r11
  ·have H := qe h4 H
   exact sT ⟨78,0,[sI 13 r7.2,sA 12 12 3 0,sA 11 11 3 0,sC 10 (cL 2 r5.2 Event.row),sA 9 9 3 0,sB 8 r4.2,sA 7 7 3 0,sB 6 r3.2,sA 5 5 3 0],[(12,(Net.row r7.1)),(11,(Net.row r6)),(9,(Net.row r5.1)),(7,(Net.row r4.1)),(5,(Net.row r3.1))]⟩<|Tr.draws mixed 34 kr ⟨78,0,[sB 2 false],[]⟩ (zHY n r3 r4 r7 r5 r6 r8 r9 r10 r11 h2 er8 h3 er9 er10 er11 h4)<|te (fF H)
  have H := qf h4 H
  refine bE H fun r12 er12 H=> bE H fun r13 er13 H=> bE H fun r14 er14 H=> sT ⟨78,0,[sI 13 r7.2,sA 12 12 3 0,sA 11 11 3 0,sC 10 (cL 2 r5.2 Event.row),sA 9 9 3 0,sB 8 r4.2,sA 7 7 3 0,sB 6 r3.2,sA 5 5 3 0],[(12,(Net.row r7.1)),(11,(Net.row r6)),(9,(Net.row r5.1)),(7,(Net.row r4.1)),(5,(Net.row r3.1))]⟩ ?_
  cases h5 : r14
  ·have H := qe h5 H
   exact sT ⟨78,0,[sI 13 r7.2,sA 12 12 3 0,sA 11 11 3 0,sC 10 (cL 2 r5.2 Event.row),sA 9 9 3 0,sB 8 r4.2,sA 7 7 3 0,sB 6 r3.2,sA 5 5 3 0],[(12,(Net.row r7.1)),(11,(Net.row r6)),(9,(Net.row r5.1)),(7,(Net.row r4.1)),(5,(Net.row r3.1))]⟩<|Tr.draws mixed 34 kr ⟨78,0,[sB 2 false],[]⟩ (zHZ n r3 r4 r7 r5 r6 r8 r9 r10 r11 r12 r13 r14 h2 er8 h3 er9 er10 er11 h4 er12 er13 er14 h5)<|te (fF H)
  have H := qf h5 H
  exact bE H fun r15 er15 H=> bE H fun r16 er16 H=> bE H fun r17 er17 H=> sT ⟨78,0,[sI 13 r7.2,sA 12 12 3 0,sA 11 11 3 0,sC 10 (cL 2 r5.2 Event.row),sA 9 9 3 0,sB 8 r4.2,sA 7 7 3 0,sB 6 r3.2,sA 5 5 3 0],[(12,(Net.row r7.1)),(11,(Net.row r6)),(9,(Net.row r5.1)),(7,(Net.row r4.1)),(5,(Net.row r3.1))]⟩<|Tr.draws mixed 34 kr ⟨78,0,[sB 2 r17],[]⟩ (zHa n r3 r4 r7 r5 r6 r8 r9 r10 r11 r12 r13 r14 r15 r16 r17 h2 er8 h3 er9 er10 er11 h4 er12 er13 er14 h5 er15 er16 er17)<|te (fJ [(false,[cB r17])] H)
 have H := qf h1 H
 exact tB_<|gA 1 4 0<|te (fT H)
end Go.Proofs.YtajadnlejdpceaaGreat.Tw
