import Derived.Test.YtcegokjpmppdbaaGreatProg
import Derived.Test.YtcegokjpmppdbaaGreatTlRule
import Derived.Test.YtcegokjpmppdbaaGreatTlU11
import Derived.Test.YtcegokjpmppdbaaGreatTwST1
import Derived.WalkKit
set_option linter.unusedVariables false
set_option linter.unusedSimpArgs false
set_option maxRecDepth 100000
set_option maxHeartbeats 1000000
namespace Go.Proofs.YtcegokjpmppdbaaGreat.Tw
open Go Go.TL Go.Proofs
def zAF (n : Nat) (x0 : Int) (y11 : Int) (y12 : Int) (y13 : Int) (y14 : Int) : Option (Vec × Int) :=
  (some ((⟨y12,y13,y14,x0,0⟩ : Vec),y11))
def Zm (n : Nat) (k : (Int × Int × Int × Int × Int × Int × Int × Int × Int × Int → Option ((Int × Int × Int × Int) ⊕ (Vec × Int)))) (r17 : Vec × Bool) (y1 : Int) (y10 : Int) (y2 : Int) (y3 : Int) (y4 : Int) (y5 : Int) (y6 : Int) (y7 : Int) (y8 : Int) (y9 : Int) (y18 : Bool) (y19 : Bool) (y20 : Bool) (y21 : Bool) (y22 : Bool) (y23 : Bool) (y24 : Bool) : Option ((Int × Int × Int × Int) ⊕ (Vec × Int)) :=
  (bif y18 then (k ((IntKind.wrap .i64 (y1 + 1)),y1,r17.1.Root,r17.1.Co,r17.1.Hops,r17.1.Bridge,r17.1.Port,r17.1.Root,r17.1.Co,r17.1.Hops)) else (k ((IntKind.wrap .i64 (y1 + 1)),y2,y3,y4,y5,y6,y7,y8,y9,y10)))
def qD (n : Nat) : Nat → Int → (List Pt) → Int → Int → Int → Int → Int → Int → Int → Int → Int → Int → Option ((Int × Int × Int × Int) ⊕ (Vec × Int))
  | 0,_,_,_,_,_,_,_,_,_,_,_,_ => none
  | mo15 + 1,x0,x1,y1,y2,y3,y4,y5,y6,y7,y8,y9,y10 => (bif (decide (y1 < (x1.length : Int))) then ((idx x1 y1).bind fun v16 => (bif (!v16.Up) then (qD n mo15 x0 x1 (IntKind.wrap .i64 (y1 + 1)) y2 y3 y4 y5 y6 y7 y8 y9 y10) else (bif (!v16.Has) then (qD n mo15 x0 x1 (IntKind.wrap .i64 (y1 + 1)) y2 y3 y4 y5 y6 y7 y8 y9 y10) else ((zBZ n v16.Hd v16.Co).bind fun r17 => (bif r17.2 then (bif (decide (r17.1.Root < x0)) then (bif (decide (y2 < 0)) then (Zm n (fun v => qD n mo15 x0 x1 v.1 v.2.1 v.2.2.1 v.2.2.2.1 v.2.2.2.2.1 v.2.2.2.2.2.1 v.2.2.2.2.2.2.1 v.2.2.2.2.2.2.2.1 v.2.2.2.2.2.2.2.2.1 v.2.2.2.2.2.2.2.2.2) r17 y1 y10 y2 y3 y4 y5 y6 y7 y8 y9 true true true true true true true) else ((Jq n r17.1 (⟨y3,y4,y5,y6,y7⟩ : Vec)).bind fun r25 => (Zm n (fun v => qD n mo15 x0 x1 v.1 v.2.1 v.2.2.1 v.2.2.2.1 v.2.2.2.2.1 v.2.2.2.2.2.1 v.2.2.2.2.2.2.1 v.2.2.2.2.2.2.2.1 v.2.2.2.2.2.2.2.2.1 v.2.2.2.2.2.2.2.2.2) r17 y1 y10 y2 y3 y4 y5 y6 y7 y8 y9 r25 true true true true true true))) else (Zm n (fun v => qD n mo15 x0 x1 v.1 v.2.1 v.2.2.1 v.2.2.2.1 v.2.2.2.2.1 v.2.2.2.2.2.1 v.2.2.2.2.2.2.1 v.2.2.2.2.2.2.2.1 v.2.2.2.2.2.2.2.2.1 v.2.2.2.2.2.2.2.2.2) r17 y1 y10 y2 y3 y4 y5 y6 y7 y8 y9 false false false true true true true)) else (Zm n (fun v => qD n mo15 x0 x1 v.1 v.2.1 v.2.2.1 v.2.2.2.1 v.2.2.2.2.1 v.2.2.2.2.2.1 v.2.2.2.2.2.2.1 v.2.2.2.2.2.2.2.1 v.2.2.2.2.2.2.2.2.1 v.2.2.2.2.2.2.2.2.2) r17 y1 y10 y2 y3 y4 y5 y6 y7 y8 y9 false false false false false false false)))))) else (some (Sum.inl (y2,y8,y9,y10))))
def YW (n : Nat) (x0 : Int) (x1 : (List Pt)) : Option (Vec × Int) :=
  ((qD n n x0 x1 0 (-1) 0 0 0 0 0 x0 0 0).bind fun o => match o with | .inl (y11,y12,y13,y14) => (zAF n x0 y11 y12 y13 y14) | .inr r => some r)
theorem zFY (n : Nat) (x0 : Int) (x1 : (List Pt)) (r : Vec × Int) (H : YW n x0 x1 = some r) : zD Tryz.prog 217 [.val false [.lit (.int .i64 x0)],.val false [.sl false 8 (CV.frzEs (x1.map Pt.row))]] [.val true (Vec.row r.1),.val false [.lit (.int .i64 r.2)]] [] := by
 refine cA Tryz.func217 (.seq (Rg Tryz.f217 0) (.seq (Rg Tryz.f217 1) (.seq (Rg Tryz.f217 2) (.seq (.seq (Rg Tryz.f217 3) (.block 0 (.loop (.seq (Rg Tryz.f217 4) (.seq (.cond (.tmp 19) .skip (.exit 0)) (.seq (.block 1 (.seq (Rg Tryz.f217 5) (.seq (.seq (Rg Tryz.f217 6) (.cond (.tmp 30) (.exit 1) .skip)) (.seq (Rg Tryz.f217 7) (.seq (Rg Tryz.f217 8) (.cond (.tmp 54) (.seq (Rg Tryz.f217 9) (Rg Tryz.f217 10)) .skip)))))) (Rg Tryz.f217 11))))))) (.seq (Rg Tryz.f217 12) .ret))))) [.cell 4 165,.tmp 5] fun cx => ?_
 unfold YW at H
 refine gA 2 51 16 ?_
 refine gA 6 243 80 ?_
 refine gA 1 499 336 ?_
 refine tS ?_
 refine rA 1 ?_
 refine kF x1 Pt.row ?_
 refine uA 1 459249 336 ?_
 obtain ⟨o15,eo15,Ho15⟩ := bs H
 clear H
 refine Tr.mid (ι := Int × Int × Int × Int) (fun v => ⟨68,0,[sI 7 v.1,sA 6 6 5 0,sI 5 0,sA 4 4 5 0],[(6,[cI v.2.1,cI v.2.2.1,cI v.2.2.2,cI x0,cI 0]),(4,[cI 0,cI 0,cI 0,cI 0,cI 0])]⟩) (fun v => zAF n x0 v.1 v.2.1 v.2.2.1 v.2.2.2 = some r) ?_ ?_
 ·refine tB ?_
  refine Tr.loop (ι := Nat × (Int × Int × Int × Int × Int × Int × Int × Int × Int × Int)) (fun v => ⟨68,0,[sI 18 v.2.1,sI 17 (x1.length : Int),sC 16 (cF 8 x1 Pt.row),sA 8 8 5 0,sI 7 v.2.2.1,sA 6 6 5 0,sI 5 0,sA 4 4 5 0,sI 0 x0],[(8,[cI v.2.2.2.1,cI v.2.2.2.2.1,cI v.2.2.2.2.2.1,cI v.2.2.2.2.2.2.1,cI v.2.2.2.2.2.2.2.1]),(6,[cI v.2.2.2.2.2.2.2.2.1,cI v.2.2.2.2.2.2.2.2.2.1,cI v.2.2.2.2.2.2.2.2.2.2,cI x0,cI 0]),(4,[cI 0,cI 0,cI 0,cI 0,cI 0])]⟩) (fun v => qD n v.1 x0 x1 v.2.1 v.2.2.1 v.2.2.2.1 v.2.2.2.2.1 v.2.2.2.2.2.1 v.2.2.2.2.2.2.1 v.2.2.2.2.2.2.2.1 v.2.2.2.2.2.2.2.2.1 v.2.2.2.2.2.2.2.2.2.1 v.2.2.2.2.2.2.2.2.2.2 = some o15) (fun v => v.1) (n,(0,(-1),0,0,0,0,0,x0,0,0)) eo15 (St.sub_of [18,17,16,8,7,6,5,4,0] [8,6,4] kr) ?_
  rintro ⟨mo15,y1,y2,y3,y4,y5,y6,y7,y8,y9,y10⟩ H
  have H : qD n mo15 x0 x1 y1 y2 y3 y4 y5 y6 y7 y8 y9 y10 = some o15 := H
  obtain _ | mo15 := mo15
  ·exact nN H
  rw [qD] at H
  refine gA 1 983537 336 ?_
  refine tS ?_
  obtain ⟨h1,H⟩ | ⟨h1,H⟩ := bC H
  ·refine nA h1 ?_
   refine Tr.exit ?_
   refine And.intro (fun _ => ?_) (fun h => absurd rfl h)
   obtain rfl := si H
   have H := Ho15
   dsimp only at H
   exact jA (y2,y8,y9,y10) H [7,6,5,4] [6,4]
  refine tA h1 ?_
  refine tK ?_
  refine tS ?_
  refine tB ?_
  refine rA 1 ?_
  obtain ⟨v16,ev16,H⟩ := bs H
  refine iA Pt.row ev16 ?_
  refine uA 4 8325105 1360 ?_
  refine tS ?_
  refine rA 4 ?_
  refine sL 134154225 1360 ⟨68,0,[sB 26 (!v16.Up),sB 25 (!v16.Up),sB 24 v16.Up,sA 23 10 8 0,sI 9 y1,sA 10 10 8 0,sV 22 (Pt.row v16),(21,.fad ((Pt.row v16))),sI 20 y1,sB 19 (decide (y1 < (x1.length : Int))),sI 18 y1,sI 17 (x1.length : Int),sC 16 (cF 8 x1 Pt.row),sA 8 8 5 0,sI 7 y2,sA 6 6 5 0,sI 5 0,sA 4 4 5 0,sI 0 x0],[(10,(Pt.row v16)),(8,[cI y3,cI y4,cI y5,cI y6,cI y7]),(6,[cI y8,cI y9,cI y10,cI x0,cI 0]),(4,[cI 0,cI 0,cI 0,cI 0,cI 0])]⟩ ?_
  cases h2 : (!v16.Up)
  ·have H := zG h2 H
   refine uA 4 2147420145 1360 ?_
   obtain ⟨h3,H⟩ | ⟨h3,H⟩ := bC H
   ·refine nA h3 ?_
    refine tK ?_
    refine rA 4 ?_
    obtain ⟨r17,er17,H⟩ := bs H
    refine vA [.rd,.rd] (zJ9 n v16.Hd v16.Co r17 er17) ?_
    refine LAt.movT tOk (ty := 255) (t := 36) (d := 31) (g := none) [(true,(Vec.row r17.1)),(false,[cB r17.2])] _ kr (.inl rfl) kr kr kr kr rfl ?_
    refine uA 5 481036279793 3408 ?_
    refine tS ?_
    refine Tr.mid (ι := Bool × Bool × Bool × Bool × Bool × Bool × Bool) (fun v => ⟨68,0,[sB 54 v.1,sB 46 v.2.1,sB 45 v.2.2.1,sB 40 v.2.2.2.1,sB 39 v.2.2.2.2.1,sB 12 v.2.2.2.2.2.1,sA 11 11 5 0,sB 38 v.2.2.2.2.2.2,(31,.tup [(true,[.dead,.dead,.dead,.dead,.dead]),(false,[.dead])]),sV 37 (Vec.row r17.1),sI 35 v16.Co,sA 34 10 8 1,sV 33 ((Pt.row v16).drop 3),sA 32 10 8 3,sB 30 false,sB 29 false,sB 28 v16.Has,sA 27 10 8 2,sB 26 false,sB 25 false,sB 24 v16.Up,sA 23 10 8 0,sI 9 y1,sA 10 10 8 0,sV 22 (Pt.row v16),(21,.fad ((Pt.row v16))),sI 20 y1,sB 19 true,sI 18 y1,sI 17 (x1.length : Int),sC 16 (cF 8 x1 Pt.row),sA 8 8 5 0,sI 7 y2,sA 6 6 5 0,sI 5 0,sA 4 4 5 0,sI 0 x0],[(11,(Vec.row r17.1)),(10,(Pt.row v16)),(8,[cI y3,cI y4,cI y5,cI y6,cI y7]),(6,[cI y8,cI y9,cI y10,cI x0,cI 0]),(4,[cI 0,cI 0,cI 0,cI 0,cI 0])]⟩) (fun v => Zm n (fun v => qD n mo15 x0 x1 v.1 v.2.1 v.2.2.1 v.2.2.2.1 v.2.2.2.2.1 v.2.2.2.2.2.1 v.2.2.2.2.2.2.1 v.2.2.2.2.2.2.2.1 v.2.2.2.2.2.2.2.2.1 v.2.2.2.2.2.2.2.2.2) r17 y1 y10 y2 y3 y4 y5 y6 y7 y8 y9 v.1 v.2.1 v.2.2.1 v.2.2.2.1 v.2.2.2.2.1 v.2.2.2.2.2.1 v.2.2.2.2.2.2 = some o15) ?_ ?_
    ·refine Tr.at ?_
     refine lA 2 ?_
     refine sL 2130303721457 3408 ⟨68,0,[sB 40 r17.2,sB 39 r17.2,sB 12 r17.2,sA 11 11 5 0,sB 38 r17.2,(31,.tup [(true,[.dead,.dead,.dead,.dead,.dead]),(false,[.dead])]),sV 37 (Vec.row r17.1),sI 35 v16.Co,sA 34 10 8 1,sV 33 ((Pt.row v16).drop 3),sA 32 10 8 3,sB 30 (!v16.Has),sB 29 (!v16.Has),sB 28 v16.Has,sA 27 10 8 2,sB 26 false,sB 25 false,sB 24 v16.Up,sA 23 10 8 0,sI 9 y1,sA 10 10 8 0,sV 22 (Pt.row v16),(21,.fad ((Pt.row v16))),sI 20 y1,sB 19 (decide (y1 < (x1.length : Int))),sI 18 y1,sI 17 (x1.length : Int),sC 16 (cF 8 x1 Pt.row),sA 8 8 5 0,sI 7 y2,sA 6 6 5 0,sI 5 0,sA 4 4 5 0,sI 0 x0],[(11,(Vec.row r17.1)),(10,(Pt.row v16)),(8,[cI y3,cI y4,cI y5,cI y6,cI y7]),(6,[cI y8,cI y9,cI y10,cI x0,cI 0]),(4,[cI 0,cI 0,cI 0,cI 0,cI 0])]⟩ ?_
     cases h5 : r17.2
     ·have H := zG h5 H
      refine uA 14 0x7fffefffff1ff1 3408 ?_
      refine sB' 0x7fffefffff1ff1 3408 ⟨68,0,[sB 54 false,(53,.tup []),(52,.tup []),(51,.tup []),(50,.tup []),(49,.tup []),(48,.tup []),(47,.tup []),sB 46 false,sB 45 false,(44,.tup []),(43,.tup []),(42,.tup []),(41,.tup []),sB 40 false,sB 39 false,sB 12 false,sA 11 11 5 0,sB 38 false,(31,.tup [(true,[.dead,.dead,.dead,.dead,.dead]),(false,[.dead])]),sV 37 (Vec.row r17.1),sI 35 v16.Co,sA 34 10 8 1,sV 33 ((Pt.row v16).drop 3),sA 32 10 8 3,sB 30 (!v16.Has),sB 29 (!v16.Has),sB 28 v16.Has,sA 27 10 8 2,sB 26 false,sB 25 false,sB 24 v16.Up,sA 23 10 8 0,sI 9 y1,sA 10 10 8 0,sV 22 (Pt.row v16),(21,.fad ((Pt.row v16))),sI 20 y1,sB 19 (decide (y1 < (x1.length : Int))),sI 18 y1,sI 17 (x1.length : Int),sC 16 (cF 8 x1 Pt.row),sA 8 8 5 0,sI 7 y2,sA 6 6 5 0,sI 5 0,sA 4 4 5 0,sI 0 x0],[(11,(Vec.row r17.1)),(10,(Pt.row v16)),(8,[cI y3,cI y4,cI y5,cI y6,cI y7]),(6,[cI y8,cI y9,cI y10,cI x0,cI 0]),(4,[cI 0,cI 0,cI 0,cI 0,cI 0])]⟩ ?_
      rw [h1]
      rw [h3]
      exact jA (false,false,false,false,false,false,false) H [54,46,45,40,39,12,11,38,31,37,35,34,33,32,30,29,28,27,26,25,24,23,9,10,22,21,20,19,18,17,16,8,7,6,5,4,0] [11,10,8,6,4]
     have H := zH h5 H
     refine lA 6 ?_
     refine sL 0x7fefffff1ff1 3408 ⟨68,0,[sB 46 (decide (r17.1.Root < x0)),sB 45 (decide (r17.1.Root < x0)),sB 44 (decide (r17.1.Root < x0)),sI 43 x0,sI 42 r17.1.Root,sA 41 11 5 0,sB 40 true,sB 39 true,sB 12 true,sA 11 11 5 0,sB 38 true,(31,.tup [(true,[.dead,.dead,.dead,.dead,.dead]),(false,[.dead])]),sV 37 (Vec.row r17.1),sI 35 v16.Co,sA 34 10 8 1,sV 33 ((Pt.row v16).drop 3),sA 32 10 8 3,sB 30 (!v16.Has),sB 29 (!v16.Has),sB 28 v16.Has,sA 27 10 8 2,sB 26 false,sB 25 false,sB 24 v16.Up,sA 23 10 8 0,sI 9 y1,sA 10 10 8 0,sV 22 (Pt.row v16),(21,.fad ((Pt.row v16))),sI 20 y1,sB 19 (decide (y1 < (x1.length : Int))),sI 18 y1,sI 17 (x1.length : Int),sC 16 (cF 8 x1 Pt.row),sA 8 8 5 0,sI 7 y2,sA 6 6 5 0,sI 5 0,sA 4 4 5 0,sI 0 x0],[(11,(Vec.row r17.1)),(10,(Pt.row v16)),(8,[cI y3,cI y4,cI y5,cI y6,cI y7]),(6,[cI y8,cI y9,cI y10,cI x0,cI 0]),(4,[cI 0,cI 0,cI 0,cI 0,cI 0])]⟩ ?_
     cases h6 : (decide (r17.1.Root < x0))
     ·have H := zG h6 H
      refine uA 8 0x7fffefffff1ff1 3408 ?_
      refine sB' 0x7fffefffff1ff1 3408 ⟨68,0,[sB 54 false,(53,.tup []),(52,.tup []),(51,.tup []),(50,.tup []),(49,.tup []),(48,.tup []),(47,.tup []),sB 46 false,sB 45 false,sB 44 false,sI 43 x0,sI 42 r17.1.Root,sA 41 11 5 0,sB 40 true,sB 39 true,sB 12 true,sA 11 11 5 0,sB 38 true,(31,.tup [(true,[.dead,.dead,.dead,.dead,.dead]),(false,[.dead])]),sV 37 (Vec.row r17.1),sI 35 v16.Co,sA 34 10 8 1,sV 33 ((Pt.row v16).drop 3),sA 32 10 8 3,sB 30 (!v16.Has),sB 29 (!v16.Has),sB 28 v16.Has,sA 27 10 8 2,sB 26 false,sB 25 false,sB 24 v16.Up,sA 23 10 8 0,sI 9 y1,sA 10 10 8 0,sV 22 (Pt.row v16),(21,.fad ((Pt.row v16))),sI 20 y1,sB 19 (decide (y1 < (x1.length : Int))),sI 18 y1,sI 17 (x1.length : Int),sC 16 (cF 8 x1 Pt.row),sA 8 8 5 0,sI 7 y2,sA 6 6 5 0,sI 5 0,sA 4 4 5 0,sI 0 x0],[(11,(Vec.row r17.1)),(10,(Pt.row v16)),(8,[cI y3,cI y4,cI y5,cI y6,cI y7]),(6,[cI y8,cI y9,cI y10,cI x0,cI 0]),(4,[cI 0,cI 0,cI 0,cI 0,cI 0])]⟩ ?_
      rw [h1]
      rw [h3]
      exact jA (false,false,false,true,true,true,true) H [54,46,45,40,39,12,11,38,31,37,35,34,33,32,30,29,28,27,26,25,24,23,9,10,22,21,20,19,18,17,16,8,7,6,5,4,0] [11,10,8,6,4]
     have H := zH h6 H
     refine lA 3 ?_
     refine sL 0x3ffefffff1ff1 3408 ⟨68,0,[sB 49 (decide (y2 < 0)),sB 48 (decide (y2 < 0)),sI 47 y2,sB 46 true,sB 45 true,sB 44 true,sI 43 x0,sI 42 r17.1.Root,sA 41 11 5 0,sB 40 true,sB 39 true,sB 12 true,sA 11 11 5 0,sB 38 true,(31,.tup [(true,[.dead,.dead,.dead,.dead,.dead]),(false,[.dead])]),sV 37 (Vec.row r17.1),sI 35 v16.Co,sA 34 10 8 1,sV 33 ((Pt.row v16).drop 3),sA 32 10 8 3,sB 30 (!v16.Has),sB 29 (!v16.Has),sB 28 v16.Has,sA 27 10 8 2,sB 26 false,sB 25 false,sB 24 v16.Up,sA 23 10 8 0,sI 9 y1,sA 10 10 8 0,sV 22 (Pt.row v16),(21,.fad ((Pt.row v16))),sI 20 y1,sB 19 (decide (y1 < (x1.length : Int))),sI 18 y1,sI 17 (x1.length : Int),sC 16 (cF 8 x1 Pt.row),sA 8 8 5 0,sI 7 y2,sA 6 6 5 0,sI 5 0,sA 4 4 5 0,sI 0 x0],[(11,(Vec.row r17.1)),(10,(Pt.row v16)),(8,[cI y3,cI y4,cI y5,cI y6,cI y7]),(6,[cI y8,cI y9,cI y10,cI x0,cI 0]),(4,[cI 0,cI 0,cI 0,cI 0,cI 0])]⟩ ?_
     cases h7 : (decide (y2 < 0))
     ·have H := zG h7 H
      refine lA 2 ?_
      obtain ⟨r25,er25,H⟩ := bs H
      refine vA [.rd,.rd] (zFa n r17.1 (⟨y3,y4,y5,y6,y7⟩ : Vec) r25 er25) ?_
      refine uA 2 0x7fffefffff1ff1 3408 ?_
      refine sB' 0x7fffefffff1ff1 3408 ⟨68,0,[sB 54 r25,sB 53 r25,sB 52 r25,sV 51 [cI y3,cI y4,cI y5,cI y6,cI y7],sV 50 (Vec.row r17.1),sB 49 false,sB 48 false,sI 47 y2,sB 46 true,sB 45 true,sB 44 true,sI 43 x0,sI 42 r17.1.Root,sA 41 11 5 0,sB 40 true,sB 39 true,sB 12 true,sA 11 11 5 0,sB 38 true,(31,.tup [(true,[.dead,.dead,.dead,.dead,.dead]),(false,[.dead])]),sV 37 (Vec.row r17.1),sI 35 v16.Co,sA 34 10 8 1,sV 33 ((Pt.row v16).drop 3),sA 32 10 8 3,sB 30 (!v16.Has),sB 29 (!v16.Has),sB 28 v16.Has,sA 27 10 8 2,sB 26 false,sB 25 false,sB 24 v16.Up,sA 23 10 8 0,sI 9 y1,sA 10 10 8 0,sV 22 (Pt.row v16),(21,.fad ((Pt.row v16))),sI 20 y1,sB 19 (decide (y1 < (x1.length : Int))),sI 18 y1,sI 17 (x1.length : Int),sC 16 (cF 8 x1 Pt.row),sA 8 8 5 0,sI 7 y2,sA 6 6 5 0,sI 5 0,sA 4 4 5 0,sI 0 x0],[(11,(Vec.row r17.1)),(10,(Pt.row v16)),(8,[cI y3,cI y4,cI y5,cI y6,cI y7]),(6,[cI y8,cI y9,cI y10,cI x0,cI 0]),(4,[cI 0,cI 0,cI 0,cI 0,cI 0])]⟩ ?_
      rw [h1]
      rw [h3]
      exact jA (r25,true,true,true,true,true,true) H [54,46,45,40,39,12,11,38,31,37,35,34,33,32,30,29,28,27,26,25,24,23,9,10,22,21,20,19,18,17,16,8,7,6,5,4,0] [11,10,8,6,4]
     have H := zH h7 H
     refine uA 5 0x7fffefffff1ff1 3408 ?_
     refine sB' 0x7fffefffff1ff1 3408 ⟨68,0,[sB 54 true,sB 53 true,(52,.tup []),(51,.tup []),(50,.tup []),sB 49 true,sB 48 true,sI 47 y2,sB 46 true,sB 45 true,sB 44 true,sI 43 x0,sI 42 r17.1.Root,sA 41 11 5 0,sB 40 true,sB 39 true,sB 12 true,sA 11 11 5 0,sB 38 true,(31,.tup [(true,[.dead,.dead,.dead,.dead,.dead]),(false,[.dead])]),sV 37 (Vec.row r17.1),sI 35 v16.Co,sA 34 10 8 1,sV 33 ((Pt.row v16).drop 3),sA 32 10 8 3,sB 30 (!v16.Has),sB 29 (!v16.Has),sB 28 v16.Has,sA 27 10 8 2,sB 26 false,sB 25 false,sB 24 v16.Up,sA 23 10 8 0,sI 9 y1,sA 10 10 8 0,sV 22 (Pt.row v16),(21,.fad ((Pt.row v16))),sI 20 y1,sB 19 (decide (y1 < (x1.length : Int))),sI 18 y1,sI 17 (x1.length : Int),sC 16 (cF 8 x1 Pt.row),sA 8 8 5 0,sI 7 y2,sA 6 6 5 0,sI 5 0,sA 4 4 5 0,sI 0 x0],[(11,(Vec.row r17.1)),(10,(Pt.row v16)),(8,[cI y3,cI y4,cI y5,cI y6,cI y7]),(6,[cI y8,cI y9,cI y10,cI x0,cI 0]),(4,[cI 0,cI 0,cI 0,cI 0,cI 0])]⟩ ?_
     rw [h1]
     rw [h3]
     exact jA (true,true,true,true,true,true,true) H [54,46,45,40,39,12,11,38,31,37,35,34,33,32,30,29,28,27,26,25,24,23,9,10,22,21,20,19,18,17,16,8,7,6,5,4,0] [11,10,8,6,4]
    rintro ⟨y18,y19,y20,y21,y22,y23,y24⟩ H
    have H : (Zm n (fun v => qD n mo15 x0 x1 v.1 v.2.1 v.2.2.1 v.2.2.2.1 v.2.2.2.2.1 v.2.2.2.2.2.1 v.2.2.2.2.2.2.1 v.2.2.2.2.2.2.2.1 v.2.2.2.2.2.2.2.2.1 v.2.2.2.2.2.2.2.2.2) r17 y1 y10 y2 y3 y4 y5 y6 y7 y8 y9 y18 y19 y20 y21 y22 y23 y24) = some o15 := H
    unfold Zm at H
    cases h4 : y18
    ·have H := zG h4 H
     refine nB_ ?_
     refine tK ?_
     refine eA 2 0x2004061efffff1ff1 3408 ?_
     exact jB mo15 ((IntKind.wrap .i64 (y1 + 1)),y2,y3,y4,y5,y6,y7,y8,y9,y10) H [18,17,16,8,7,6,5,4,0] [8,6,4]
    have H := zH h4 H
    refine tB_ ?_
    refine gA 4 0x1c061efffff1ff1 3408 ?_
    refine eA 9 0x1ffc061efffff1ff1 3408 ?_
    refine eA 2 0x3ffc061efffff1ff1 3408 ?_
    exact jB mo15 ((IntKind.wrap .i64 (y1 + 1)),y1,r17.1.Root,r17.1.Co,r17.1.Hops,r17.1.Bridge,r17.1.Port,r17.1.Root,r17.1.Co,r17.1.Hops) H [18,17,16,8,7,6,5,4,0] [8,6,4]
   refine tA h3 ?_
   refine Tr.exit ?_
   refine And.intro (fun _ => ?_) (fun h => absurd rfl h)
   refine eA 2 0x2000000007fff07f1 1360 ?_
   exact jB mo15 ((IntKind.wrap .i64 (y1 + 1)),y2,y3,y4,y5,y6,y7,y8,y9,y10) H [18,17,16,8,7,6,5,4,0] [8,6,4]
  have H := zH h2 H
  refine uA 4 2147420145 1360 ?_
  refine tB_ ?_
  refine Tr.exit ?_
  refine And.intro (fun _ => ?_) (fun h => absurd rfl h)
  refine eA 2 0x2000000007fff07f1 1360 ?_
  exact jB mo15 ((IntKind.wrap .i64 (y1 + 1)),y2,y3,y4,y5,y6,y7,y8,y9,y10) H [18,17,16,8,7,6,5,4,0] [8,6,4]
 rintro ⟨y11,y12,y13,y14⟩ H
 have H : (zAF n x0 y11 y12 y13 y14) = some r := H
 unfold zAF at H
 refine gA 4 48 16 ?_
 exact te (by obtain rfl := si H; exact fP [(true,[cI y12,cI y13,cI y14,cI x0,cI 0]),(false,[cI y11])])
def JJ (n : Nat) (x0 : Int) (x1 : (List Pt)) (x2 : Int) : Option (Vec) :=
  ((YW n x0 x1).bind fun r1 => (some (⟨r1.1.Root,r1.1.Co,r1.1.Hops,r1.1.Bridge,x2⟩ : Vec)))
theorem zGk (n : Nat) (x0 : Int) (x1 : (List Pt)) (x2 : Int) (r : Vec) (H : JJ n x0 x1 x2 = some r) : zD Tryz.prog 219 [.val false [.lit (.int .i64 x0)],.val false [.sl false 8 (CV.frzEs (x1.map Pt.row))],.val false [.lit (.int .i64 x2)]] [.val true (Vec.row r)] [] := by
 refine cA Tryz.func219 (.seq (Rg Tryz.f219 0) (.seq (Rg Tryz.f219 1) (.seq (Rg Tryz.f219 2) (.seq (Rg Tryz.f219 3) .ret)))) [.cell 6 165] fun cx => ?_
 unfold JJ at H
 refine gA 1 71 64 ?_
 refine rA 2 ?_
 obtain ⟨r1,er1,H⟩ := bs H
 refine vA [.rd,.rd] (zFY n x0 x1 r1 er1) ?_
 refine LAt.movT tOk (ty := 233) (t := 12) (d := 9) (g := none) [(true,(Vec.row r1.1)),(false,[cI r1.2])] _ kr (.inl rfl) kr kr kr kr rfl ?_
 refine uA 5 196 192 ?_
 refine gA 3 192 192 ?_
 refine gA 2 64 64 ?_
 exact te (by obtain rfl := si H; exact fP [(true,[cI r1.1.Root,cI r1.1.Co,cI r1.1.Hops,cI r1.1.Bridge,cI x2])])
def zA1 (n : Nat) (x0 : Net) (x1 : Int) (x2 : Int) : Option (Vec) :=
  ((idx x0.Bs x1).bind fun v1 => ((idx x0.Bs x1).bind fun v2 => ((JJ n v1.Id v2.Ps x2).bind fun r3 => (some r3))))
def zOD : Tab := ⟨15,[0,1,0,6,8,16,0,64,0,384,512,1024,0,6176,16383],[0,1,0,6,8,16,0,64,0,384,512,1024,0,6176,8192],[0,1,0,7,15,31,0,64,0,448,960,1984,0,8191,16383]⟩
theorem zCr : zf (rg Tryz.f200 1) zOD = true := kr
theorem zJL (n : Nat) (x0 : Net) (x1 : Int) (x2 : Int) (r : Vec) (H : zA1 n x0 x1 x2 = some r) : zD Tryz.prog 200 [.val true (CV.frzRow (Net.row x0)),.val false [.lit (.int .i64 x1)],.val false [.lit (.int .i64 x2)]] [.val true (Vec.row r)] [] := by
 refine cA Tryz.func200 (.seq (Rg Tryz.f200 0) (.seq (Rd Tryz.f200 1) .ret)) [.cell 6 165] fun cx => ?_
 unfold zA1 at H
 refine gA 2 78 72 ?_
 obtain ⟨v1,ev1,H⟩ := bs H
 obtain ⟨v2,ev2,H⟩ := bs H
 obtain ⟨r3,er3,H⟩ := bs H
 refine Tr.draws mixed 15 kr ⟨21,0,[sA 6 6 5 0],[(6,(Vec.row r3))]⟩ (fun cx => ?_) ?_
 ·refine mA zCr [(0,[]),(1,[13,14]),(2,[])] 12 [⟨[13,14],63,7,8⟩] fun cx => ?_
  refine iN zCr 3 zA.row ev1 fun cx => ?_
  refine mA zCr [(4,[]),(5,[]),(6,[]),(7,[13,14]),(8,[])] 6 [⟨[13,14],63,13,14⟩,⟨[13,14],63,7,8⟩] fun cx => ?_
  refine iN zCr 9 zA.row ev2 fun cx => ?_
  refine mA zCr [(10,[]),(11,[]),(12,[])] 2 [⟨[13,14],63,13,14⟩,⟨[13,14],63,7,8⟩] fun cx => ?_
  refine mC zCr 13 ?_
  refine vA [.rd,.rd,.rd] (zGk n v1.Id v2.Ps x2 r3 er3) ?_
  refine fA ?_
  refine mC zCr 14 ?_
  refine lA 1 ?_
  refine fA ?_
  exact mE zCr [6] [6]
 exact te (by obtain rfl := si H; exact fP [(true,(Vec.row r3))])
def Y2 (n : Nat) (x0 : Net) (y3 : (List Say)) : Option (Net) :=
  (some (⟨x0.Bs,x0.Ls,y3⟩ : Net))
def qE (n : Nat) : Nat → Net → Int → Int → (List Say) → Option (((List Say)) ⊕ (Net))
  | 0,_,_,_,_ => none
  | mo4 + 1,x0,x1,y1,y2 => (bif (decide (y1 < (x0.Ls.length : Int))) then ((idx x0.Ls y1).bind fun v5 => ((Zr n (⟨x0.Bs,x0.Ls,y2⟩ : Net) y1).bind fun r6 => (bif (!r6) then (qE n mo4 x0 x1 (IntKind.wrap .i64 (y1 + 1)) y2) else (bif (decide ((y2.length : Int) ≥ 40)) then (qE n mo4 x0 x1 (IntKind.wrap .i64 (y1 + 1)) y2) else (bif (v5.A == x1) then ((zA1 n (⟨x0.Bs,x0.Ls,y2⟩ : Net) x1 v5.P).bind fun r9 => (bif (decide (y2.length + [(⟨y1,false,r9⟩ : Say)].length ≤ 268435456)) then (qE n mo4 x0 x1 (IntKind.wrap .i64 (y1 + 1)) (y2 ++ [(⟨y1,false,r9⟩ : Say)])) else none)) else (bif (v5.B == x1) then ((zA1 n (⟨x0.Bs,x0.Ls,y2⟩ : Net) x1 v5.Q).bind fun r7 => (bif (decide (y2.length + [(⟨y1,true,r7⟩ : Say)].length ≤ 268435456)) then (qE n mo4 x0 x1 (IntKind.wrap .i64 (y1 + 1)) (y2 ++ [(⟨y1,true,r7⟩ : Say)])) else none)) else (qE n mo4 x0 x1 (IntKind.wrap .i64 (y1 + 1)) y2))))))) else (some (Sum.inl y2)))
def Yi (n : Nat) (x0 : Net) (x1 : Int) : Option (Net) :=
  ((qE n n x0 x1 0 x0.Said).bind fun o => match o with | .inl y3 => (Y2 n x0 y3) | .inr r => some r)
def zNw : Tab := ⟨19,[0,0,2,4,8,0,0,64,128,0,0,1024,2816,4128,8192,20496,65535,131071,196607],[0,0,2,4,8,0,0,64,128,0,0,1024,2816,4128,8192,16400,1,65536,163840],[0,0,2,6,14,0,0,64,192,0,0,1024,4032,8160,16352,32766,65535,131071,262143]⟩
noncomputable abbrev zGy (k : Nat) := Rg Tryz.f117 k
noncomputable abbrev zNi (k : Nat) := Rd Tryz.f117 k
theorem zCk : zf (rg Tryz.f117 7) zNw = true := kr
def zNv : Tab := ⟨19,[0,0,2,4,8,0,0,64,128,0,0,1024,2816,4128,8192,20496,65535,131071,196607],[0,0,2,4,8,0,0,64,128,0,0,1024,2816,4128,8192,16400,1,65536,163840],[0,0,2,6,14,0,0,64,192,0,0,1024,4032,8160,16352,32766,65535,131071,262143]⟩
theorem zCj : zf (rg Tryz.f117 5) zNv = true := kr
theorem zIW (n : Nat) (x0 : Net) (x1 : Int) (r : Net) (H : Yi n x0 x1 = some r) : zD Tryz.prog 117 [.ptr (Net.row x0),.val false [.lit (.int .i64 x1)]] [] [(0,(Net.row r))] := by
 refine zD.of_body tOk Tryz.func117 rfl (c := (.seq (zGy 0) (.block 0 (.loop (.seq (zGy 1) (.seq (.cond (.tmp 12) .skip (.exit 0)) (.seq (.block 1 (.seq (zGy 2) (.seq (.seq (zGy 3) (.cond (.tmp 29) (.exit 1) .skip)) (.seq (zGy 4) (.cond (.tmp 33) (zNi 5) (.seq (zGy 6) (.cond (.tmp 55) (zNi 7) .skip))))))) (zGy 8)))))))) kr (Nat.le_of_ble_eq_true kr) 1 (rs := []) rfl [] .nil [] [] [(0,(Net.row r))] fun cx => ?_
 show Tr _ _ _ ⟨75,1,[sA 0 0 3 0,sI 1 x1],[(0,(Net.row x0))]⟩ _
 unfold Yi at H
 refine rA 4 ?_
 refine kO x0.Ls Link.row ?_
 refine uA 1 3587 1 ?_
 obtain ⟨o4,eo4,Ho4⟩ := bs H
 clear H
 refine Tr.mid (ι := (List Say)) (fun v => ⟨75,1,[sA 0 0 3 0],[(0,[cL 11 x0.Bs zA.row,cL 4 x0.Ls Link.row,cL 7 v Say.row])]⟩) (fun v => Y2 n x0 v = some r) ?_ ?_
 ·refine tB ?_
  refine Tr.loop (ι := Nat × (Int × (List Say))) (fun v => ⟨75,1,[sI 11 v.2.1,sI 10 (x0.Ls.length : Int),sR 9 0 3 1 1 false,sA 0 0 3 0,sI 1 x1],[(0,[cL 11 x0.Bs zA.row,cL 4 x0.Ls Link.row,cL 7 v.2.2 Say.row])]⟩) (fun v => qE n v.1 x0 x1 v.2.1 v.2.2 = some o4) (fun v => v.1) (n,(0,x0.Said)) eo4 (St.sub_of [11,10,9,0,1] [0] kr) ?_
  rintro ⟨mo4,y1,y2⟩ H
  have H : qE n mo4 x0 x1 y1 y2 = some o4 := H
  obtain _ | mo4 := mo4
  ·exact nN H
  rw [qE] at H
  refine gA 1 7683 1 ?_
  refine tS ?_
  obtain ⟨h1,H⟩ | ⟨h1,H⟩ := bC H
  ·refine nA h1 ?_
   refine Tr.exit ?_
   refine And.intro (fun _ => ?_) (fun h => absurd rfl h)
   obtain rfl := si H
   have H := Ho4
   dsimp only at H
   exact jA y2 H [0] [0]
  refine tA h1 ?_
  refine tK ?_
  refine tS ?_
  refine tB ?_
  refine rA 1 ?_
  obtain ⟨v5,ev5,H⟩ := bs H
  refine oA Link.row ev5 ?_
  refine dE (tI 114) (.box 0) [(0,0),(1,(y1.toNat))] 4 0 [.sl true 3 [[cL 11 x0.Bs zA.row,cL 4 x0.Ls Link.row,cL 7 y2 Say.row]]] (Link.row v5) (zt rfl (zI ev5).2) ?_
  refine uA 3 3635 33 ?_
  refine tS ?_
  refine rA 4 ?_
  obtain ⟨r6,er6,H⟩ := bs H
  refine vB [.rd,.rd] [.box 0] (zEL n (⟨x0.Bs,x0.Ls,y2⟩ : Net) y1 r6 er6) (.inr (zk (zJ zL zy) zz)) ?_
  refine lA 2 ?_
  refine sL 4197939 33 ⟨75,1,[sB 22 (!r6),sI 4 y1,sA 5 5 4 0,sI 11 y1,sI 10 (x0.Ls.length : Int),sR 9 0 3 1 1 false,sA 0 0 3 0,sI 1 x1],[(5,(Link.row v5)),(0,[cL 11 x0.Bs zA.row,cL 4 x0.Ls Link.row,cL 7 y2 Say.row])]⟩ ?_
  cases h2 : (!r6)
  ·have H := zG h2 H
   refine lA 4 ?_
   refine kO y2 Say.row ?_
   refine uA 2 536874547 33 ?_
   obtain ⟨h3,H⟩ | ⟨h3,H⟩ := bC H
   ·refine nA h3 ?_
    refine tK ?_
    refine gA 4 8589938227 33 ?_
    obtain ⟨h4,H⟩ | ⟨h4,H⟩ := bC H
    ·refine nA h4 ?_
     refine gA 4 0x80000000000e33 33 ?_
     obtain ⟨h5,H⟩ | ⟨h5,H⟩ := bC H
     ·refine nA h5 ?_
      refine tK ?_
      refine eA 2 3587 1 ?_
      exact jB mo4 ((IntKind.wrap .i64 (y1 + 1)),y2) H [11,10,9,0,1] [0]
     refine tA h5 ?_
     obtain ⟨r7,er7,H⟩ := bs H
     obtain ⟨hg8,H⟩ := gs H
     refine Tr.draw mixed 19 kr ⟨75,1,[sI 11 y1,sI 10 (x0.Ls.length : Int),sA 0 0 3 0,sI 1 x1,sR 9 0 3 1 1 false],[(0,[cL 11 x0.Bs zA.row,cL 4 x0.Ls Link.row,cL 7 (y2 ++ [(⟨y1,true,r7⟩ : Say)]) Say.row])]⟩ (fun cx => ?_) ?_
     ·refine mA zCk [(0,[]),(1,[]),(2,[]),(3,[]),(4,[15,18]),(5,[]),(6,[]),(7,[]),(8,[12,13,14,15,18]),(9,[]),(10,[]),(11,[12,13,14,15,18])] 7 [⟨[12,13,14,15,18],3,66,67⟩,⟨[12,13,14,15,18],67,63,64⟩,⟨[15,18],65,59,60⟩] fun cx => ?_
      refine mC zCk 12 ?_
      refine vB [.rd,.rd,.rd] [.box 0] (zJL n (⟨x0.Bs,x0.Ls,y2⟩ : Net) x1 v5.Q r7 er7) (.inr (zk (Vec.row_mine _) zz)) ?_
      refine fA ?_
      refine mC zCk 13 ?_
      refine lA 1 ?_
      refine fA ?_
      refine mC zCk 14 ?_
      refine lA 1 ?_
      refine fA ?_
      refine mC zCk 15 ?_
      refine LAt.grab 60 kr ?_
      refine LAt.appMU tOk (t := 65) (ty := 65) (e := 180) (x := (.tmp 60)) (y := (.tmp 70)) (d := 71) (g := none) (tI 180) Say.row y2 [(⟨y1,true,r7⟩ : Say)] kr kr kr kr kr kr kr kr kr kr hg8 ?_
      refine fA ?_
      refine mA zCk [(16,[]),(17,[])] 1 [⟨[12,13,14,15,18],3,66,67⟩,⟨[12,13,14,15,18],67,63,64⟩,⟨[15,18],65,59,60⟩] fun cx => ?_
      refine mC zCk 18 ?_
      refine LAt.storeO tOk (t := 65) (ty := 0) (ad := (.tmp 73)) (x := (.tmp 71)) (g := none) (tI 65) false [cL 7 (y2 ++ [(⟨y1,true,r7⟩ : Say)]) Say.row] 0 2 [cL 11 x0.Bs zA.row,cL 4 x0.Ls Link.row,.dead] kr kr kr kr kr kr kr kr ?_
      refine fA ?_
      exact mE zCk [11,10,0,1,9] [0]
     refine eA 2 3587 1 ?_
     exact jB mo4 ((IntKind.wrap .i64 (y1 + 1)),(y2 ++ [(⟨y1,true,r7⟩ : Say)])) H [11,10,9,0,1] [0]
    refine tA h4 ?_
    obtain ⟨r9,er9,H⟩ := bs H
    obtain ⟨hg10,H⟩ := gs H
    refine Tr.draw mixed 19 kr ⟨75,1,[sI 11 y1,sI 10 (x0.Ls.length : Int),sA 0 0 3 0,sI 1 x1,sR 9 0 3 1 1 false],[(0,[cL 11 x0.Bs zA.row,cL 4 x0.Ls Link.row,cL 7 (y2 ++ [(⟨y1,false,r9⟩ : Say)]) Say.row])]⟩ (fun cx => ?_) ?_
    ·refine mA zCj [(0,[]),(1,[]),(2,[]),(3,[]),(4,[15,18]),(5,[]),(6,[]),(7,[]),(8,[12,13,14,15,18]),(9,[]),(10,[]),(11,[12,13,14,15,18])] 7 [⟨[12,13,14,15,18],3,44,45⟩,⟨[12,13,14,15,18],67,41,42⟩,⟨[15,18],65,37,38⟩] fun cx => ?_
     refine mC zCj 12 ?_
     refine vB [.rd,.rd,.rd] [.box 0] (zJL n (⟨x0.Bs,x0.Ls,y2⟩ : Net) x1 v5.P r9 er9) (.inr (zk (Vec.row_mine _) zz)) ?_
     refine fA ?_
     refine mC zCj 13 ?_
     refine lA 1 ?_
     refine fA ?_
     refine mC zCj 14 ?_
     refine lA 1 ?_
     refine fA ?_
     refine mC zCj 15 ?_
     refine LAt.grab 38 kr ?_
     refine LAt.appMU tOk (t := 65) (ty := 65) (e := 180) (x := (.tmp 38)) (y := (.tmp 48)) (d := 49) (g := none) (tI 180) Say.row y2 [(⟨y1,false,r9⟩ : Say)] kr kr kr kr kr kr kr kr kr kr hg10 ?_
     refine fA ?_
     refine mA zCj [(16,[]),(17,[])] 1 [⟨[12,13,14,15,18],3,44,45⟩,⟨[12,13,14,15,18],67,41,42⟩,⟨[15,18],65,37,38⟩] fun cx => ?_
     refine mC zCj 18 ?_
     refine LAt.storeO tOk (t := 65) (ty := 0) (ad := (.tmp 51)) (x := (.tmp 49)) (g := none) (tI 65) false [cL 7 (y2 ++ [(⟨y1,false,r9⟩ : Say)]) Say.row] 0 2 [cL 11 x0.Bs zA.row,cL 4 x0.Ls Link.row,.dead] kr kr kr kr kr kr kr kr ?_
     refine fA ?_
     exact mE zCj [11,10,0,1,9] [0]
    refine eA 2 3587 1 ?_
    exact jB mo4 ((IntKind.wrap .i64 (y1 + 1)),(y2 ++ [(⟨y1,false,r9⟩ : Say)])) H [11,10,9,0,1] [0]
   refine tA h3 ?_
   refine Tr.exit ?_
   refine And.intro (fun _ => ?_) (fun h => absurd rfl h)
   refine eA 2 3587 1 ?_
   exact jB mo4 ((IntKind.wrap .i64 (y1 + 1)),y2) H [11,10,9,0,1] [0]
  have H := zH h2 H
  refine uA 7 536874547 33 ?_
  refine tB_ ?_
  refine Tr.exit ?_
  refine And.intro (fun _ => ?_) (fun h => absurd rfl h)
  refine eA 2 3587 1 ?_
  exact jB mo4 ((IntKind.wrap .i64 (y1 + 1)),y2) H [11,10,9,0,1] [0]
 rintro y3 H
 have H : (Y2 n x0 y3) = some r := H
 unfold Y2 at H
 obtain rfl := si H
 exact Fin.ofY _ [] [] _ [] _ [(0,[cL 11 x0.Bs zA.row,cL 4 x0.Ls Link.row,cL 7 y3 Say.row])] kr rfl rfl rfl kr kr kr kr rfl rfl rfl
def zA0 (n : Nat) (x0 : Int) : Option (Int) :=
  (some (if 1000000 < (IntKind.wrap .i64 (x0 + 1)) then 1000000 else (IntKind.wrap .i64 (x0 + 1))))
theorem zJK (n : Nat) (x0 : Int) (r : Int) (H : zA0 n x0 = some r) : zD Tryz.prog 87 [.val false [.lit (.int .i64 x0)]] [.val false [.lit (.int .i64 r)]] [] := by
 refine cA Tryz.func87 (.seq (Rg Tryz.f87 0) (.seq (Rg Tryz.f87 1) .ret)) [.tmp 2] fun cx => ?_
 unfold zA0 at H
 refine gA 1 1 0 ?_
 refine gA 4 4 0 ?_
 exact te (by obtain rfl := si H; exact fP [(false,[cI (if 1000000 < (IntKind.wrap .i64 (x0 + 1)) then 1000000 else (IntKind.wrap .i64 (x0 + 1)))])])
def zAw (n : Nat) (y3 : (List zB)) : Option ((List zB)) :=
  (some y3)
def ZG (n : Nat) : Nat → (List zB) → Int → (List zB) → Option (((List zB)) ⊕ ((List zB)))
  | 0,_,_,_ => none
  | mo4 + 1,x0,y1,y2 => (bif (decide (y1 < (x0.length : Int))) then ((idx x0 y1).bind fun v5 => (bif (!v5.Sc) then (bif (decide (v5.Age ≥ 4)) then (ZG n mo4 x0 (IntKind.wrap .i64 (y1 + 1)) y2) else (bif (decide (y2.length + [(⟨v5.Tag,v5.Mac,v5.Port,(IntKind.wrap .i64 (v5.Age + 1)),v5.Sc⟩ : zB)].length ≤ 268435456)) then (ZG n mo4 x0 (IntKind.wrap .i64 (y1 + 1)) (y2 ++ [(⟨v5.Tag,v5.Mac,v5.Port,(IntKind.wrap .i64 (v5.Age + 1)),v5.Sc⟩ : zB)])) else none)) else (bif (decide (y2.length + [v5].length ≤ 268435456)) then (ZG n mo4 x0 (IntKind.wrap .i64 (y1 + 1)) (y2 ++ [v5])) else none))) else (some (Sum.inl y2)))
def zAY (n : Nat) (x0 : (List zB)) : Option ((List zB)) :=
  ((ZG n n x0 0 ([] : List zB)).bind fun o => match o with | .inl y3 => (zAw n y3) | .inr r => some r)
theorem zKq (n : Nat) (x0 : (List zB)) (r : (List zB)) (H : zAY n x0 = some r) : zD Tryz.prog 201 [.val false [.sl false 5 (CV.frzEs (x0.map zB.row))]] [.val false [.sl true 5 (r.map zB.row)]] [] := by
 refine cA Tryz.func201 (.seq (Rg Tryz.f201 0) (.seq (Rg Tryz.f201 1) (.seq (.seq (Rg Tryz.f201 2) (.block 0 (.loop (.seq (Rg Tryz.f201 3) (.seq (.cond (.tmp 9) .skip (.exit 0)) (.seq (.block 1 (.seq (Rg Tryz.f201 4) (.seq (.seq (Rg Tryz.f201 5) (.cond (.tmp 14) (.seq (.seq (Rg Tryz.f201 6) (.cond (.tmp 17) (.exit 1) .skip)) (Rg Tryz.f201 7)) .skip)) (Rg Tryz.f201 8)))) (Rg Tryz.f201 9))))))) (.seq (Rg Tryz.f201 10) .ret)))) [.tmp 2] fun cx => ?_
 unfold zAY at H
 refine gA 1 1 0 ?_
 refine gA 1 9 0 ?_
 refine tS ?_
 refine rA 1 ?_
 refine kF x0 zB.row ?_
 refine uA 1 456 0 ?_
 obtain ⟨o4,eo4,Ho4⟩ := bs H
 clear H
 refine Tr.mid (ι := (List zB)) (fun v => ⟨28,0,[sC 3 (cL 5 v zB.row)],[]⟩) (fun v => zAw n v = some r) ?_ ?_
 ·refine tB ?_
  refine Tr.loop (ι := Nat × (Int × (List zB))) (fun v => ⟨28,0,[sI 8 v.2.1,sI 7 (x0.length : Int),sC 6 (cF 5 x0 zB.row),sC 3 (cL 5 v.2.2 zB.row)],[]⟩) (fun v => ZG n v.1 x0 v.2.1 v.2.2 = some o4) (fun v => v.1) (n,(0,([] : List zB))) eo4 (St.sub_of [8,7,6,3] [] kr) ?_
  rintro ⟨mo4,y1,y2⟩ H
  have H : ZG n mo4 x0 y1 y2 = some o4 := H
  obtain _ | mo4 := mo4
  ·exact nN H
  rw [ZG] at H
  refine gA 1 968 0 ?_
  refine tS ?_
  obtain ⟨h1,H⟩ | ⟨h1,H⟩ := bC H
  ·refine nA h1 ?_
   refine Tr.exit ?_
   refine And.intro (fun _ => ?_) (fun h => absurd rfl h)
   obtain rfl := si H
   have H := Ho4
   dsimp only at H
   exact jA y2 H [3] []
  refine tA h1 ?_
  refine tK ?_
  refine tS ?_
  refine tB ?_
  refine tR ?_
  obtain ⟨v5,ev5,H⟩ := bs H
  refine iA zB.row ev5 ?_
  refine uA 3 488 32 ?_
  refine tS ?_
  refine gA 3 16872 32 ?_
  obtain ⟨h2,H⟩ | ⟨h2,H⟩ := bC H
  ·refine nA h2 ?_
   refine tK ?_
   refine Tr.at ?_
   refine lA 3 ?_
   obtain ⟨hg6,H⟩ := gs H
   refine LAt.appMU tOk (t := 36) (ty := 36) (e := 169) (x := (.tmp 22)) (y := (.tmp 24)) (d := 25) (g := none) (tI 169) zB.row y2 [v5] kr kr kr kr kr kr kr kr kr kr hg6 ?_
   refine LAt.moveU (T := lk tab) (ty := 36) (x := (.tmp 25)) (d := 3) (g := none) false [cL 5 (y2 ++ [v5]) zB.row] kr kr kr kr kr ?_
   refine dA 456 0 ?_
   refine eA 2 456 0 ?_
   exact jB mo4 ((IntKind.wrap .i64 (y1 + 1)),(y2 ++ [v5])) H [8,7,6,3] []
  refine tA h2 ?_
  refine tS ?_
  refine gA 3 131560 32 ?_
  obtain ⟨h3,H⟩ | ⟨h3,H⟩ := bC H
  ·refine nA h3 ?_
   refine tK ?_
   refine eA 5 488 32 ?_
   refine Tr.at ?_
   refine lA 3 ?_
   obtain ⟨hg7,H⟩ := gs H
   refine LAt.appMU tOk (t := 36) (ty := 36) (e := 169) (x := (.tmp 22)) (y := (.tmp 24)) (d := 25) (g := none) (tI 169) zB.row y2 [(⟨v5.Tag,v5.Mac,v5.Port,(IntKind.wrap .i64 (v5.Age + 1)),v5.Sc⟩ : zB)] kr kr kr kr kr kr kr kr kr kr hg7 ?_
   refine LAt.moveU (T := lk tab) (ty := 36) (x := (.tmp 25)) (d := 3) (g := none) false [cL 5 (y2 ++ [(⟨v5.Tag,v5.Mac,v5.Port,(IntKind.wrap .i64 (v5.Age + 1)),v5.Sc⟩ : zB)]) zB.row] kr kr kr kr kr ?_
   refine dA 456 0 ?_
   refine eA 2 456 0 ?_
   exact jB mo4 ((IntKind.wrap .i64 (y1 + 1)),(y2 ++ [(⟨v5.Tag,v5.Mac,v5.Port,(IntKind.wrap .i64 (v5.Age + 1)),v5.Sc⟩ : zB)])) H [8,7,6,3] []
  refine tA h3 ?_
  refine Tr.exit ?_
  refine And.intro (fun _ => ?_) (fun h => absurd rfl h)
  refine eA 2 456 0 ?_
  exact jB mo4 ((IntKind.wrap .i64 (y1 + 1)),y2) H [8,7,6,3] []
 rintro y3 H
 have H : (zAw n y3) = some r := H
 unfold zAw at H
 refine gA 2 12 0 ?_
 exact te (by obtain rfl := si H; exact fP [(false,[cL 5 y3 zB.row])])
def zAZ (n : Nat) (x0 : Int) (x1 : (List Pt)) (x2 : Int) : Option (Int) :=
  ((zw n x2 0 (IntKind.wrap .i64 ((x1.length : Int) - 1))).bind fun r1 => (bif (!r1) then (some 4) else ((idx x1 x2).bind fun v2 => (bif (!v2.Up) then (some 4) else ((YW n x0 x1).bind fun r3 => (bif (r3.2 == x2) then (some 1) else ((idx x1 x2).bind fun v4 => (bif (!v4.Has) then (some 2) else ((JJ n x0 x1 x2).bind fun r5 => ((idx x1 x2).bind fun v6 => ((Jq n r5 v6.Hd).bind fun r7 => (bif r7 then (some 2) else (some 3)))))))))))))
def zN2 : Tab := ⟨19,[0,0,3,4,8,16,32,64,64,64,960,64,64,6208,8256,16448,33856,65600,196608],[0,0,3,4,8,16,32,64,64,64,960,64,64,6208,8256,16448,33856,65600,131072],[0,0,3,7,15,31,63,127,127,127,1023,127,127,6271,14463,30847,65535,131071,262143]⟩
theorem YF : zf (rg Tryz.f143 6) zN2 = true := kr
theorem zKr (n : Nat) (x0 : Int) (x1 : (List Pt)) (x2 : Int) (r : Int) (H : zAZ n x0 x1 x2 = some r) : zD Tryz.prog 143 [.val false [.lit (.int .i64 x0)],.val false [.sl false 8 (CV.frzEs (x1.map Pt.row))],.val false [.lit (.int .i64 x2)]] [.val false [.lit (.int .i64 r)]] [] := by
 refine cA Tryz.func143 (.seq (Rg Tryz.f143 0) (.seq (.seq (Rg Tryz.f143 1) (.cond (.tmp 22) (.seq (Rg Tryz.f143 2) .ret) .skip)) (.seq (Rg Tryz.f143 3) (.seq (.block 0 (.seq (Rg Tryz.f143 4) (.cond (.tmp 29) (.seq (Rg Tryz.f143 5) .ret) (.seq (Rd Tryz.f143 6) (.cond (.tmp 33) (.seq (Rg Tryz.f143 7) .ret) .skip))))) (.seq (Rg Tryz.f143 8) .ret))))) [.tmp 6] fun cx => ?_
 unfold zAZ at H
 refine gA 1 7 0 ?_
 refine tS ?_
 refine rA 2 ?_
 refine kF x1 Pt.row ?_
 refine lA 1 ?_
 obtain ⟨r1,er1,H⟩ := bs H
 refine vA [.rd,.rd,.rd] (z3 n x2 0 (IntKind.wrap .i64 ((x1.length : Int) - 1)) r1 er1) ?_
 refine lA 2 ?_
 refine sL 32775 0 ⟨52,0,[sB 15 (!r1),sI 0 x0,sC 1 (cF 8 x1 Pt.row),sI 2 x2],[]⟩ ?_
 cases h1 : (!r1)
 ·have H := zG h1 H
  refine lA 2 ?_
  obtain ⟨v2,ev2,H⟩ := bs H
  refine iA Pt.row ev2 ?_
  refine uA 4 4194311 0 ?_
  obtain ⟨h2,H⟩ | ⟨h2,H⟩ := bC H
  ·refine nA h2 ?_
   refine tK ?_
   refine rA 2 ?_
   obtain ⟨r3,er3,H⟩ := bs H
   refine vA [.rd,.rd] (zFY n x0 x1 r3 er3) ?_
   refine LAt.movT tOk (ty := 233) (t := 26) (d := 23) (g := none) [(true,(Vec.row r3.1)),(false,[cI r3.2])] _ kr (.inl rfl) kr kr kr kr rfl ?_
   refine uA 5 263 0 ?_
   refine tS ?_
   refine tB ?_
   refine gA 4 536870919 0 ?_
   obtain ⟨h3,H⟩ | ⟨h3,H⟩ := bC H
   ·refine nA h3 ?_
    obtain ⟨v4,ev4,H⟩ := bs H
    refine sT ⟨52,0,[sB 29 (r3.2 == x2),sI 0 x0,sC 1 (cF 8 x1 Pt.row),sI 2 x2],[]⟩ ?_
    cases h4 : (!v4.Has)
    ·have H := zG h4 H
     obtain ⟨r5,er5,H⟩ := bs H
     obtain ⟨v6,ev6,H⟩ := bs H
     obtain ⟨r7,er7,H⟩ := bs H
     refine Tr.draws mixed 19 kr ⟨52,0,[sB 33 r7],[]⟩ (fun cx => ?_) ?_
     ·refine mA YF [(0,[]),(1,[])] 17 [] fun cx => ?_
      refine iN YF 2 Pt.row ev4 fun cx => ?_
      refine mA YF [(3,[]),(4,[]),(5,[]),(6,[])] 12 [] fun cx => ?_
      refine sA_ 1099511627783 0 ⟨52,0,[sB 40 (!v4.Has),sI 0 x0,sC 1 (cF 8 x1 Pt.row),sI 2 x2],[]⟩ ?_
      rw [h4]
      refine mA YF [(7,[]),(8,[]),(9,[]),(11,[]),(12,[])] 7 [] fun cx => ?_
      refine iN YF 13 Pt.row ev6 fun cx => ?_
      refine mA YF [(14,[]),(15,[])] 4 [] fun cx => ?_
      refine mC YF 10 ?_
      refine vA [.rd,.rd,.rd] (zGk n x0 x1 x2 r5 er5) ?_
      refine fA ?_
      refine mC YF 16 ?_
      refine vA [.rd,.rd] (zFa n r5 v6.Hd r7 er7) ?_
      refine fA ?_
      refine mA YF [(17,[]),(18,[])] 0 [] fun cx => ?_
      exact mE YF [33] []
     cases h5 : r7
     ·have H := zG h5 H
      refine nB_ ?_
      refine tK ?_
      refine gA 1 64 0 ?_
      exact te (by obtain rfl := si H; exact fP [(false,[cI 3])])
     have H := zH h5 H
     refine tB_ ?_
     refine gA 1 64 0 ?_
     exact te (by obtain rfl := si H; exact fP [(false,[cI 2])])
    have H := zH h4 H
    refine Tr.draws mixed 19 kr ⟨52,0,[sB 33 true],[]⟩ (fun cx => ?_) ?_
    ·refine mA YF [(0,[]),(1,[])] 17 [] fun cx => ?_
     refine iN YF 2 Pt.row ev4 fun cx => ?_
     refine mA YF [(3,[]),(4,[]),(5,[]),(6,[])] 12 [] fun cx => ?_
     refine sA_ 1099511627783 0 ⟨52,0,[sB 40 (!v4.Has),sI 0 x0,sC 1 (cF 8 x1 Pt.row),sI 2 x2],[]⟩ ?_
     rw [h4]
     refine mA YF [(7,[]),(8,[]),(9,[]),(10,[]),(11,[]),(12,[]),(13,[]),(14,[]),(15,[]),(16,[]),(17,[]),(18,[])] 0 [] fun cx => ?_
     exact mE YF [33] []
    refine tB_ ?_
    refine gA 1 64 0 ?_
    exact te (by obtain rfl := si H; exact fP [(false,[cI 2])])
   refine tA h3 ?_
   refine gA 1 64 0 ?_
   exact te (by obtain rfl := si H; exact fP [(false,[cI 1])])
  refine tA h2 ?_
  refine gA 1 64 0 ?_
  exact te (by obtain rfl := si H; exact fP [(false,[cI 4])])
 have H := zH h1 H
 refine uA 7 4194311 0 ?_
 refine tB_ ?_
 refine gA 1 64 0 ?_
 exact te (by obtain rfl := si H; exact fP [(false,[cI 4])])
def zBY (n : Nat) (y3 : Int) : Option (Int) :=
  (some y3)
def ZU (n : Nat) : Nat → Int → (List Pt) → Int → Int → Option ((Int) ⊕ (Int))
  | 0,_,_,_,_ => none
  | mo4 + 1,x0,x1,y1,y2 => (bif (decide (y1 < (x1.length : Int))) then (bif (decide (y1 < 6)) then ((zAZ n x0 x1 y1).bind fun r5 => (bif (r5 == 1) then (bif (decide ((0 : Int) ≤ y1)) then (ZU n mo4 x0 x1 (IntKind.wrap .i64 (y1 + 1)) (IntKind.wrap .i64 (BitVec.ofInt (IntKind.bits .i64) y2 ||| BitVec.ofInt (IntKind.bits .i64) (IntKind.wrap .i64 (1 * 2 ^ min ((y1 : Int)).toNat (IntKind.bits .i64)))).toNat)) else none) else (bif (r5 == 2) then (bif (decide ((0 : Int) ≤ y1)) then (ZU n mo4 x0 x1 (IntKind.wrap .i64 (y1 + 1)) (IntKind.wrap .i64 (BitVec.ofInt (IntKind.bits .i64) y2 ||| BitVec.ofInt (IntKind.bits .i64) (IntKind.wrap .i64 (1 * 2 ^ min ((y1 : Int)).toNat (IntKind.bits .i64)))).toNat)) else none) else (ZU n mo4 x0 x1 (IntKind.wrap .i64 (y1 + 1)) y2)))) else (some (Sum.inl y2))) else (some (Sum.inl y2)))
def zBK (n : Nat) (x0 : Int) (x1 : (List Pt)) : Option (Int) :=
  ((ZU n n x0 x1 0 0).bind fun o => match o with | .inl y3 => (zBY n y3) | .inr r => some r)
theorem zLv (n : Nat) (x0 : Int) (x1 : (List Pt)) (r : Int) (H : zBK n x0 x1 = some r) : zD Tryz.prog 43 [.val false [.lit (.int .i64 x0)],.val false [.sl false 8 (CV.frzEs (x1.map Pt.row))]] [.val false [.lit (.int .i64 r)]] [] := by
 refine cA Tryz.func43 (.seq (Rg Tryz.f43 0) (.seq (Rg Tryz.f43 1) (.seq (.seq (Rg Tryz.f43 2) (.block 0 (.loop (.seq (.seq (Rg Tryz.f43 3) (.cond (.tmp 15) .skip (.exit 0))) (.seq (.block 1 (.seq (Rg Tryz.f43 5) (.seq (Rg Tryz.f43 6) (.cond (.tmp 27) (Rg Tryz.f43 7) .skip)))) (Rg Tryz.f43 4)))))) (.seq (Rg Tryz.f43 8) .ret)))) [.tmp 4] fun cx => ?_
 unfold zBK at H
 refine gA 1 3 0 ?_
 refine gA 1 35 0 ?_
 refine tS ?_
 refine gA 1 99 0 ?_
 obtain ⟨o4,eo4,Ho4⟩ := bs H
 clear H
 refine Tr.mid (ι := Int) (fun v => ⟨33,0,[sI 5 v],[]⟩) (fun v => zBY n v = some r) ?_ ?_
 ·refine tB ?_
  refine Tr.loop (ι := Nat × (Int × Int)) (fun v => ⟨33,0,[sI 6 v.2.1,sI 5 v.2.2,sI 0 x0,sC 1 (cF 8 x1 Pt.row)],[]⟩) (fun v => ZU n v.1 x0 x1 v.2.1 v.2.2 = some o4) (fun v => v.1) (n,(0,0)) eo4 (St.sub_of [6,5,0,1] [] kr) ?_
  rintro ⟨mo4,y1,y2⟩ H
  have H : ZU n mo4 x0 x1 y1 y2 = some o4 := H
  obtain _ | mo4 := mo4
  ·exact nN H
  rw [ZU] at H
  refine tS ?_
  refine rA 2 ?_
  refine kF x1 Pt.row ?_
  refine lA 2 ?_
  refine sL 4195 0 ⟨33,0,[sB 12 (decide (y1 < (x1.length : Int))),sI 6 y1,sI 5 y2,sI 0 x0,sC 1 (cF 8 x1 Pt.row)],[]⟩ ?_
  cases h1 : (decide (y1 < (x1.length : Int)))
  ·have H := zG h1 H
   refine uA 3 32867 0 ?_
   refine nB_ ?_
   refine Tr.exit ?_
   refine And.intro (fun _ => ?_) (fun h => absurd rfl h)
   obtain rfl := si H
   have H := Ho4
   dsimp only at H
   exact jA y2 H [5] []
  have H := zH h1 H
  refine uA 3 32867 0 ?_
  obtain ⟨h2,H⟩ | ⟨h2,H⟩ := bC H
  ·refine nA h2 ?_
   refine Tr.exit ?_
   refine And.intro (fun _ => ?_) (fun h => absurd rfl h)
   obtain rfl := si H
   have H := Ho4
   dsimp only at H
   exact jA y2 H [5] []
  refine tA h2 ?_
  refine tK ?_
  refine tS ?_
  refine tB ?_
  refine rA 3 ?_
  obtain ⟨r5,er5,H⟩ := bs H
  refine vA [.rd,.rd,.rd] (zKr n x0 x1 y1 r5 er5) ?_
  refine uA 1 227 0 ?_
  refine rA 3 ?_
  refine sL 16777443 0 ⟨33,0,[sB 24 (r5 == 1),sI 7 r5,sI 6 y1,sI 5 y2,sI 0 x0,sC 1 (cF 8 x1 Pt.row)],[]⟩ ?_
  cases h3 : (r5 == 1)
  ·have H := zG h3 H
   refine uA 3 134217827 0 ?_
   obtain ⟨h4,H⟩ | ⟨h4,H⟩ := bC H
   ·refine nA h4 ?_
    refine tK ?_
    refine eA 3 99 0 ?_
    exact jB mo4 ((IntKind.wrap .i64 (y1 + 1)),y2) H [6,5,0,1] []
   refine tA h4 ?_
   refine Tr.at ?_
   refine lA 2 ?_
   obtain ⟨hg6,H⟩ := gs H
   refine LAt.binC tOk (op := .shl) (t := 3) (ty := 3) (ty' := 3) (x := (.const (.int .i64 1))) (y := (.tmp 29)) (d := 30) (g := none) (.int .i64 1) (.int .i64 y1) (.int .i64 (IntKind.wrap .i64 (1 * 2 ^ min ((y1 : Int)).toNat (IntKind.bits .i64)))) _ kr kr kr kr kr (φ := (0 : Int) ≤ y1) kr (of_decide_eq_true hg6) rfl ?_
   refine uA 2 99 0 ?_
   refine eA 3 99 0 ?_
   exact jB mo4 ((IntKind.wrap .i64 (y1 + 1)),(IntKind.wrap .i64 (BitVec.ofInt (IntKind.bits .i64) y2 ||| BitVec.ofInt (IntKind.bits .i64) (IntKind.wrap .i64 (1 * 2 ^ min ((y1 : Int)).toNat (IntKind.bits .i64)))).toNat)) H [6,5,0,1] []
  have H := zH h3 H
  refine uA 3 134217827 0 ?_
  refine tB_ ?_
  refine Tr.at ?_
  refine lA 2 ?_
  obtain ⟨hg7,H⟩ := gs H
  refine LAt.binC tOk (op := .shl) (t := 3) (ty := 3) (ty' := 3) (x := (.const (.int .i64 1))) (y := (.tmp 29)) (d := 30) (g := none) (.int .i64 1) (.int .i64 y1) (.int .i64 (IntKind.wrap .i64 (1 * 2 ^ min ((y1 : Int)).toNat (IntKind.bits .i64)))) _ kr kr kr kr kr (φ := (0 : Int) ≤ y1) kr (of_decide_eq_true hg7) rfl ?_
  refine uA 2 99 0 ?_
  refine eA 3 99 0 ?_
  exact jB mo4 ((IntKind.wrap .i64 (y1 + 1)),(IntKind.wrap .i64 (BitVec.ofInt (IntKind.bits .i64) y2 ||| BitVec.ofInt (IntKind.bits .i64) (IntKind.wrap .i64 (1 * 2 ^ min ((y1 : Int)).toNat (IntKind.bits .i64)))).toNat)) H [6,5,0,1] []
 rintro y3 H
 have H : (zBY n y3) = some r := H
 unfold zBY at H
 refine gA 2 16 0 ?_
 exact te (by obtain rfl := si H; exact fP [(false,[cI y3])])
def Jv (n : Nat) (x0 : Int) (x1 : Int) : Option (Bool) :=
  ((zw n x1 0 62).bind fun r1 => (bif r1 then (bif (decide ((0 : Int) ≤ x1)) then (some ((IntKind.wrap .i64 (BitVec.ofInt (IntKind.bits .i64) (Int.fdiv x0 (2 ^ min ((x1 : Int)).toNat (IntKind.bits .i64))) &&& BitVec.ofInt (IntKind.bits .i64) 1).toNat) == 1)) else none) else (some false)))
theorem zKC (n : Nat) (x0 : Int) (x1 : Int) (r : Bool) (H : Jv n x0 x1 = some r) : zD Tryz.prog 86 [.val false [.lit (.int .i64 x0)],.val false [.lit (.int .i64 x1)]] [.val false [.lit (.bool r)]] [] := by
 refine cA Tryz.func86 (.seq (Rg Tryz.f86 0) (.seq (Rg Tryz.f86 1) .ret)) [.tmp 4] fun cx => ?_
 unfold Jv at H
 refine gA 1 3 0 ?_
 refine rA 1 ?_
 obtain ⟨r1,er1,H⟩ := bs H
 refine vA [.rd,.rd,.rd] (z3 n x1 0 62 r1 er1) ?_
 refine lA 1 ?_
 refine sL 131 0 ⟨14,0,[sB 7 r1,sI 0 x0,sI 1 x1],[]⟩ ?_
 cases h1 : r1
 ·have H := zG h1 H
  refine uA 7 16 0 ?_
  exact te (by obtain rfl := si H; exact fP [(false,[cB false])])
 have H := zH h1 H
 refine lA 2 ?_
 obtain ⟨hg2,H⟩ := gs H
 refine LAt.binC tOk (op := .shr) (t := 3) (ty := 3) (ty' := 3) (x := (.tmp 8)) (y := (.tmp 9)) (d := 10) (g := (some (2,true))) (.int .i64 x0) (.int .i64 x1) (.int .i64 (Int.fdiv x0 (2 ^ min ((x1 : Int)).toNat (IntKind.bits .i64)))) _ kr kr kr kr kr (φ := (0 : Int) ≤ x1) kr (of_decide_eq_true hg2) rfl ?_
 refine uA 4 16 0 ?_
 exact te (by obtain rfl := si H; exact fP [(false,[cB ((IntKind.wrap .i64 (BitVec.ofInt (IntKind.bits .i64) (Int.fdiv x0 (2 ^ min ((x1 : Int)).toNat (IntKind.bits .i64))) &&& BitVec.ofInt (IntKind.bits .i64) 1).toNat) == 1)])])
def Qv (n : Nat) (y3 : (List zB)) : Option ((List zB)) :=
  (some y3)
def qM (n : Nat) : Nat → (List zB) → Int → Int → (List zB) → Option (((List zB)) ⊕ ((List zB)))
  | 0,_,_,_,_ => none
  | mo4 + 1,x0,x1,y1,y2 => (bif (decide (y1 < (x0.length : Int))) then ((idx x0 y1).bind fun v5 => (bif v5.Sc then (bif (decide (y2.length + [v5].length ≤ 268435456)) then (qM n mo4 x0 x1 (IntKind.wrap .i64 (y1 + 1)) (y2 ++ [v5])) else none) else (bif (v5.Port != x1) then (bif (decide (y2.length + [v5].length ≤ 268435456)) then (qM n mo4 x0 x1 (IntKind.wrap .i64 (y1 + 1)) (y2 ++ [v5])) else none) else (qM n mo4 x0 x1 (IntKind.wrap .i64 (y1 + 1)) y2)))) else (some (Sum.inl y2)))
def Yh (n : Nat) (x0 : (List zB)) (x1 : Int) : Option ((List zB)) :=
  ((qM n n x0 x1 0 ([] : List zB)).bind fun o => match o with | .inl y3 => (Qv n y3) | .inr r => some r)
theorem zIV (n : Nat) (x0 : (List zB)) (x1 : Int) (r : (List zB)) (H : Yh n x0 x1 = some r) : zD Tryz.prog 241 [.val false [.sl false 5 (CV.frzEs (x0.map zB.row))],.val false [.lit (.int .i64 x1)]] [.val false [.sl true 5 (r.map zB.row)]] [] := by
 refine cA Tryz.func241 (.seq (Rg Tryz.f241 0) (.seq (Rg Tryz.f241 1) (.seq (.seq (Rg Tryz.f241 2) (.block 0 (.loop (.seq (Rg Tryz.f241 3) (.seq (.cond (.tmp 11) .skip (.exit 0)) (.seq (.block 1 (.seq (Rg Tryz.f241 4) (.seq (Rg Tryz.f241 5) (.cond (.tmp 21) (Rg Tryz.f241 6) .skip)))) (Rg Tryz.f241 7))))))) (.seq (Rg Tryz.f241 8) .ret)))) [.tmp 4] fun cx => ?_
 unfold Yh at H
 refine gA 1 3 0 ?_
 refine gA 1 35 0 ?_
 refine tS ?_
 refine rA 1 ?_
 refine kF x0 zB.row ?_
 refine uA 1 1826 0 ?_
 obtain ⟨o4,eo4,Ho4⟩ := bs H
 clear H
 refine Tr.mid (ι := (List zB)) (fun v => ⟨28,0,[sC 5 (cL 5 v zB.row)],[]⟩) (fun v => Qv n v = some r) ?_ ?_
 ·refine tB ?_
  refine Tr.loop (ι := Nat × (Int × (List zB))) (fun v => ⟨28,0,[sI 10 v.2.1,sI 9 (x0.length : Int),sC 8 (cF 5 x0 zB.row),sC 5 (cL 5 v.2.2 zB.row),sI 1 x1],[]⟩) (fun v => qM n v.1 x0 x1 v.2.1 v.2.2 = some o4) (fun v => v.1) (n,(0,([] : List zB))) eo4 (St.sub_of [10,9,8,5,1] [] kr) ?_
  rintro ⟨mo4,y1,y2⟩ H
  have H : qM n mo4 x0 x1 y1 y2 = some o4 := H
  obtain _ | mo4 := mo4
  ·exact nN H
  rw [qM] at H
  refine gA 1 3874 0 ?_
  refine tS ?_
  obtain ⟨h1,H⟩ | ⟨h1,H⟩ := bC H
  ·refine nA h1 ?_
   refine Tr.exit ?_
   refine And.intro (fun _ => ?_) (fun h => absurd rfl h)
   obtain rfl := si H
   have H := Ho4
   dsimp only at H
   exact jA y2 H [5] []
  refine tA h1 ?_
  refine tK ?_
  refine tS ?_
  refine tB ?_
  refine tR ?_
  obtain ⟨v5,ev5,H⟩ := bs H
  refine iA zB.row ev5 ?_
  refine uA 3 1954 128 ?_
  refine tS ?_
  refine Tr.at ?_
  refine lA 3 ?_
  refine sL 67490 128 ⟨28,0,[sB 16 v5.Sc,sA 7 7 5 0,sI 10 y1,sI 9 (x0.length : Int),sC 8 (cF 5 x0 zB.row),sC 5 (cL 5 y2 zB.row),sI 1 x1],[(7,(zB.row v5))]⟩ ?_
  cases h2 : v5.Sc
  ·have H := zG h2 H
   refine uA 5 2099106 128 ?_
   obtain ⟨h3,H⟩ | ⟨h3,H⟩ := bC H
   ·refine nA h3 ?_
    refine tK ?_
    refine eA 2 1826 0 ?_
    exact jB mo4 ((IntKind.wrap .i64 (y1 + 1)),y2) H [10,9,8,5,1] []
   refine tA h3 ?_
   refine Tr.at ?_
   refine lA 3 ?_
   obtain ⟨hg6,H⟩ := gs H
   refine LAt.appMU tOk (t := 36) (ty := 36) (e := 169) (x := (.tmp 22)) (y := (.tmp 24)) (d := 25) (g := none) (tI 169) zB.row y2 [v5] kr kr kr kr kr kr kr kr kr kr hg6 ?_
   refine LAt.moveU (T := lk tab) (ty := 36) (x := (.tmp 25)) (d := 5) (g := none) false [cL 5 (y2 ++ [v5]) zB.row] kr kr kr kr kr ?_
   refine dA 1826 0 ?_
   refine eA 2 1826 0 ?_
   exact jB mo4 ((IntKind.wrap .i64 (y1 + 1)),(y2 ++ [v5])) H [10,9,8,5,1] []
  have H := zH h2 H
  refine uA 5 2099106 128 ?_
  refine tB_ ?_
  refine Tr.at ?_
  refine lA 3 ?_
  obtain ⟨hg7,H⟩ := gs H
  refine LAt.appMU tOk (t := 36) (ty := 36) (e := 169) (x := (.tmp 22)) (y := (.tmp 24)) (d := 25) (g := none) (tI 169) zB.row y2 [v5] kr kr kr kr kr kr kr kr kr kr hg7 ?_
  refine LAt.moveU (T := lk tab) (ty := 36) (x := (.tmp 25)) (d := 5) (g := none) false [cL 5 (y2 ++ [v5]) zB.row] kr kr kr kr kr ?_
  refine dA 1826 0 ?_
  refine eA 2 1826 0 ?_
  exact jB mo4 ((IntKind.wrap .i64 (y1 + 1)),(y2 ++ [v5])) H [10,9,8,5,1] []
 rintro y3 H
 have H : (Qv n y3) = some r := H
 unfold Qv at H
 refine gA 2 48 0 ?_
 exact te (by obtain rfl := si H; exact fP [(false,[cL 5 y3 zB.row])])
def YQ (n : Nat) (r1 : Int) (x0 : zA) (y5 : (List zB)) : Option (zA) :=
  (some (⟨x0.Id,x0.Name,x0.Ps,y5,x0.V,x0.Tk,x0.Pa,x0.Wo,x0.Dr,r1⟩ : zA))
def qZ (n : Nat) : Nat → Int → zA → Int → (List zB) → Option (((List zB)) ⊕ (zA))
  | 0,_,_,_,_ => none
  | mo6 + 1,r2,x0,y3,y4 => (bif (decide (y3 < (x0.Ps.length : Int))) then ((Jv n r2 y3).bind fun r7 => (bif (!r7) then ((Yh n y4 y3).bind fun r8 => (qZ n mo6 r2 x0 (IntKind.wrap .i64 (y3 + 1)) r8)) else (qZ n mo6 r2 x0 (IntKind.wrap .i64 (y3 + 1)) y4))) else (some (Sum.inl y4)))
def qp (n : Nat) (x0 : zA) : Option (zA) :=
  ((zA0 n x0.Ve).bind fun r1 => ((zBK n x0.Id x0.Ps).bind fun r2 => ((qZ n n r2 x0 0 x0.F).bind fun o => match o with | .inl y5 => (YQ n r1 x0 y5) | .inr r => some r)))
noncomputable abbrev zG0 (k : Nat) := Rg Tryz.f202 k
noncomputable abbrev D202 (k : Nat) := Rd Tryz.f202 k
theorem zBn (n : Nat) (x0 : zA) (r : zA) (H : qp n x0 = some r) : zD Tryz.prog 202 [.ptr (zA.row x0)] [] [(0,(zA.row r))] := by
 refine zD.of_body tOk Tryz.func202 rfl (c := (.seq (zG0 0) (.seq (D202 1) (.seq (zG0 2) (.block 0 (.loop (.seq (zG0 3) (.seq (.cond (.tmp 27) .skip (.exit 0)) (.seq (.block 1 (.seq (zG0 4) (.seq (zG0 5) (.cond (.tmp 32) (zG0 6) .skip)))) (zG0 7)))))))))) kr (Nat.le_of_ble_eq_true kr) 1 (rs := []) rfl [] .nil [] [] [(0,(zA.row r))] fun cx => ?_
 show Tr _ _ _ ⟨43,1,[sA 0 0 11 0],[(0,(zA.row x0))]⟩ _
 unfold qp at H
 refine rA 5 ?_
 obtain ⟨r1,er1,H⟩ := bs H
 refine vA [.rd] (zJK n x0.Ve r1 er1) ?_
 refine uA 3 1 1 ?_
 obtain ⟨r2,er2,H⟩ := bs H
 refine Tr.draws mixed 10 kr ⟨43,1,[sI 2 r2,sA 0 0 11 0],[(0,[cI x0.Id,cS x0.Name,cL 8 x0.Ps Pt.row,cL 5 x0.F zB.row,cL 3 x0.V.Rows zC.row,cL 1 x0.V.Pv intRow,cI x0.Tk,cI x0.Pa,cI x0.Wo,cI x0.Dr,cI r1])]⟩ (fun cx => ?_) ?_
 ·refine aA [(0,[]),(1,[]),(2,[]),(3,[8]),(4,[]),(5,[]),(6,[]),(7,[8])] 2 [⟨[8],35,18,19⟩,⟨[8],3,14,15⟩] fun cx => ?_
  refine bA 8 ?_
  refine vB [.rd,.rd] [.box 0] (zLv n x0.Id x0.Ps r2 er2) (.inr (zk (zJ zL zy) zz)) ?_
  refine fA ?_
  refine aA [(9,[])] 0 [⟨[8],35,18,19⟩,⟨[8],3,14,15⟩] fun cx => ?_
  exact eE [2,0] [0]
 refine rA 4 ?_
 refine kO x0.Ps Pt.row ?_
 refine uA 1 100663301 1 ?_
 obtain ⟨o6,eo6,Ho6⟩ := bs H
 clear H
 refine Tr.mid (ι := (List zB)) (fun v => ⟨43,1,[sA 0 0 11 0],[(0,[cI x0.Id,cS x0.Name,cL 8 x0.Ps Pt.row,cL 5 v zB.row,cL 3 x0.V.Rows zC.row,cL 1 x0.V.Pv intRow,cI x0.Tk,cI x0.Pa,cI x0.Wo,cI x0.Dr,cI r1])]⟩) (fun v => YQ n r1 x0 v = some r) ?_ ?_
 ·refine tB ?_
  refine Tr.loop (ι := Nat × (Int × (List zB))) (fun v => ⟨43,1,[sI 26 v.2.1,sI 25 (x0.Ps.length : Int),sI 2 r2,sA 0 0 11 0],[(0,[cI x0.Id,cS x0.Name,cL 8 x0.Ps Pt.row,cL 5 v.2.2 zB.row,cL 3 x0.V.Rows zC.row,cL 1 x0.V.Pv intRow,cI x0.Tk,cI x0.Pa,cI x0.Wo,cI x0.Dr,cI r1])]⟩) (fun v => qZ n v.1 r2 x0 v.2.1 v.2.2 = some o6) (fun v => v.1) (n,(0,x0.F)) eo6 (St.sub_of [26,25,2,0] [0] kr) ?_
  rintro ⟨mo6,y3,y4⟩ H
  have H : qZ n mo6 r2 x0 y3 y4 = some o6 := H
  obtain _ | mo6 := mo6
  ·exact nN H
  rw [qZ] at H
  refine gA 1 234881029 1 ?_
  refine tS ?_
  obtain ⟨h1,H⟩ | ⟨h1,H⟩ := bC H
  ·refine nA h1 ?_
   refine Tr.exit ?_
   refine And.intro (fun _ => ?_) (fun h => absurd rfl h)
   obtain rfl := si H
   have H := Ho6
   dsimp only at H
   exact jA y4 H [0] [0]
  refine tA h1 ?_
  refine tK ?_
  refine tS ?_
  refine tB ?_
  refine gA 2 100663309 1 ?_
  refine rA 2 ?_
  obtain ⟨r7,er7,H⟩ := bs H
  refine vA [.rd,.rd] (zKC n r2 y3 r7 er7) ?_
  refine uA 1 4395630605 1 ?_
  obtain ⟨h2,H⟩ | ⟨h2,H⟩ := bC H
  ·refine nA h2 ?_
   refine tK ?_
   refine eA 2 100663301 1 ?_
   exact jB mo6 ((IntKind.wrap .i64 (y3 + 1)),y4) H [26,25,2,0] [0]
  refine tA h2 ?_
  refine Tr.at ?_
  refine lA 6 ?_
  obtain ⟨r8,er8,H⟩ := bs H
  refine vB [.rd,.rd] [.box 0] (zIV n y4 y3 r8 er8) (.inr (zk (zJ (JU (Qs zB.row_mine _)) zy) zz)) ?_
  refine uA 3 100663301 1 ?_
  refine eA 2 100663301 1 ?_
  exact jB mo6 ((IntKind.wrap .i64 (y3 + 1)),r8) H [26,25,2,0] [0]
 rintro y5 H
 have H : (YQ n r1 x0 y5) = some r := H
 unfold YQ at H
 obtain rfl := si H
 exact Fin.ofY _ [] [] _ [] _ [(0,[cI x0.Id,cS x0.Name,cL 8 x0.Ps Pt.row,cL 5 y5 zB.row,cL 3 x0.V.Rows zC.row,cL 1 x0.V.Pv intRow,cI x0.Tk,cI x0.Pa,cI x0.Wo,cI x0.Dr,cI r1])] kr rfl rfl rfl kr kr kr kr rfl rfl rfl
def zAx (n : Nat) (x0 : zA) : Option (zA) :=
  ((q5 n x0).bind fun r1 => ((QC n x0).bind fun r2 => (bif r2 then ((zA0 n x0.Tk).bind fun r3 => ((zAY n x0.F).bind fun r4 => ((qp n (⟨r1.Id,r1.Name,r1.Ps,r4,r1.V,r3,r1.Pa,r1.Wo,r1.Dr,r1.Ve⟩ : zA)).bind fun r5 => (some r5)))) else (some r1))))
theorem zMX (n : Nat) (x0 : zA) (r : zA) (H : zAx n x0 = some r) : zD Tryz.prog 118 [.val true (CV.frzRow (zA.row x0))] [.val true (zA.row r)] [] := by
 refine cA Tryz.func118 (.seq (Rg Tryz.f118 0) (.seq (Rg Tryz.f118 1) (.seq (.seq (Rg Tryz.f118 2) (.cond (.tmp 7) (.seq (Rg Tryz.f118 3) (.seq (Rg Tryz.f118 4) (Rg Tryz.f118 5))) .skip)) (.seq (Rg Tryz.f118 6) .ret)))) [.cell 2 41] fun cx => ?_
 unfold zAx at H
 refine gA 2 6 6 ?_
 refine rA 1 ?_
 obtain ⟨r1,er1,H⟩ := bs H
 refine vA [.rd] (zAG n x0 r1 er1) ?_
 refine uA 2 14 14 ?_
 refine tS ?_
 refine rA 1 ?_
 obtain ⟨r2,er2,H⟩ := bs H
 refine vA [.rd] (zDA n x0 r2 er2) ?_
 refine dA 142 14 ?_
 cases h1 : r2
 ·have H := zG h1 H
  refine nB_ ?_
  refine tK ?_
  refine gA 2 4 4 ?_
  exact te (by obtain rfl := si H; exact fP [(true,(zA.row r1))])
 have H := zH h1 H
 refine tB_ ?_
 refine rA 2 ?_
 obtain ⟨r3,er3,H⟩ := bs H
 refine vA [.rd] (zJK n x0.Tk r3 er3) ?_
 refine uA 2 14 14 ?_
 refine rA 2 ?_
 obtain ⟨r4,er4,H⟩ := bs H
 refine vA [.rd] (zKq n x0.F r4 er4) ?_
 refine uA 2 12 12 ?_
 refine Tr.at ?_
 obtain ⟨r5,er5,H⟩ := bs H
 refine LAt.callL tOk [.lend] (f := 202) (av := #[.tmp 3]) (ats := #[41]) (d := (some 16)) (ty := 0) (g := none) kr kr kr [] (zBn n (⟨r1.Id,r1.Name,r1.Ps,r4,r1.V,r3,r1.Pa,r1.Wo,r1.Dr,r1.Ve⟩ : zA) r5 er5) kr (.inl rfl) ?_
 refine dA 12 12 ?_
 refine gA 2 4 4 ?_
 exact te (by obtain rfl := si H; exact fP [(true,(zA.row r5))])
def JM (n : Nat) (x0 : zA) (x1 : Int) : Option (Bool) :=
  ((QC n x0).bind fun r1 => (bif r1 then ((zw n x1 0 (IntKind.wrap .i64 ((x0.Ps.length : Int) - 1))).bind fun r2 => (some r2)) else (some false)))
theorem zGl (n : Nat) (x0 : zA) (x1 : Int) (r : Bool) (H : JM n x0 x1 = some r) : zD Tryz.prog 84 [.val true (CV.frzRow (zA.row x0)),.val false [.lit (.int .i64 x1)]] [.val false [.lit (.bool r)]] [] := by
 refine cA Tryz.func84 (.seq (Rg Tryz.f84 0) (.seq (Rg Tryz.f84 1) .ret)) [.tmp 4] fun cx => ?_
 unfold JM at H
 refine gA 2 6 4 ?_
 refine rA 1 ?_
 obtain ⟨r1,er1,H⟩ := bs H
 refine vA [.rd] (zDA n x0 r1 er1) ?_
 refine lA 1 ?_
 refine sL 134 4 ⟨15,0,[sB 7 r1,sA 2 2 11 0,sI 1 x1],[(2,(CV.frzRow (zA.row x0)))]⟩ ?_
 cases h1 : r1
 ·have H := zG h1 H
  refine uA 8 16 0 ?_
  exact te (by obtain rfl := si H; exact fP [(false,[cB false])])
 have H := zH h1 H
 refine lA 3 ?_
 refine kF x0.Ps Pt.row ?_
 refine lA 1 ?_
 obtain ⟨r2,er2,H⟩ := bs H
 refine vA [.rd,.rd,.rd] (z3 n x1 0 (IntKind.wrap .i64 ((x0.Ps.length : Int) - 1)) r2 er2) ?_
 refine uA 2 16 0 ?_
 exact te (by obtain rfl := si H; exact fP [(false,[cB r2])])
def QI (n : Nat) (r1 : zA) (x1 : Int) (x2 : Vec) (y2 : Bool) : Option (zA) :=
  (bif y2 then ((idx r1.Ps x1).bind fun v3 => ((idx (r1.Ps.set (x1.toNat) (⟨v3.Up,v3.Co,true,v3.Hd⟩ : Pt)) x1).bind fun v4 => ((qp n (⟨r1.Id,r1.Name,((r1.Ps.set (x1.toNat) (⟨v3.Up,v3.Co,true,v3.Hd⟩ : Pt)).set (x1.toNat) (⟨v4.Up,v4.Co,v4.Has,x2⟩ : Pt)),r1.F,r1.V,r1.Tk,r1.Pa,r1.Wo,r1.Dr,r1.Ve⟩ : zA)).bind fun r5 => (some r5)))) else (some r1))
def QQ (n : Nat) (x0 : zA) (x1 : Int) (x2 : Vec) : Option (zA) :=
  ((q5 n x0).bind fun r1 => ((JM n x0 x1).bind fun r6 => (bif r6 then ((idx x0.Ps x1).bind fun v7 => (bif v7.Up then ((Q3 n x2).bind fun r8 => (QI n r1 x1 x2 r8)) else (QI n r1 x1 x2 false))) else (QI n r1 x1 x2 false))))
def zOH : Tab := ⟨13,[0,1,0,0,8,0,0,23,151,279,1023,2047,3071],[0,1,0,0,8,0,0,6,128,256,48,1024,2112],[0,1,0,0,8,0,0,31,159,415,1023,2047,4095]⟩
theorem zCt : zf (rg Tryz.f242 3) zOH = true := kr
theorem zJ8 (n : Nat) (x0 : zA) (x1 : Int) (x2 : Vec) (r : zA) (H : QQ n x0 x1 x2 = some r) : zD Tryz.prog 242 [.val true (CV.frzRow (zA.row x0)),.val false [.lit (.int .i64 x1)],.val true (CV.frzRow (Vec.row x2))] [.val true (zA.row r)] [] := by
 refine cA Tryz.func242 (.seq (Rg Tryz.f242 0) (.seq (Rg Tryz.f242 1) (.seq (.seq (Rg Tryz.f242 2) (.cond (.tmp 24) (.seq (Rd Tryz.f242 3) (Rg Tryz.f242 4)) .skip)) (.seq (Rg Tryz.f242 5) .ret)))) [.cell 6 41] fun cx => ?_
 unfold QQ at H
 refine gA 3 106 104 ?_
 refine rA 1 ?_
 obtain ⟨r1,er1,H⟩ := bs H
 refine vA [.rd] (zAG n x0 r1 er1) ?_
 refine uA 2 234 232 ?_
 refine tS ?_
 refine tS ?_
 refine Tr.mid (ι := Bool) (fun v => ⟨38,0,[sB 24 v,sA 7 7 11 0,sA 6 6 11 0,sA 5 5 5 0,sI 1 x1],[(7,(zA.row r1)),(6,[cI 0,cS (⟨#[]⟩ : ByteArray),cL 8 ([] : List Pt) Pt.row,cL 5 ([] : List zB) zB.row,cL 3 ([] : List zC) zC.row,cL 1 ([] : List Int) intRow,cI 0,cI 0,cI 0,cI 0,cI 0]),(5,(Vec.row x2))]⟩) (fun v => QI n r1 x1 x2 v = some r) ?_ ?_
 ·refine Tr.at ?_
  refine lA 2 ?_
  obtain ⟨r6,er6,H⟩ := bs H
  refine vA [.rd,.rd] (zGl n x0 x1 r6 er6) ?_
  refine lA 1 ?_
  refine sL 8426 232 ⟨38,0,[sB 13 r6,sA 7 7 11 0,sA 6 6 11 0,sA 5 5 5 0,sA 3 3 11 0,sI 1 x1],[(7,(zA.row r1)),(6,[cI 0,cS (⟨#[]⟩ : ByteArray),cL 8 ([] : List Pt) Pt.row,cL 5 ([] : List zB) zB.row,cL 3 ([] : List zC) zC.row,cL 1 ([] : List Int) intRow,cI 0,cI 0,cI 0,cI 0,cI 0]),(5,(Vec.row x2)),(3,(CV.frzRow (zA.row x0)))]⟩ ?_
  cases h2 : r6
  ·have H := zG h2 H
   refine uA 11 16777442 224 ?_
   exact jA false H [24,7,6,5,1] [7,6,5]
  have H := zH h2 H
  refine lA 3 ?_
  obtain ⟨v7,ev7,H⟩ := bs H
  refine iA Pt.row ev7 ?_
  refine lA 4 ?_
  refine sL 2097378 224 ⟨38,0,[sB 21 v7.Up,sA 7 7 11 0,sA 6 6 11 0,sA 5 5 5 0,sI 1 x1],[(7,(zA.row r1)),(6,[cI 0,cS (⟨#[]⟩ : ByteArray),cL 8 ([] : List Pt) Pt.row,cL 5 ([] : List zB) zB.row,cL 3 ([] : List zC) zC.row,cL 1 ([] : List Int) intRow,cI 0,cI 0,cI 0,cI 0,cI 0]),(5,(Vec.row x2))]⟩ ?_
  cases h3 : v7.Up
  ·have H := zG h3 H
   refine uA 3 16777442 224 ?_
   exact jA false H [24,7,6,5,1] [7,6,5]
  have H := zH h3 H
  refine lA 1 ?_
  obtain ⟨r8,er8,H⟩ := bs H
  refine vA [.rd] (zB0 n x2 r8 er8) ?_
  refine uA 1 16777442 224 ?_
  exact jA r8 H [24,7,6,5,1] [7,6,5]
 rintro y2 H
 have H : (QI n r1 x1 x2 y2) = some r := H
 unfold QI at H
 cases h1 : y2
 ·have H := zG h1 H
  refine nB_ ?_
  refine tK ?_
  refine gA 2 64 64 ?_
  exact te (by obtain rfl := si H; exact fP [(true,(zA.row r1))])
 have H := zH h1 H
 refine tB_ ?_
 obtain ⟨v3,ev3,H⟩ := bs H
 obtain ⟨v4,ev4,H⟩ := bs H
 refine Tr.draws mixed 13 kr ⟨38,0,[sA 7 7 11 0,sA 6 6 11 0],[(7,[cI r1.Id,cS r1.Name,cL 8 ((r1.Ps.set (x1.toNat) (⟨v3.Up,v3.Co,true,v3.Hd⟩ : Pt)).set (x1.toNat) (⟨v4.Up,v4.Co,v4.Has,x2⟩ : Pt)) Pt.row,cL 5 r1.F zB.row,cL 3 r1.V.Rows zC.row,cL 1 r1.V.Pv intRow,cI r1.Tk,cI r1.Pa,cI r1.Wo,cI r1.Dr,cI r1.Ve]),(6,[cI 0,cS (⟨#[]⟩ : ByteArray),cL 8 ([] : List Pt) Pt.row,cL 5 ([] : List zB) zB.row,cL 3 ([] : List zC) zC.row,cL 1 ([] : List Int) intRow,cI 0,cI 0,cI 0,cI 0,cI 0])]⟩ (fun cx => ?_) ?_
 ·refine mA zCt [(0,[]),(1,[9,12]),(2,[]),(3,[]),(4,[9,12]),(5,[]),(6,[12])] 6 [⟨[12],165,5,31⟩,⟨[9,12],35,28,29⟩,⟨[9,12],35,25,26⟩] fun cx => ?_
  refine oN zCt 7 Pt.row ev3 fun cx => ?_
  refine mA zCt [(8,[])] 4 [⟨[12],165,5,31⟩,⟨[9,12],35,28,29⟩,⟨[9,12],35,25,26⟩] fun cx => ?_
  refine mC zCt 9 ?_
  refine LAt.storeB tOk (t := 4) (ty := 0) (ad := (.tmp 33)) (x := (.const (.bool true))) (g := none) (tI 4) false [cB true] 7 2 (x1.toNat) 8 2 8 r1.Ps Pt.row v3 (⟨v3.Up,v3.Co,true,v3.Hd⟩ : Pt) kr kr kr kr kr kr kr kr (zI ev3).2 kr kr kr kr ?_
  refine fA ?_
  refine oN zCt 10 Pt.row ev4 fun cx => ?_
  refine mA zCt [(11,[])] 1 [⟨[12],165,5,31⟩,⟨[9,12],35,28,29⟩,⟨[9,12],35,25,26⟩] fun cx => ?_
  refine mC zCt 12 ?_
  refine LAt.storeB tOk (t := 165) (ty := 0) (ad := (.tmp 35)) (x := (.tmp 31)) (g := none) (tI 165) true (Vec.row x2) 7 2 (x1.toNat) 8 3 8 (r1.Ps.set (x1.toNat) (⟨v3.Up,v3.Co,true,v3.Hd⟩ : Pt)) Pt.row v4 (⟨v4.Up,v4.Co,v4.Has,x2⟩ : Pt) kr kr kr kr kr kr kr kr (zI ev4).2 kr kr kr kr ?_
  refine fA ?_
  exact mE zCt [7,6] [7,6]
 refine Tr.at ?_
 obtain ⟨r5,er5,H⟩ := bs H
 refine LAt.callL tOk [.lend] (f := 202) (av := #[.tmp 7]) (ats := #[41]) (d := (some 36)) (ty := 0) (g := none) kr kr kr [] (zBn n (⟨r1.Id,r1.Name,((r1.Ps.set (x1.toNat) (⟨v3.Up,v3.Co,true,v3.Hd⟩ : Pt)).set (x1.toNat) (⟨v4.Up,v4.Co,v4.Has,x2⟩ : Pt)),r1.F,r1.V,r1.Tk,r1.Pa,r1.Wo,r1.Dr,r1.Ve⟩ : zA) r5 er5) kr (.inl rfl) ?_
 refine dA 192 192 ?_
 refine gA 2 64 64 ?_
 exact te (by obtain rfl := si H; exact fP [(true,(zA.row r5))])
def Zb (n : Nat) (x0 : Net) (x1 : Int) (x2 : Int) (x3 : Vec) : Option (Net) :=
  ((idx x0.Bs x1).bind fun v1 => ((QQ n v1 x2 x3).bind fun r2 => (some (⟨(x0.Bs.set (x1.toNat) r2),x0.Ls,x0.Said⟩ : Net))))
def zOE : Tab := ⟨17,[0,1,2,4,0,0,32,64,128,0,768,1024,0,0,14336,32767,65535],[0,1,2,4,0,0,32,64,128,0,768,1024,0,0,14336,24,49152],[0,1,3,7,0,0,32,96,224,0,992,2016,0,0,16352,32767,65535]⟩
noncomputable abbrev G203 (k : Nat) := Rg Tryz.f203 k
noncomputable abbrev D203 (k : Nat) := Rd Tryz.f203 k
theorem zCs : zf (rg Tryz.f203 1) zOE = true := kr
theorem zFC (n : Nat) (x0 : Net) (x1 : Int) (x2 : Int) (x3 : Vec) (r : Net) (H : Zb n x0 x1 x2 x3 = some r) : zD Tryz.prog 203 [.ptr (Net.row x0),.val false [.lit (.int .i64 x1)],.val false [.lit (.int .i64 x2)],.val true (CV.frzRow (Vec.row x3))] [] [(0,(Net.row r))] := by
 refine zD.of_body tOk Tryz.func203 rfl (c := (.seq (G203 0) (D203 1))) kr (Nat.le_of_ble_eq_true kr) 1 (rs := []) rfl [] .nil [] [] [(0,(Net.row r))] fun cx => ?_
 show Tr _ _ _ ⟨24,1,[sA 0 0 3 0,sI 1 x1,sI 2 x2,sV 3 (Vec.row x3)],[(0,(Net.row x0))]⟩ _
 unfold Zb at H
 refine gA 1 135 129 ?_
 obtain ⟨v1,ev1,H⟩ := bs H
 obtain ⟨r2,er2,H⟩ := bs H
 refine Tr.draw mixed 17 kr ⟨24,1,[sA 0 0 3 0],[(0,[cL 11 (x0.Bs.set (x1.toNat) r2) zA.row,cL 4 x0.Ls Link.row,cL 7 x0.Said Say.row])]⟩ (fun cx => ?_) ?_
 ·refine mA zCs [(0,[]),(1,[]),(2,[]),(3,[16]),(4,[]),(5,[]),(6,[]),(7,[]),(8,[14,16]),(9,[])] 7 [⟨[14,16],63,15,16⟩,⟨[16],63,10,11⟩] fun cx => ?_
  refine oN zCs 10 zA.row ev1 fun cx => ?_
  refine mA zCs [(12,[]),(13,[14,16])] 4 [⟨[14,16],165,7,21⟩,⟨[14,16],63,15,16⟩,⟨[16],63,10,11⟩] fun cx => ?_
  refine mC zCs 11 ?_
  refine dE (tI 41) (.box 0) [(0,0),(0,(x1.toNat))] 11 0 [.sl true 3 [(Net.row x0)]] (zA.row v1) (zt rfl (zI ev1).2) ?_
  refine fA ?_
  refine mC zCs 14 ?_
  refine LAt.callO tOk [.rd,.rd,.rd] (f := 242) (av := #[.tmp 19,.tmp 20,.tmp 21]) (ats := #[41,3,165]) (d := (some 22)) (ty := 41) (g := none) [(19,zA.row v1)] none kr kr kr [.box 0] (zJ8 n v1 x2 x3 r2 er2) (YL (row := [.sl true 3 [(Net.row x0)]]) (q := [(0,0),(0,(x1.toNat))]) kr (zt rfl (zI ev1).2) JV) kr zCQ (.inr (And.intro (zk (zA.row_mine _) zz) zBo)) ?_
  refine fA ?_
  refine oN zCs 15 zA.row ev1 fun cx => ?_
  refine mC zCs 16 ?_
  refine LAt.storeB tOk (t := 41) (ty := 0) (ad := (.tmp 23)) (x := (.tmp 22)) (g := none) (tI 41) true (zA.row r2) 0 0 (x1.toNat) 11 0 11 x0.Bs zA.row v1 r2 kr kr kr kr kr kr kr kr (zI ev1).2 kr kr kr kr ?_
  refine fA ?_
  exact mE zCs [0] [0]
 obtain rfl := si H
 exact Fin.ofY _ [] [] _ [] _ [(0,[cL 11 (x0.Bs.set (x1.toNat) r2) zA.row,cL 4 x0.Ls Link.row,cL 7 x0.Said Say.row])] kr rfl rfl rfl kr kr kr kr rfl rfl rfl
def QV (n : Nat) (x0 : Net) (x1 : Int) (x2 : Bool) : Option (Net) :=
  ((idx x0.Said x1).bind fun v1 => (bif (decide ((0 : Int) ≤ 0) && (decide ((0 : Int) ≤ x1) && decide ((x1 : Int) ≤ (x0.Said.length : Int)))) then (bif (decide (([] : List Say).length + ((x0.Said.drop ((0 : Int)).toNat).take (((x1 : Int)).toNat - ((0 : Int)).toNat)).length ≤ 268435456)) then (bif (decide ((0 : Int) ≤ (IntKind.wrap .i64 (x1 + 1))) && (decide (((IntKind.wrap .i64 (x1 + 1)) : Int) ≤ (x0.Said.length : Int)) && decide (((x0.Said.length : Int) : Int) ≤ (x0.Said.length : Int)))) then (bif (decide ((([] : List Say) ++ ((x0.Said.drop ((0 : Int)).toNat).take (((x1 : Int)).toNat - ((0 : Int)).toNat))).length + ((x0.Said.drop (((IntKind.wrap .i64 (x1 + 1)) : Int)).toNat).take ((((x0.Said.length : Int) : Int)).toNat - (((IntKind.wrap .i64 (x1 + 1)) : Int)).toNat)).length ≤ 268435456)) then (bif (!x2) then (some (⟨x0.Bs,x0.Ls,((([] : List Say) ++ ((x0.Said.drop ((0 : Int)).toNat).take (((x1 : Int)).toNat - ((0 : Int)).toNat))) ++ ((x0.Said.drop (((IntKind.wrap .i64 (x1 + 1)) : Int)).toNat).take ((((x0.Said.length : Int) : Int)).toNat - (((IntKind.wrap .i64 (x1 + 1)) : Int)).toNat)))⟩ : Net)) else ((Zr n (⟨x0.Bs,x0.Ls,((([] : List Say) ++ ((x0.Said.drop ((0 : Int)).toNat).take (((x1 : Int)).toNat - ((0 : Int)).toNat))) ++ ((x0.Said.drop (((IntKind.wrap .i64 (x1 + 1)) : Int)).toNat).take ((((x0.Said.length : Int) : Int)).toNat - (((IntKind.wrap .i64 (x1 + 1)) : Int)).toNat)))⟩ : Net) v1.Link).bind fun r6 => (bif (!r6) then (some (⟨x0.Bs,x0.Ls,((([] : List Say) ++ ((x0.Said.drop ((0 : Int)).toNat).take (((x1 : Int)).toNat - ((0 : Int)).toNat))) ++ ((x0.Said.drop (((IntKind.wrap .i64 (x1 + 1)) : Int)).toNat).take ((((x0.Said.length : Int) : Int)).toNat - (((IntKind.wrap .i64 (x1 + 1)) : Int)).toNat)))⟩ : Net)) else ((idx x0.Ls v1.Link).bind fun v7 => (bif v1.Back then ((Zb n (⟨x0.Bs,x0.Ls,((([] : List Say) ++ ((x0.Said.drop ((0 : Int)).toNat).take (((x1 : Int)).toNat - ((0 : Int)).toNat))) ++ ((x0.Said.drop (((IntKind.wrap .i64 (x1 + 1)) : Int)).toNat).take ((((x0.Said.length : Int) : Int)).toNat - (((IntKind.wrap .i64 (x1 + 1)) : Int)).toNat)))⟩ : Net) v7.A v7.P v1.V).bind fun r9 => (some r9)) else ((Zb n (⟨x0.Bs,x0.Ls,((([] : List Say) ++ ((x0.Said.drop ((0 : Int)).toNat).take (((x1 : Int)).toNat - ((0 : Int)).toNat))) ++ ((x0.Said.drop (((IntKind.wrap .i64 (x1 + 1)) : Int)).toNat).take ((((x0.Said.length : Int) : Int)).toNat - (((IntKind.wrap .i64 (x1 + 1)) : Int)).toNat)))⟩ : Net) v7.B v7.Q v1.V).bind fun r8 => (some r8))))))) else none) else none) else none) else none))
def zNx : Tab := ⟨19,[0,0,2,4,8,0,48,64,0,256,512,1024,0,4096,10240,16512,65535,131071,196607],[0,0,2,4,8,0,48,64,0,256,512,1024,0,4096,10240,16512,1,65536,163840],[0,0,2,6,14,0,62,126,0,256,768,1792,0,4096,16128,32766,65535,131071,262143]⟩
noncomputable abbrev zLh (k : Nat) := Rg Tryz.f119 k
noncomputable abbrev zMq (k : Nat) := Rd Tryz.f119 k
theorem QG : zf (rg Tryz.f119 1) zNx = true := kr
theorem zHn (n : Nat) (x0 : Net) (x1 : Int) (x2 : Bool) (r : Net) (H : QV n x0 x1 x2 = some r) : zD Tryz.prog 119 [.ptr (Net.row x0),.val false [.lit (.int .i64 x1)],.val false [.lit (.bool x2)]] [] [(0,(Net.row r))] := by
 refine zD.of_body tOk Tryz.func119 rfl (c := (.seq (zLh 0) (.seq (zMq 1) (.seq (.seq (zMq 2) (.cond (.tmp 43) .ret .skip)) (.seq (zMq 3) (.seq (zLh 4) (.cond (.tmp 53) (zLh 5) (zLh 6)))))))) kr (Nat.le_of_ble_eq_true kr) 1 (rs := []) rfl [] .nil [] [] [(0,(Net.row r))] fun cx => ?_
 show Tr _ _ _ ⟨70,1,[sA 0 0 3 0,sI 1 x1,sB 2 x2],[(0,(Net.row x0))]⟩ _
 unfold QV at H
 refine rA 5 ?_
 obtain ⟨v1,ev1,H⟩ := bs H
 refine oA Say.row ev1 ?_
 refine dE (tI 180) (.box 0) [(0,0),(2,(x1.toNat))] 7 0 [.sl true 3 [(Net.row x0)]] (Say.row v1) (zt rfl (zI ev1).2) ?_
 refine uA 2 71 65 ?_
 refine Tr.frzP 0 2 1 ?_
 obtain ⟨hg2,H⟩ := gs H
 obtain ⟨hg3,H⟩ := gs H
 obtain ⟨hg4,H⟩ := gs H
 obtain ⟨hg5,H⟩ := gs H
 refine Tr.draws mixed 19 kr ⟨70,1,[sA 6 6 7 0,sA 0 0 3 0,sB 2 x2],[(0,[cL 11 x0.Bs zA.row,cL 4 x0.Ls Link.row,cL 7 ((([] : List Say) ++ ((x0.Said.drop ((0 : Int)).toNat).take (((x1 : Int)).toNat - ((0 : Int)).toNat))) ++ ((x0.Said.drop (((IntKind.wrap .i64 (x1 + 1)) : Int)).toNat).take ((((x0.Said.length : Int) : Int)).toNat - (((IntKind.wrap .i64 (x1 + 1)) : Int)).toNat))) Say.row]),(6,(Say.row v1))]⟩ (fun cx => ?_) ?_
 ·refine mA QG [(0,[]),(1,[]),(2,[]),(3,[]),(4,[6,7,15,18]),(5,[]),(8,[]),(9,[]),(10,[]),(11,[14,15,18]),(12,[]),(13,[])] 7 [⟨[14,15,18],65,25,26⟩,⟨[6,7,15,18],65,18,19⟩] fun cx => ?_
  refine mB2 tOk QG 6 14 kr (And.intro kr ?_) (And.intro kr ?_)
  ·refine LAt.cutG tOk (t := 65) (ty := 65) (e := 180) (x := (.tmp 19)) (lo := none) (hi := (some (.tmp 20))) (d := 21) (g := none) (tI 180) Say.row x0.Said ⟨(.box 0),[(0,0)],2,false,7,(CV.frzEs (x0.Said.map Say.row))⟩ 0 x1 kr kr kr kr kr kr rfl kr rfl kr kr hg2 ?_
   refine fA ?_
   refine mB2 tOk QG 7 14 kr (And.intro kr ?_) (And.intro kr ?_)
   ·refine LAt.appCU tOk (t := 65) (ty := 65) (e := 180) (x := (.const (.slice none 0 0))) (y := (.tmp 21)) (d := 22) (g := none) (tI 180) Say.row ([] : List Say) ((x0.Said.drop ((0 : Int)).toNat).take (((x1 : Int)).toNat - ((0 : Int)).toNat)) ⟨(.slot 21),[],0,false,7,(CV.frzEs (((x0.Said.drop ((0 : Int)).toNat).take (((x1 : Int)).toNat - ((0 : Int)).toNat)).map Say.row))⟩ kr kr kr kr kr kr kr kr kr kr kr (.inr rfl) (fun _ => rfl) (fun _ => rfl) hg3 ?_
    refine fA ?_
    refine mC QG 14 ?_
    refine LAt.cutG tOk (t := 65) (ty := 65) (e := 180) (x := (.tmp 26)) (lo := (some (.tmp 28))) (hi := none) (d := 29) (g := none) (tI 180) Say.row x0.Said ⟨(.box 0),[(0,0)],2,false,7,(CV.frzEs (x0.Said.map Say.row))⟩ (IntKind.wrap .i64 (x1 + 1)) (x0.Said.length : Int) kr kr kr kr kr kr rfl kr rfl kr kr hg4 ?_
    refine fA ?_
    refine mC QG 15 ?_
    refine pD Say.row hg5 ?_
    refine fA ?_
    refine mA QG [(16,[]),(17,[])] 1 [⟨[14,15,18],65,25,26⟩,⟨[6,7,15,18],65,18,19⟩] fun cx => ?_
    refine mC QG 18 ?_
    refine lA 1 ?_
    refine fA ?_
    exact mE QG [6,0,2] [0,6]
   ·refine LAt.cutG tOk (t := 65) (ty := 65) (e := 180) (x := (.tmp 26)) (lo := (some (.tmp 28))) (hi := none) (d := 29) (g := none) (tI 180) Say.row x0.Said ⟨(.box 0),[(0,0)],2,false,7,(CV.frzEs (x0.Said.map Say.row))⟩ (IntKind.wrap .i64 (x1 + 1)) (x0.Said.length : Int) kr kr kr kr kr kr rfl kr rfl kr kr hg4 ?_
    refine fA ?_
    refine mC QG 7 ?_
    refine LAt.appCU tOk (t := 65) (ty := 65) (e := 180) (x := (.const (.slice none 0 0))) (y := (.tmp 21)) (d := 22) (g := none) (tI 180) Say.row ([] : List Say) ((x0.Said.drop ((0 : Int)).toNat).take (((x1 : Int)).toNat - ((0 : Int)).toNat)) ⟨(.slot 21),[],0,false,7,(CV.frzEs (((x0.Said.drop ((0 : Int)).toNat).take (((x1 : Int)).toNat - ((0 : Int)).toNat)).map Say.row))⟩ kr kr kr kr kr kr kr kr kr kr kr (.inr rfl) (fun _ => rfl) (fun _ => rfl) hg3 ?_
    refine fA ?_
    refine mC QG 15 ?_
    refine pD Say.row hg5 ?_
    refine fA ?_
    refine mA QG [(16,[]),(17,[])] 1 [⟨[14,15,18],65,25,26⟩,⟨[6,7,15,18],65,18,19⟩] fun cx => ?_
    refine mC QG 18 ?_
    refine lA 1 ?_
    refine fA ?_
    exact mE QG [6,0,2] [0,6]
  ·refine LAt.cutG tOk (t := 65) (ty := 65) (e := 180) (x := (.tmp 26)) (lo := (some (.tmp 28))) (hi := none) (d := 29) (g := none) (tI 180) Say.row x0.Said ⟨(.box 0),[(0,0)],2,false,7,(CV.frzEs (x0.Said.map Say.row))⟩ (IntKind.wrap .i64 (x1 + 1)) (x0.Said.length : Int) kr kr kr kr kr kr rfl kr rfl kr kr hg4 ?_
   refine fA ?_
   refine mC QG 6 ?_
   refine LAt.cutG tOk (t := 65) (ty := 65) (e := 180) (x := (.tmp 19)) (lo := none) (hi := (some (.tmp 20))) (d := 21) (g := none) (tI 180) Say.row x0.Said ⟨(.box 0),[(0,0)],2,false,7,(CV.frzEs (x0.Said.map Say.row))⟩ 0 x1 kr kr kr kr kr kr rfl kr rfl kr kr hg2 ?_
   refine fA ?_
   refine mC QG 7 ?_
   refine LAt.appCU tOk (t := 65) (ty := 65) (e := 180) (x := (.const (.slice none 0 0))) (y := (.tmp 21)) (d := 22) (g := none) (tI 180) Say.row ([] : List Say) ((x0.Said.drop ((0 : Int)).toNat).take (((x1 : Int)).toNat - ((0 : Int)).toNat)) ⟨(.slot 21),[],0,false,7,(CV.frzEs (((x0.Said.drop ((0 : Int)).toNat).take (((x1 : Int)).toNat - ((0 : Int)).toNat)).map Say.row))⟩ kr kr kr kr kr kr kr kr kr kr kr (.inr rfl) (fun _ => rfl) (fun _ => rfl) hg3 ?_
   refine fA ?_
   refine mC QG 15 ?_
   refine pD Say.row hg5 ?_
   refine fA ?_
   refine mA QG [(16,[]),(17,[])] 1 [⟨[14,15,18],65,25,26⟩,⟨[6,7,15,18],65,18,19⟩] fun cx => ?_
   refine mC QG 18 ?_
   refine lA 1 ?_
   refine fA ?_
   exact mE QG [6,0,2] [0,6]
 refine tS ?_
 refine sT ⟨70,1,[sA 6 6 7 0,sA 0 0 3 0,sB 2 x2],[(0,[cL 11 x0.Bs zA.row,cL 4 x0.Ls Link.row,cL 7 ((([] : List Say) ++ ((x0.Said.drop ((0 : Int)).toNat).take (((x1 : Int)).toNat - ((0 : Int)).toNat))) ++ ((x0.Said.drop (((IntKind.wrap .i64 (x1 + 1)) : Int)).toNat).take ((((x0.Said.length : Int) : Int)).toNat - (((IntKind.wrap .i64 (x1 + 1)) : Int)).toNat))) Say.row]),(6,(Say.row v1))]⟩ ?_
 cases h1 : (!x2)
 ·have H := zG h1 H
  obtain ⟨r6,er6,H⟩ := bs H
  refine Tr.draws mixed 11 kr ⟨70,1,[sB 43 (!r6),sA 6 6 7 0,sA 0 0 3 0],[(0,[cL 11 x0.Bs zA.row,cL 4 x0.Ls Link.row,cL 7 ((([] : List Say) ++ ((x0.Said.drop ((0 : Int)).toNat).take (((x1 : Int)).toNat - ((0 : Int)).toNat))) ++ ((x0.Said.drop (((IntKind.wrap .i64 (x1 + 1)) : Int)).toNat).take ((((x0.Said.length : Int) : Int)).toNat - (((IntKind.wrap .i64 (x1 + 1)) : Int)).toNat))) Say.row]),(6,(Say.row v1))]⟩ (fun cx => ?_) ?_
  ·refine aA [(0,[]),(1,[]),(2,[])] 8 [] fun cx => ?_
   refine sA_ 34359738433 65 ⟨70,1,[sB 35 (!x2),sA 6 6 7 0,sA 0 0 3 0],[(0,[cL 11 x0.Bs zA.row,cL 4 x0.Ls Link.row,cL 7 ((([] : List Say) ++ ((x0.Said.drop ((0 : Int)).toNat).take (((x1 : Int)).toNat - ((0 : Int)).toNat))) ++ ((x0.Said.drop (((IntKind.wrap .i64 (x1 + 1)) : Int)).toNat).take ((((x0.Said.length : Int) : Int)).toNat - (((IntKind.wrap .i64 (x1 + 1)) : Int)).toNat))) Say.row]),(6,(Say.row v1))]⟩ ?_
   rw [h1]
   refine aA [(3,[]),(4,[]),(5,[8]),(6,[]),(7,[8])] 3 [⟨[8],3,39,40⟩,⟨[8],67,37,38⟩] fun cx => ?_
   refine bA 8 ?_
   refine vB [.rd,.rd] [.box 0] (zEL n (⟨x0.Bs,x0.Ls,((([] : List Say) ++ ((x0.Said.drop ((0 : Int)).toNat).take (((x1 : Int)).toNat - ((0 : Int)).toNat))) ++ ((x0.Said.drop (((IntKind.wrap .i64 (x1 + 1)) : Int)).toNat).take ((((x0.Said.length : Int) : Int)).toNat - (((IntKind.wrap .i64 (x1 + 1)) : Int)).toNat)))⟩ : Net) v1.Link r6 er6) (.inr (zk (zJ zL zy) zz)) ?_
   refine fA ?_
   refine aA [(9,[]),(10,[])] 0 [⟨[8],3,39,40⟩,⟨[8],67,37,38⟩] fun cx => ?_
   exact eE [43,6,0] [0,6]
  refine sT ⟨70,1,[sB 43 (!r6),sA 6 6 7 0,sA 0 0 3 0],[(0,[cL 11 x0.Bs zA.row,cL 4 x0.Ls Link.row,cL 7 ((([] : List Say) ++ ((x0.Said.drop ((0 : Int)).toNat).take (((x1 : Int)).toNat - ((0 : Int)).toNat))) ++ ((x0.Said.drop (((IntKind.wrap .i64 (x1 + 1)) : Int)).toNat).take ((((x0.Said.length : Int) : Int)).toNat - (((IntKind.wrap .i64 (x1 + 1)) : Int)).toNat))) Say.row]),(6,(Say.row v1))]⟩ ?_
  cases h2 : (!r6)
  ·have H := zG h2 H
   refine nB_ ?_
   refine tK ?_
   obtain ⟨v7,ev7,H⟩ := bs H
   refine Tr.draws mixed 10 kr ⟨70,1,[sA 7 7 4 0,sA 6 6 7 0,sA 0 0 3 0],[(7,(Link.row v7)),(0,[cL 11 x0.Bs zA.row,cL 4 x0.Ls Link.row,cL 7 ((([] : List Say) ++ ((x0.Said.drop ((0 : Int)).toNat).take (((x1 : Int)).toNat - ((0 : Int)).toNat))) ++ ((x0.Said.drop (((IntKind.wrap .i64 (x1 + 1)) : Int)).toNat).take ((((x0.Said.length : Int) : Int)).toNat - (((IntKind.wrap .i64 (x1 + 1)) : Int)).toNat))) Say.row]),(6,(Say.row v1))]⟩ (fun cx => ?_) ?_
   ·refine aA [(0,[]),(1,[]),(2,[]),(3,[9]),(4,[]),(5,[9])] 4 [⟨[9],3,48,49⟩,⟨[9],64,46,47⟩] fun cx => ?_
    refine aO tOk 6 64 0 47 49 50 none ⟨(.box 0),[(0,0)],1,true,4,(x0.Ls.map Link.row)⟩ v1.Link (v1.Link.toNat) (Link.row v7) _ kr kr kr kr kr kr rfl kr (zEb ev7) rfl rfl (fun cx => ?_)
    refine AT.big2 tOk 7 8 kr (And.intro kr ?_) (And.intro kr ?_)
    ·refine dE (tI 114) (.box 0) [(0,0),(1,(v1.Link.toNat))] 4 0 [.sl true 3 [[cL 11 x0.Bs zA.row,cL 4 x0.Ls Link.row,cL 7 ((([] : List Say) ++ ((x0.Said.drop ((0 : Int)).toNat).take (((x1 : Int)).toNat - ((0 : Int)).toNat))) ++ ((x0.Said.drop (((IntKind.wrap .i64 (x1 + 1)) : Int)).toNat).take ((((x0.Said.length : Int) : Int)).toNat - (((IntKind.wrap .i64 (x1 + 1)) : Int)).toNat))) Say.row]]] (Link.row v7) (zt rfl (zI ev7).2) ?_
     refine fA ?_
     refine bA 8 ?_
     refine lA 1 ?_
     refine fA ?_
     refine bA 9 ?_
     refine lA 1 ?_
     refine fA ?_
     exact eE [7,6,0] [7,0,6]
    ·refine lA 1 ?_
     refine fA ?_
     refine bA 7 ?_
     refine dE (tI 114) (.box 0) [(0,0),(1,(v1.Link.toNat))] 4 0 [.sl true 3 [[cL 11 x0.Bs zA.row,cL 4 x0.Ls Link.row,cL 7 ((([] : List Say) ++ ((x0.Said.drop ((0 : Int)).toNat).take (((x1 : Int)).toNat - ((0 : Int)).toNat))) ++ ((x0.Said.drop (((IntKind.wrap .i64 (x1 + 1)) : Int)).toNat).take ((((x0.Said.length : Int) : Int)).toNat - (((IntKind.wrap .i64 (x1 + 1)) : Int)).toNat))) Say.row]]] (Link.row v7) (zt rfl (zI ev7).2) ?_
     refine fA ?_
     refine bA 9 ?_
     refine lA 1 ?_
     refine fA ?_
     exact eE [7,6,0] [7,0,6]
   refine gA 2 9007199254741185 193 ?_
   refine sT ⟨70,1,[sB 53 v1.Back,sA 7 7 4 0,sA 6 6 7 0,sA 0 0 3 0],[(7,(Link.row v7)),(0,[cL 11 x0.Bs zA.row,cL 4 x0.Ls Link.row,cL 7 ((([] : List Say) ++ ((x0.Said.drop ((0 : Int)).toNat).take (((x1 : Int)).toNat - ((0 : Int)).toNat))) ++ ((x0.Said.drop (((IntKind.wrap .i64 (x1 + 1)) : Int)).toNat).take ((((x0.Said.length : Int) : Int)).toNat - (((IntKind.wrap .i64 (x1 + 1)) : Int)).toNat))) Say.row]),(6,(Say.row v1))]⟩ ?_
   cases h3 : v1.Back
   ·have H := zG h3 H
    refine nB_ ?_
    refine Tr.at ?_
    refine lA 7 ?_
    obtain ⟨r8,er8,H⟩ := bs H
    refine LAt.callL tOk [.lend,.rd,.rd,.rd] (f := 203) (av := #[.tmp 62,.tmp 64,.tmp 66,.tmp 68]) (ats := #[142,3,3,165]) (d := (some 69)) (ty := 0) (g := none) kr kr kr [] (zFC n (⟨x0.Bs,x0.Ls,((([] : List Say) ++ ((x0.Said.drop ((0 : Int)).toNat).take (((x1 : Int)).toNat - ((0 : Int)).toNat))) ++ ((x0.Said.drop (((IntKind.wrap .i64 (x1 + 1)) : Int)).toNat).take ((((x0.Said.length : Int) : Int)).toNat - (((IntKind.wrap .i64 (x1 + 1)) : Int)).toNat)))⟩ : Net) v7.B v7.Q v1.V r8 er8) kr (.inl rfl) ?_
    refine dA 1 1 ?_
    obtain rfl := si H
    exact Fin.ofY _ [] [] _ [] _ [(0,(Net.row r8))] kr rfl rfl rfl kr kr kr kr rfl rfl rfl
   have H := zH h3 H
   refine tB_ ?_
   refine Tr.at ?_
   refine lA 7 ?_
   obtain ⟨r9,er9,H⟩ := bs H
   refine LAt.callL tOk [.lend,.rd,.rd,.rd] (f := 203) (av := #[.tmp 54,.tmp 56,.tmp 58,.tmp 60]) (ats := #[142,3,3,165]) (d := (some 61)) (ty := 0) (g := none) kr kr kr [] (zFC n (⟨x0.Bs,x0.Ls,((([] : List Say) ++ ((x0.Said.drop ((0 : Int)).toNat).take (((x1 : Int)).toNat - ((0 : Int)).toNat))) ++ ((x0.Said.drop (((IntKind.wrap .i64 (x1 + 1)) : Int)).toNat).take ((((x0.Said.length : Int) : Int)).toNat - (((IntKind.wrap .i64 (x1 + 1)) : Int)).toNat)))⟩ : Net) v7.A v7.P v1.V r9 er9) kr (.inl rfl) ?_
   refine dA 1 1 ?_
   obtain rfl := si H
   exact Fin.ofY _ [] [] _ [] _ [(0,(Net.row r9))] kr rfl rfl rfl kr kr kr kr rfl rfl rfl
  have H := zH h2 H
  refine tB_ ?_
  refine te ?_
  obtain rfl := si H
  exact Fin.ofY _ [] [] _ [] _ [(0,[cL 11 x0.Bs zA.row,cL 4 x0.Ls Link.row,cL 7 ((([] : List Say) ++ ((x0.Said.drop ((0 : Int)).toNat).take (((x1 : Int)).toNat - ((0 : Int)).toNat))) ++ ((x0.Said.drop (((IntKind.wrap .i64 (x1 + 1)) : Int)).toNat).take ((((x0.Said.length : Int) : Int)).toNat - (((IntKind.wrap .i64 (x1 + 1)) : Int)).toNat))) Say.row])] kr rfl rfl rfl kr kr kr kr rfl rfl rfl
 have H := zH h1 H
 refine Tr.draws mixed 11 kr ⟨70,1,[sB 43 true,sA 6 6 7 0,sA 0 0 3 0],[(0,[cL 11 x0.Bs zA.row,cL 4 x0.Ls Link.row,cL 7 ((([] : List Say) ++ ((x0.Said.drop ((0 : Int)).toNat).take (((x1 : Int)).toNat - ((0 : Int)).toNat))) ++ ((x0.Said.drop (((IntKind.wrap .i64 (x1 + 1)) : Int)).toNat).take ((((x0.Said.length : Int) : Int)).toNat - (((IntKind.wrap .i64 (x1 + 1)) : Int)).toNat))) Say.row]),(6,(Say.row v1))]⟩ (fun cx => ?_) ?_
 ·refine aA [(0,[]),(1,[]),(2,[])] 8 [] fun cx => ?_
  refine sA_ 34359738433 65 ⟨70,1,[sB 35 (!x2),sA 6 6 7 0,sA 0 0 3 0],[(0,[cL 11 x0.Bs zA.row,cL 4 x0.Ls Link.row,cL 7 ((([] : List Say) ++ ((x0.Said.drop ((0 : Int)).toNat).take (((x1 : Int)).toNat - ((0 : Int)).toNat))) ++ ((x0.Said.drop (((IntKind.wrap .i64 (x1 + 1)) : Int)).toNat).take ((((x0.Said.length : Int) : Int)).toNat - (((IntKind.wrap .i64 (x1 + 1)) : Int)).toNat))) Say.row]),(6,(Say.row v1))]⟩ ?_
  rw [h1]
  refine aA [(3,[]),(4,[]),(5,[]),(6,[]),(7,[]),(8,[]),(9,[]),(10,[])] 0 [] fun cx => ?_
  exact eE [43,6,0] [0,6]
 refine tB_ ?_
 refine te ?_
 obtain rfl := si H
 exact Fin.ofY _ [] [] _ [] _ [(0,[cL 11 x0.Bs zA.row,cL 4 x0.Ls Link.row,cL 7 ((([] : List Say) ++ ((x0.Said.drop ((0 : Int)).toNat).take (((x1 : Int)).toNat - ((0 : Int)).toNat))) ++ ((x0.Said.drop (((IntKind.wrap .i64 (x1 + 1)) : Int)).toNat).take ((((x0.Said.length : Int) : Int)).toNat - (((IntKind.wrap .i64 (x1 + 1)) : Int)).toNat))) Say.row])] kr rfl rfl rfl kr kr kr kr rfl rfl rfl
def YX (n : Nat) (x0 : zA) (x1 : Int) (x2 : Bool) : Option (zA) :=
  ((q5 n x0).bind fun r1 => ((JM n x0 x1).bind fun r2 => (bif r2 then ((idx x0.Ps x1).bind fun v3 => ((idx r1.Ps x1).bind fun v4 => ((qp n (⟨r1.Id,r1.Name,(r1.Ps.set (x1.toNat) (⟨x2,v3.Co,false,(⟨0,0,0,0,0⟩ : Vec)⟩ : Pt)),r1.F,r1.V,r1.Tk,r1.Pa,r1.Wo,r1.Dr,r1.Ve⟩ : zA)).bind fun r5 => (some r5)))) else (some r1))))
def zN4 : Tab := ⟨13,[0,1,0,0,0,16,0,96,128,256,520,2047,4095],[0,1,0,0,0,16,0,96,128,256,520,6,3072],[0,1,0,0,0,16,0,112,240,496,1016,2047,4095]⟩
theorem zDZ : zf (rg Tryz.f155 3) zN4 = true := kr
theorem zFb (n : Nat) (x0 : zA) (x1 : Int) (x2 : Bool) (r : zA) (H : YX n x0 x1 x2 = some r) : zD Tryz.prog 155 [.val true (CV.frzRow (zA.row x0)),.val false [.lit (.int .i64 x1)],.val false [.lit (.bool x2)]] [.val true (zA.row r)] [] := by
 refine cA Tryz.func155 (.seq (Rg Tryz.f155 0) (.seq (Rg Tryz.f155 1) (.seq (.seq (Rg Tryz.f155 2) (.cond (.tmp 12) (.seq (Rd Tryz.f155 3) (Rg Tryz.f155 4)) .skip)) (.seq (Rg Tryz.f155 5) .ret)))) [.cell 6 41] fun cx => ?_
 unfold YX at H
 refine gA 2 78 72 ?_
 refine rA 1 ?_
 obtain ⟨r1,er1,H⟩ := bs H
 refine vA [.rd] (zAG n x0 r1 er1) ?_
 refine uA 2 206 200 ?_
 refine tS ?_
 refine rA 2 ?_
 obtain ⟨r2,er2,H⟩ := bs H
 refine vA [.rd,.rd] (zGl n x0 x1 r2 er2) ?_
 refine dA 4302 200 ?_
 cases h1 : r2
 ·have H := zG h1 H
  refine nB_ ?_
  refine tK ?_
  refine gA 2 64 64 ?_
  exact te (by obtain rfl := si H; exact fP [(true,(zA.row r1))])
 have H := zH h1 H
 refine tB_ ?_
 obtain ⟨v3,ev3,H⟩ := bs H
 obtain ⟨v4,ev4,H⟩ := bs H
 refine Tr.draws mixed 13 kr ⟨27,0,[sA 7 7 11 0,sA 6 6 11 0],[(7,[cI r1.Id,cS r1.Name,cL 8 (r1.Ps.set (x1.toNat) (⟨x2,v3.Co,false,(⟨0,0,0,0,0⟩ : Vec)⟩ : Pt)) Pt.row,cL 5 r1.F zB.row,cL 3 r1.V.Rows zC.row,cL 1 r1.V.Pv intRow,cI r1.Tk,cI r1.Pa,cI r1.Wo,cI r1.Dr,cI r1.Ve]),(6,[cI 0,cS (⟨#[]⟩ : ByteArray),cL 8 ([] : List Pt) Pt.row,cL 5 ([] : List zB) zB.row,cL 3 ([] : List zC) zC.row,cL 1 ([] : List Int) intRow,cI 0,cI 0,cI 0,cI 0,cI 0])]⟩ (fun cx => ?_) ?_
 ·refine mA zDZ [(0,[]),(1,[12]),(2,[]),(3,[]),(4,[]),(5,[10,12]),(6,[])] 6 [⟨[10,12],35,17,18⟩,⟨[12],35,13,14⟩] fun cx => ?_
  refine iN zDZ 7 Pt.row ev3 fun cx => ?_
  refine mA zDZ [(8,[]),(9,[])] 3 [⟨[10,12],35,17,18⟩,⟨[12],35,13,14⟩] fun cx => ?_
  refine mC zDZ 10 ?_
  refine lA 1 ?_
  refine fA ?_
  refine oN zDZ 11 Pt.row ev4 fun cx => ?_
  refine mC zDZ 12 ?_
  refine LAt.storeB tOk (t := 167) (ty := 0) (ad := (.tmp 24)) (x := (.tmp 23)) (g := none) (tI 167) true [cB x2,cI v3.Co,cB false,cI 0,cI 0,cI 0,cI 0,cI 0] 7 2 (x1.toNat) 8 0 8 r1.Ps Pt.row v4 (⟨x2,v3.Co,false,(⟨0,0,0,0,0⟩ : Vec)⟩ : Pt) kr kr kr kr kr kr kr kr (zI ev4).2 kr kr kr kr ?_
  refine fA ?_
  exact mE zDZ [7,6] [7,6]
 refine Tr.at ?_
 obtain ⟨r5,er5,H⟩ := bs H
 refine LAt.callL tOk [.lend] (f := 202) (av := #[.tmp 7]) (ats := #[41]) (d := (some 25)) (ty := 0) (g := none) kr kr kr [] (zBn n (⟨r1.Id,r1.Name,(r1.Ps.set (x1.toNat) (⟨x2,v3.Co,false,(⟨0,0,0,0,0⟩ : Vec)⟩ : Pt)),r1.F,r1.V,r1.Tk,r1.Pa,r1.Wo,r1.Dr,r1.Ve⟩ : zA) r5 er5) kr (.inl rfl) ?_
 refine dA 192 192 ?_
 refine gA 2 64 64 ?_
 exact te (by obtain rfl := si H; exact fP [(true,(zA.row r5))])
def JI (n : Nat) (x0 : Net) (x1 : Int) (x2 : Bool) : Option (Net) :=
  ((Zr n x0 x1).bind fun r1 => (bif (r1 == x2) then (some x0) else ((idx x0.Ls x1).bind fun v2 => ((idx x0.Bs v2.A).bind fun v3 => ((YX n v3 v2.P x2).bind fun r4 => ((idx (x0.Bs.set (v2.A.toNat) r4) v2.B).bind fun v5 => ((YX n v5 v2.Q x2).bind fun r6 => (some (⟨((x0.Bs.set (v2.A.toNat) r4).set (v2.B.toNat) r6),x0.Ls,x0.Said⟩ : Net)))))))))
def zNy : Tab := ⟨20,[0,1,2,4,0,16,0,64,128,256,0,1024,2560,4096,0,16384,0,106496,262143,524287],[0,1,2,4,0,16,0,64,128,256,0,1024,2560,4096,0,16384,0,106496,40,393216],[0,1,3,7,0,16,0,64,192,448,0,1024,4032,8128,0,16384,0,131008,262143,524287]⟩
noncomputable abbrev zNn (k : Nat) := Rg Tryz.f120 k
noncomputable abbrev zNj (k : Nat) := Rd Tryz.f120 k
theorem zCl : zf (rg Tryz.f120 2) zNy = true := kr
def zNz : Tab := ⟨20,[0,1,2,4,0,16,0,64,128,256,0,1024,2560,4096,0,16384,0,106496,262143,524287],[0,1,2,4,0,16,0,64,128,256,0,1024,2560,4096,0,16384,0,106496,40,393216],[0,1,3,7,0,16,0,64,192,448,0,1024,4032,8128,0,16384,0,131008,262143,524287]⟩
theorem zCm : zf (rg Tryz.f120 3) zNz = true := kr
theorem zJW (n : Nat) (x0 : Net) (x1 : Int) (x2 : Bool) (r : Net) (H : JI n x0 x1 x2 = some r) : zD Tryz.prog 120 [.ptr (Net.row x0),.val false [.lit (.int .i64 x1)],.val false [.lit (.bool x2)]] [] [(0,(Net.row r))] := by
 refine zD.of_body tOk Tryz.func120 rfl (c := (.seq (.seq (zNn 0) (.cond (.tmp 13) .ret .skip)) (.seq (zNn 1) (.seq (zNj 2) (zNj 3))))) kr (Nat.le_of_ble_eq_true kr) 1 (rs := []) rfl [] .nil [] [] [(0,(Net.row r))] fun cx => ?_
 show Tr _ _ _ ⟨59,1,[sA 0 0 3 0,sI 1 x1,sB 2 x2],[(0,(Net.row x0))]⟩ _
 unfold JI at H
 refine tS ?_
 refine rA 4 ?_
 obtain ⟨r1,er1,H⟩ := bs H
 refine vB [.rd,.rd] [.box 0] (zEL n x0 x1 r1 er1) (.inr (zk (zJ zL zy) zz)) ?_
 refine uA 2 8199 1 ?_
 obtain ⟨h1,H⟩ | ⟨h1,H⟩ := bC H
 ·refine nA h1 ?_
  refine tK ?_
  refine rA 5 ?_
  obtain ⟨v2,ev2,H⟩ := bs H
  refine oA Link.row ev2 ?_
  refine dE (tI 114) (.box 0) [(0,0),(1,(x1.toNat))] 4 0 [.sl true 3 [(Net.row x0)]] (Link.row v2) (zt rfl (zI ev2).2) ?_
  refine uA 2 69 65 ?_
  obtain ⟨v3,ev3,H⟩ := bs H
  obtain ⟨r4,er4,H⟩ := bs H
  refine Tr.draws mixed 20 kr ⟨59,1,[sA 6 6 4 0,sA 0 0 3 0,sB 2 x2],[(0,[cL 11 (x0.Bs.set (v2.A.toNat) r4) zA.row,cL 4 x0.Ls Link.row,cL 7 x0.Said Say.row]),(6,(Link.row v2))]⟩ (fun cx => ?_) ?_
  ·refine mA zCl [(0,[]),(1,[]),(2,[]),(3,[19]),(4,[]),(5,[19]),(6,[]),(7,[]),(8,[]),(9,[17,19]),(10,[]),(11,[17,19])] 8 [⟨[17,19],3,31,32⟩,⟨[17,19],63,29,30⟩,⟨[19],3,25,26⟩,⟨[19],63,23,24⟩] fun cx => ?_
   refine oN zCl 12 zA.row ev3 fun cx => ?_
   refine mA zCl [(14,[]),(15,[17,19]),(16,[])] 4 [⟨[17,19],3,35,36⟩,⟨[17,19],3,31,32⟩,⟨[17,19],63,29,30⟩,⟨[19],3,25,26⟩,⟨[19],63,23,24⟩] fun cx => ?_
   refine mC zCl 13 ?_
   refine dE (tI 41) (.box 0) [(0,0),(0,(v2.A.toNat))] 11 0 [.sl true 3 [(Net.row x0)]] (zA.row v3) (zt rfl (zI ev3).2) ?_
   refine fA ?_
   refine mC zCl 17 ?_
   refine LAt.callO tOk [.rd,.rd,.rd] (f := 155) (av := #[.tmp 34,.tmp 36,.tmp 37]) (ats := #[41,3,4]) (d := (some 38)) (ty := 41) (g := none) [(34,zA.row v3)] none kr kr kr [.box 0] (zFb n v3 v2.P x2 r4 er4) (YL (row := [.sl true 3 [(Net.row x0)]]) (q := [(0,0),(0,(v2.A.toNat))]) kr (zt rfl (zI ev3).2) JV) kr zCQ (.inr (And.intro (zk (zA.row_mine _) zz) zBo)) ?_
   refine fA ?_
   refine oN zCl 18 zA.row ev3 fun cx => ?_
   refine mC zCl 19 ?_
   refine LAt.storeB tOk (t := 41) (ty := 0) (ad := (.tmp 39)) (x := (.tmp 38)) (g := none) (tI 41) true (zA.row r4) 0 0 (v2.A.toNat) 11 0 11 x0.Bs zA.row v3 r4 kr kr kr kr kr kr kr kr (zI ev3).2 kr kr kr kr ?_
   refine fA ?_
   exact mE zCl [6,0,2] [0,6]
  obtain ⟨v5,ev5,H⟩ := bs H
  obtain ⟨r6,er6,H⟩ := bs H
  refine Tr.draw mixed 20 kr ⟨59,1,[sA 0 0 3 0],[(0,[cL 11 ((x0.Bs.set (v2.A.toNat) r4).set (v2.B.toNat) r6) zA.row,cL 4 x0.Ls Link.row,cL 7 x0.Said Say.row])]⟩ (fun cx => ?_) ?_
  ·refine mA zCm [(0,[]),(1,[]),(2,[]),(3,[19]),(4,[]),(5,[19]),(6,[]),(7,[]),(8,[]),(9,[17,19]),(10,[]),(11,[17,19])] 8 [⟨[17,19],3,50,51⟩,⟨[17,19],63,48,49⟩,⟨[19],3,44,45⟩,⟨[19],63,42,43⟩] fun cx => ?_
   refine oN zCm 12 zA.row ev5 fun cx => ?_
   refine mA zCm [(14,[]),(15,[17,19]),(16,[])] 4 [⟨[17,19],3,54,55⟩,⟨[17,19],3,50,51⟩,⟨[17,19],63,48,49⟩,⟨[19],3,44,45⟩,⟨[19],63,42,43⟩] fun cx => ?_
   refine mC zCm 13 ?_
   refine dE (tI 41) (.box 0) [(0,0),(0,(v2.B.toNat))] 11 0 [.sl true 3 [[cL 11 (x0.Bs.set (v2.A.toNat) r4) zA.row,cL 4 x0.Ls Link.row,cL 7 x0.Said Say.row]]] (zA.row v5) (zt rfl (zI ev5).2) ?_
   refine fA ?_
   refine mC zCm 17 ?_
   refine LAt.callO tOk [.rd,.rd,.rd] (f := 155) (av := #[.tmp 53,.tmp 55,.tmp 56]) (ats := #[41,3,4]) (d := (some 57)) (ty := 41) (g := none) [(53,zA.row v5)] none kr kr kr [.box 0] (zFb n v5 v2.Q x2 r6 er6) (YL (row := [.sl true 3 [[cL 11 (x0.Bs.set (v2.A.toNat) r4) zA.row,cL 4 x0.Ls Link.row,cL 7 x0.Said Say.row]]]) (q := [(0,0),(0,(v2.B.toNat))]) kr (zt rfl (zI ev5).2) JV) kr zCQ (.inr (And.intro (zk (zA.row_mine _) zz) zBo)) ?_
   refine fA ?_
   refine oN zCm 18 zA.row ev5 fun cx => ?_
   refine mC zCm 19 ?_
   refine LAt.storeB tOk (t := 41) (ty := 0) (ad := (.tmp 58)) (x := (.tmp 57)) (g := none) (tI 41) true (zA.row r6) 0 0 (v2.B.toNat) 11 0 11 (x0.Bs.set (v2.A.toNat) r4) zA.row v5 r6 kr kr kr kr kr kr kr kr (zI ev5).2 kr kr kr kr ?_
   refine fA ?_
   exact mE zCm [0] [0]
  obtain rfl := si H
  exact Fin.ofY _ [] [] _ [] _ [(0,[cL 11 ((x0.Bs.set (v2.A.toNat) r4).set (v2.B.toNat) r6) zA.row,cL 4 x0.Ls Link.row,cL 7 x0.Said Say.row])] kr rfl rfl rfl kr kr kr kr rfl rfl rfl
 refine tA h1 ?_
 refine te ?_
 obtain rfl := si H
 exact Fin.ofY _ [] [] _ [] _ [(0,(Net.row x0))] kr rfl rfl rfl kr kr kr kr rfl rfl rfl
def YJ (n : Nat) (r1 : Net) (x1 : Event) (y5 : Bool) : Option (Net × Bool) :=
  (bif y5 then ((QV n r1 x1.At (x1.Ki == 2)).bind fun r7 => (some (r7,true))) else ((JI n r1 x1.At (x1.Ki == 5)).bind fun r6 => (some (r6,true))))
def qj (n : Nat) (r1 : Net) (x0 : Net) (x1 : Event) (y3 : Int) : Option (Net × Bool) :=
  ((zw n x1.At 0 (IntKind.wrap .i64 (y3 - 1))).bind fun r4 => (bif (!r4) then (some (r1,false)) else (bif (x1.Ki == 1) then ((Yi n r1 x1.At).bind fun r11 => (some (r11,true))) else (bif (x1.Ki == 6) then ((idx x0.Bs x1.At).bind fun v8 => ((zAx n v8).bind fun r9 => ((idx r1.Bs x1.At).bind fun v10 => (some ((⟨(r1.Bs.set (x1.At.toNat) r9),r1.Ls,r1.Said⟩ : Net),true))))) else (bif (x1.Ki == 2) then (YJ n r1 x1 true) else (YJ n r1 x1 (x1.Ki == 3)))))))
def Qb (n : Nat) (r1 : Net) (x0 : Net) (x1 : Event) (y13 : Bool) : Option (Net × Bool) :=
  (bif y13 then (qj n r1 x0 x1 (x0.Said.length : Int)) else (bif (x1.Ki == 4) then (qj n r1 x0 x1 (x0.Ls.length : Int)) else (bif (x1.Ki == 5) then (qj n r1 x0 x1 (x0.Ls.length : Int)) else (qj n r1 x0 x1 0))))
def ZD (n : Nat) (r1 : Net) (x0 : Net) (x1 : Event) (y12 : Bool) : Option (Net × Bool) :=
  (bif y12 then (qj n r1 x0 x1 (x0.Bs.length : Int)) else (bif (x1.Ki == 2) then (Qb n r1 x0 x1 true) else (Qb n r1 x0 x1 (x1.Ki == 3))))
def Qa (n : Nat) (x0 : Net) (x1 : Event) : Option (Net × Bool) :=
  ((Ju n x0).bind fun r1 => ((Y0 n x0).bind fun r2 => (bif (!r2) then (some (r1,false)) else (bif (x1.Ki == 1) then (ZD n r1 x0 x1 true) else (ZD n r1 x0 x1 (x1.Ki == 6))))))
def zOJ : Tab := ⟨13,[0,1,0,4,0,16,0,64,160,256,512,2047,4095],[0,1,0,4,0,16,0,64,160,256,512,10,3072],[0,1,0,4,0,16,0,64,240,496,1008,2047,4095]⟩
theorem zDc : zf (rg Tryz.f27 22) zOJ = true := kr
theorem zAa (n : Nat) (x0 : Net) (x1 : Event) (r : Net × Bool) (H : Qa n x0 x1 = some r) : zD Tryz.prog 27 [.val true (CV.frzRow (Net.row x0)),.val true (CV.frzRow (Event.row x1))] [.val true (Net.row r.1),.val false [.lit (.bool r.2)]] [] := by
 refine cA Tryz.func27 (.seq (Rg Tryz.f27 0) (.seq (Rg Tryz.f27 1) (.seq (.seq (Rg Tryz.f27 2) (.cond (.tmp 12) (.seq (Rg Tryz.f27 3) .ret) .skip)) (.seq (Rg Tryz.f27 4) (.seq (.seq (Rg Tryz.f27 5) (.block 0 (.seq (.seq (Rg Tryz.f27 6) (.cond (.tmp 16) .skip (Rg Tryz.f27 7))) (.cond (.tmp 16) (Rg Tryz.f27 8) (.seq (.seq (Rg Tryz.f27 9) (.cond (.tmp 22) .skip (Rg Tryz.f27 10))) (.cond (.tmp 22) (Rg Tryz.f27 11) (.seq (.seq (Rg Tryz.f27 12) (.cond (.tmp 28) .skip (Rg Tryz.f27 13))) (.cond (.tmp 28) (Rg Tryz.f27 14) .skip)))))))) (.seq (.seq (Rg Tryz.f27 15) (.cond (.tmp 39) (.seq (Rg Tryz.f27 16) .ret) .skip)) (.seq (.seq (Rg Tryz.f27 17) (.block 1 (.seq (Rg Tryz.f27 19) (.cond (.tmp 49) (Rg Tryz.f27 20) (.seq (Rg Tryz.f27 21) (.cond (.tmp 54) (Rd Tryz.f27 22) (.seq (.seq (Rg Tryz.f27 23) (.cond (.tmp 68) .skip (Rg Tryz.f27 24))) (.cond (.tmp 68) (Rg Tryz.f27 25) (Rg Tryz.f27 18))))))))) (.seq (Rg Tryz.f27 26) .ret)))))))) [.cell 4 67,.tmp 5] fun cx => ?_
 unfold Qa at H
 refine gA 4 28 28 ?_
 refine rA 1 ?_
 obtain ⟨r1,er1,H⟩ := bs H
 refine vA [.rd] (zKB n x0 r1 er1) ?_
 refine uA 2 92 92 ?_
 refine tS ?_
 refine rA 1 ?_
 obtain ⟨r2,er2,H⟩ := bs H
 refine vA [.rd] (zLt n x0 r2 er2) ?_
 refine uA 1 4188 92 ?_
 obtain ⟨h1,H⟩ | ⟨h1,H⟩ := bC H
 ·refine nA h1 ?_
  refine tK ?_
  refine gA 1 220 92 ?_
  refine tS ?_
  refine Tr.mid (ι := Int) (fun v => ⟨78,0,[sI 7 v,sA 6 6 3 0,sA 4 4 3 0,sA 3 3 2 0,sA 2 2 3 0],[(6,(Net.row r1)),(4,[cL 11 ([] : List zA) zA.row,cL 4 ([] : List Link) Link.row,cL 7 ([] : List Say) Say.row]),(3,(Event.row x1)),(2,(CV.frzRow (Net.row x0)))]⟩) (fun v => qj n r1 x0 x1 v = some r) ?_ ?_
  ·refine gA 2 32988 92 ?_
   refine tB ?_
   refine tS ?_
   refine Tr.mid (ι := Bool) (fun v => ⟨78,0,[sB 16 v,sI 15 x1.Ki,sI 7 0,sA 6 6 3 0,sA 4 4 3 0,sA 3 3 2 0,sA 2 2 3 0],[(6,(Net.row r1)),(4,[cL 11 ([] : List zA) zA.row,cL 4 ([] : List Link) Link.row,cL 7 ([] : List Say) Say.row]),(3,(Event.row x1)),(2,(CV.frzRow (Net.row x0)))]⟩) (fun v => ZD n r1 x0 x1 v = some r) ?_ ?_
   ·refine gA 2 98524 92 ?_
    refine sT ⟨78,0,[sB 16 (x1.Ki == 1),sI 15 x1.Ki,sI 7 0,sA 6 6 3 0,sA 4 4 3 0,sA 3 3 2 0,sA 2 2 3 0],[(6,(Net.row r1)),(4,[cL 11 ([] : List zA) zA.row,cL 4 ([] : List Link) Link.row,cL 7 ([] : List Say) Say.row]),(3,(Event.row x1)),(2,(CV.frzRow (Net.row x0)))]⟩ ?_
    cases h12 : (x1.Ki == 1)
    ·have H := zG h12 H
     refine nB_ ?_
     refine eA 2 98524 92 ?_
     exact jA (x1.Ki == 6) H [16,15,7,6,4,3,2] [6,4,3,2]
    have H := zH h12 H
    refine tB_ ?_
    refine tK ?_
    exact jA true H [16,15,7,6,4,3,2] [6,4,3,2]
   rintro y12 H
   have H : (ZD n r1 x0 x1 y12) = some r := H
   unfold ZD at H
   cases h7 : y12
   ·have H := zG h7 H
    refine nB_ ?_
    refine tS ?_
    refine Tr.mid (ι := Bool) (fun v => ⟨78,0,[sB 22 v,sI 15 x1.Ki,sI 7 0,sA 6 6 3 0,sA 4 4 3 0,sA 3 3 2 0,sA 2 2 3 0],[(6,(Net.row r1)),(4,[cL 11 ([] : List zA) zA.row,cL 4 ([] : List Link) Link.row,cL 7 ([] : List Say) Say.row]),(3,(Event.row x1)),(2,(CV.frzRow (Net.row x0)))]⟩) (fun v => Qb n r1 x0 x1 v = some r) ?_ ?_
    ·refine gA 2 4227292 92 ?_
     refine sT ⟨78,0,[sB 22 (x1.Ki == 2),sI 15 x1.Ki,sI 7 0,sA 6 6 3 0,sA 4 4 3 0,sA 3 3 2 0,sA 2 2 3 0],[(6,(Net.row r1)),(4,[cL 11 ([] : List zA) zA.row,cL 4 ([] : List Link) Link.row,cL 7 ([] : List Say) Say.row]),(3,(Event.row x1)),(2,(CV.frzRow (Net.row x0)))]⟩ ?_
     cases h11 : (x1.Ki == 2)
     ·have H := zG h11 H
      refine nB_ ?_
      refine eA 2 4227292 92 ?_
      exact jA (x1.Ki == 3) H [22,15,7,6,4,3,2] [6,4,3,2]
     have H := zH h11 H
     refine tB_ ?_
     refine tK ?_
     exact jA true H [22,15,7,6,4,3,2] [6,4,3,2]
    rintro y13 H
    have H : (Qb n r1 x0 x1 y13) = some r := H
    unfold Qb at H
    cases h8 : y13
    ·have H := zG h8 H
     refine nB_ ?_
     refine tS ?_
     refine gA 2 268468444 92 ?_
     refine sT ⟨78,0,[sB 28 (x1.Ki == 4),sI 15 x1.Ki,sI 7 0,sA 6 6 3 0,sA 4 4 3 0,sA 3 3 2 0,sA 2 2 3 0],[(6,(Net.row r1)),(4,[cL 11 ([] : List zA) zA.row,cL 4 ([] : List Link) Link.row,cL 7 ([] : List Say) Say.row]),(3,(Event.row x1)),(2,(CV.frzRow (Net.row x0)))]⟩ ?_
     cases h9 : (x1.Ki == 4)
     ·have H := zG h9 H
      refine nB_ ?_
      refine eA 2 268435676 92 ?_
      obtain ⟨h10,H⟩ | ⟨h10,H⟩ := bC H
      ·refine nA h10 ?_
       refine tK ?_
       exact jA 0 H [7,6,4,3,2] [6,4,3,2]
      refine tA h10 ?_
      refine Tr.at ?_
      refine lA 2 ?_
      refine kF x0.Ls Link.row ?_
      refine uA 1 220 92 ?_
      exact jA (x0.Ls.length : Int) H [7,6,4,3,2] [6,4,3,2]
     have H := zH h9 H
     refine tB_ ?_
     refine tK ?_
     refine tB_ ?_
     refine Tr.at ?_
     refine lA 2 ?_
     refine kF x0.Ls Link.row ?_
     refine uA 1 220 92 ?_
     exact jA (x0.Ls.length : Int) H [7,6,4,3,2] [6,4,3,2]
    have H := zH h8 H
    refine tB_ ?_
    refine Tr.at ?_
    refine lA 2 ?_
    refine kF x0.Said Say.row ?_
    refine uA 1 220 92 ?_
    exact jA (x0.Said.length : Int) H [7,6,4,3,2] [6,4,3,2]
   have H := zH h7 H
   refine tB_ ?_
   refine Tr.at ?_
   refine lA 2 ?_
   refine kF x0.Bs zA.row ?_
   refine uA 1 220 92 ?_
   exact jA (x0.Bs.length : Int) H [7,6,4,3,2] [6,4,3,2]
  rintro y3 H
  have H : (qj n r1 x0 x1 y3) = some r := H
  unfold qj at H
  refine tS ?_
  refine rA 4 ?_
  obtain ⟨r4,er4,H⟩ := bs H
  refine vA [.rd,.rd,.rd] (z3 n x1.At 0 (IntKind.wrap .i64 (y3 - 1)) r4 er4) ?_
  refine uA 1 549755813980 92 ?_
  obtain ⟨h2,H⟩ | ⟨h2,H⟩ := bC H
  ·refine nA h2 ?_
   refine tK ?_
   refine tS ?_
   refine gA 2 4398046511196 92 ?_
   refine tB ?_
   refine gA 2 567347999932508 92 ?_
   obtain ⟨h3,H⟩ | ⟨h3,H⟩ := bC H
   ·refine nA h3 ?_
    refine gA 2 0x4004000000005c 92 ?_
    obtain ⟨h4,H⟩ | ⟨h4,H⟩ := bC H
    ·refine nA h4 ?_
     refine tS ?_
     refine Tr.mid (ι := Bool) (fun v => ⟨78,0,[sB 68 v,sA 6 6 3 0,sA 4 4 3 0,sA 3 3 2 0],[(6,(Net.row r1)),(4,[cL 11 ([] : List zA) zA.row,cL 4 ([] : List Link) Link.row,cL 7 ([] : List Say) Say.row]),(3,(Event.row x1))]⟩) (fun v => YJ n r1 x1 v = some r) ?_ ?_
     ·refine gA 2 0x100000040000000058 88 ?_
      refine sT ⟨78,0,[sB 68 (x1.Ki == 2),sI 42 x1.Ki,sA 6 6 3 0,sA 4 4 3 0,sA 3 3 2 0],[(6,(Net.row r1)),(4,[cL 11 ([] : List zA) zA.row,cL 4 ([] : List Link) Link.row,cL 7 ([] : List Say) Say.row]),(3,(Event.row x1))]⟩ ?_
      cases h6 : (x1.Ki == 2)
      ·have H := zG h6 H
       refine nB_ ?_
       refine eA 2 0x100000000000000058 88 ?_
       exact jA (x1.Ki == 3) H [68,6,4,3] [6,4,3]
      have H := zH h6 H
      refine tB_ ?_
      refine tK ?_
      exact jA true H [68,6,4,3] [6,4,3]
     rintro y5 H
     have H : (YJ n r1 x1 y5) = some r := H
     unfold YJ at H
     cases h5 : y5
     ·have H := zG h5 H
      refine nB_ ?_
      refine Tr.at ?_
      refine lA 5 ?_
      obtain ⟨r6,er6,H⟩ := bs H
      refine LAt.callL tOk [.lend,.rd,.rd] (f := 120) (av := #[.tmp 6,.tmp 44,.tmp 47]) (ats := #[67,3,4]) (d := (some 48)) (ty := 0) (g := none) kr kr kr [] (zJW n r1 x1.At (x1.Ki == 5) r6 er6) kr (.inl rfl) ?_
      refine dA 80 80 ?_
      refine gA 3 48 16 ?_
      exact te (by obtain rfl := si H; exact fP [(true,(Net.row r6)),(false,[cB true])])
     have H := zH h5 H
     refine tB_ ?_
     refine Tr.at ?_
     refine lA 5 ?_
     obtain ⟨r7,er7,H⟩ := bs H
     refine LAt.callL tOk [.lend,.rd,.rd] (f := 119) (av := #[.tmp 6,.tmp 72,.tmp 75]) (ats := #[67,3,4]) (d := (some 76)) (ty := 0) (g := none) kr kr kr [] (zHn n r1 x1.At (x1.Ki == 2) r7 er7) kr (.inl rfl) ?_
     refine dA 80 80 ?_
     refine gA 3 48 16 ?_
     exact te (by obtain rfl := si H; exact fP [(true,(Net.row r7)),(false,[cB true])])
    refine tA h4 ?_
    obtain ⟨v8,ev8,H⟩ := bs H
    obtain ⟨r9,er9,H⟩ := bs H
    obtain ⟨v10,ev10,H⟩ := bs H
    refine Tr.draw mixed 13 kr ⟨78,0,[sA 6 6 3 0,sA 4 4 3 0],[(6,[cL 11 (r1.Bs.set (x1.At.toNat) r9) zA.row,cL 4 r1.Ls Link.row,cL 7 r1.Said Say.row]),(4,[cL 11 ([] : List zA) zA.row,cL 4 ([] : List Link) Link.row,cL 7 ([] : List Say) Say.row])]⟩ (fun cx => ?_) ?_
    ·refine mA zDc [(0,[]),(1,[12]),(2,[]),(3,[12]),(4,[]),(5,[10,12]),(6,[]),(7,[10,12])] 5 [⟨[10,12],3,62,63⟩,⟨[10,12],63,60,61⟩,⟨[12],3,58,59⟩,⟨[12],63,56,57⟩] fun cx => ?_
     refine iN zDc 8 zA.row ev8 fun cx => ?_
     refine mA zDc [(9,[])] 3 [⟨[10,12],3,62,63⟩,⟨[10,12],63,60,61⟩,⟨[12],3,58,59⟩,⟨[12],63,56,57⟩] fun cx => ?_
     refine mC zDc 10 ?_
     refine vA [.rd] (zMX n v8 r9 er9) ?_
     refine fA ?_
     refine oN zDc 11 zA.row ev10 fun cx => ?_
     refine mC zDc 12 ?_
     refine LAt.storeB tOk (t := 41) (ty := 0) (ad := (.tmp 67)) (x := (.tmp 66)) (g := none) (tI 41) true (zA.row r9) 6 0 (x1.At.toNat) 11 0 11 r1.Bs zA.row v10 r9 kr kr kr kr kr kr kr kr (zI ev10).2 kr kr kr kr ?_
     refine fA ?_
     exact mE zDc [6,4] [6,4]
    refine gA 3 48 16 ?_
    exact te (by obtain rfl := si H; exact fP [(true,[cL 11 (r1.Bs.set (x1.At.toNat) r9) zA.row,cL 4 r1.Ls Link.row,cL 7 r1.Said Say.row]),(false,[cB true])])
   refine tA h3 ?_
   refine Tr.at ?_
   refine lA 2 ?_
   obtain ⟨r11,er11,H⟩ := bs H
   refine LAt.callL tOk [.lend,.rd] (f := 117) (av := #[.tmp 6,.tmp 52]) (ats := #[67,3]) (d := (some 53)) (ty := 0) (g := none) kr kr kr [] (zIW n r1 x1.At r11 er11) kr (.inl rfl) ?_
   refine dA 80 80 ?_
   refine gA 3 48 16 ?_
   exact te (by obtain rfl := si H; exact fP [(true,(Net.row r11)),(false,[cB true])])
  refine tA h2 ?_
  refine gA 3 48 16 ?_
  exact te (by obtain rfl := si H; exact fP [(true,(Net.row r1)),(false,[cB false])])
 refine tA h1 ?_
 refine gA 3 48 16 ?_
 exact te (by obtain rfl := si H; exact fP [(true,(Net.row r1)),(false,[cB false])])
def zAB (n : Nat) (x0 : Vec) (x1 : Vec) : Option (Bool) :=
  (bif (x0.Root != x1.Root) then (some false) else (bif (x0.Co != x1.Co) then (some false) else (bif (x0.Hops != x1.Hops) then (some false) else (bif (x0.Bridge != x1.Bridge) then (some false) else (bif (x0.Port != x1.Port) then (some false) else (some true))))))
theorem zHu (n : Nat) (x0 : Vec) (x1 : Vec) (r : Bool) (H : zAB n x0 x1 = some r) : zD Tryz.prog 237 [.val true (CV.frzRow (Vec.row x0)),.val true (CV.frzRow (Vec.row x1))] [.val false [.lit (.bool r)]] [] := by
 refine cA Tryz.func237 (.seq (Rg Tryz.f237 0) (.seq (.seq (Rg Tryz.f237 1) (.cond (.tmp 9) (.seq (Rg Tryz.f237 2) .ret) .skip)) (.seq (.seq (Rg Tryz.f237 3) (.cond (.tmp 14) (.seq (Rg Tryz.f237 4) .ret) .skip)) (.seq (.seq (Rg Tryz.f237 5) (.cond (.tmp 19) (.seq (Rg Tryz.f237 6) .ret) .skip)) (.seq (.seq (Rg Tryz.f237 7) (.cond (.tmp 24) (.seq (Rg Tryz.f237 8) .ret) .skip)) (.seq (.seq (Rg Tryz.f237 9) (.cond (.tmp 29) (.seq (Rg Tryz.f237 10) .ret) .skip)) (.seq (Rg Tryz.f237 11) .ret))))))) [.tmp 4] fun cx => ?_
 unfold zAB at H
 refine gA 3 12 12 ?_
 refine tS ?_
 refine gA 5 524 12 ?_
 obtain ⟨h1,H⟩ | ⟨h1,H⟩ := bC H
 ·refine nA h1 ?_
  refine tK ?_
  refine tS ?_
  refine gA 5 16396 12 ?_
  obtain ⟨h2,H⟩ | ⟨h2,H⟩ := bC H
  ·refine nA h2 ?_
   refine tK ?_
   refine tS ?_
   refine gA 5 524300 12 ?_
   obtain ⟨h3,H⟩ | ⟨h3,H⟩ := bC H
   ·refine nA h3 ?_
    refine tK ?_
    refine tS ?_
    refine gA 5 16777228 12 ?_
    obtain ⟨h4,H⟩ | ⟨h4,H⟩ := bC H
    ·refine nA h4 ?_
     refine tK ?_
     refine tS ?_
     refine gA 5 536870912 0 ?_
     obtain ⟨h5,H⟩ | ⟨h5,H⟩ := bC H
     ·refine nA h5 ?_
      refine tK ?_
      refine gA 1 16 0 ?_
      exact te (by obtain rfl := si H; exact fP [(false,[cB true])])
     refine tA h5 ?_
     refine gA 1 16 0 ?_
     exact te (by obtain rfl := si H; exact fP [(false,[cB false])])
    refine tA h4 ?_
    refine gA 1 16 0 ?_
    exact te (by obtain rfl := si H; exact fP [(false,[cB false])])
   refine tA h3 ?_
   refine gA 1 16 0 ?_
   exact te (by obtain rfl := si H; exact fP [(false,[cB false])])
  refine tA h2 ?_
  refine gA 1 16 0 ?_
  exact te (by obtain rfl := si H; exact fP [(false,[cB false])])
 refine tA h1 ?_
 refine gA 1 16 0 ?_
 exact te (by obtain rfl := si H; exact fP [(false,[cB false])])
def zA3 (n : Nat) (x0 : Pt) (x1 : Pt) : Option (Bool) :=
  (bif (!(x0.Up == x1.Up)) then (some false) else (bif (x0.Co != x1.Co) then (some false) else (bif (!(x0.Has == x1.Has)) then (some false) else ((zAB n x0.Hd x1.Hd).bind fun r1 => (bif (!r1) then (some false) else (some true))))))
theorem zMa (n : Nat) (x0 : Pt) (x1 : Pt) (r : Bool) (H : zA3 n x0 x1 = some r) : zD Tryz.prog 186 [.val true (CV.frzRow (Pt.row x0)),.val true (CV.frzRow (Pt.row x1))] [.val false [.lit (.bool r)]] [] := by
 refine cA Tryz.func186 (.seq (Rg Tryz.f186 0) (.seq (.seq (Rg Tryz.f186 1) (.cond (.tmp 9) (.seq (Rg Tryz.f186 2) .ret) .skip)) (.seq (.seq (Rg Tryz.f186 3) (.cond (.tmp 14) (.seq (Rg Tryz.f186 4) .ret) .skip)) (.seq (.seq (Rg Tryz.f186 5) (.cond (.tmp 19) (.seq (Rg Tryz.f186 6) .ret) .skip)) (.seq (.seq (Rg Tryz.f186 7) (.cond (.tmp 25) (.seq (Rg Tryz.f186 8) .ret) .skip)) (.seq (Rg Tryz.f186 9) .ret)))))) [.tmp 4] fun cx => ?_
 unfold zA3 at H
 refine gA 3 12 12 ?_
 refine tS ?_
 refine gA 5 524 12 ?_
 obtain ⟨h1,H⟩ | ⟨h1,H⟩ := bC H
 ·refine nA h1 ?_
  refine tK ?_
  refine tS ?_
  refine gA 5 16396 12 ?_
  obtain ⟨h2,H⟩ | ⟨h2,H⟩ := bC H
  ·refine nA h2 ?_
   refine tK ?_
   refine tS ?_
   refine gA 5 524300 12 ?_
   obtain ⟨h3,H⟩ | ⟨h3,H⟩ := bC H
   ·refine nA h3 ?_
    refine tK ?_
    refine tS ?_
    refine rA 4 ?_
    obtain ⟨r1,er1,H⟩ := bs H
    refine vA [.rd,.rd] (zHu n x0.Hd x1.Hd r1 er1) ?_
    refine uA 1 33554432 0 ?_
    obtain ⟨h4,H⟩ | ⟨h4,H⟩ := bC H
    ·refine nA h4 ?_
     refine tK ?_
     refine gA 1 16 0 ?_
     exact te (by obtain rfl := si H; exact fP [(false,[cB true])])
    refine tA h4 ?_
    refine gA 1 16 0 ?_
    exact te (by obtain rfl := si H; exact fP [(false,[cB false])])
   refine tA h3 ?_
   refine gA 1 16 0 ?_
   exact te (by obtain rfl := si H; exact fP [(false,[cB false])])
  refine tA h2 ?_
  refine gA 1 16 0 ?_
  exact te (by obtain rfl := si H; exact fP [(false,[cB false])])
 refine tA h1 ?_
 refine gA 1 16 0 ?_
 exact te (by obtain rfl := si H; exact fP [(false,[cB false])])
def zBc (n : Nat) : Option (Bool) :=
  (some true)
def Qq (n : Nat) : Nat → (List Pt) → (List Pt) → Int → Option ((Unit) ⊕ (Bool))
  | 0,_,_,_ => none
  | mo2 + 1,x0,x1,y1 => (bif (decide (y1 < (x0.length : Int))) then ((idx x0 y1).bind fun v3 => ((idx x1 y1).bind fun v4 => ((zA3 n v3 v4).bind fun r5 => (bif (!r5) then (some (Sum.inr false)) else (Qq n mo2 x0 x1 (IntKind.wrap .i64 (y1 + 1))))))) else (some (Sum.inl ())))
def zBM (n : Nat) (x0 : (List Pt)) (x1 : (List Pt)) : Option (Bool) :=
  (bif ((x0.length : Int) != (x1.length : Int)) then (some false) else ((Qq n n x0 x1 0).bind fun o => match o with | .inl _ => (zBc n) | .inr r => some r))
theorem zLx (n : Nat) (x0 : (List Pt)) (x1 : (List Pt)) (r : Bool) (H : zBM n x0 x1 = some r) : zD Tryz.prog 90 [.val false [.sl false 8 (CV.frzEs (x0.map Pt.row))],.val false [.sl false 8 (CV.frzEs (x1.map Pt.row))]] [.val false [.lit (.bool r)]] [] := by
 refine cA Tryz.func90 (.seq (Rg Tryz.f90 0) (.seq (.seq (Rg Tryz.f90 1) (.cond (.tmp 10) (.seq (Rg Tryz.f90 2) .ret) .skip)) (.seq (.seq (Rg Tryz.f90 3) (.block 0 (.loop (.seq (.seq (Rg Tryz.f90 4) (.cond (.tmp 14) .skip (.exit 0))) (.seq (.block 1 (.seq (Rd Tryz.f90 6) (.cond (.tmp 26) (.seq (Rg Tryz.f90 7) .ret) .skip))) (Rg Tryz.f90 5)))))) (.seq (Rg Tryz.f90 8) .ret)))) [.tmp 4] fun cx => ?_
 unfold zBM at H
 refine gA 1 3 0 ?_
 refine tS ?_
 refine rA 1 ?_
 refine kF x0 Pt.row ?_
 refine lA 1 ?_
 refine kF x1 Pt.row ?_
 refine uA 1 1027 0 ?_
 obtain ⟨h1,H⟩ | ⟨h1,H⟩ := bC H
 ·refine nA h1 ?_
  refine tK ?_
  refine tS ?_
  refine gA 1 35 0 ?_
  obtain ⟨o2,eo2,Ho2⟩ := bs H
  clear H
  refine Tr.mid (ι := Unit) (fun v => ⟨27,0,[],[]⟩) (fun v => zBc n = some r) ?_ ?_
  ·refine tB ?_
   refine Tr.loop (ι := Nat × (Int)) (fun v => ⟨27,0,[sI 5 v.2,sC 0 (cF 8 x0 Pt.row),sC 1 (cF 8 x1 Pt.row)],[]⟩) (fun v => Qq n v.1 x0 x1 v.2 = some o2) (fun v => v.1) (n,0) eo2 (St.sub_of [5,0,1] [] kr) ?_
   rintro ⟨mo2,y1⟩ H
   have H : Qq n mo2 x0 x1 y1 = some o2 := H
   obtain _ | mo2 := mo2
   ·exact nN H
   rw [Qq] at H
   refine tS ?_
   refine rA 2 ?_
   refine kF x0 Pt.row ?_
   refine uA 1 16419 0 ?_
   obtain ⟨h2,H⟩ | ⟨h2,H⟩ := bC H
   ·refine nA h2 ?_
    refine Tr.exit ?_
    refine And.intro (fun _ => ?_) (fun h => absurd rfl h)
    obtain rfl := si H
    have H := Ho2
    dsimp only at H
    exact jA () H [] []
   refine tA h2 ?_
   refine tK ?_
   refine tS ?_
   refine tB ?_
   obtain ⟨v3,ev3,H⟩ := bs H
   obtain ⟨v4,ev4,H⟩ := bs H
   obtain ⟨r5,er5,H⟩ := bs H
   refine Tr.draws mixed 10 kr ⟨27,0,[sB 26 (!r5),sI 5 y1,sC 0 (cF 8 x0 Pt.row),sC 1 (cF 8 x1 Pt.row)],[]⟩ (fun cx => ?_) ?_
   ·refine aA [(0,[]),(1,[])] 8 [] fun cx => ?_
    refine aI tOk 2 35 0 17 18 19 none ⟨(.slot 17),[],0,false,8,(CV.frzEs (x0.map Pt.row))⟩ y1 (Pt.row v3) _ kr kr kr kr kr kr rfl (Zq ev3) rfl (fun cx => ?_)
    refine aA [(3,[]),(4,[]),(5,[])] 4 [] fun cx => ?_
    refine aI tOk 6 35 0 21 22 23 none ⟨(.slot 21),[],0,false,8,(CV.frzEs (x1.map Pt.row))⟩ y1 (Pt.row v4) _ kr kr kr kr kr kr rfl (Zq ev4) rfl (fun cx => ?_)
    refine aA [(7,[])] 2 [] fun cx => ?_
    refine bA 8 ?_
    refine vA [.rd,.rd] (zMa n v3 v4 r5 er5) ?_
    refine fA ?_
    refine aA [(9,[])] 0 [] fun cx => ?_
    exact eE [26,5,0,1] []
   refine sT ⟨27,0,[sB 26 (!r5),sI 5 y1,sC 0 (cF 8 x0 Pt.row),sC 1 (cF 8 x1 Pt.row)],[]⟩ ?_
   cases h3 : (!r5)
   ·have H := zG h3 H
    refine nB_ ?_
    refine tK ?_
    refine eA 3 35 0 ?_
    exact jB mo2 (IntKind.wrap .i64 (y1 + 1)) H [5,0,1] []
   have H := zH h3 H
   refine tB_ ?_
   refine gA 1 16 0 ?_
   refine te ?_
   obtain rfl := si H
   have H := Ho2
   dsimp only at H
   obtain rfl := si H
   exact fP [(false,[cB false])]
  rintro _ H
  have H : (zBc n) = some r := H
  unfold zBc at H
  refine gA 1 16 0 ?_
  exact te (by obtain rfl := si H; exact fP [(false,[cB true])])
 refine tA h1 ?_
 refine gA 1 16 0 ?_
 exact te (by obtain rfl := si H; exact fP [(false,[cB false])])
def JN (n : Nat) (x0 : zB) (x1 : zB) : Option (Bool) :=
  (bif (x0.Tag != x1.Tag) then (some false) else (bif (x0.Mac != x1.Mac) then (some false) else (bif (x0.Port != x1.Port) then (some false) else (bif (x0.Age != x1.Age) then (some false) else (bif (!(x0.Sc == x1.Sc)) then (some false) else (some true))))))
theorem zKu (n : Nat) (x0 : zB) (x1 : zB) (r : Bool) (H : JN n x0 x1 = some r) : zD Tryz.prog 187 [.val true (CV.frzRow (zB.row x0)),.val true (CV.frzRow (zB.row x1))] [.val false [.lit (.bool r)]] [] := by
 refine cA Tryz.func187 (.seq (Rg Tryz.f187 0) (.seq (.seq (Rg Tryz.f187 1) (.cond (.tmp 9) (.seq (Rg Tryz.f187 2) .ret) .skip)) (.seq (.seq (Rg Tryz.f187 3) (.cond (.tmp 14) (.seq (Rg Tryz.f187 4) .ret) .skip)) (.seq (.seq (Rg Tryz.f187 5) (.cond (.tmp 19) (.seq (Rg Tryz.f187 6) .ret) .skip)) (.seq (.seq (Rg Tryz.f187 7) (.cond (.tmp 24) (.seq (Rg Tryz.f187 8) .ret) .skip)) (.seq (.seq (Rg Tryz.f187 9) (.cond (.tmp 29) (.seq (Rg Tryz.f187 10) .ret) .skip)) (.seq (Rg Tryz.f187 11) .ret))))))) [.tmp 4] fun cx => ?_
 unfold JN at H
 refine gA 3 12 12 ?_
 refine tS ?_
 refine gA 5 524 12 ?_
 obtain ⟨h1,H⟩ | ⟨h1,H⟩ := bC H
 ·refine nA h1 ?_
  refine tK ?_
  refine tS ?_
  refine gA 5 16396 12 ?_
  obtain ⟨h2,H⟩ | ⟨h2,H⟩ := bC H
  ·refine nA h2 ?_
   refine tK ?_
   refine tS ?_
   refine gA 5 524300 12 ?_
   obtain ⟨h3,H⟩ | ⟨h3,H⟩ := bC H
   ·refine nA h3 ?_
    refine tK ?_
    refine tS ?_
    refine gA 5 16777228 12 ?_
    obtain ⟨h4,H⟩ | ⟨h4,H⟩ := bC H
    ·refine nA h4 ?_
     refine tK ?_
     refine tS ?_
     refine gA 5 536870912 0 ?_
     obtain ⟨h5,H⟩ | ⟨h5,H⟩ := bC H
     ·refine nA h5 ?_
      refine tK ?_
      refine gA 1 16 0 ?_
      exact te (by obtain rfl := si H; exact fP [(false,[cB true])])
     refine tA h5 ?_
     refine gA 1 16 0 ?_
     exact te (by obtain rfl := si H; exact fP [(false,[cB false])])
    refine tA h4 ?_
    refine gA 1 16 0 ?_
    exact te (by obtain rfl := si H; exact fP [(false,[cB false])])
   refine tA h3 ?_
   refine gA 1 16 0 ?_
   exact te (by obtain rfl := si H; exact fP [(false,[cB false])])
  refine tA h2 ?_
  refine gA 1 16 0 ?_
  exact te (by obtain rfl := si H; exact fP [(false,[cB false])])
 refine tA h1 ?_
 refine gA 1 16 0 ?_
 exact te (by obtain rfl := si H; exact fP [(false,[cB false])])
def zAJ (n : Nat) : Option (Bool) :=
  (some true)
def QJ (n : Nat) : Nat → (List zB) → (List zB) → Int → Option ((Unit) ⊕ (Bool))
  | 0,_,_,_ => none
  | mo2 + 1,x0,x1,y1 => (bif (decide (y1 < (x0.length : Int))) then ((idx x0 y1).bind fun v3 => ((idx x1 y1).bind fun v4 => ((JN n v3 v4).bind fun r5 => (bif (!r5) then (some (Sum.inr false)) else (QJ n mo2 x0 x1 (IntKind.wrap .i64 (y1 + 1))))))) else (some (Sum.inl ())))
def Jx (n : Nat) (x0 : (List zB)) (x1 : (List zB)) : Option (Bool) :=
  (bif ((x0.length : Int) != (x1.length : Int)) then (some false) else ((QJ n n x0 x1 0).bind fun o => match o with | .inl _ => (zAJ n) | .inr r => some r))
theorem zKE (n : Nat) (x0 : (List zB)) (x1 : (List zB)) (r : Bool) (H : Jx n x0 x1 = some r) : zD Tryz.prog 91 [.val false [.sl false 5 (CV.frzEs (x0.map zB.row))],.val false [.sl false 5 (CV.frzEs (x1.map zB.row))]] [.val false [.lit (.bool r)]] [] := by
 refine cA Tryz.func91 (.seq (Rg Tryz.f91 0) (.seq (.seq (Rg Tryz.f91 1) (.cond (.tmp 10) (.seq (Rg Tryz.f91 2) .ret) .skip)) (.seq (.seq (Rg Tryz.f91 3) (.block 0 (.loop (.seq (.seq (Rg Tryz.f91 4) (.cond (.tmp 14) .skip (.exit 0))) (.seq (.block 1 (.seq (Rd Tryz.f91 6) (.cond (.tmp 26) (.seq (Rg Tryz.f91 7) .ret) .skip))) (Rg Tryz.f91 5)))))) (.seq (Rg Tryz.f91 8) .ret)))) [.tmp 4] fun cx => ?_
 unfold Jx at H
 refine gA 1 3 0 ?_
 refine tS ?_
 refine rA 1 ?_
 refine kF x0 zB.row ?_
 refine lA 1 ?_
 refine kF x1 zB.row ?_
 refine uA 1 1027 0 ?_
 obtain ⟨h1,H⟩ | ⟨h1,H⟩ := bC H
 ·refine nA h1 ?_
  refine tK ?_
  refine tS ?_
  refine gA 1 35 0 ?_
  obtain ⟨o2,eo2,Ho2⟩ := bs H
  clear H
  refine Tr.mid (ι := Unit) (fun v => ⟨27,0,[],[]⟩) (fun v => zAJ n = some r) ?_ ?_
  ·refine tB ?_
   refine Tr.loop (ι := Nat × (Int)) (fun v => ⟨27,0,[sI 5 v.2,sC 0 (cF 5 x0 zB.row),sC 1 (cF 5 x1 zB.row)],[]⟩) (fun v => QJ n v.1 x0 x1 v.2 = some o2) (fun v => v.1) (n,0) eo2 (St.sub_of [5,0,1] [] kr) ?_
   rintro ⟨mo2,y1⟩ H
   have H : QJ n mo2 x0 x1 y1 = some o2 := H
   obtain _ | mo2 := mo2
   ·exact nN H
   rw [QJ] at H
   refine tS ?_
   refine rA 2 ?_
   refine kF x0 zB.row ?_
   refine uA 1 16419 0 ?_
   obtain ⟨h2,H⟩ | ⟨h2,H⟩ := bC H
   ·refine nA h2 ?_
    refine Tr.exit ?_
    refine And.intro (fun _ => ?_) (fun h => absurd rfl h)
    obtain rfl := si H
    have H := Ho2
    dsimp only at H
    exact jA () H [] []
   refine tA h2 ?_
   refine tK ?_
   refine tS ?_
   refine tB ?_
   obtain ⟨v3,ev3,H⟩ := bs H
   obtain ⟨v4,ev4,H⟩ := bs H
   obtain ⟨r5,er5,H⟩ := bs H
   refine Tr.draws mixed 10 kr ⟨27,0,[sB 26 (!r5),sI 5 y1,sC 0 (cF 5 x0 zB.row),sC 1 (cF 5 x1 zB.row)],[]⟩ (fun cx => ?_) ?_
   ·refine aA [(0,[]),(1,[])] 8 [] fun cx => ?_
    refine aI tOk 2 36 0 17 18 19 none ⟨(.slot 17),[],0,false,5,(CV.frzEs (x0.map zB.row))⟩ y1 (zB.row v3) _ kr kr kr kr kr kr rfl (Zq ev3) rfl (fun cx => ?_)
    refine aA [(3,[]),(4,[]),(5,[])] 4 [] fun cx => ?_
    refine aI tOk 6 36 0 21 22 23 none ⟨(.slot 21),[],0,false,5,(CV.frzEs (x1.map zB.row))⟩ y1 (zB.row v4) _ kr kr kr kr kr kr rfl (Zq ev4) rfl (fun cx => ?_)
    refine aA [(7,[])] 2 [] fun cx => ?_
    refine bA 8 ?_
    refine vA [.rd,.rd] (zKu n v3 v4 r5 er5) ?_
    refine fA ?_
    refine aA [(9,[])] 0 [] fun cx => ?_
    exact eE [26,5,0,1] []
   refine sT ⟨27,0,[sB 26 (!r5),sI 5 y1,sC 0 (cF 5 x0 zB.row),sC 1 (cF 5 x1 zB.row)],[]⟩ ?_
   cases h3 : (!r5)
   ·have H := zG h3 H
    refine nB_ ?_
    refine tK ?_
    refine eA 3 35 0 ?_
    exact jB mo2 (IntKind.wrap .i64 (y1 + 1)) H [5,0,1] []
   have H := zH h3 H
   refine tB_ ?_
   refine gA 1 16 0 ?_
   refine te ?_
   obtain rfl := si H
   have H := Ho2
   dsimp only at H
   obtain rfl := si H
   exact fP [(false,[cB false])]
  rintro _ H
  have H : (zAJ n) = some r := H
  unfold zAJ at H
  refine gA 1 16 0 ?_
  exact te (by obtain rfl := si H; exact fP [(false,[cB true])])
 refine tA h1 ?_
 refine gA 1 16 0 ?_
 exact te (by obtain rfl := si H; exact fP [(false,[cB false])])
def JP (n : Nat) (x0 : zC) (x1 : zC) : Option (Bool) :=
  (bif (x0.Id != x1.Id) then (some false) else (bif (x0.Members != x1.Members) then (some false) else (bif (x0.Bare != x1.Bare) then (some false) else (some true))))
theorem zKy (n : Nat) (x0 : zC) (x1 : zC) (r : Bool) (H : JP n x0 x1 = some r) : zD Tryz.prog 238 [.val true (CV.frzRow (zC.row x0)),.val true (CV.frzRow (zC.row x1))] [.val false [.lit (.bool r)]] [] := by
 refine cA Tryz.func238 (.seq (Rg Tryz.f238 0) (.seq (.seq (Rg Tryz.f238 1) (.cond (.tmp 9) (.seq (Rg Tryz.f238 2) .ret) .skip)) (.seq (.seq (Rg Tryz.f238 3) (.cond (.tmp 14) (.seq (Rg Tryz.f238 4) .ret) .skip)) (.seq (.seq (Rg Tryz.f238 5) (.cond (.tmp 19) (.seq (Rg Tryz.f238 6) .ret) .skip)) (.seq (Rg Tryz.f238 7) .ret))))) [.tmp 4] fun cx => ?_
 unfold JP at H
 refine gA 3 12 12 ?_
 refine tS ?_
 refine gA 5 524 12 ?_
 obtain ⟨h1,H⟩ | ⟨h1,H⟩ := bC H
 ·refine nA h1 ?_
  refine tK ?_
  refine tS ?_
  refine gA 5 16396 12 ?_
  obtain ⟨h2,H⟩ | ⟨h2,H⟩ := bC H
  ·refine nA h2 ?_
   refine tK ?_
   refine tS ?_
   refine gA 5 524288 0 ?_
   obtain ⟨h3,H⟩ | ⟨h3,H⟩ := bC H
   ·refine nA h3 ?_
    refine tK ?_
    refine gA 1 16 0 ?_
    exact te (by obtain rfl := si H; exact fP [(false,[cB true])])
   refine tA h3 ?_
   refine gA 1 16 0 ?_
   exact te (by obtain rfl := si H; exact fP [(false,[cB false])])
  refine tA h2 ?_
  refine gA 1 16 0 ?_
  exact te (by obtain rfl := si H; exact fP [(false,[cB false])])
 refine tA h1 ?_
 refine gA 1 16 0 ?_
 exact te (by obtain rfl := si H; exact fP [(false,[cB false])])
def zAL (n : Nat) : Option (Bool) :=
  (some true)
def QL (n : Nat) : Nat → (List zC) → (List zC) → Int → Option ((Unit) ⊕ (Bool))
  | 0,_,_,_ => none
  | mo2 + 1,x0,x1,y1 => (bif (decide (y1 < (x0.length : Int))) then ((idx x0 y1).bind fun v3 => ((idx x1 y1).bind fun v4 => ((JP n v3 v4).bind fun r5 => (bif (!r5) then (some (Sum.inr false)) else (QL n mo2 x0 x1 (IntKind.wrap .i64 (y1 + 1))))))) else (some (Sum.inl ())))
def Jz (n : Nat) (x0 : (List zC)) (x1 : (List zC)) : Option (Bool) :=
  (bif ((x0.length : Int) != (x1.length : Int)) then (some false) else ((QL n n x0 x1 0).bind fun o => match o with | .inl _ => (zAL n) | .inr r => some r))
theorem zKG (n : Nat) (x0 : (List zC)) (x1 : (List zC)) (r : Bool) (H : Jz n x0 x1 = some r) : zD Tryz.prog 188 [.val false [.sl false 3 (CV.frzEs (x0.map zC.row))],.val false [.sl false 3 (CV.frzEs (x1.map zC.row))]] [.val false [.lit (.bool r)]] [] := by
 refine cA Tryz.func188 (.seq (Rg Tryz.f188 0) (.seq (.seq (Rg Tryz.f188 1) (.cond (.tmp 10) (.seq (Rg Tryz.f188 2) .ret) .skip)) (.seq (.seq (Rg Tryz.f188 3) (.block 0 (.loop (.seq (.seq (Rg Tryz.f188 4) (.cond (.tmp 14) .skip (.exit 0))) (.seq (.block 1 (.seq (Rd Tryz.f188 6) (.cond (.tmp 26) (.seq (Rg Tryz.f188 7) .ret) .skip))) (Rg Tryz.f188 5)))))) (.seq (Rg Tryz.f188 8) .ret)))) [.tmp 4] fun cx => ?_
 unfold Jz at H
 refine gA 1 3 0 ?_
 refine tS ?_
 refine rA 1 ?_
 refine kF x0 zC.row ?_
 refine lA 1 ?_
 refine kF x1 zC.row ?_
 refine uA 1 1027 0 ?_
 obtain ⟨h1,H⟩ | ⟨h1,H⟩ := bC H
 ·refine nA h1 ?_
  refine tK ?_
  refine tS ?_
  refine gA 1 35 0 ?_
  obtain ⟨o2,eo2,Ho2⟩ := bs H
  clear H
  refine Tr.mid (ι := Unit) (fun v => ⟨27,0,[],[]⟩) (fun v => zAL n = some r) ?_ ?_
  ·refine tB ?_
   refine Tr.loop (ι := Nat × (Int)) (fun v => ⟨27,0,[sI 5 v.2,sC 0 (cF 3 x0 zC.row),sC 1 (cF 3 x1 zC.row)],[]⟩) (fun v => QL n v.1 x0 x1 v.2 = some o2) (fun v => v.1) (n,0) eo2 (St.sub_of [5,0,1] [] kr) ?_
   rintro ⟨mo2,y1⟩ H
   have H : QL n mo2 x0 x1 y1 = some o2 := H
   obtain _ | mo2 := mo2
   ·exact nN H
   rw [QL] at H
   refine tS ?_
   refine rA 2 ?_
   refine kF x0 zC.row ?_
   refine uA 1 16419 0 ?_
   obtain ⟨h2,H⟩ | ⟨h2,H⟩ := bC H
   ·refine nA h2 ?_
    refine Tr.exit ?_
    refine And.intro (fun _ => ?_) (fun h => absurd rfl h)
    obtain rfl := si H
    have H := Ho2
    dsimp only at H
    exact jA () H [] []
   refine tA h2 ?_
   refine tK ?_
   refine tS ?_
   refine tB ?_
   obtain ⟨v3,ev3,H⟩ := bs H
   obtain ⟨v4,ev4,H⟩ := bs H
   obtain ⟨r5,er5,H⟩ := bs H
   refine Tr.draws mixed 10 kr ⟨27,0,[sB 26 (!r5),sI 5 y1,sC 0 (cF 3 x0 zC.row),sC 1 (cF 3 x1 zC.row)],[]⟩ (fun cx => ?_) ?_
   ·refine aA [(0,[]),(1,[])] 8 [] fun cx => ?_
    refine aI tOk 2 37 0 17 18 19 none ⟨(.slot 17),[],0,false,3,(CV.frzEs (x0.map zC.row))⟩ y1 (zC.row v3) _ kr kr kr kr kr kr rfl (Zq ev3) rfl (fun cx => ?_)
    refine aA [(3,[]),(4,[]),(5,[])] 4 [] fun cx => ?_
    refine aI tOk 6 37 0 21 22 23 none ⟨(.slot 21),[],0,false,3,(CV.frzEs (x1.map zC.row))⟩ y1 (zC.row v4) _ kr kr kr kr kr kr rfl (Zq ev4) rfl (fun cx => ?_)
    refine aA [(7,[])] 2 [] fun cx => ?_
    refine bA 8 ?_
    refine vA [.rd,.rd] (zKy n v3 v4 r5 er5) ?_
    refine fA ?_
    refine aA [(9,[])] 0 [] fun cx => ?_
    exact eE [26,5,0,1] []
   refine sT ⟨27,0,[sB 26 (!r5),sI 5 y1,sC 0 (cF 3 x0 zC.row),sC 1 (cF 3 x1 zC.row)],[]⟩ ?_
   cases h3 : (!r5)
   ·have H := zG h3 H
    refine nB_ ?_
    refine tK ?_
    refine eA 3 35 0 ?_
    exact jB mo2 (IntKind.wrap .i64 (y1 + 1)) H [5,0,1] []
   have H := zH h3 H
   refine tB_ ?_
   refine gA 1 16 0 ?_
   refine te ?_
   obtain rfl := si H
   have H := Ho2
   dsimp only at H
   obtain rfl := si H
   exact fP [(false,[cB false])]
  rintro _ H
  have H : (zAL n) = some r := H
  unfold zAL at H
  refine gA 1 16 0 ?_
  exact te (by obtain rfl := si H; exact fP [(false,[cB true])])
 refine tA h1 ?_
 refine gA 1 16 0 ?_
 exact te (by obtain rfl := si H; exact fP [(false,[cB false])])
def zA2 (n : Nat) : Option (Bool) :=
  (some true)
def QW (n : Nat) : Nat → (List Int) → (List Int) → Int → Option ((Unit) ⊕ (Bool))
  | 0,_,_,_ => none
  | mo2 + 1,x0,x1,y1 => (bif (decide (y1 < (x0.length : Int))) then ((idx x0 y1).bind fun v3 => ((idx x1 y1).bind fun v4 => (bif (v3 != v4) then (some (Sum.inr false)) else (QW n mo2 x0 x1 (IntKind.wrap .i64 (y1 + 1)))))) else (some (Sum.inl ())))
def zAg (n : Nat) (x0 : (List Int)) (x1 : (List Int)) : Option (Bool) :=
  (bif ((x0.length : Int) != (x1.length : Int)) then (some false) else ((QW n n x0 x1 0).bind fun o => match o with | .inl _ => (zA2 n) | .inr r => some r))
theorem zKv (n : Nat) (x0 : (List Int)) (x1 : (List Int)) (r : Bool) (H : zAg n x0 x1 = some r) : zD Tryz.prog 189 [.val false [.sl false 1 (CV.frzEs (x0.map intRow))],.val false [.sl false 1 (CV.frzEs (x1.map intRow))]] [.val false [.lit (.bool r)]] [] := by
 refine cA Tryz.func189 (.seq (Rg Tryz.f189 0) (.seq (.seq (Rg Tryz.f189 1) (.cond (.tmp 10) (.seq (Rg Tryz.f189 2) .ret) .skip)) (.seq (.seq (Rg Tryz.f189 3) (.block 0 (.loop (.seq (.seq (Rg Tryz.f189 4) (.cond (.tmp 14) .skip (.exit 0))) (.seq (.block 1 (.seq (Rd Tryz.f189 6) (.cond (.tmp 25) (.seq (Rg Tryz.f189 7) .ret) .skip))) (Rg Tryz.f189 5)))))) (.seq (Rg Tryz.f189 8) .ret)))) [.tmp 4] fun cx => ?_
 unfold zAg at H
 refine gA 1 3 0 ?_
 refine tS ?_
 refine rA 1 ?_
 refine kF x0 intRow ?_
 refine lA 1 ?_
 refine kF x1 intRow ?_
 refine uA 1 1027 0 ?_
 obtain ⟨h1,H⟩ | ⟨h1,H⟩ := bC H
 ·refine nA h1 ?_
  refine tK ?_
  refine tS ?_
  refine gA 1 35 0 ?_
  obtain ⟨o2,eo2,Ho2⟩ := bs H
  clear H
  refine Tr.mid (ι := Unit) (fun v => ⟨26,0,[],[]⟩) (fun v => zA2 n = some r) ?_ ?_
  ·refine tB ?_
   refine Tr.loop (ι := Nat × (Int)) (fun v => ⟨26,0,[sI 5 v.2,sC 0 (cF 1 x0 intRow),sC 1 (cF 1 x1 intRow)],[]⟩) (fun v => QW n v.1 x0 x1 v.2 = some o2) (fun v => v.1) (n,0) eo2 (St.sub_of [5,0,1] [] kr) ?_
   rintro ⟨mo2,y1⟩ H
   have H : QW n mo2 x0 x1 y1 = some o2 := H
   obtain _ | mo2 := mo2
   ·exact nN H
   rw [QW] at H
   refine tS ?_
   refine rA 2 ?_
   refine kF x0 intRow ?_
   refine uA 1 16419 0 ?_
   obtain ⟨h2,H⟩ | ⟨h2,H⟩ := bC H
   ·refine nA h2 ?_
    refine Tr.exit ?_
    refine And.intro (fun _ => ?_) (fun h => absurd rfl h)
    obtain rfl := si H
    have H := Ho2
    dsimp only at H
    exact jA () H [] []
   refine tA h2 ?_
   refine tK ?_
   refine tS ?_
   refine tB ?_
   obtain ⟨v3,ev3,H⟩ := bs H
   obtain ⟨v4,ev4,H⟩ := bs H
   refine Tr.draws mixed 9 kr ⟨26,0,[sB 25 (v3 != v4),sI 5 y1,sC 0 (cF 1 x0 intRow),sC 1 (cF 1 x1 intRow)],[]⟩ (fun cx => ?_) ?_
   ·refine aA [(0,[]),(1,[])] 7 [] fun cx => ?_
    refine aI tOk 2 25 0 17 18 19 none ⟨(.slot 17),[],0,false,1,(CV.frzEs (x0.map intRow))⟩ y1 [cI v3] _ kr kr kr kr kr kr rfl (Zq ev3) rfl (fun cx => ?_)
    refine aA [(3,[]),(4,[]),(5,[])] 3 [] fun cx => ?_
    refine aI tOk 6 25 0 21 22 23 none ⟨(.slot 21),[],0,false,1,(CV.frzEs (x1.map intRow))⟩ y1 [cI v4] _ kr kr kr kr kr kr rfl (Zq ev4) rfl (fun cx => ?_)
    refine aA [(7,[]),(8,[])] 0 [] fun cx => ?_
    exact eE [25,5,0,1] []
   refine sT ⟨26,0,[sB 25 (v3 != v4),sI 5 y1,sC 0 (cF 1 x0 intRow),sC 1 (cF 1 x1 intRow)],[]⟩ ?_
   cases h3 : (v3 != v4)
   ·have H := zG h3 H
    refine nB_ ?_
    refine tK ?_
    refine eA 3 35 0 ?_
    exact jB mo2 (IntKind.wrap .i64 (y1 + 1)) H [5,0,1] []
   have H := zH h3 H
   refine tB_ ?_
   refine gA 1 16 0 ?_
   refine te ?_
   obtain rfl := si H
   have H := Ho2
   dsimp only at H
   obtain rfl := si H
   exact fP [(false,[cB false])]
  rintro _ H
  have H : (zA2 n) = some r := H
  unfold zA2 at H
  refine gA 1 16 0 ?_
  exact te (by obtain rfl := si H; exact fP [(false,[cB true])])
 refine tA h1 ?_
 refine gA 1 16 0 ?_
 exact te (by obtain rfl := si H; exact fP [(false,[cB false])])
def zAi (n : Nat) (x0 : zF) (x1 : zF) : Option (Bool) :=
  ((Jz n x0.Rows x1.Rows).bind fun r1 => (bif (!r1) then (some false) else ((zAg n x0.Pv x1.Pv).bind fun r2 => (bif (!r2) then (some false) else (some true)))))
theorem zKz (n : Nat) (x0 : zF) (x1 : zF) (r : Bool) (H : zAi n x0 x1 = some r) : zD Tryz.prog 92 [.val true (CV.frzRow (zF.row x0)),.val true (CV.frzRow (zF.row x1))] [.val false [.lit (.bool r)]] [] := by
 refine cA Tryz.func92 (.seq (Rg Tryz.f92 0) (.seq (.seq (Rg Tryz.f92 1) (.cond (.tmp 10) (.seq (Rg Tryz.f92 2) .ret) .skip)) (.seq (.seq (Rg Tryz.f92 3) (.cond (.tmp 16) (.seq (Rg Tryz.f92 4) .ret) .skip)) (.seq (Rg Tryz.f92 5) .ret)))) [.tmp 4] fun cx => ?_
 unfold zAi at H
 refine gA 3 12 12 ?_
 refine tS ?_
 refine rA 4 ?_
 obtain ⟨r1,er1,H⟩ := bs H
 refine vA [.rd,.rd] (zKG n x0.Rows x1.Rows r1 er1) ?_
 refine uA 1 1036 12 ?_
 obtain ⟨h1,H⟩ | ⟨h1,H⟩ := bC H
 ·refine nA h1 ?_
  refine tK ?_
  refine tS ?_
  refine rA 4 ?_
  obtain ⟨r2,er2,H⟩ := bs H
  refine vA [.rd,.rd] (zKv n x0.Pv x1.Pv r2 er2) ?_
  refine uA 1 65536 0 ?_
  obtain ⟨h2,H⟩ | ⟨h2,H⟩ := bC H
  ·refine nA h2 ?_
   refine tK ?_
   refine gA 1 16 0 ?_
   exact te (by obtain rfl := si H; exact fP [(false,[cB true])])
  refine tA h2 ?_
  refine gA 1 16 0 ?_
  exact te (by obtain rfl := si H; exact fP [(false,[cB false])])
 refine tA h1 ?_
 refine gA 1 16 0 ?_
 exact te (by obtain rfl := si H; exact fP [(false,[cB false])])
def Q8 (n : Nat) (x0 : zA) (x1 : zA) : Option (Bool) :=
  (bif (x0.Id != x1.Id) then (some false) else (bif (!(x0.Name.toList == x1.Name.toList)) then (some false) else ((zBM n x0.Ps x1.Ps).bind fun r1 => (bif (!r1) then (some false) else ((Jx n x0.F x1.F).bind fun r2 => (bif (!r2) then (some false) else ((zAi n x0.V x1.V).bind fun r3 => (bif (!r3) then (some false) else (bif (x0.Tk != x1.Tk) then (some false) else (bif (x0.Pa != x1.Pa) then (some false) else (bif (x0.Wo != x1.Wo) then (some false) else (bif (x0.Dr != x1.Dr) then (some false) else (bif (x0.Ve != x1.Ve) then (some false) else (some true))))))))))))))
theorem zJa (n : Nat) (x0 : zA) (x1 : zA) (r : Bool) (H : Q8 n x0 x1 = some r) : zD Tryz.prog 15 [.val true (CV.frzRow (zA.row x0)),.val true (CV.frzRow (zA.row x1))] [.val false [.lit (.bool r)]] [] := by
 refine cA Tryz.func15 (.seq (Rg Tryz.f15 0) (.seq (.seq (Rg Tryz.f15 1) (.cond (.tmp 9) (.seq (Rg Tryz.f15 2) .ret) .skip)) (.seq (.seq (Rg Tryz.f15 3) (.cond (.tmp 14) (.seq (Rg Tryz.f15 4) .ret) .skip)) (.seq (.seq (Rg Tryz.f15 5) (.cond (.tmp 20) (.seq (Rg Tryz.f15 6) .ret) .skip)) (.seq (.seq (Rg Tryz.f15 7) (.cond (.tmp 26) (.seq (Rg Tryz.f15 8) .ret) .skip)) (.seq (.seq (Rg Tryz.f15 9) (.cond (.tmp 32) (.seq (Rg Tryz.f15 10) .ret) .skip)) (.seq (.seq (Rg Tryz.f15 11) (.cond (.tmp 37) (.seq (Rg Tryz.f15 12) .ret) .skip)) (.seq (.seq (Rg Tryz.f15 13) (.cond (.tmp 42) (.seq (Rg Tryz.f15 14) .ret) .skip)) (.seq (.seq (Rg Tryz.f15 15) (.cond (.tmp 47) (.seq (Rg Tryz.f15 16) .ret) .skip)) (.seq (.seq (Rg Tryz.f15 17) (.cond (.tmp 52) (.seq (Rg Tryz.f15 18) .ret) .skip)) (.seq (.seq (Rg Tryz.f15 19) (.cond (.tmp 57) (.seq (Rg Tryz.f15 20) .ret) .skip)) (.seq (Rg Tryz.f15 21) .ret)))))))))))) [.tmp 4] fun cx => ?_
 unfold Q8 at H
 refine gA 3 12 12 ?_
 refine tS ?_
 refine gA 5 524 12 ?_
 obtain ⟨h1,H⟩ | ⟨h1,H⟩ := bC H
 ·refine nA h1 ?_
  refine tK ?_
  refine tS ?_
  refine gA 5 16396 12 ?_
  obtain ⟨h2,H⟩ | ⟨h2,H⟩ := bC H
  ·refine nA h2 ?_
   refine tK ?_
   refine tS ?_
   refine rA 4 ?_
   obtain ⟨r1,er1,H⟩ := bs H
   refine vA [.rd,.rd] (zLx n x0.Ps x1.Ps r1 er1) ?_
   refine uA 1 1048588 12 ?_
   obtain ⟨h3,H⟩ | ⟨h3,H⟩ := bC H
   ·refine nA h3 ?_
    refine tK ?_
    refine tS ?_
    refine rA 4 ?_
    obtain ⟨r2,er2,H⟩ := bs H
    refine vA [.rd,.rd] (zKE n x0.F x1.F r2 er2) ?_
    refine uA 1 67108876 12 ?_
    obtain ⟨h4,H⟩ | ⟨h4,H⟩ := bC H
    ·refine nA h4 ?_
     refine tK ?_
     refine tS ?_
     refine rA 4 ?_
     obtain ⟨r3,er3,H⟩ := bs H
     refine vA [.rd,.rd] (zKz n x0.V x1.V r3 er3) ?_
     refine uA 1 4294967308 12 ?_
     obtain ⟨h5,H⟩ | ⟨h5,H⟩ := bC H
     ·refine nA h5 ?_
      refine tK ?_
      refine tS ?_
      refine gA 5 137438953484 12 ?_
      refine sT ⟨58,0,[sB 37 (x0.Tk != x1.Tk),sA 3 3 11 0,sA 2 2 11 0],[(3,(CV.frzRow (zA.row x1))),(2,(CV.frzRow (zA.row x0)))]⟩ ?_
      cases h6 : (x0.Tk != x1.Tk)
      ·have H := zG h6 H
       refine nB_ ?_
       refine tK ?_
       refine tS ?_
       refine gA 5 4398046511116 12 ?_
       obtain ⟨h7,H⟩ | ⟨h7,H⟩ := bC H
       ·refine nA h7 ?_
        refine tK ?_
        refine tS ?_
        refine gA 5 0x80000000000c 12 ?_
        obtain ⟨h8,H⟩ | ⟨h8,H⟩ := bC H
        ·refine nA h8 ?_
         refine tK ?_
         refine tS ?_
         refine gA 5 4503599627370508 12 ?_
         obtain ⟨h9,H⟩ | ⟨h9,H⟩ := bC H
         ·refine nA h9 ?_
          refine tK ?_
          refine tS ?_
          refine gA 5 0x200000000000000 0 ?_
          obtain ⟨h10,H⟩ | ⟨h10,H⟩ := bC H
          ·refine nA h10 ?_
           refine tK ?_
           refine gA 1 16 0 ?_
           exact te (by obtain rfl := si H; exact fP [(false,[cB true])])
          refine tA h10 ?_
          refine gA 1 16 0 ?_
          exact te (by obtain rfl := si H; exact fP [(false,[cB false])])
         refine tA h9 ?_
         refine gA 1 16 0 ?_
         exact te (by obtain rfl := si H; exact fP [(false,[cB false])])
        refine tA h8 ?_
        refine gA 1 16 0 ?_
        exact te (by obtain rfl := si H; exact fP [(false,[cB false])])
       refine tA h7 ?_
       refine gA 1 16 0 ?_
       exact te (by obtain rfl := si H; exact fP [(false,[cB false])])
      have H := zH h6 H
      refine tB_ ?_
      refine gA 1 16 0 ?_
      exact te (by obtain rfl := si H; exact fP [(false,[cB false])])
     refine tA h5 ?_
     refine gA 1 16 0 ?_
     exact te (by obtain rfl := si H; exact fP [(false,[cB false])])
    refine tA h4 ?_
    refine gA 1 16 0 ?_
    exact te (by obtain rfl := si H; exact fP [(false,[cB false])])
   refine tA h3 ?_
   refine gA 1 16 0 ?_
   exact te (by obtain rfl := si H; exact fP [(false,[cB false])])
  refine tA h2 ?_
  refine gA 1 16 0 ?_
  exact te (by obtain rfl := si H; exact fP [(false,[cB false])])
 refine tA h1 ?_
 refine gA 1 16 0 ?_
 exact te (by obtain rfl := si H; exact fP [(false,[cB false])])
def Y4 (n : Nat) : Option (Bool) :=
  (some true)
def Zi (n : Nat) : Nat → (List zA) → (List zA) → Int → Option ((Unit) ⊕ (Bool))
  | 0,_,_,_ => none
  | mo2 + 1,x0,x1,y1 => (bif (decide (y1 < (x0.length : Int))) then ((idx x0 y1).bind fun v3 => ((idx x1 y1).bind fun v4 => ((Q8 n v3 v4).bind fun r5 => (bif (!r5) then (some (Sum.inr false)) else (Zi n mo2 x0 x1 (IntKind.wrap .i64 (y1 + 1))))))) else (some (Sum.inl ())))
def Yk (n : Nat) (x0 : (List zA)) (x1 : (List zA)) : Option (Bool) :=
  (bif ((x0.length : Int) != (x1.length : Int)) then (some false) else ((Zi n n x0 x1 0).bind fun o => match o with | .inl _ => (Y4 n) | .inr r => some r))
theorem zIb (n : Nat) (x0 : (List zA)) (x1 : (List zA)) (r : Bool) (H : Yk n x0 x1 = some r) : zD Tryz.prog 121 [.val false [.sl false 11 (CV.frzEs (x0.map zA.row))],.val false [.sl false 11 (CV.frzEs (x1.map zA.row))]] [.val false [.lit (.bool r)]] [] := by
 refine cA Tryz.func121 (.seq (Rg Tryz.f121 0) (.seq (.seq (Rg Tryz.f121 1) (.cond (.tmp 10) (.seq (Rg Tryz.f121 2) .ret) .skip)) (.seq (.seq (Rg Tryz.f121 3) (.block 0 (.loop (.seq (.seq (Rg Tryz.f121 4) (.cond (.tmp 14) .skip (.exit 0))) (.seq (.block 1 (.seq (Rd Tryz.f121 6) (.cond (.tmp 26) (.seq (Rg Tryz.f121 7) .ret) .skip))) (Rg Tryz.f121 5)))))) (.seq (Rg Tryz.f121 8) .ret)))) [.tmp 4] fun cx => ?_
 unfold Yk at H
 refine gA 1 3 0 ?_
 refine tS ?_
 refine rA 1 ?_
 refine kF x0 zA.row ?_
 refine lA 1 ?_
 refine kF x1 zA.row ?_
 refine uA 1 1027 0 ?_
 obtain ⟨h1,H⟩ | ⟨h1,H⟩ := bC H
 ·refine nA h1 ?_
  refine tK ?_
  refine tS ?_
  refine gA 1 35 0 ?_
  obtain ⟨o2,eo2,Ho2⟩ := bs H
  clear H
  refine Tr.mid (ι := Unit) (fun v => ⟨27,0,[],[]⟩) (fun v => Y4 n = some r) ?_ ?_
  ·refine tB ?_
   refine Tr.loop (ι := Nat × (Int)) (fun v => ⟨27,0,[sI 5 v.2,sC 0 (cF 11 x0 zA.row),sC 1 (cF 11 x1 zA.row)],[]⟩) (fun v => Zi n v.1 x0 x1 v.2 = some o2) (fun v => v.1) (n,0) eo2 (St.sub_of [5,0,1] [] kr) ?_
   rintro ⟨mo2,y1⟩ H
   have H : Zi n mo2 x0 x1 y1 = some o2 := H
   obtain _ | mo2 := mo2
   ·exact nN H
   rw [Zi] at H
   refine tS ?_
   refine rA 2 ?_
   refine kF x0 zA.row ?_
   refine uA 1 16419 0 ?_
   obtain ⟨h2,H⟩ | ⟨h2,H⟩ := bC H
   ·refine nA h2 ?_
    refine Tr.exit ?_
    refine And.intro (fun _ => ?_) (fun h => absurd rfl h)
    obtain rfl := si H
    have H := Ho2
    dsimp only at H
    exact jA () H [] []
   refine tA h2 ?_
   refine tK ?_
   refine tS ?_
   refine tB ?_
   obtain ⟨v3,ev3,H⟩ := bs H
   obtain ⟨v4,ev4,H⟩ := bs H
   obtain ⟨r5,er5,H⟩ := bs H
   refine Tr.draws mixed 10 kr ⟨27,0,[sB 26 (!r5),sI 5 y1,sC 0 (cF 11 x0 zA.row),sC 1 (cF 11 x1 zA.row)],[]⟩ (fun cx => ?_) ?_
   ·refine aA [(0,[]),(1,[])] 8 [] fun cx => ?_
    refine aI tOk 2 63 0 17 18 19 none ⟨(.slot 17),[],0,false,11,(CV.frzEs (x0.map zA.row))⟩ y1 (CV.frzRow (zA.row v3)) _ kr kr kr kr kr kr rfl (Zq ev3) rfl (fun cx => ?_)
    refine aA [(3,[]),(4,[]),(5,[])] 4 [] fun cx => ?_
    refine aI tOk 6 63 0 21 22 23 none ⟨(.slot 21),[],0,false,11,(CV.frzEs (x1.map zA.row))⟩ y1 (CV.frzRow (zA.row v4)) _ kr kr kr kr kr kr rfl (Zq ev4) rfl (fun cx => ?_)
    refine aA [(7,[])] 2 [] fun cx => ?_
    refine bA 8 ?_
    refine vA [.rd,.rd] (zJa n v3 v4 r5 er5) ?_
    refine fA ?_
    refine aA [(9,[])] 0 [] fun cx => ?_
    exact eE [26,5,0,1] []
   refine sT ⟨27,0,[sB 26 (!r5),sI 5 y1,sC 0 (cF 11 x0 zA.row),sC 1 (cF 11 x1 zA.row)],[]⟩ ?_
   cases h3 : (!r5)
   ·have H := zG h3 H
    refine nB_ ?_
    refine tK ?_
    refine eA 3 35 0 ?_
    exact jB mo2 (IntKind.wrap .i64 (y1 + 1)) H [5,0,1] []
   have H := zH h3 H
   refine tB_ ?_
   refine gA 1 16 0 ?_
   refine te ?_
   obtain rfl := si H
   have H := Ho2
   dsimp only at H
   obtain rfl := si H
   exact fP [(false,[cB false])]
  rintro _ H
  have H : (Y4 n) = some r := H
  unfold Y4 at H
  refine gA 1 16 0 ?_
  exact te (by obtain rfl := si H; exact fP [(false,[cB true])])
 refine tA h1 ?_
 refine gA 1 16 0 ?_
 exact te (by obtain rfl := si H; exact fP [(false,[cB false])])
def JO (n : Nat) (x0 : Link) (x1 : Link) : Option (Bool) :=
  (bif (x0.A != x1.A) then (some false) else (bif (x0.P != x1.P) then (some false) else (bif (x0.B != x1.B) then (some false) else (bif (x0.Q != x1.Q) then (some false) else (some true)))))
theorem zKw (n : Nat) (x0 : Link) (x1 : Link) (r : Bool) (H : JO n x0 x1 = some r) : zD Tryz.prog 204 [.val true (CV.frzRow (Link.row x0)),.val true (CV.frzRow (Link.row x1))] [.val false [.lit (.bool r)]] [] := by
 refine cA Tryz.func204 (.seq (Rg Tryz.f204 0) (.seq (.seq (Rg Tryz.f204 1) (.cond (.tmp 9) (.seq (Rg Tryz.f204 2) .ret) .skip)) (.seq (.seq (Rg Tryz.f204 3) (.cond (.tmp 14) (.seq (Rg Tryz.f204 4) .ret) .skip)) (.seq (.seq (Rg Tryz.f204 5) (.cond (.tmp 19) (.seq (Rg Tryz.f204 6) .ret) .skip)) (.seq (.seq (Rg Tryz.f204 7) (.cond (.tmp 24) (.seq (Rg Tryz.f204 8) .ret) .skip)) (.seq (Rg Tryz.f204 9) .ret)))))) [.tmp 4] fun cx => ?_
 unfold JO at H
 refine gA 3 12 12 ?_
 refine tS ?_
 refine gA 5 524 12 ?_
 obtain ⟨h1,H⟩ | ⟨h1,H⟩ := bC H
 ·refine nA h1 ?_
  refine tK ?_
  refine tS ?_
  refine gA 5 16396 12 ?_
  obtain ⟨h2,H⟩ | ⟨h2,H⟩ := bC H
  ·refine nA h2 ?_
   refine tK ?_
   refine tS ?_
   refine gA 5 524300 12 ?_
   obtain ⟨h3,H⟩ | ⟨h3,H⟩ := bC H
   ·refine nA h3 ?_
    refine tK ?_
    refine tS ?_
    refine gA 5 16777216 0 ?_
    obtain ⟨h4,H⟩ | ⟨h4,H⟩ := bC H
    ·refine nA h4 ?_
     refine tK ?_
     refine gA 1 16 0 ?_
     exact te (by obtain rfl := si H; exact fP [(false,[cB true])])
    refine tA h4 ?_
    refine gA 1 16 0 ?_
    exact te (by obtain rfl := si H; exact fP [(false,[cB false])])
   refine tA h3 ?_
   refine gA 1 16 0 ?_
   exact te (by obtain rfl := si H; exact fP [(false,[cB false])])
  refine tA h2 ?_
  refine gA 1 16 0 ?_
  exact te (by obtain rfl := si H; exact fP [(false,[cB false])])
 refine tA h1 ?_
 refine gA 1 16 0 ?_
 exact te (by obtain rfl := si H; exact fP [(false,[cB false])])
def zAK (n : Nat) : Option (Bool) :=
  (some true)
def QK (n : Nat) : Nat → (List Link) → (List Link) → Int → Option ((Unit) ⊕ (Bool))
  | 0,_,_,_ => none
  | mo2 + 1,x0,x1,y1 => (bif (decide (y1 < (x0.length : Int))) then ((idx x0 y1).bind fun v3 => ((idx x1 y1).bind fun v4 => ((JO n v3 v4).bind fun r5 => (bif (!r5) then (some (Sum.inr false)) else (QK n mo2 x0 x1 (IntKind.wrap .i64 (y1 + 1))))))) else (some (Sum.inl ())))
def Jy (n : Nat) (x0 : (List Link)) (x1 : (List Link)) : Option (Bool) :=
  (bif ((x0.length : Int) != (x1.length : Int)) then (some false) else ((QK n n x0 x1 0).bind fun o => match o with | .inl _ => (zAK n) | .inr r => some r))
theorem zKF (n : Nat) (x0 : (List Link)) (x1 : (List Link)) (r : Bool) (H : Jy n x0 x1 = some r) : zD Tryz.prog 122 [.val false [.sl false 4 (CV.frzEs (x0.map Link.row))],.val false [.sl false 4 (CV.frzEs (x1.map Link.row))]] [.val false [.lit (.bool r)]] [] := by
 refine cA Tryz.func122 (.seq (Rg Tryz.f122 0) (.seq (.seq (Rg Tryz.f122 1) (.cond (.tmp 10) (.seq (Rg Tryz.f122 2) .ret) .skip)) (.seq (.seq (Rg Tryz.f122 3) (.block 0 (.loop (.seq (.seq (Rg Tryz.f122 4) (.cond (.tmp 14) .skip (.exit 0))) (.seq (.block 1 (.seq (Rd Tryz.f122 6) (.cond (.tmp 26) (.seq (Rg Tryz.f122 7) .ret) .skip))) (Rg Tryz.f122 5)))))) (.seq (Rg Tryz.f122 8) .ret)))) [.tmp 4] fun cx => ?_
 unfold Jy at H
 refine gA 1 3 0 ?_
 refine tS ?_
 refine rA 1 ?_
 refine kF x0 Link.row ?_
 refine lA 1 ?_
 refine kF x1 Link.row ?_
 refine uA 1 1027 0 ?_
 obtain ⟨h1,H⟩ | ⟨h1,H⟩ := bC H
 ·refine nA h1 ?_
  refine tK ?_
  refine tS ?_
  refine gA 1 35 0 ?_
  obtain ⟨o2,eo2,Ho2⟩ := bs H
  clear H
  refine Tr.mid (ι := Unit) (fun v => ⟨27,0,[],[]⟩) (fun v => zAK n = some r) ?_ ?_
  ·refine tB ?_
   refine Tr.loop (ι := Nat × (Int)) (fun v => ⟨27,0,[sI 5 v.2,sC 0 (cF 4 x0 Link.row),sC 1 (cF 4 x1 Link.row)],[]⟩) (fun v => QK n v.1 x0 x1 v.2 = some o2) (fun v => v.1) (n,0) eo2 (St.sub_of [5,0,1] [] kr) ?_
   rintro ⟨mo2,y1⟩ H
   have H : QK n mo2 x0 x1 y1 = some o2 := H
   obtain _ | mo2 := mo2
   ·exact nN H
   rw [QK] at H
   refine tS ?_
   refine rA 2 ?_
   refine kF x0 Link.row ?_
   refine uA 1 16419 0 ?_
   obtain ⟨h2,H⟩ | ⟨h2,H⟩ := bC H
   ·refine nA h2 ?_
    refine Tr.exit ?_
    refine And.intro (fun _ => ?_) (fun h => absurd rfl h)
    obtain rfl := si H
    have H := Ho2
    dsimp only at H
    exact jA () H [] []
   refine tA h2 ?_
   refine tK ?_
   refine tS ?_
   refine tB ?_
   obtain ⟨v3,ev3,H⟩ := bs H
   obtain ⟨v4,ev4,H⟩ := bs H
   obtain ⟨r5,er5,H⟩ := bs H
   refine Tr.draws mixed 10 kr ⟨27,0,[sB 26 (!r5),sI 5 y1,sC 0 (cF 4 x0 Link.row),sC 1 (cF 4 x1 Link.row)],[]⟩ (fun cx => ?_) ?_
   ·refine aA [(0,[]),(1,[])] 8 [] fun cx => ?_
    refine aI tOk 2 64 0 17 18 19 none ⟨(.slot 17),[],0,false,4,(CV.frzEs (x0.map Link.row))⟩ y1 (Link.row v3) _ kr kr kr kr kr kr rfl (Zq ev3) rfl (fun cx => ?_)
    refine aA [(3,[]),(4,[]),(5,[])] 4 [] fun cx => ?_
    refine aI tOk 6 64 0 21 22 23 none ⟨(.slot 21),[],0,false,4,(CV.frzEs (x1.map Link.row))⟩ y1 (Link.row v4) _ kr kr kr kr kr kr rfl (Zq ev4) rfl (fun cx => ?_)
    refine aA [(7,[])] 2 [] fun cx => ?_
    refine bA 8 ?_
    refine vA [.rd,.rd] (zKw n v3 v4 r5 er5) ?_
    refine fA ?_
    refine aA [(9,[])] 0 [] fun cx => ?_
    exact eE [26,5,0,1] []
   refine sT ⟨27,0,[sB 26 (!r5),sI 5 y1,sC 0 (cF 4 x0 Link.row),sC 1 (cF 4 x1 Link.row)],[]⟩ ?_
   cases h3 : (!r5)
   ·have H := zG h3 H
    refine nB_ ?_
    refine tK ?_
    refine eA 3 35 0 ?_
    exact jB mo2 (IntKind.wrap .i64 (y1 + 1)) H [5,0,1] []
   have H := zH h3 H
   refine tB_ ?_
   refine gA 1 16 0 ?_
   refine te ?_
   obtain rfl := si H
   have H := Ho2
   dsimp only at H
   obtain rfl := si H
   exact fP [(false,[cB false])]
  rintro _ H
  have H : (zAK n) = some r := H
  unfold zAK at H
  refine gA 1 16 0 ?_
  exact te (by obtain rfl := si H; exact fP [(false,[cB true])])
 refine tA h1 ?_
 refine gA 1 16 0 ?_
 exact te (by obtain rfl := si H; exact fP [(false,[cB false])])
def zAA (n : Nat) (x0 : Say) (x1 : Say) : Option (Bool) :=
  (bif (x0.Link != x1.Link) then (some false) else (bif (!(x0.Back == x1.Back)) then (some false) else ((zAB n x0.V x1.V).bind fun r1 => (bif (!r1) then (some false) else (some true)))))
theorem zLy (n : Nat) (x0 : Say) (x1 : Say) (r : Bool) (H : zAA n x0 x1 = some r) : zD Tryz.prog 205 [.val true (CV.frzRow (Say.row x0)),.val true (CV.frzRow (Say.row x1))] [.val false [.lit (.bool r)]] [] := by
 refine cA Tryz.func205 (.seq (Rg Tryz.f205 0) (.seq (.seq (Rg Tryz.f205 1) (.cond (.tmp 9) (.seq (Rg Tryz.f205 2) .ret) .skip)) (.seq (.seq (Rg Tryz.f205 3) (.cond (.tmp 14) (.seq (Rg Tryz.f205 4) .ret) .skip)) (.seq (.seq (Rg Tryz.f205 5) (.cond (.tmp 20) (.seq (Rg Tryz.f205 6) .ret) .skip)) (.seq (Rg Tryz.f205 7) .ret))))) [.tmp 4] fun cx => ?_
 unfold zAA at H
 refine gA 3 12 12 ?_
 refine tS ?_
 refine gA 5 524 12 ?_
 obtain ⟨h1,H⟩ | ⟨h1,H⟩ := bC H
 ·refine nA h1 ?_
  refine tK ?_
  refine tS ?_
  refine gA 5 16396 12 ?_
  obtain ⟨h2,H⟩ | ⟨h2,H⟩ := bC H
  ·refine nA h2 ?_
   refine tK ?_
   refine tS ?_
   refine rA 4 ?_
   obtain ⟨r1,er1,H⟩ := bs H
   refine vA [.rd,.rd] (zHu n x0.V x1.V r1 er1) ?_
   refine uA 1 1048576 0 ?_
   obtain ⟨h3,H⟩ | ⟨h3,H⟩ := bC H
   ·refine nA h3 ?_
    refine tK ?_
    refine gA 1 16 0 ?_
    exact te (by obtain rfl := si H; exact fP [(false,[cB true])])
   refine tA h3 ?_
   refine gA 1 16 0 ?_
   exact te (by obtain rfl := si H; exact fP [(false,[cB false])])
  refine tA h2 ?_
  refine gA 1 16 0 ?_
  exact te (by obtain rfl := si H; exact fP [(false,[cB false])])
 refine tA h1 ?_
 refine gA 1 16 0 ?_
 exact te (by obtain rfl := si H; exact fP [(false,[cB false])])
def zA4 (n : Nat) : Option (Bool) :=
  (some true)
def QX (n : Nat) : Nat → (List Say) → (List Say) → Int → Option ((Unit) ⊕ (Bool))
  | 0,_,_,_ => none
  | mo2 + 1,x0,x1,y1 => (bif (decide (y1 < (x0.length : Int))) then ((idx x0 y1).bind fun v3 => ((idx x1 y1).bind fun v4 => ((zAA n v3 v4).bind fun r5 => (bif (!r5) then (some (Sum.inr false)) else (QX n mo2 x0 x1 (IntKind.wrap .i64 (y1 + 1))))))) else (some (Sum.inl ())))
def zAh (n : Nat) (x0 : (List Say)) (x1 : (List Say)) : Option (Bool) :=
  (bif ((x0.length : Int) != (x1.length : Int)) then (some false) else ((QX n n x0 x1 0).bind fun o => match o with | .inl _ => (zA4 n) | .inr r => some r))
theorem zKx (n : Nat) (x0 : (List Say)) (x1 : (List Say)) (r : Bool) (H : zAh n x0 x1 = some r) : zD Tryz.prog 123 [.val false [.sl false 7 (CV.frzEs (x0.map Say.row))],.val false [.sl false 7 (CV.frzEs (x1.map Say.row))]] [.val false [.lit (.bool r)]] [] := by
 refine cA Tryz.func123 (.seq (Rg Tryz.f123 0) (.seq (.seq (Rg Tryz.f123 1) (.cond (.tmp 10) (.seq (Rg Tryz.f123 2) .ret) .skip)) (.seq (.seq (Rg Tryz.f123 3) (.block 0 (.loop (.seq (.seq (Rg Tryz.f123 4) (.cond (.tmp 14) .skip (.exit 0))) (.seq (.block 1 (.seq (Rd Tryz.f123 6) (.cond (.tmp 26) (.seq (Rg Tryz.f123 7) .ret) .skip))) (Rg Tryz.f123 5)))))) (.seq (Rg Tryz.f123 8) .ret)))) [.tmp 4] fun cx => ?_
 unfold zAh at H
 refine gA 1 3 0 ?_
 refine tS ?_
 refine rA 1 ?_
 refine kF x0 Say.row ?_
 refine lA 1 ?_
 refine kF x1 Say.row ?_
 refine uA 1 1027 0 ?_
 obtain ⟨h1,H⟩ | ⟨h1,H⟩ := bC H
 ·refine nA h1 ?_
  refine tK ?_
  refine tS ?_
  refine gA 1 35 0 ?_
  obtain ⟨o2,eo2,Ho2⟩ := bs H
  clear H
  refine Tr.mid (ι := Unit) (fun v => ⟨27,0,[],[]⟩) (fun v => zA4 n = some r) ?_ ?_
  ·refine tB ?_
   refine Tr.loop (ι := Nat × (Int)) (fun v => ⟨27,0,[sI 5 v.2,sC 0 (cF 7 x0 Say.row),sC 1 (cF 7 x1 Say.row)],[]⟩) (fun v => QX n v.1 x0 x1 v.2 = some o2) (fun v => v.1) (n,0) eo2 (St.sub_of [5,0,1] [] kr) ?_
   rintro ⟨mo2,y1⟩ H
   have H : QX n mo2 x0 x1 y1 = some o2 := H
   obtain _ | mo2 := mo2
   ·exact nN H
   rw [QX] at H
   refine tS ?_
   refine rA 2 ?_
   refine kF x0 Say.row ?_
   refine uA 1 16419 0 ?_
   obtain ⟨h2,H⟩ | ⟨h2,H⟩ := bC H
   ·refine nA h2 ?_
    refine Tr.exit ?_
    refine And.intro (fun _ => ?_) (fun h => absurd rfl h)
    obtain rfl := si H
    have H := Ho2
    dsimp only at H
    exact jA () H [] []
   refine tA h2 ?_
   refine tK ?_
   refine tS ?_
   refine tB ?_
   obtain ⟨v3,ev3,H⟩ := bs H
   obtain ⟨v4,ev4,H⟩ := bs H
   obtain ⟨r5,er5,H⟩ := bs H
   refine Tr.draws mixed 10 kr ⟨27,0,[sB 26 (!r5),sI 5 y1,sC 0 (cF 7 x0 Say.row),sC 1 (cF 7 x1 Say.row)],[]⟩ (fun cx => ?_) ?_
   ·refine aA [(0,[]),(1,[])] 8 [] fun cx => ?_
    refine aI tOk 2 65 0 17 18 19 none ⟨(.slot 17),[],0,false,7,(CV.frzEs (x0.map Say.row))⟩ y1 (Say.row v3) _ kr kr kr kr kr kr rfl (Zq ev3) rfl (fun cx => ?_)
    refine aA [(3,[]),(4,[]),(5,[])] 4 [] fun cx => ?_
    refine aI tOk 6 65 0 21 22 23 none ⟨(.slot 21),[],0,false,7,(CV.frzEs (x1.map Say.row))⟩ y1 (Say.row v4) _ kr kr kr kr kr kr rfl (Zq ev4) rfl (fun cx => ?_)
    refine aA [(7,[])] 2 [] fun cx => ?_
    refine bA 8 ?_
    refine vA [.rd,.rd] (zLy n v3 v4 r5 er5) ?_
    refine fA ?_
    refine aA [(9,[])] 0 [] fun cx => ?_
    exact eE [26,5,0,1] []
   refine sT ⟨27,0,[sB 26 (!r5),sI 5 y1,sC 0 (cF 7 x0 Say.row),sC 1 (cF 7 x1 Say.row)],[]⟩ ?_
   cases h3 : (!r5)
   ·have H := zG h3 H
    refine nB_ ?_
    refine tK ?_
    refine eA 3 35 0 ?_
    exact jB mo2 (IntKind.wrap .i64 (y1 + 1)) H [5,0,1] []
   have H := zH h3 H
   refine tB_ ?_
   refine gA 1 16 0 ?_
   refine te ?_
   obtain rfl := si H
   have H := Ho2
   dsimp only at H
   obtain rfl := si H
   exact fP [(false,[cB false])]
  rintro _ H
  have H : (zA4 n) = some r := H
  unfold zA4 at H
  refine gA 1 16 0 ?_
  exact te (by obtain rfl := si H; exact fP [(false,[cB true])])
 refine tA h1 ?_
 refine gA 1 16 0 ?_
 exact te (by obtain rfl := si H; exact fP [(false,[cB false])])
def Q4 (n : Nat) (x0 : Net) (x1 : Net) : Option (Bool) :=
  ((Yk n x0.Bs x1.Bs).bind fun r1 => (bif (!r1) then (some false) else ((Jy n x0.Ls x1.Ls).bind fun r2 => (bif (!r2) then (some false) else ((zAh n x0.Said x1.Said).bind fun r3 => (bif (!r3) then (some false) else (some true)))))))
theorem zDS (n : Nat) (x0 : Net) (x1 : Net) (r : Bool) (H : Q4 n x0 x1 = some r) : zD Tryz.prog 28 [.val true (CV.frzRow (Net.row x0)),.val true (CV.frzRow (Net.row x1))] [.val false [.lit (.bool r)]] [] := by
 refine cA Tryz.func28 (.seq (Rg Tryz.f28 0) (.seq (.seq (Rg Tryz.f28 1) (.cond (.tmp 10) (.seq (Rg Tryz.f28 2) .ret) .skip)) (.seq (.seq (Rg Tryz.f28 3) (.cond (.tmp 16) (.seq (Rg Tryz.f28 4) .ret) .skip)) (.seq (.seq (Rg Tryz.f28 5) (.cond (.tmp 22) (.seq (Rg Tryz.f28 6) .ret) .skip)) (.seq (Rg Tryz.f28 7) .ret))))) [.tmp 4] fun cx => ?_
 unfold Q4 at H
 refine gA 3 12 12 ?_
 refine tS ?_
 refine rA 4 ?_
 obtain ⟨r1,er1,H⟩ := bs H
 refine vA [.rd,.rd] (zIb n x0.Bs x1.Bs r1 er1) ?_
 refine uA 1 1036 12 ?_
 obtain ⟨h1,H⟩ | ⟨h1,H⟩ := bC H
 ·refine nA h1 ?_
  refine tK ?_
  refine tS ?_
  refine rA 4 ?_
  obtain ⟨r2,er2,H⟩ := bs H
  refine vA [.rd,.rd] (zKF n x0.Ls x1.Ls r2 er2) ?_
  refine uA 1 65548 12 ?_
  obtain ⟨h2,H⟩ | ⟨h2,H⟩ := bC H
  ·refine nA h2 ?_
   refine tK ?_
   refine tS ?_
   refine rA 4 ?_
   obtain ⟨r3,er3,H⟩ := bs H
   refine vA [.rd,.rd] (zKx n x0.Said x1.Said r3 er3) ?_
   refine uA 1 4194304 0 ?_
   obtain ⟨h3,H⟩ | ⟨h3,H⟩ := bC H
   ·refine nA h3 ?_
    refine tK ?_
    refine gA 1 16 0 ?_
    exact te (by obtain rfl := si H; exact fP [(false,[cB true])])
   refine tA h3 ?_
   refine gA 1 16 0 ?_
   exact te (by obtain rfl := si H; exact fP [(false,[cB false])])
  refine tA h2 ?_
  refine gA 1 16 0 ?_
  exact te (by obtain rfl := si H; exact fP [(false,[cB false])])
 refine tA h1 ?_
 refine gA 1 16 0 ?_
 exact te (by obtain rfl := si H; exact fP [(false,[cB false])])
def YK (n : Nat) (y3 : ByteArray) : Option (ByteArray) :=
  (bif (decide ((⟨#[109]⟩ : ByteArray).size + y3.size ≤ 268435456)) then (some ((⟨#[109]⟩ : ByteArray) ++ y3)) else none)
def Z7 (n : Nat) : Nat → ByteArray → Int → Option ((ByteArray) ⊕ (ByteArray))
  | 0,_,_ => none
  | mo5 + 1,y1,y2 => (bif (decide (y2 > 0)) then (bif (decide ((10 : Int) ≠ 0)) then (bif (decide ((strOf [(IntKind.wrap .u8 (IntKind.wrap .i64 (48 + (Int.tmod y2 10))))]).size + y1.size ≤ 268435456)) then (bif (decide ((10 : Int) ≠ 0)) then (Z7 n mo5 ((strOf [(IntKind.wrap .u8 (IntKind.wrap .i64 (48 + (Int.tmod y2 10))))]) ++ y1) (IntKind.wrap .i64 (Int.tdiv y2 10))) else none) else none) else none) else (some (Sum.inl y1)))
def Q9 (n : Nat) (x0 : Int) : Option (ByteArray) :=
  (bif (decide (x0 ≤ 0)) then (some (⟨#[109,48]⟩ : ByteArray)) else ((Z7 n n (⟨#[]⟩ : ByteArray) x0).bind fun o => match o with | .inl y3 => (YK n y3) | .inr r => some r))
theorem zFF (n : Nat) (x0 : Int) (r : ByteArray) (H : Q9 n x0 = some r) : zD Tryz.prog 206 [.val false [.lit (.int .i64 x0)]] [.val false [.lit (.string r)]] [] := by
 refine cA Tryz.func206 (.seq (Rg Tryz.f206 0) (.seq (.seq (Rg Tryz.f206 1) (.cond (.tmp 5) (.seq (Rg Tryz.f206 2) .ret) .skip)) (.seq (Rg Tryz.f206 3) (.seq (.block 0 (.loop (.seq (.seq (Rg Tryz.f206 4) (.cond (.tmp 7) .skip (.exit 0))) (.block 1 (.seq (Rg Tryz.f206 5) (Rg Tryz.f206 6)))))) (.seq (Rg Tryz.f206 7) .ret))))) [.tmp 2] fun cx => ?_
 unfold Q9 at H
 refine gA 1 1 0 ?_
 refine tS ?_
 refine gA 2 33 0 ?_
 obtain ⟨h1,H⟩ | ⟨h1,H⟩ := bC H
 ·refine nA h1 ?_
  refine tK ?_
  refine gA 1 9 0 ?_
  refine tS ?_
  obtain ⟨o5,eo5,Ho5⟩ := bs H
  clear H
  refine Tr.mid (ι := ByteArray) (fun v => ⟨20,0,[sC 3 (cS v)],[]⟩) (fun v => YK n v = some r) ?_ ?_
  ·refine tB ?_
   refine Tr.loop (ι := Nat × (ByteArray × Int)) (fun v => ⟨20,0,[sC 3 (cS v.2.1),sI 0 v.2.2],[]⟩) (fun v => Z7 n v.1 v.2.1 v.2.2 = some o5) (fun v => v.1) (n,((⟨#[]⟩ : ByteArray),x0)) eo5 (St.sub_of [3,0] [] kr) ?_
   rintro ⟨mo5,y1,y2⟩ H
   have H : Z7 n mo5 y1 y2 = some o5 := H
   obtain _ | mo5 := mo5
   ·exact nN H
   rw [Z7] at H
   refine tS ?_
   refine gA 2 137 0 ?_
   obtain ⟨h2,H⟩ | ⟨h2,H⟩ := bC H
   ·refine nA h2 ?_
    refine Tr.exit ?_
    refine And.intro (fun _ => ?_) (fun h => absurd rfl h)
    obtain rfl := si H
    have H := Ho5
    dsimp only at H
    exact jA y1 H [3] []
   refine tA h2 ?_
   refine tK ?_
   refine tB ?_
   refine rA 1 ?_
   obtain ⟨hg6,H⟩ := gs H
   refine LAt.binC tOk (op := .rem) (t := 3) (ty := 3) (ty' := 3) (x := (.tmp 8)) (y := (.const (.int .i64 10))) (d := 9) (g := none) (.int .i64 y2) (.int .i64 10) (.int .i64 (Int.tmod y2 10)) _ kr kr kr kr kr (φ := (IntKind.i64 = IntKind.i64 ∧ (10 : Int) ≠ 0)) kr (⟨rfl,of_decide_eq_true hg6⟩) rfl ?_
   refine lA 3 ?_
   refine LAt.b2s tOk (t := 30) (u := 9) (ty := 9) (x := (.tmp 12)) (d := 13) (g := none) ⟨(.slot 12),[],0,true,1,([(IntKind.wrap .u8 (IntKind.wrap .i64 (48 + (Int.tmod y2 10))))].map zIS)⟩ [(IntKind.wrap .u8 (IntKind.wrap .i64 (48 + (Int.tmod y2 10))))] kr kr kr kr kr kr kr (.inl rfl) ?_
   refine lA 1 ?_
   obtain ⟨hg7,H⟩ := gs H
   refine LAt.cat tOk (t := 9) (u := 9) (ty := 9) (x := (.tmp 13)) (y := (.tmp 14)) (d := 15) (g := none) (strOf [(IntKind.wrap .u8 (IntKind.wrap .i64 (48 + (Int.tmod y2 10))))]) y1 kr kr kr kr kr kr hg7 ?_
   refine uA 1 9 0 ?_
   refine Tr.at ?_
   refine lA 1 ?_
   obtain ⟨hg8,H⟩ := gs H
   refine LAt.binC tOk (op := .quo) (t := 3) (ty := 3) (ty' := 3) (x := (.tmp 16)) (y := (.const (.int .i64 10))) (d := 17) (g := none) (.int .i64 y2) (.int .i64 10) (.int .i64 (IntKind.wrap .i64 (Int.tdiv y2 10))) _ kr kr kr kr kr (φ := (IntKind.i64 = IntKind.i64 ∧ (10 : Int) ≠ 0)) kr (⟨rfl,of_decide_eq_true hg8⟩) rfl ?_
   refine uA 1 9 0 ?_
   exact jB mo5 (((strOf [(IntKind.wrap .u8 (IntKind.wrap .i64 (48 + (Int.tmod y2 10))))]) ++ y1),(IntKind.wrap .i64 (Int.tdiv y2 10))) H [3,0] []
  rintro y3 H
  have H : (YK n y3) = some r := H
  unfold YK at H
  refine rA 1 ?_
  obtain ⟨hg4,H⟩ := gs H
  refine LAt.cat tOk (t := 9) (u := 9) (ty := 9) (x := (.const (.string (⟨#[109]⟩ : ByteArray)))) (y := (.tmp 18)) (d := 19) (g := none) (⟨#[109]⟩ : ByteArray) y3 kr kr kr kr kr kr hg4 ?_
  refine uA 1 4 0 ?_
  exact te (by obtain rfl := si H; exact fP [(false,[cS ((⟨#[109]⟩ : ByteArray) ++ y3)])])
 refine tA h1 ?_
 refine gA 1 4 0 ?_
 exact te (by obtain rfl := si H; exact fP [(false,[cS (⟨#[109,48]⟩ : ByteArray)])])
def zAN (n : Nat) (y4 : (List Pt)) (y5 : Int) : Option (Int × (List Pt)) :=
  (some (y5,y4))
def ZO (n : Nat) : Nat → Int → (List Pt) → Int → Option (((List Pt) × Int) ⊕ (Int × (List Pt)))
  | 0,_,_,_ => none
  | mo6 + 1,y1,y2,y3 => (bif (decide (y1 < (y2.length : Int))) then (bif (decide ((3 : Int) ≠ 0)) then ((idx y2 y1).bind fun v8 => ((idx (y2.set (y1.toNat) (⟨((Int.tmod y3 3) == 0),v8.Co,v8.Has,v8.Hd⟩ : Pt)) y1).bind fun v9 => (bif (decide ((3 : Int) ≠ 0)) then ((idx ((y2.set (y1.toNat) (⟨((Int.tmod y3 3) == 0),v8.Co,v8.Has,v8.Hd⟩ : Pt)).set (y1.toNat) (⟨v9.Up,(IntKind.wrap .i64 (y3 + 1)),v9.Has,v9.Hd⟩ : Pt)) y1).bind fun v11 => ((idx (((y2.set (y1.toNat) (⟨((Int.tmod y3 3) == 0),v8.Co,v8.Has,v8.Hd⟩ : Pt)).set (y1.toNat) (⟨v9.Up,(IntKind.wrap .i64 (y3 + 1)),v9.Has,v9.Hd⟩ : Pt)).set (y1.toNat) (⟨v11.Up,v11.Co,((Int.tmod (IntKind.wrap .i64 ((IntKind.wrap .i64 (y3 + 1)) + 1)) 3) == 0),v11.Hd⟩ : Pt)) y1).bind fun v12 => ((idx ((((y2.set (y1.toNat) (⟨((Int.tmod y3 3) == 0),v8.Co,v8.Has,v8.Hd⟩ : Pt)).set (y1.toNat) (⟨v9.Up,(IntKind.wrap .i64 (y3 + 1)),v9.Has,v9.Hd⟩ : Pt)).set (y1.toNat) (⟨v11.Up,v11.Co,((Int.tmod (IntKind.wrap .i64 ((IntKind.wrap .i64 (y3 + 1)) + 1)) 3) == 0),v11.Hd⟩ : Pt)).set (y1.toNat) (⟨v12.Up,v12.Co,v12.Has,(⟨(IntKind.wrap .i64 ((IntKind.wrap .i64 ((IntKind.wrap .i64 (y3 + 1)) + 1)) + 1)),v12.Hd.Co,v12.Hd.Hops,v12.Hd.Bridge,v12.Hd.Port⟩ : Vec)⟩ : Pt)) y1).bind fun v13 => ((idx (((((y2.set (y1.toNat) (⟨((Int.tmod y3 3) == 0),v8.Co,v8.Has,v8.Hd⟩ : Pt)).set (y1.toNat) (⟨v9.Up,(IntKind.wrap .i64 (y3 + 1)),v9.Has,v9.Hd⟩ : Pt)).set (y1.toNat) (⟨v11.Up,v11.Co,((Int.tmod (IntKind.wrap .i64 ((IntKind.wrap .i64 (y3 + 1)) + 1)) 3) == 0),v11.Hd⟩ : Pt)).set (y1.toNat) (⟨v12.Up,v12.Co,v12.Has,(⟨(IntKind.wrap .i64 ((IntKind.wrap .i64 ((IntKind.wrap .i64 (y3 + 1)) + 1)) + 1)),v12.Hd.Co,v12.Hd.Hops,v12.Hd.Bridge,v12.Hd.Port⟩ : Vec)⟩ : Pt)).set (y1.toNat) (⟨v13.Up,v13.Co,v13.Has,(⟨v13.Hd.Root,(IntKind.wrap .i64 ((IntKind.wrap .i64 ((IntKind.wrap .i64 ((IntKind.wrap .i64 (y3 + 1)) + 1)) + 1)) + 1)),v13.Hd.Hops,v13.Hd.Bridge,v13.Hd.Port⟩ : Vec)⟩ : Pt)) y1).bind fun v14 => ((idx ((((((y2.set (y1.toNat) (⟨((Int.tmod y3 3) == 0),v8.Co,v8.Has,v8.Hd⟩ : Pt)).set (y1.toNat) (⟨v9.Up,(IntKind.wrap .i64 (y3 + 1)),v9.Has,v9.Hd⟩ : Pt)).set (y1.toNat) (⟨v11.Up,v11.Co,((Int.tmod (IntKind.wrap .i64 ((IntKind.wrap .i64 (y3 + 1)) + 1)) 3) == 0),v11.Hd⟩ : Pt)).set (y1.toNat) (⟨v12.Up,v12.Co,v12.Has,(⟨(IntKind.wrap .i64 ((IntKind.wrap .i64 ((IntKind.wrap .i64 (y3 + 1)) + 1)) + 1)),v12.Hd.Co,v12.Hd.Hops,v12.Hd.Bridge,v12.Hd.Port⟩ : Vec)⟩ : Pt)).set (y1.toNat) (⟨v13.Up,v13.Co,v13.Has,(⟨v13.Hd.Root,(IntKind.wrap .i64 ((IntKind.wrap .i64 ((IntKind.wrap .i64 ((IntKind.wrap .i64 (y3 + 1)) + 1)) + 1)) + 1)),v13.Hd.Hops,v13.Hd.Bridge,v13.Hd.Port⟩ : Vec)⟩ : Pt)).set (y1.toNat) (⟨v14.Up,v14.Co,v14.Has,(⟨v14.Hd.Root,v14.Hd.Co,(IntKind.wrap .i64 ((IntKind.wrap .i64 ((IntKind.wrap .i64 ((IntKind.wrap .i64 ((IntKind.wrap .i64 (y3 + 1)) + 1)) + 1)) + 1)) + 1)),v14.Hd.Bridge,v14.Hd.Port⟩ : Vec)⟩ : Pt)) y1).bind fun v15 => ((idx (((((((y2.set (y1.toNat) (⟨((Int.tmod y3 3) == 0),v8.Co,v8.Has,v8.Hd⟩ : Pt)).set (y1.toNat) (⟨v9.Up,(IntKind.wrap .i64 (y3 + 1)),v9.Has,v9.Hd⟩ : Pt)).set (y1.toNat) (⟨v11.Up,v11.Co,((Int.tmod (IntKind.wrap .i64 ((IntKind.wrap .i64 (y3 + 1)) + 1)) 3) == 0),v11.Hd⟩ : Pt)).set (y1.toNat) (⟨v12.Up,v12.Co,v12.Has,(⟨(IntKind.wrap .i64 ((IntKind.wrap .i64 ((IntKind.wrap .i64 (y3 + 1)) + 1)) + 1)),v12.Hd.Co,v12.Hd.Hops,v12.Hd.Bridge,v12.Hd.Port⟩ : Vec)⟩ : Pt)).set (y1.toNat) (⟨v13.Up,v13.Co,v13.Has,(⟨v13.Hd.Root,(IntKind.wrap .i64 ((IntKind.wrap .i64 ((IntKind.wrap .i64 ((IntKind.wrap .i64 (y3 + 1)) + 1)) + 1)) + 1)),v13.Hd.Hops,v13.Hd.Bridge,v13.Hd.Port⟩ : Vec)⟩ : Pt)).set (y1.toNat) (⟨v14.Up,v14.Co,v14.Has,(⟨v14.Hd.Root,v14.Hd.Co,(IntKind.wrap .i64 ((IntKind.wrap .i64 ((IntKind.wrap .i64 ((IntKind.wrap .i64 ((IntKind.wrap .i64 (y3 + 1)) + 1)) + 1)) + 1)) + 1)),v14.Hd.Bridge,v14.Hd.Port⟩ : Vec)⟩ : Pt)).set (y1.toNat) (⟨v15.Up,v15.Co,v15.Has,(⟨v15.Hd.Root,v15.Hd.Co,v15.Hd.Hops,(IntKind.wrap .i64 ((IntKind.wrap .i64 ((IntKind.wrap .i64 ((IntKind.wrap .i64 ((IntKind.wrap .i64 ((IntKind.wrap .i64 (y3 + 1)) + 1)) + 1)) + 1)) + 1)) + 1)),v15.Hd.Port⟩ : Vec)⟩ : Pt)) y1).bind fun v16 => (ZO n mo6 (IntKind.wrap .i64 (y1 + 1)) ((((((((y2.set (y1.toNat) (⟨((Int.tmod y3 3) == 0),v8.Co,v8.Has,v8.Hd⟩ : Pt)).set (y1.toNat) (⟨v9.Up,(IntKind.wrap .i64 (y3 + 1)),v9.Has,v9.Hd⟩ : Pt)).set (y1.toNat) (⟨v11.Up,v11.Co,((Int.tmod (IntKind.wrap .i64 ((IntKind.wrap .i64 (y3 + 1)) + 1)) 3) == 0),v11.Hd⟩ : Pt)).set (y1.toNat) (⟨v12.Up,v12.Co,v12.Has,(⟨(IntKind.wrap .i64 ((IntKind.wrap .i64 ((IntKind.wrap .i64 (y3 + 1)) + 1)) + 1)),v12.Hd.Co,v12.Hd.Hops,v12.Hd.Bridge,v12.Hd.Port⟩ : Vec)⟩ : Pt)).set (y1.toNat) (⟨v13.Up,v13.Co,v13.Has,(⟨v13.Hd.Root,(IntKind.wrap .i64 ((IntKind.wrap .i64 ((IntKind.wrap .i64 ((IntKind.wrap .i64 (y3 + 1)) + 1)) + 1)) + 1)),v13.Hd.Hops,v13.Hd.Bridge,v13.Hd.Port⟩ : Vec)⟩ : Pt)).set (y1.toNat) (⟨v14.Up,v14.Co,v14.Has,(⟨v14.Hd.Root,v14.Hd.Co,(IntKind.wrap .i64 ((IntKind.wrap .i64 ((IntKind.wrap .i64 ((IntKind.wrap .i64 ((IntKind.wrap .i64 (y3 + 1)) + 1)) + 1)) + 1)) + 1)),v14.Hd.Bridge,v14.Hd.Port⟩ : Vec)⟩ : Pt)).set (y1.toNat) (⟨v15.Up,v15.Co,v15.Has,(⟨v15.Hd.Root,v15.Hd.Co,v15.Hd.Hops,(IntKind.wrap .i64 ((IntKind.wrap .i64 ((IntKind.wrap .i64 ((IntKind.wrap .i64 ((IntKind.wrap .i64 ((IntKind.wrap .i64 (y3 + 1)) + 1)) + 1)) + 1)) + 1)) + 1)),v15.Hd.Port⟩ : Vec)⟩ : Pt)).set (y1.toNat) (⟨v16.Up,v16.Co,v16.Has,(⟨v16.Hd.Root,v16.Hd.Co,v16.Hd.Hops,v16.Hd.Bridge,(IntKind.wrap .i64 ((IntKind.wrap .i64 ((IntKind.wrap .i64 ((IntKind.wrap .i64 ((IntKind.wrap .i64 ((IntKind.wrap .i64 ((IntKind.wrap .i64 (y3 + 1)) + 1)) + 1)) + 1)) + 1)) + 1)) + 1))⟩ : Vec)⟩ : Pt)) (IntKind.wrap .i64 ((IntKind.wrap .i64 ((IntKind.wrap .i64 ((IntKind.wrap .i64 ((IntKind.wrap .i64 ((IntKind.wrap .i64 ((IntKind.wrap .i64 ((IntKind.wrap .i64 (y3 + 1)) + 1)) + 1)) + 1)) + 1)) + 1)) + 1)) + 1))))))))) else none))) else none) else (some (Sum.inl (y2,y3))))
def J1 (n : Nat) (x0 : (List Pt)) (x1 : Int) : Option (Int × (List Pt)) :=
  ((ZO n n 0 x0 x1).bind fun o => match o with | .inl (y4,y5) => (zAN n y4 y5) | .inr r => some r)
noncomputable abbrev G95 (k : Nat) := Rg Tryz.f95 k
theorem zKI (n : Nat) (x0 : (List Pt)) (x1 : Int) (r : Int × (List Pt)) (H : J1 n x0 x1 = some r) : zD Tryz.prog 95 [.io false [.sl true 8 (x0.map Pt.row)],.val false [.lit (.int .i64 x1)]] [.val false [.lit (.int .i64 r.1)]] [(0,[.sl true 8 (r.2.map Pt.row)])] := by
 refine zD.of_body tOk Tryz.func95 rfl (c := (.seq (G95 0) (.seq (.seq (G95 1) (.block 0 (.loop (.seq (.seq (G95 2) (.cond (.tmp 9) .skip (.exit 0))) (.seq (.block 1 (.seq (G95 4) (.seq (G95 5) (.seq (G95 6) (.seq (G95 7) (.seq (G95 8) (.seq (G95 9) (.seq (G95 10) (.seq (G95 11) (.seq (G95 12) (.seq (G95 13) (.seq (G95 14) (.seq (G95 15) (.seq (G95 16) (.seq (G95 17) (.seq (G95 18) (G95 19))))))))))))))))) (G95 3)))))) (.seq (G95 20) .ret)))) kr (Nat.le_of_ble_eq_true kr) 1 (rs := [.tmp 4]) rfl [0] (by decide) [(false,[.lit (.int .i64 r.1)])] [[.sl true 8 (r.2.map Pt.row)]] [] fun cx => ?_
 show Tr _ _ _ ⟨78,1,[sC 0 (cL 8 x0 Pt.row),sI 1 x1],[]⟩ _
 unfold J1 at H
 refine gA 1 3 0 ?_
 refine tS ?_
 refine gA 1 35 0 ?_
 obtain ⟨o6,eo6,Ho6⟩ := bs H
 clear H
 refine Tr.mid (ι := (List Pt) × Int) (fun v => ⟨78,1,[sC 0 (cL 8 v.1 Pt.row),sI 1 v.2],[]⟩) (fun v => zAN n v.1 v.2 = some r) ?_ ?_
 ·refine tB ?_
  refine Tr.loop (ι := Nat × (Int × (List Pt) × Int)) (fun v => ⟨78,1,[sI 5 v.2.1,sC 0 (cL 8 v.2.2.1 Pt.row),sI 1 v.2.2.2],[]⟩) (fun v => ZO n v.1 v.2.1 v.2.2.1 v.2.2.2 = some o6) (fun v => v.1) (n,(0,x0,x1)) eo6 (St.sub_of [5,0,1] [] kr) ?_
  rintro ⟨mo6,y1,y2,y3⟩ H
  have H : ZO n mo6 y1 y2 y3 = some o6 := H
  obtain _ | mo6 := mo6
  ·exact nN H
  rw [ZO] at H
  refine tS ?_
  refine rA 2 ?_
  refine kO y2 Pt.row ?_
  refine uA 1 547 0 ?_
  obtain ⟨h1,H⟩ | ⟨h1,H⟩ := bC H
  ·refine nA h1 ?_
   refine Tr.exit ?_
   refine And.intro (fun _ => ?_) (fun h => absurd rfl h)
   obtain rfl := si H
   have H := Ho6
   dsimp only at H
   exact jA (y2,y3) H [0,1] []
  refine tA h1 ?_
  refine tK ?_
  refine tS ?_
  refine tB ?_
  refine rA 3 ?_
  obtain ⟨hg7,H⟩ := gs H
  refine LAt.binC tOk (op := .rem) (t := 3) (ty := 3) (ty' := 3) (x := (.tmp 14)) (y := (.const (.int .i64 3))) (d := 15) (g := none) (.int .i64 y3) (.int .i64 3) (.int .i64 (Int.tmod y3 3)) _ kr kr kr kr kr (φ := (IntKind.i64 = IntKind.i64 ∧ (3 : Int) ≠ 0)) kr (⟨rfl,of_decide_eq_true hg7⟩) rfl ?_
  refine lA 1 ?_
  obtain ⟨v8,ev8,H⟩ := bs H
  refine oA Pt.row ev8 ?_
  refine lA 1 ?_
  refine sS (tI 4) false [cB ((Int.tmod y3 3) == 0)] 0 0 (y1.toNat) 8 0 8 Pt.row (⟨((Int.tmod y3 3) == 0),v8.Co,v8.Has,v8.Hd⟩ : Pt) (zI ev8).2 ?_
  refine dA 35 0 ?_
  refine gA 3 35 0 ?_
  refine rA 3 ?_
  obtain ⟨v9,ev9,H⟩ := bs H
  refine oA Pt.row ev9 ?_
  refine lA 1 ?_
  refine sS (tI 3) false [cI (IntKind.wrap .i64 (y3 + 1))] 0 0 (y1.toNat) 8 1 8 Pt.row (⟨v9.Up,(IntKind.wrap .i64 (y3 + 1)),v9.Has,v9.Hd⟩ : Pt) (zI ev9).2 ?_
  refine dA 35 0 ?_
  refine gA 3 35 0 ?_
  refine rA 3 ?_
  obtain ⟨hg10,H⟩ := gs H
  refine LAt.binC tOk (op := .rem) (t := 3) (ty := 3) (ty' := 3) (x := (.tmp 30)) (y := (.const (.int .i64 3))) (d := 31) (g := none) (.int .i64 (IntKind.wrap .i64 ((IntKind.wrap .i64 (y3 + 1)) + 1))) (.int .i64 3) (.int .i64 (Int.tmod (IntKind.wrap .i64 ((IntKind.wrap .i64 (y3 + 1)) + 1)) 3)) _ kr kr kr kr kr (φ := (IntKind.i64 = IntKind.i64 ∧ (3 : Int) ≠ 0)) kr (⟨rfl,of_decide_eq_true hg10⟩) rfl ?_
  refine lA 1 ?_
  obtain ⟨v11,ev11,H⟩ := bs H
  refine oA Pt.row ev11 ?_
  refine lA 1 ?_
  refine sS (tI 4) false [cB ((Int.tmod (IntKind.wrap .i64 ((IntKind.wrap .i64 (y3 + 1)) + 1)) 3) == 0)] 0 0 (y1.toNat) 8 2 8 Pt.row (⟨v11.Up,v11.Co,((Int.tmod (IntKind.wrap .i64 ((IntKind.wrap .i64 (y3 + 1)) + 1)) 3) == 0),v11.Hd⟩ : Pt) (zI ev11).2 ?_
  refine dA 35 0 ?_
  refine gA 3 35 0 ?_
  refine rA 3 ?_
  obtain ⟨v12,ev12,H⟩ := bs H
  refine oA Pt.row ev12 ?_
  refine lA 2 ?_
  refine sS (tI 3) false [cI (IntKind.wrap .i64 ((IntKind.wrap .i64 ((IntKind.wrap .i64 (y3 + 1)) + 1)) + 1))] 0 0 (y1.toNat) 8 3 8 Pt.row (⟨v12.Up,v12.Co,v12.Has,(⟨(IntKind.wrap .i64 ((IntKind.wrap .i64 ((IntKind.wrap .i64 (y3 + 1)) + 1)) + 1)),v12.Hd.Co,v12.Hd.Hops,v12.Hd.Bridge,v12.Hd.Port⟩ : Vec)⟩ : Pt) (zI ev12).2 ?_
  refine dA 35 0 ?_
  refine gA 3 35 0 ?_
  refine rA 3 ?_
  obtain ⟨v13,ev13,H⟩ := bs H
  refine oA Pt.row ev13 ?_
  refine lA 2 ?_
  refine sS (tI 3) false [cI (IntKind.wrap .i64 ((IntKind.wrap .i64 ((IntKind.wrap .i64 ((IntKind.wrap .i64 (y3 + 1)) + 1)) + 1)) + 1))] 0 0 (y1.toNat) 8 4 8 Pt.row (⟨v13.Up,v13.Co,v13.Has,(⟨v13.Hd.Root,(IntKind.wrap .i64 ((IntKind.wrap .i64 ((IntKind.wrap .i64 ((IntKind.wrap .i64 (y3 + 1)) + 1)) + 1)) + 1)),v13.Hd.Hops,v13.Hd.Bridge,v13.Hd.Port⟩ : Vec)⟩ : Pt) (zI ev13).2 ?_
  refine dA 35 0 ?_
  refine gA 3 35 0 ?_
  refine rA 3 ?_
  obtain ⟨v14,ev14,H⟩ := bs H
  refine oA Pt.row ev14 ?_
  refine lA 2 ?_
  refine sS (tI 3) false [cI (IntKind.wrap .i64 ((IntKind.wrap .i64 ((IntKind.wrap .i64 ((IntKind.wrap .i64 ((IntKind.wrap .i64 (y3 + 1)) + 1)) + 1)) + 1)) + 1))] 0 0 (y1.toNat) 8 5 8 Pt.row (⟨v14.Up,v14.Co,v14.Has,(⟨v14.Hd.Root,v14.Hd.Co,(IntKind.wrap .i64 ((IntKind.wrap .i64 ((IntKind.wrap .i64 ((IntKind.wrap .i64 ((IntKind.wrap .i64 (y3 + 1)) + 1)) + 1)) + 1)) + 1)),v14.Hd.Bridge,v14.Hd.Port⟩ : Vec)⟩ : Pt) (zI ev14).2 ?_
  refine dA 35 0 ?_
  refine gA 3 35 0 ?_
  refine rA 3 ?_
  obtain ⟨v15,ev15,H⟩ := bs H
  refine oA Pt.row ev15 ?_
  refine lA 2 ?_
  refine sS (tI 3) false [cI (IntKind.wrap .i64 ((IntKind.wrap .i64 ((IntKind.wrap .i64 ((IntKind.wrap .i64 ((IntKind.wrap .i64 ((IntKind.wrap .i64 (y3 + 1)) + 1)) + 1)) + 1)) + 1)) + 1))] 0 0 (y1.toNat) 8 6 8 Pt.row (⟨v15.Up,v15.Co,v15.Has,(⟨v15.Hd.Root,v15.Hd.Co,v15.Hd.Hops,(IntKind.wrap .i64 ((IntKind.wrap .i64 ((IntKind.wrap .i64 ((IntKind.wrap .i64 ((IntKind.wrap .i64 ((IntKind.wrap .i64 (y3 + 1)) + 1)) + 1)) + 1)) + 1)) + 1)),v15.Hd.Port⟩ : Vec)⟩ : Pt) (zI ev15).2 ?_
  refine dA 35 0 ?_
  refine gA 3 35 0 ?_
  refine rA 3 ?_
  obtain ⟨v16,ev16,H⟩ := bs H
  refine oA Pt.row ev16 ?_
  refine lA 2 ?_
  refine sS (tI 3) false [cI (IntKind.wrap .i64 ((IntKind.wrap .i64 ((IntKind.wrap .i64 ((IntKind.wrap .i64 ((IntKind.wrap .i64 ((IntKind.wrap .i64 ((IntKind.wrap .i64 (y3 + 1)) + 1)) + 1)) + 1)) + 1)) + 1)) + 1))] 0 0 (y1.toNat) 8 7 8 Pt.row (⟨v16.Up,v16.Co,v16.Has,(⟨v16.Hd.Root,v16.Hd.Co,v16.Hd.Hops,v16.Hd.Bridge,(IntKind.wrap .i64 ((IntKind.wrap .i64 ((IntKind.wrap .i64 ((IntKind.wrap .i64 ((IntKind.wrap .i64 ((IntKind.wrap .i64 ((IntKind.wrap .i64 (y3 + 1)) + 1)) + 1)) + 1)) + 1)) + 1)) + 1))⟩ : Vec)⟩ : Pt) (zI ev16).2 ?_
  refine dA 35 0 ?_
  refine eA 3 35 0 ?_
  refine eA 3 35 0 ?_
  exact jB mo6 ((IntKind.wrap .i64 (y1 + 1)),((((((((y2.set (y1.toNat) (⟨((Int.tmod y3 3) == 0),v8.Co,v8.Has,v8.Hd⟩ : Pt)).set (y1.toNat) (⟨v9.Up,(IntKind.wrap .i64 (y3 + 1)),v9.Has,v9.Hd⟩ : Pt)).set (y1.toNat) (⟨v11.Up,v11.Co,((Int.tmod (IntKind.wrap .i64 ((IntKind.wrap .i64 (y3 + 1)) + 1)) 3) == 0),v11.Hd⟩ : Pt)).set (y1.toNat) (⟨v12.Up,v12.Co,v12.Has,(⟨(IntKind.wrap .i64 ((IntKind.wrap .i64 ((IntKind.wrap .i64 (y3 + 1)) + 1)) + 1)),v12.Hd.Co,v12.Hd.Hops,v12.Hd.Bridge,v12.Hd.Port⟩ : Vec)⟩ : Pt)).set (y1.toNat) (⟨v13.Up,v13.Co,v13.Has,(⟨v13.Hd.Root,(IntKind.wrap .i64 ((IntKind.wrap .i64 ((IntKind.wrap .i64 ((IntKind.wrap .i64 (y3 + 1)) + 1)) + 1)) + 1)),v13.Hd.Hops,v13.Hd.Bridge,v13.Hd.Port⟩ : Vec)⟩ : Pt)).set (y1.toNat) (⟨v14.Up,v14.Co,v14.Has,(⟨v14.Hd.Root,v14.Hd.Co,(IntKind.wrap .i64 ((IntKind.wrap .i64 ((IntKind.wrap .i64 ((IntKind.wrap .i64 ((IntKind.wrap .i64 (y3 + 1)) + 1)) + 1)) + 1)) + 1)),v14.Hd.Bridge,v14.Hd.Port⟩ : Vec)⟩ : Pt)).set (y1.toNat) (⟨v15.Up,v15.Co,v15.Has,(⟨v15.Hd.Root,v15.Hd.Co,v15.Hd.Hops,(IntKind.wrap .i64 ((IntKind.wrap .i64 ((IntKind.wrap .i64 ((IntKind.wrap .i64 ((IntKind.wrap .i64 ((IntKind.wrap .i64 (y3 + 1)) + 1)) + 1)) + 1)) + 1)) + 1)),v15.Hd.Port⟩ : Vec)⟩ : Pt)).set (y1.toNat) (⟨v16.Up,v16.Co,v16.Has,(⟨v16.Hd.Root,v16.Hd.Co,v16.Hd.Hops,v16.Hd.Bridge,(IntKind.wrap .i64 ((IntKind.wrap .i64 ((IntKind.wrap .i64 ((IntKind.wrap .i64 ((IntKind.wrap .i64 ((IntKind.wrap .i64 ((IntKind.wrap .i64 (y3 + 1)) + 1)) + 1)) + 1)) + 1)) + 1)) + 1))⟩ : Vec)⟩ : Pt)),(IntKind.wrap .i64 ((IntKind.wrap .i64 ((IntKind.wrap .i64 ((IntKind.wrap .i64 ((IntKind.wrap .i64 ((IntKind.wrap .i64 ((IntKind.wrap .i64 ((IntKind.wrap .i64 (y3 + 1)) + 1)) + 1)) + 1)) + 1)) + 1)) + 1)) + 1))) H [5,0,1] []
 rintro ⟨y4,y5⟩ H
 have H : (zAN n y4 y5) = some r := H
 unfold zAN at H
 refine gA 2 17 0 ?_
 refine te ?_
 obtain rfl := si H
 exact Fin.ofY _ [(false,[cI y5])] [false] _ [[cL 8 y4 Pt.row]] _ [] kr rfl rfl rfl kr kr kr kr rfl rfl rfl
def Y8 (n : Nat) (y4 : (List zB)) (y5 : Int) : Option (Int × (List zB)) :=
  (some (y5,y4))
def qv (n : Nat) : Nat → Int → (List zB) → Int → Option (((List zB) × Int) ⊕ (Int × (List zB)))
  | 0,_,_,_ => none
  | mo6 + 1,y1,y2,y3 => (bif (decide (y1 < (y2.length : Int))) then ((idx y2 y1).bind fun v7 => ((idx (y2.set (y1.toNat) (⟨y3,v7.Mac,v7.Port,v7.Age,v7.Sc⟩ : zB)) y1).bind fun v8 => ((idx ((y2.set (y1.toNat) (⟨y3,v7.Mac,v7.Port,v7.Age,v7.Sc⟩ : zB)).set (y1.toNat) (⟨v8.Tag,(IntKind.wrap .i64 (y3 + 1)),v8.Port,v8.Age,v8.Sc⟩ : zB)) y1).bind fun v9 => ((idx (((y2.set (y1.toNat) (⟨y3,v7.Mac,v7.Port,v7.Age,v7.Sc⟩ : zB)).set (y1.toNat) (⟨v8.Tag,(IntKind.wrap .i64 (y3 + 1)),v8.Port,v8.Age,v8.Sc⟩ : zB)).set (y1.toNat) (⟨v9.Tag,v9.Mac,(IntKind.wrap .i64 ((IntKind.wrap .i64 (y3 + 1)) + 1)),v9.Age,v9.Sc⟩ : zB)) y1).bind fun v10 => (bif (decide ((3 : Int) ≠ 0)) then ((idx ((((y2.set (y1.toNat) (⟨y3,v7.Mac,v7.Port,v7.Age,v7.Sc⟩ : zB)).set (y1.toNat) (⟨v8.Tag,(IntKind.wrap .i64 (y3 + 1)),v8.Port,v8.Age,v8.Sc⟩ : zB)).set (y1.toNat) (⟨v9.Tag,v9.Mac,(IntKind.wrap .i64 ((IntKind.wrap .i64 (y3 + 1)) + 1)),v9.Age,v9.Sc⟩ : zB)).set (y1.toNat) (⟨v10.Tag,v10.Mac,v10.Port,(IntKind.wrap .i64 ((IntKind.wrap .i64 ((IntKind.wrap .i64 (y3 + 1)) + 1)) + 1)),v10.Sc⟩ : zB)) y1).bind fun v12 => (qv n mo6 (IntKind.wrap .i64 (y1 + 1)) (((((y2.set (y1.toNat) (⟨y3,v7.Mac,v7.Port,v7.Age,v7.Sc⟩ : zB)).set (y1.toNat) (⟨v8.Tag,(IntKind.wrap .i64 (y3 + 1)),v8.Port,v8.Age,v8.Sc⟩ : zB)).set (y1.toNat) (⟨v9.Tag,v9.Mac,(IntKind.wrap .i64 ((IntKind.wrap .i64 (y3 + 1)) + 1)),v9.Age,v9.Sc⟩ : zB)).set (y1.toNat) (⟨v10.Tag,v10.Mac,v10.Port,(IntKind.wrap .i64 ((IntKind.wrap .i64 ((IntKind.wrap .i64 (y3 + 1)) + 1)) + 1)),v10.Sc⟩ : zB)).set (y1.toNat) (⟨v12.Tag,v12.Mac,v12.Port,v12.Age,((Int.tmod (IntKind.wrap .i64 ((IntKind.wrap .i64 ((IntKind.wrap .i64 ((IntKind.wrap .i64 (y3 + 1)) + 1)) + 1)) + 1)) 3) == 0)⟩ : zB)) (IntKind.wrap .i64 ((IntKind.wrap .i64 ((IntKind.wrap .i64 ((IntKind.wrap .i64 ((IntKind.wrap .i64 (y3 + 1)) + 1)) + 1)) + 1)) + 1)))) else none))))) else (some (Sum.inl (y2,y3))))
def Yo (n : Nat) (x0 : (List zB)) (x1 : Int) : Option (Int × (List zB)) :=
  ((qv n n 0 x0 x1).bind fun o => match o with | .inl (y4,y5) => (Y8 n y4 y5) | .inr r => some r)
noncomputable abbrev G96 (k : Nat) := Rg Tryz.f96 k
theorem zIf (n : Nat) (x0 : (List zB)) (x1 : Int) (r : Int × (List zB)) (H : Yo n x0 x1 = some r) : zD Tryz.prog 96 [.io false [.sl true 5 (x0.map zB.row)],.val false [.lit (.int .i64 x1)]] [.val false [.lit (.int .i64 r.1)]] [(0,[.sl true 5 (r.2.map zB.row)])] := by
 refine zD.of_body tOk Tryz.func96 rfl (c := (.seq (G96 0) (.seq (.seq (G96 1) (.block 0 (.loop (.seq (.seq (G96 2) (.cond (.tmp 9) .skip (.exit 0))) (.seq (.block 1 (.seq (G96 4) (.seq (G96 5) (.seq (G96 6) (.seq (G96 7) (.seq (G96 8) (.seq (G96 9) (.seq (G96 10) (.seq (G96 11) (.seq (G96 12) (G96 13))))))))))) (G96 3)))))) (.seq (G96 14) .ret)))) kr (Nat.le_of_ble_eq_true kr) 1 (rs := [.tmp 4]) rfl [0] (by decide) [(false,[.lit (.int .i64 r.1)])] [[.sl true 5 (r.2.map zB.row)]] [] fun cx => ?_
 show Tr _ _ _ ⟨50,1,[sC 0 (cL 5 x0 zB.row),sI 1 x1],[]⟩ _
 unfold Yo at H
 refine gA 1 3 0 ?_
 refine tS ?_
 refine gA 1 35 0 ?_
 obtain ⟨o6,eo6,Ho6⟩ := bs H
 clear H
 refine Tr.mid (ι := (List zB) × Int) (fun v => ⟨50,1,[sC 0 (cL 5 v.1 zB.row),sI 1 v.2],[]⟩) (fun v => Y8 n v.1 v.2 = some r) ?_ ?_
 ·refine tB ?_
  refine Tr.loop (ι := Nat × (Int × (List zB) × Int)) (fun v => ⟨50,1,[sI 5 v.2.1,sC 0 (cL 5 v.2.2.1 zB.row),sI 1 v.2.2.2],[]⟩) (fun v => qv n v.1 v.2.1 v.2.2.1 v.2.2.2 = some o6) (fun v => v.1) (n,(0,x0,x1)) eo6 (St.sub_of [5,0,1] [] kr) ?_
  rintro ⟨mo6,y1,y2,y3⟩ H
  have H : qv n mo6 y1 y2 y3 = some o6 := H
  obtain _ | mo6 := mo6
  ·exact nN H
  rw [qv] at H
  refine tS ?_
  refine rA 2 ?_
  refine kO y2 zB.row ?_
  refine uA 1 547 0 ?_
  obtain ⟨h1,H⟩ | ⟨h1,H⟩ := bC H
  ·refine nA h1 ?_
   refine Tr.exit ?_
   refine And.intro (fun _ => ?_) (fun h => absurd rfl h)
   obtain rfl := si H
   have H := Ho6
   dsimp only at H
   exact jA (y2,y3) H [0,1] []
  refine tA h1 ?_
  refine tK ?_
  refine tS ?_
  refine tB ?_
  refine rA 3 ?_
  obtain ⟨v7,ev7,H⟩ := bs H
  refine oA zB.row ev7 ?_
  refine lA 1 ?_
  refine sS (tI 3) false [cI y3] 0 0 (y1.toNat) 5 0 5 zB.row (⟨y3,v7.Mac,v7.Port,v7.Age,v7.Sc⟩ : zB) (zI ev7).2 ?_
  refine dA 35 0 ?_
  refine gA 3 35 0 ?_
  refine rA 3 ?_
  obtain ⟨v8,ev8,H⟩ := bs H
  refine oA zB.row ev8 ?_
  refine lA 1 ?_
  refine sS (tI 3) false [cI (IntKind.wrap .i64 (y3 + 1))] 0 0 (y1.toNat) 5 1 5 zB.row (⟨v8.Tag,(IntKind.wrap .i64 (y3 + 1)),v8.Port,v8.Age,v8.Sc⟩ : zB) (zI ev8).2 ?_
  refine dA 35 0 ?_
  refine gA 3 35 0 ?_
  refine rA 3 ?_
  obtain ⟨v9,ev9,H⟩ := bs H
  refine oA zB.row ev9 ?_
  refine lA 1 ?_
  refine sS (tI 3) false [cI (IntKind.wrap .i64 ((IntKind.wrap .i64 (y3 + 1)) + 1))] 0 0 (y1.toNat) 5 2 5 zB.row (⟨v9.Tag,v9.Mac,(IntKind.wrap .i64 ((IntKind.wrap .i64 (y3 + 1)) + 1)),v9.Age,v9.Sc⟩ : zB) (zI ev9).2 ?_
  refine dA 35 0 ?_
  refine gA 3 35 0 ?_
  refine rA 3 ?_
  obtain ⟨v10,ev10,H⟩ := bs H
  refine oA zB.row ev10 ?_
  refine lA 1 ?_
  refine sS (tI 3) false [cI (IntKind.wrap .i64 ((IntKind.wrap .i64 ((IntKind.wrap .i64 (y3 + 1)) + 1)) + 1))] 0 0 (y1.toNat) 5 3 5 zB.row (⟨v10.Tag,v10.Mac,v10.Port,(IntKind.wrap .i64 ((IntKind.wrap .i64 ((IntKind.wrap .i64 (y3 + 1)) + 1)) + 1)),v10.Sc⟩ : zB) (zI ev10).2 ?_
  refine dA 35 0 ?_
  refine gA 3 35 0 ?_
  refine rA 3 ?_
  obtain ⟨hg11,H⟩ := gs H
  refine LAt.binC tOk (op := .rem) (t := 3) (ty := 3) (ty' := 3) (x := (.tmp 42)) (y := (.const (.int .i64 3))) (d := 43) (g := none) (.int .i64 (IntKind.wrap .i64 ((IntKind.wrap .i64 ((IntKind.wrap .i64 ((IntKind.wrap .i64 (y3 + 1)) + 1)) + 1)) + 1))) (.int .i64 3) (.int .i64 (Int.tmod (IntKind.wrap .i64 ((IntKind.wrap .i64 ((IntKind.wrap .i64 ((IntKind.wrap .i64 (y3 + 1)) + 1)) + 1)) + 1)) 3)) _ kr kr kr kr kr (φ := (IntKind.i64 = IntKind.i64 ∧ (3 : Int) ≠ 0)) kr (⟨rfl,of_decide_eq_true hg11⟩) rfl ?_
  refine lA 1 ?_
  obtain ⟨v12,ev12,H⟩ := bs H
  refine oA zB.row ev12 ?_
  refine lA 1 ?_
  refine sS (tI 4) false [cB ((Int.tmod (IntKind.wrap .i64 ((IntKind.wrap .i64 ((IntKind.wrap .i64 ((IntKind.wrap .i64 (y3 + 1)) + 1)) + 1)) + 1)) 3) == 0)] 0 0 (y1.toNat) 5 4 5 zB.row (⟨v12.Tag,v12.Mac,v12.Port,v12.Age,((Int.tmod (IntKind.wrap .i64 ((IntKind.wrap .i64 ((IntKind.wrap .i64 ((IntKind.wrap .i64 (y3 + 1)) + 1)) + 1)) + 1)) 3) == 0)⟩ : zB) (zI ev12).2 ?_
  refine dA 35 0 ?_
  refine eA 3 35 0 ?_
  refine eA 3 35 0 ?_
  exact jB mo6 ((IntKind.wrap .i64 (y1 + 1)),(((((y2.set (y1.toNat) (⟨y3,v7.Mac,v7.Port,v7.Age,v7.Sc⟩ : zB)).set (y1.toNat) (⟨v8.Tag,(IntKind.wrap .i64 (y3 + 1)),v8.Port,v8.Age,v8.Sc⟩ : zB)).set (y1.toNat) (⟨v9.Tag,v9.Mac,(IntKind.wrap .i64 ((IntKind.wrap .i64 (y3 + 1)) + 1)),v9.Age,v9.Sc⟩ : zB)).set (y1.toNat) (⟨v10.Tag,v10.Mac,v10.Port,(IntKind.wrap .i64 ((IntKind.wrap .i64 ((IntKind.wrap .i64 (y3 + 1)) + 1)) + 1)),v10.Sc⟩ : zB)).set (y1.toNat) (⟨v12.Tag,v12.Mac,v12.Port,v12.Age,((Int.tmod (IntKind.wrap .i64 ((IntKind.wrap .i64 ((IntKind.wrap .i64 ((IntKind.wrap .i64 (y3 + 1)) + 1)) + 1)) + 1)) 3) == 0)⟩ : zB)),(IntKind.wrap .i64 ((IntKind.wrap .i64 ((IntKind.wrap .i64 ((IntKind.wrap .i64 ((IntKind.wrap .i64 (y3 + 1)) + 1)) + 1)) + 1)) + 1))) H [5,0,1] []
 rintro ⟨y4,y5⟩ H
 have H : (Y8 n y4 y5) = some r := H
 unfold Y8 at H
 refine gA 2 17 0 ?_
 refine te ?_
 obtain rfl := si H
 exact Fin.ofY _ [(false,[cI y5])] [false] _ [[cL 5 y4 zB.row]] _ [] kr rfl rfl rfl kr kr kr kr rfl rfl rfl
def JA (n : Nat) (y4 : (List zC)) (y5 : Int) : Option (Int × (List zC)) :=
  (some (y5,y4))
def qx (n : Nat) : Nat → Int → (List zC) → Int → Option (((List zC) × Int) ⊕ (Int × (List zC)))
  | 0,_,_,_ => none
  | mo6 + 1,y1,y2,y3 => (bif (decide (y1 < (y2.length : Int))) then ((idx y2 y1).bind fun v7 => ((idx (y2.set (y1.toNat) (⟨y3,v7.Members,v7.Bare⟩ : zC)) y1).bind fun v8 => ((idx ((y2.set (y1.toNat) (⟨y3,v7.Members,v7.Bare⟩ : zC)).set (y1.toNat) (⟨v8.Id,(IntKind.wrap .i64 (y3 + 1)),v8.Bare⟩ : zC)) y1).bind fun v9 => (qx n mo6 (IntKind.wrap .i64 (y1 + 1)) (((y2.set (y1.toNat) (⟨y3,v7.Members,v7.Bare⟩ : zC)).set (y1.toNat) (⟨v8.Id,(IntKind.wrap .i64 (y3 + 1)),v8.Bare⟩ : zC)).set (y1.toNat) (⟨v9.Id,v9.Members,(IntKind.wrap .i64 ((IntKind.wrap .i64 (y3 + 1)) + 1))⟩ : zC)) (IntKind.wrap .i64 ((IntKind.wrap .i64 ((IntKind.wrap .i64 (y3 + 1)) + 1)) + 1)))))) else (some (Sum.inl (y2,y3))))
def Yq (n : Nat) (x0 : (List zC)) (x1 : Int) : Option (Int × (List zC)) :=
  ((qx n n 0 x0 x1).bind fun o => match o with | .inl (y4,y5) => (JA n y4 y5) | .inr r => some r)
noncomputable abbrev zDY (k : Nat) := Rg Tryz.f190 k
theorem zIh (n : Nat) (x0 : (List zC)) (x1 : Int) (r : Int × (List zC)) (H : Yq n x0 x1 = some r) : zD Tryz.prog 190 [.io false [.sl true 3 (x0.map zC.row)],.val false [.lit (.int .i64 x1)]] [.val false [.lit (.int .i64 r.1)]] [(0,[.sl true 3 (r.2.map zC.row)])] := by
 refine zD.of_body tOk Tryz.func190 rfl (c := (.seq (zDY 0) (.seq (.seq (zDY 1) (.block 0 (.loop (.seq (.seq (zDY 2) (.cond (.tmp 9) .skip (.exit 0))) (.seq (.block 1 (.seq (zDY 4) (.seq (zDY 5) (.seq (zDY 6) (.seq (zDY 7) (.seq (zDY 8) (zDY 9))))))) (zDY 3)))))) (.seq (zDY 10) .ret)))) kr (Nat.le_of_ble_eq_true kr) 1 (rs := [.tmp 4]) rfl [0] (by decide) [(false,[.lit (.int .i64 r.1)])] [[.sl true 3 (r.2.map zC.row)]] [] fun cx => ?_
 show Tr _ _ _ ⟨34,1,[sC 0 (cL 3 x0 zC.row),sI 1 x1],[]⟩ _
 unfold Yq at H
 refine gA 1 3 0 ?_
 refine tS ?_
 refine gA 1 35 0 ?_
 obtain ⟨o6,eo6,Ho6⟩ := bs H
 clear H
 refine Tr.mid (ι := (List zC) × Int) (fun v => ⟨34,1,[sC 0 (cL 3 v.1 zC.row),sI 1 v.2],[]⟩) (fun v => JA n v.1 v.2 = some r) ?_ ?_
 ·refine tB ?_
  refine Tr.loop (ι := Nat × (Int × (List zC) × Int)) (fun v => ⟨34,1,[sI 5 v.2.1,sC 0 (cL 3 v.2.2.1 zC.row),sI 1 v.2.2.2],[]⟩) (fun v => qx n v.1 v.2.1 v.2.2.1 v.2.2.2 = some o6) (fun v => v.1) (n,(0,x0,x1)) eo6 (St.sub_of [5,0,1] [] kr) ?_
  rintro ⟨mo6,y1,y2,y3⟩ H
  have H : qx n mo6 y1 y2 y3 = some o6 := H
  obtain _ | mo6 := mo6
  ·exact nN H
  rw [qx] at H
  refine tS ?_
  refine rA 2 ?_
  refine kO y2 zC.row ?_
  refine uA 1 547 0 ?_
  obtain ⟨h1,H⟩ | ⟨h1,H⟩ := bC H
  ·refine nA h1 ?_
   refine Tr.exit ?_
   refine And.intro (fun _ => ?_) (fun h => absurd rfl h)
   obtain rfl := si H
   have H := Ho6
   dsimp only at H
   exact jA (y2,y3) H [0,1] []
  refine tA h1 ?_
  refine tK ?_
  refine tS ?_
  refine tB ?_
  refine rA 3 ?_
  obtain ⟨v7,ev7,H⟩ := bs H
  refine oA zC.row ev7 ?_
  refine lA 1 ?_
  refine sS (tI 3) false [cI y3] 0 0 (y1.toNat) 3 0 3 zC.row (⟨y3,v7.Members,v7.Bare⟩ : zC) (zI ev7).2 ?_
  refine dA 35 0 ?_
  refine gA 3 35 0 ?_
  refine rA 3 ?_
  obtain ⟨v8,ev8,H⟩ := bs H
  refine oA zC.row ev8 ?_
  refine lA 1 ?_
  refine sS (tI 3) false [cI (IntKind.wrap .i64 (y3 + 1))] 0 0 (y1.toNat) 3 1 3 zC.row (⟨v8.Id,(IntKind.wrap .i64 (y3 + 1)),v8.Bare⟩ : zC) (zI ev8).2 ?_
  refine dA 35 0 ?_
  refine gA 3 35 0 ?_
  refine rA 3 ?_
  obtain ⟨v9,ev9,H⟩ := bs H
  refine oA zC.row ev9 ?_
  refine lA 1 ?_
  refine sS (tI 3) false [cI (IntKind.wrap .i64 ((IntKind.wrap .i64 (y3 + 1)) + 1))] 0 0 (y1.toNat) 3 2 3 zC.row (⟨v9.Id,v9.Members,(IntKind.wrap .i64 ((IntKind.wrap .i64 (y3 + 1)) + 1))⟩ : zC) (zI ev9).2 ?_
  refine dA 35 0 ?_
  refine eA 3 35 0 ?_
  refine eA 3 35 0 ?_
  exact jB mo6 ((IntKind.wrap .i64 (y1 + 1)),(((y2.set (y1.toNat) (⟨y3,v7.Members,v7.Bare⟩ : zC)).set (y1.toNat) (⟨v8.Id,(IntKind.wrap .i64 (y3 + 1)),v8.Bare⟩ : zC)).set (y1.toNat) (⟨v9.Id,v9.Members,(IntKind.wrap .i64 ((IntKind.wrap .i64 (y3 + 1)) + 1))⟩ : zC)),(IntKind.wrap .i64 ((IntKind.wrap .i64 ((IntKind.wrap .i64 (y3 + 1)) + 1)) + 1))) H [5,0,1] []
 rintro ⟨y4,y5⟩ H
 have H : (JA n y4 y5) = some r := H
 unfold JA at H
 refine gA 2 17 0 ?_
 refine te ?_
 obtain rfl := si H
 exact Fin.ofY _ [(false,[cI y5])] [false] _ [[cL 3 y4 zC.row]] _ [] kr rfl rfl rfl kr kr kr kr rfl rfl rfl
def Jl (n : Nat) (y4 : (List Int)) (y5 : Int) : Option (Int × (List Int)) :=
  (some (y5,y4))
def q8 (n : Nat) : Nat → Int → (List Int) → Int → Option (((List Int) × Int) ⊕ (Int × (List Int)))
  | 0,_,_,_ => none
  | mo6 + 1,y1,y2,y3 => (bif (decide (y1 < (y2.length : Int))) then ((idx y2 y1).bind fun v7 => (q8 n mo6 (IntKind.wrap .i64 (y1 + 1)) (y2.set (y1.toNat) y3) (IntKind.wrap .i64 (y3 + 1)))) else (some (Sum.inl (y2,y3))))
def JS (n : Nat) (x0 : (List Int)) (x1 : Int) : Option (Int × (List Int)) :=
  ((q8 n n 0 x0 x1).bind fun o => match o with | .inl (y4,y5) => (Jl n y4 y5) | .inr r => some r)
noncomputable abbrev zGz (k : Nat) := Rg Tryz.f191 k
theorem zJd (n : Nat) (x0 : (List Int)) (x1 : Int) (r : Int × (List Int)) (H : JS n x0 x1 = some r) : zD Tryz.prog 191 [.io false [.sl true 1 (x0.map intRow)],.val false [.lit (.int .i64 x1)]] [.val false [.lit (.int .i64 r.1)]] [(0,[.sl true 1 (r.2.map intRow)])] := by
 refine zD.of_body tOk Tryz.func191 rfl (c := (.seq (zGz 0) (.seq (.seq (zGz 1) (.block 0 (.loop (.seq (.seq (zGz 2) (.cond (.tmp 9) .skip (.exit 0))) (.seq (.block 1 (.seq (zGz 4) (zGz 5))) (zGz 3)))))) (.seq (zGz 6) .ret)))) kr (Nat.le_of_ble_eq_true kr) 1 (rs := [.tmp 4]) rfl [0] (by decide) [(false,[.lit (.int .i64 r.1)])] [[.sl true 1 (r.2.map intRow)]] [] fun cx => ?_
 show Tr _ _ _ ⟨19,1,[sC 0 (cL 1 x0 intRow),sI 1 x1],[]⟩ _
 unfold JS at H
 refine gA 1 3 0 ?_
 refine tS ?_
 refine gA 1 35 0 ?_
 obtain ⟨o6,eo6,Ho6⟩ := bs H
 clear H
 refine Tr.mid (ι := (List Int) × Int) (fun v => ⟨19,1,[sC 0 (cL 1 v.1 intRow),sI 1 v.2],[]⟩) (fun v => Jl n v.1 v.2 = some r) ?_ ?_
 ·refine tB ?_
  refine Tr.loop (ι := Nat × (Int × (List Int) × Int)) (fun v => ⟨19,1,[sI 5 v.2.1,sC 0 (cL 1 v.2.2.1 intRow),sI 1 v.2.2.2],[]⟩) (fun v => q8 n v.1 v.2.1 v.2.2.1 v.2.2.2 = some o6) (fun v => v.1) (n,(0,x0,x1)) eo6 (St.sub_of [5,0,1] [] kr) ?_
  rintro ⟨mo6,y1,y2,y3⟩ H
  have H : q8 n mo6 y1 y2 y3 = some o6 := H
  obtain _ | mo6 := mo6
  ·exact nN H
  rw [q8] at H
  refine tS ?_
  refine rA 2 ?_
  refine kO y2 intRow ?_
  refine uA 1 547 0 ?_
  obtain ⟨h1,H⟩ | ⟨h1,H⟩ := bC H
  ·refine nA h1 ?_
   refine Tr.exit ?_
   refine And.intro (fun _ => ?_) (fun h => absurd rfl h)
   obtain rfl := si H
   have H := Ho6
   dsimp only at H
   exact jA (y2,y3) H [0,1] []
  refine tA h1 ?_
  refine tK ?_
  refine tS ?_
  refine tB ?_
  refine rA 3 ?_
  obtain ⟨v7,ev7,H⟩ := bs H
  refine oA intRow ev7 ?_
  refine sS (tI 3) false [cI y3] 0 0 (y1.toNat) 1 0 1 intRow y3 (zI ev7).2 ?_
  refine dA 35 0 ?_
  refine eA 3 35 0 ?_
  refine eA 3 35 0 ?_
  exact jB mo6 ((IntKind.wrap .i64 (y1 + 1)),(y2.set (y1.toNat) y3),(IntKind.wrap .i64 (y3 + 1))) H [5,0,1] []
 rintro ⟨y4,y5⟩ H
 have H : (Jl n y4 y5) = some r := H
 unfold Jl at H
 refine gA 2 17 0 ?_
 refine te ?_
 obtain rfl := si H
 exact Fin.ofY _ [(false,[cI y5])] [false] _ [[cL 1 y4 intRow]] _ [] kr rfl rfl rfl kr kr kr kr rfl rfl rfl
def YT (n : Nat) (y4 : (List zA)) (y5 : Int) : Option (Int × (List zA)) :=
  (some (y5,y4))
def qb (n : Nat) : Nat → Int → (List zA) → Int → Option (((List zA) × Int) ⊕ (Int × (List zA)))
  | 0,_,_,_ => none
  | mo6 + 1,y1,y2,y3 => (bif (decide (y1 < (y2.length : Int))) then ((idx y2 y1).bind fun v7 => ((Q9 n (IntKind.wrap .i64 (y3 + 1))).bind fun r8 => ((idx (y2.set (y1.toNat) (⟨y3,v7.Name,v7.Ps,v7.F,v7.V,v7.Tk,v7.Pa,v7.Wo,v7.Dr,v7.Ve⟩ : zA)) y1).bind fun v9 => ((idx ((y2.set (y1.toNat) (⟨y3,v7.Name,v7.Ps,v7.F,v7.V,v7.Tk,v7.Pa,v7.Wo,v7.Dr,v7.Ve⟩ : zA)).set (y1.toNat) (⟨v9.Id,r8,v9.Ps,v9.F,v9.V,v9.Tk,v9.Pa,v9.Wo,v9.Dr,v9.Ve⟩ : zA)) y1).bind fun v10 => ((J1 n v10.Ps (IntKind.wrap .i64 ((IntKind.wrap .i64 (y3 + 1)) + 1))).bind fun r11 => ((idx (((y2.set (y1.toNat) (⟨y3,v7.Name,v7.Ps,v7.F,v7.V,v7.Tk,v7.Pa,v7.Wo,v7.Dr,v7.Ve⟩ : zA)).set (y1.toNat) (⟨v9.Id,r8,v9.Ps,v9.F,v9.V,v9.Tk,v9.Pa,v9.Wo,v9.Dr,v9.Ve⟩ : zA)).set (y1.toNat) (⟨v10.Id,v10.Name,r11.2,v10.F,v10.V,v10.Tk,v10.Pa,v10.Wo,v10.Dr,v10.Ve⟩ : zA)) y1).bind fun v12 => ((Yo n v12.F r11.1).bind fun r13 => ((idx ((((y2.set (y1.toNat) (⟨y3,v7.Name,v7.Ps,v7.F,v7.V,v7.Tk,v7.Pa,v7.Wo,v7.Dr,v7.Ve⟩ : zA)).set (y1.toNat) (⟨v9.Id,r8,v9.Ps,v9.F,v9.V,v9.Tk,v9.Pa,v9.Wo,v9.Dr,v9.Ve⟩ : zA)).set (y1.toNat) (⟨v10.Id,v10.Name,r11.2,v10.F,v10.V,v10.Tk,v10.Pa,v10.Wo,v10.Dr,v10.Ve⟩ : zA)).set (y1.toNat) (⟨v12.Id,v12.Name,v12.Ps,r13.2,v12.V,v12.Tk,v12.Pa,v12.Wo,v12.Dr,v12.Ve⟩ : zA)) y1).bind fun v14 => ((Yq n v14.V.Rows r13.1).bind fun r15 => ((idx (((((y2.set (y1.toNat) (⟨y3,v7.Name,v7.Ps,v7.F,v7.V,v7.Tk,v7.Pa,v7.Wo,v7.Dr,v7.Ve⟩ : zA)).set (y1.toNat) (⟨v9.Id,r8,v9.Ps,v9.F,v9.V,v9.Tk,v9.Pa,v9.Wo,v9.Dr,v9.Ve⟩ : zA)).set (y1.toNat) (⟨v10.Id,v10.Name,r11.2,v10.F,v10.V,v10.Tk,v10.Pa,v10.Wo,v10.Dr,v10.Ve⟩ : zA)).set (y1.toNat) (⟨v12.Id,v12.Name,v12.Ps,r13.2,v12.V,v12.Tk,v12.Pa,v12.Wo,v12.Dr,v12.Ve⟩ : zA)).set (y1.toNat) (⟨v14.Id,v14.Name,v14.Ps,v14.F,(⟨r15.2,v14.V.Pv⟩ : zF),v14.Tk,v14.Pa,v14.Wo,v14.Dr,v14.Ve⟩ : zA)) y1).bind fun v16 => ((JS n v16.V.Pv r15.1).bind fun r17 => ((idx ((((((y2.set (y1.toNat) (⟨y3,v7.Name,v7.Ps,v7.F,v7.V,v7.Tk,v7.Pa,v7.Wo,v7.Dr,v7.Ve⟩ : zA)).set (y1.toNat) (⟨v9.Id,r8,v9.Ps,v9.F,v9.V,v9.Tk,v9.Pa,v9.Wo,v9.Dr,v9.Ve⟩ : zA)).set (y1.toNat) (⟨v10.Id,v10.Name,r11.2,v10.F,v10.V,v10.Tk,v10.Pa,v10.Wo,v10.Dr,v10.Ve⟩ : zA)).set (y1.toNat) (⟨v12.Id,v12.Name,v12.Ps,r13.2,v12.V,v12.Tk,v12.Pa,v12.Wo,v12.Dr,v12.Ve⟩ : zA)).set (y1.toNat) (⟨v14.Id,v14.Name,v14.Ps,v14.F,(⟨r15.2,v14.V.Pv⟩ : zF),v14.Tk,v14.Pa,v14.Wo,v14.Dr,v14.Ve⟩ : zA)).set (y1.toNat) (⟨v16.Id,v16.Name,v16.Ps,v16.F,(⟨v16.V.Rows,r17.2⟩ : zF),v16.Tk,v16.Pa,v16.Wo,v16.Dr,v16.Ve⟩ : zA)) y1).bind fun v18 => ((idx (((((((y2.set (y1.toNat) (⟨y3,v7.Name,v7.Ps,v7.F,v7.V,v7.Tk,v7.Pa,v7.Wo,v7.Dr,v7.Ve⟩ : zA)).set (y1.toNat) (⟨v9.Id,r8,v9.Ps,v9.F,v9.V,v9.Tk,v9.Pa,v9.Wo,v9.Dr,v9.Ve⟩ : zA)).set (y1.toNat) (⟨v10.Id,v10.Name,r11.2,v10.F,v10.V,v10.Tk,v10.Pa,v10.Wo,v10.Dr,v10.Ve⟩ : zA)).set (y1.toNat) (⟨v12.Id,v12.Name,v12.Ps,r13.2,v12.V,v12.Tk,v12.Pa,v12.Wo,v12.Dr,v12.Ve⟩ : zA)).set (y1.toNat) (⟨v14.Id,v14.Name,v14.Ps,v14.F,(⟨r15.2,v14.V.Pv⟩ : zF),v14.Tk,v14.Pa,v14.Wo,v14.Dr,v14.Ve⟩ : zA)).set (y1.toNat) (⟨v16.Id,v16.Name,v16.Ps,v16.F,(⟨v16.V.Rows,r17.2⟩ : zF),v16.Tk,v16.Pa,v16.Wo,v16.Dr,v16.Ve⟩ : zA)).set (y1.toNat) (⟨v18.Id,v18.Name,v18.Ps,v18.F,v18.V,r17.1,v18.Pa,v18.Wo,v18.Dr,v18.Ve⟩ : zA)) y1).bind fun v19 => ((idx ((((((((y2.set (y1.toNat) (⟨y3,v7.Name,v7.Ps,v7.F,v7.V,v7.Tk,v7.Pa,v7.Wo,v7.Dr,v7.Ve⟩ : zA)).set (y1.toNat) (⟨v9.Id,r8,v9.Ps,v9.F,v9.V,v9.Tk,v9.Pa,v9.Wo,v9.Dr,v9.Ve⟩ : zA)).set (y1.toNat) (⟨v10.Id,v10.Name,r11.2,v10.F,v10.V,v10.Tk,v10.Pa,v10.Wo,v10.Dr,v10.Ve⟩ : zA)).set (y1.toNat) (⟨v12.Id,v12.Name,v12.Ps,r13.2,v12.V,v12.Tk,v12.Pa,v12.Wo,v12.Dr,v12.Ve⟩ : zA)).set (y1.toNat) (⟨v14.Id,v14.Name,v14.Ps,v14.F,(⟨r15.2,v14.V.Pv⟩ : zF),v14.Tk,v14.Pa,v14.Wo,v14.Dr,v14.Ve⟩ : zA)).set (y1.toNat) (⟨v16.Id,v16.Name,v16.Ps,v16.F,(⟨v16.V.Rows,r17.2⟩ : zF),v16.Tk,v16.Pa,v16.Wo,v16.Dr,v16.Ve⟩ : zA)).set (y1.toNat) (⟨v18.Id,v18.Name,v18.Ps,v18.F,v18.V,r17.1,v18.Pa,v18.Wo,v18.Dr,v18.Ve⟩ : zA)).set (y1.toNat) (⟨v19.Id,v19.Name,v19.Ps,v19.F,v19.V,v19.Tk,(IntKind.wrap .i64 (r17.1 + 1)),v19.Wo,v19.Dr,v19.Ve⟩ : zA)) y1).bind fun v20 => ((idx (((((((((y2.set (y1.toNat) (⟨y3,v7.Name,v7.Ps,v7.F,v7.V,v7.Tk,v7.Pa,v7.Wo,v7.Dr,v7.Ve⟩ : zA)).set (y1.toNat) (⟨v9.Id,r8,v9.Ps,v9.F,v9.V,v9.Tk,v9.Pa,v9.Wo,v9.Dr,v9.Ve⟩ : zA)).set (y1.toNat) (⟨v10.Id,v10.Name,r11.2,v10.F,v10.V,v10.Tk,v10.Pa,v10.Wo,v10.Dr,v10.Ve⟩ : zA)).set (y1.toNat) (⟨v12.Id,v12.Name,v12.Ps,r13.2,v12.V,v12.Tk,v12.Pa,v12.Wo,v12.Dr,v12.Ve⟩ : zA)).set (y1.toNat) (⟨v14.Id,v14.Name,v14.Ps,v14.F,(⟨r15.2,v14.V.Pv⟩ : zF),v14.Tk,v14.Pa,v14.Wo,v14.Dr,v14.Ve⟩ : zA)).set (y1.toNat) (⟨v16.Id,v16.Name,v16.Ps,v16.F,(⟨v16.V.Rows,r17.2⟩ : zF),v16.Tk,v16.Pa,v16.Wo,v16.Dr,v16.Ve⟩ : zA)).set (y1.toNat) (⟨v18.Id,v18.Name,v18.Ps,v18.F,v18.V,r17.1,v18.Pa,v18.Wo,v18.Dr,v18.Ve⟩ : zA)).set (y1.toNat) (⟨v19.Id,v19.Name,v19.Ps,v19.F,v19.V,v19.Tk,(IntKind.wrap .i64 (r17.1 + 1)),v19.Wo,v19.Dr,v19.Ve⟩ : zA)).set (y1.toNat) (⟨v20.Id,v20.Name,v20.Ps,v20.F,v20.V,v20.Tk,v20.Pa,(IntKind.wrap .i64 ((IntKind.wrap .i64 (r17.1 + 1)) + 1)),v20.Dr,v20.Ve⟩ : zA)) y1).bind fun v21 => ((idx ((((((((((y2.set (y1.toNat) (⟨y3,v7.Name,v7.Ps,v7.F,v7.V,v7.Tk,v7.Pa,v7.Wo,v7.Dr,v7.Ve⟩ : zA)).set (y1.toNat) (⟨v9.Id,r8,v9.Ps,v9.F,v9.V,v9.Tk,v9.Pa,v9.Wo,v9.Dr,v9.Ve⟩ : zA)).set (y1.toNat) (⟨v10.Id,v10.Name,r11.2,v10.F,v10.V,v10.Tk,v10.Pa,v10.Wo,v10.Dr,v10.Ve⟩ : zA)).set (y1.toNat) (⟨v12.Id,v12.Name,v12.Ps,r13.2,v12.V,v12.Tk,v12.Pa,v12.Wo,v12.Dr,v12.Ve⟩ : zA)).set (y1.toNat) (⟨v14.Id,v14.Name,v14.Ps,v14.F,(⟨r15.2,v14.V.Pv⟩ : zF),v14.Tk,v14.Pa,v14.Wo,v14.Dr,v14.Ve⟩ : zA)).set (y1.toNat) (⟨v16.Id,v16.Name,v16.Ps,v16.F,(⟨v16.V.Rows,r17.2⟩ : zF),v16.Tk,v16.Pa,v16.Wo,v16.Dr,v16.Ve⟩ : zA)).set (y1.toNat) (⟨v18.Id,v18.Name,v18.Ps,v18.F,v18.V,r17.1,v18.Pa,v18.Wo,v18.Dr,v18.Ve⟩ : zA)).set (y1.toNat) (⟨v19.Id,v19.Name,v19.Ps,v19.F,v19.V,v19.Tk,(IntKind.wrap .i64 (r17.1 + 1)),v19.Wo,v19.Dr,v19.Ve⟩ : zA)).set (y1.toNat) (⟨v20.Id,v20.Name,v20.Ps,v20.F,v20.V,v20.Tk,v20.Pa,(IntKind.wrap .i64 ((IntKind.wrap .i64 (r17.1 + 1)) + 1)),v20.Dr,v20.Ve⟩ : zA)).set (y1.toNat) (⟨v21.Id,v21.Name,v21.Ps,v21.F,v21.V,v21.Tk,v21.Pa,v21.Wo,(IntKind.wrap .i64 ((IntKind.wrap .i64 ((IntKind.wrap .i64 (r17.1 + 1)) + 1)) + 1)),v21.Ve⟩ : zA)) y1).bind fun v22 => (qb n mo6 (IntKind.wrap .i64 (y1 + 1)) (((((((((((y2.set (y1.toNat) (⟨y3,v7.Name,v7.Ps,v7.F,v7.V,v7.Tk,v7.Pa,v7.Wo,v7.Dr,v7.Ve⟩ : zA)).set (y1.toNat) (⟨v9.Id,r8,v9.Ps,v9.F,v9.V,v9.Tk,v9.Pa,v9.Wo,v9.Dr,v9.Ve⟩ : zA)).set (y1.toNat) (⟨v10.Id,v10.Name,r11.2,v10.F,v10.V,v10.Tk,v10.Pa,v10.Wo,v10.Dr,v10.Ve⟩ : zA)).set (y1.toNat) (⟨v12.Id,v12.Name,v12.Ps,r13.2,v12.V,v12.Tk,v12.Pa,v12.Wo,v12.Dr,v12.Ve⟩ : zA)).set (y1.toNat) (⟨v14.Id,v14.Name,v14.Ps,v14.F,(⟨r15.2,v14.V.Pv⟩ : zF),v14.Tk,v14.Pa,v14.Wo,v14.Dr,v14.Ve⟩ : zA)).set (y1.toNat) (⟨v16.Id,v16.Name,v16.Ps,v16.F,(⟨v16.V.Rows,r17.2⟩ : zF),v16.Tk,v16.Pa,v16.Wo,v16.Dr,v16.Ve⟩ : zA)).set (y1.toNat) (⟨v18.Id,v18.Name,v18.Ps,v18.F,v18.V,r17.1,v18.Pa,v18.Wo,v18.Dr,v18.Ve⟩ : zA)).set (y1.toNat) (⟨v19.Id,v19.Name,v19.Ps,v19.F,v19.V,v19.Tk,(IntKind.wrap .i64 (r17.1 + 1)),v19.Wo,v19.Dr,v19.Ve⟩ : zA)).set (y1.toNat) (⟨v20.Id,v20.Name,v20.Ps,v20.F,v20.V,v20.Tk,v20.Pa,(IntKind.wrap .i64 ((IntKind.wrap .i64 (r17.1 + 1)) + 1)),v20.Dr,v20.Ve⟩ : zA)).set (y1.toNat) (⟨v21.Id,v21.Name,v21.Ps,v21.F,v21.V,v21.Tk,v21.Pa,v21.Wo,(IntKind.wrap .i64 ((IntKind.wrap .i64 ((IntKind.wrap .i64 (r17.1 + 1)) + 1)) + 1)),v21.Ve⟩ : zA)).set (y1.toNat) (⟨v22.Id,v22.Name,v22.Ps,v22.F,v22.V,v22.Tk,v22.Pa,v22.Wo,v22.Dr,(IntKind.wrap .i64 ((IntKind.wrap .i64 ((IntKind.wrap .i64 ((IntKind.wrap .i64 (r17.1 + 1)) + 1)) + 1)) + 1))⟩ : zA)) (IntKind.wrap .i64 ((IntKind.wrap .i64 ((IntKind.wrap .i64 ((IntKind.wrap .i64 ((IntKind.wrap .i64 (r17.1 + 1)) + 1)) + 1)) + 1)) + 1))))))))))))))))))) else (some (Sum.inl (y2,y3))))
def Qx (n : Nat) (x0 : (List zA)) (x1 : Int) : Option (Int × (List zA)) :=
  ((qb n n 0 x0 x1).bind fun o => match o with | .inl (y4,y5) => (YT n y4 y5) | .inr r => some r)
noncomputable abbrev YE (k : Nat) := Rg Tryz.f124 k
theorem zHA (n : Nat) (x0 : (List zA)) (x1 : Int) (r : Int × (List zA)) (H : Qx n x0 x1 = some r) : zD Tryz.prog 124 [.io false [.sl true 11 (x0.map zA.row)],.val false [.lit (.int .i64 x1)]] [.val false [.lit (.int .i64 r.1)]] [(0,[.sl true 11 (r.2.map zA.row)])] := by
 refine zD.of_body tOk Tryz.func124 rfl (c := (.seq (YE 0) (.seq (.seq (YE 1) (.block 0 (.loop (.seq (.seq (YE 2) (.cond (.tmp 9) .skip (.exit 0))) (.seq (.block 1 (.seq (YE 4) (.seq (YE 5) (.seq (YE 6) (.seq (YE 7) (.seq (YE 8) (.seq (YE 9) (.seq (YE 10) (.seq (YE 11) (.seq (YE 12) (.seq (YE 13) (.seq (YE 14) (.seq (YE 15) (.seq (YE 16) (.seq (YE 17) (.seq (YE 18) (.seq (YE 19) (.seq (YE 20) (YE 21))))))))))))))))))) (YE 3)))))) (.seq (YE 22) .ret)))) kr (Nat.le_of_ble_eq_true kr) 1 (rs := [.tmp 4]) rfl [0] (by decide) [(false,[.lit (.int .i64 r.1)])] [[.sl true 11 (r.2.map zA.row)]] [] fun cx => ?_
 show Tr _ _ _ ⟨93,1,[sC 0 (cL 11 x0 zA.row),sI 1 x1],[]⟩ _
 unfold Qx at H
 refine gA 1 3 0 ?_
 refine tS ?_
 refine gA 1 35 0 ?_
 obtain ⟨o6,eo6,Ho6⟩ := bs H
 clear H
 refine Tr.mid (ι := (List zA) × Int) (fun v => ⟨93,1,[sC 0 (cL 11 v.1 zA.row),sI 1 v.2],[]⟩) (fun v => YT n v.1 v.2 = some r) ?_ ?_
 ·refine tB ?_
  refine Tr.loop (ι := Nat × (Int × (List zA) × Int)) (fun v => ⟨93,1,[sI 5 v.2.1,sC 0 (cL 11 v.2.2.1 zA.row),sI 1 v.2.2.2],[]⟩) (fun v => qb n v.1 v.2.1 v.2.2.1 v.2.2.2 = some o6) (fun v => v.1) (n,(0,x0,x1)) eo6 (St.sub_of [5,0,1] [] kr) ?_
  rintro ⟨mo6,y1,y2,y3⟩ H
  have H : qb n mo6 y1 y2 y3 = some o6 := H
  obtain _ | mo6 := mo6
  ·exact nN H
  rw [qb] at H
  refine tS ?_
  refine rA 2 ?_
  refine kO y2 zA.row ?_
  refine uA 1 547 0 ?_
  obtain ⟨h1,H⟩ | ⟨h1,H⟩ := bC H
  ·refine nA h1 ?_
   refine Tr.exit ?_
   refine And.intro (fun _ => ?_) (fun h => absurd rfl h)
   obtain rfl := si H
   have H := Ho6
   dsimp only at H
   exact jA (y2,y3) H [0,1] []
  refine tA h1 ?_
  refine tK ?_
  refine tS ?_
  refine tB ?_
  refine rA 3 ?_
  obtain ⟨v7,ev7,H⟩ := bs H
  refine oA zA.row ev7 ?_
  refine lA 1 ?_
  refine sS (tI 3) false [cI y3] 0 0 (y1.toNat) 11 0 11 zA.row (⟨y3,v7.Name,v7.Ps,v7.F,v7.V,v7.Tk,v7.Pa,v7.Wo,v7.Dr,v7.Ve⟩ : zA) (zI ev7).2 ?_
  refine dA 35 0 ?_
  refine gA 3 35 0 ?_
  refine rA 3 ?_
  obtain ⟨r8,er8,H⟩ := bs H
  refine vA [.rd] (zFF n (IntKind.wrap .i64 (y3 + 1)) r8 er8) ?_
  obtain ⟨v9,ev9,H⟩ := bs H
  refine oA zA.row ev9 ?_
  refine lA 1 ?_
  refine sS (tI 9) false [cS r8] 0 0 (y1.toNat) 11 1 11 zA.row (⟨v9.Id,r8,v9.Ps,v9.F,v9.V,v9.Tk,v9.Pa,v9.Wo,v9.Dr,v9.Ve⟩ : zA) (zI ev9).2 ?_
  refine dA 35 0 ?_
  refine gA 3 35 0 ?_
  refine rA 2 ?_
  obtain ⟨v10,ev10,H⟩ := bs H
  refine oA zA.row ev10 ?_
  refine lA 1 ?_
  refine dE (tI 35) (.slot 0) [(0,(y1.toNat))] 11 2 [cL 11 ((y2.set (y1.toNat) (⟨y3,v7.Name,v7.Ps,v7.F,v7.V,v7.Tk,v7.Pa,v7.Wo,v7.Dr,v7.Ve⟩ : zA)).set (y1.toNat) (⟨v9.Id,r8,v9.Ps,v9.F,v9.V,v9.Tk,v9.Pa,v9.Wo,v9.Dr,v9.Ve⟩ : zA)) zA.row] (zA.row v10) (Q1 rfl (zI ev10).2) ?_
  refine lA 1 ?_
  obtain ⟨r11,er11,H⟩ := bs H
  refine LAt.callO tOk [.lend,.rd] (f := 95) (av := #[.tmp 31,.tmp 32]) (ats := #[35,3]) (d := (some 33)) (ty := 3) (g := none) [(31,zA.row v10)] (some [cL 11 (((y2.set (y1.toNat) (⟨y3,v7.Name,v7.Ps,v7.F,v7.V,v7.Tk,v7.Pa,v7.Wo,v7.Dr,v7.Ve⟩ : zA)).set (y1.toNat) (⟨v9.Id,r8,v9.Ps,v9.F,v9.V,v9.Tk,v9.Pa,v9.Wo,v9.Dr,v9.Ve⟩ : zA)).set (y1.toNat) (⟨v10.Id,v10.Name,r11.2,v10.F,v10.V,v10.Tk,v10.Pa,v10.Wo,v10.Dr,v10.Ve⟩ : zA)) zA.row]) kr kr kr [] (zKI n v10.Ps (IntKind.wrap .i64 ((IntKind.wrap .i64 (y3 + 1)) + 1)) r11 er11) (YL (row := [cL 11 ((y2.set (y1.toNat) (⟨y3,v7.Name,v7.Ps,v7.F,v7.V,v7.Tk,v7.Pa,v7.Wo,v7.Dr,v7.Ve⟩ : zA)).set (y1.toNat) (⟨v9.Id,r8,v9.Ps,v9.F,v9.V,v9.Tk,v9.Pa,v9.Wo,v9.Dr,v9.Ve⟩ : zA)) zA.row]) (q := [(0,(y1.toNat))]) kr (Q1 rfl (zI ev10).2) JV) kr (zGE [cL 11 ((y2.set (y1.toNat) (⟨y3,v7.Name,v7.Ps,v7.F,v7.V,v7.Tk,v7.Pa,v7.Wo,v7.Dr,v7.Ve⟩ : zA)).set (y1.toNat) (⟨v9.Id,r8,v9.Ps,v9.F,v9.V,v9.Tk,v9.Pa,v9.Wo,v9.Dr,v9.Ve⟩ : zA)) zA.row] [(0,(y1.toNat))] false 2 [cL 8 r11.2 Pt.row] kr (zBu (new := (⟨v10.Id,v10.Name,r11.2,v10.F,v10.V,v10.Tk,v10.Pa,v10.Wo,v10.Dr,v10.Ve⟩ : zA)) rfl (zI ev10).2 rfl)) (.inl rfl) ?_
  refine uA 1 35 0 ?_
  refine rA 2 ?_
  obtain ⟨v12,ev12,H⟩ := bs H
  refine oA zA.row ev12 ?_
  refine lA 1 ?_
  refine dE (tI 36) (.slot 0) [(0,(y1.toNat))] 11 3 [cL 11 (((y2.set (y1.toNat) (⟨y3,v7.Name,v7.Ps,v7.F,v7.V,v7.Tk,v7.Pa,v7.Wo,v7.Dr,v7.Ve⟩ : zA)).set (y1.toNat) (⟨v9.Id,r8,v9.Ps,v9.F,v9.V,v9.Tk,v9.Pa,v9.Wo,v9.Dr,v9.Ve⟩ : zA)).set (y1.toNat) (⟨v10.Id,v10.Name,r11.2,v10.F,v10.V,v10.Tk,v10.Pa,v10.Wo,v10.Dr,v10.Ve⟩ : zA)) zA.row] (zA.row v12) (Q1 rfl (zI ev12).2) ?_
  refine lA 1 ?_
  obtain ⟨r13,er13,H⟩ := bs H
  refine LAt.callO tOk [.lend,.rd] (f := 96) (av := #[.tmp 38,.tmp 39]) (ats := #[36,3]) (d := (some 40)) (ty := 3) (g := none) [(38,zA.row v12)] (some [cL 11 ((((y2.set (y1.toNat) (⟨y3,v7.Name,v7.Ps,v7.F,v7.V,v7.Tk,v7.Pa,v7.Wo,v7.Dr,v7.Ve⟩ : zA)).set (y1.toNat) (⟨v9.Id,r8,v9.Ps,v9.F,v9.V,v9.Tk,v9.Pa,v9.Wo,v9.Dr,v9.Ve⟩ : zA)).set (y1.toNat) (⟨v10.Id,v10.Name,r11.2,v10.F,v10.V,v10.Tk,v10.Pa,v10.Wo,v10.Dr,v10.Ve⟩ : zA)).set (y1.toNat) (⟨v12.Id,v12.Name,v12.Ps,r13.2,v12.V,v12.Tk,v12.Pa,v12.Wo,v12.Dr,v12.Ve⟩ : zA)) zA.row]) kr kr kr [] (zIf n v12.F r11.1 r13 er13) (YL (row := [cL 11 (((y2.set (y1.toNat) (⟨y3,v7.Name,v7.Ps,v7.F,v7.V,v7.Tk,v7.Pa,v7.Wo,v7.Dr,v7.Ve⟩ : zA)).set (y1.toNat) (⟨v9.Id,r8,v9.Ps,v9.F,v9.V,v9.Tk,v9.Pa,v9.Wo,v9.Dr,v9.Ve⟩ : zA)).set (y1.toNat) (⟨v10.Id,v10.Name,r11.2,v10.F,v10.V,v10.Tk,v10.Pa,v10.Wo,v10.Dr,v10.Ve⟩ : zA)) zA.row]) (q := [(0,(y1.toNat))]) kr (Q1 rfl (zI ev12).2) JV) kr (zGE [cL 11 (((y2.set (y1.toNat) (⟨y3,v7.Name,v7.Ps,v7.F,v7.V,v7.Tk,v7.Pa,v7.Wo,v7.Dr,v7.Ve⟩ : zA)).set (y1.toNat) (⟨v9.Id,r8,v9.Ps,v9.F,v9.V,v9.Tk,v9.Pa,v9.Wo,v9.Dr,v9.Ve⟩ : zA)).set (y1.toNat) (⟨v10.Id,v10.Name,r11.2,v10.F,v10.V,v10.Tk,v10.Pa,v10.Wo,v10.Dr,v10.Ve⟩ : zA)) zA.row] [(0,(y1.toNat))] false 3 [cL 5 r13.2 zB.row] kr (zBu (new := (⟨v12.Id,v12.Name,v12.Ps,r13.2,v12.V,v12.Tk,v12.Pa,v12.Wo,v12.Dr,v12.Ve⟩ : zA)) rfl (zI ev12).2 rfl)) (.inl rfl) ?_
  refine uA 1 35 0 ?_
  refine rA 2 ?_
  obtain ⟨v14,ev14,H⟩ := bs H
  refine oA zA.row ev14 ?_
  refine lA 2 ?_
  refine dE (tI 37) (.slot 0) [(0,(y1.toNat))] 11 4 [cL 11 ((((y2.set (y1.toNat) (⟨y3,v7.Name,v7.Ps,v7.F,v7.V,v7.Tk,v7.Pa,v7.Wo,v7.Dr,v7.Ve⟩ : zA)).set (y1.toNat) (⟨v9.Id,r8,v9.Ps,v9.F,v9.V,v9.Tk,v9.Pa,v9.Wo,v9.Dr,v9.Ve⟩ : zA)).set (y1.toNat) (⟨v10.Id,v10.Name,r11.2,v10.F,v10.V,v10.Tk,v10.Pa,v10.Wo,v10.Dr,v10.Ve⟩ : zA)).set (y1.toNat) (⟨v12.Id,v12.Name,v12.Ps,r13.2,v12.V,v12.Tk,v12.Pa,v12.Wo,v12.Dr,v12.Ve⟩ : zA)) zA.row] (zA.row v14) (Q1 rfl (zI ev14).2) ?_
  refine lA 1 ?_
  obtain ⟨r15,er15,H⟩ := bs H
  refine LAt.callO tOk [.lend,.rd] (f := 190) (av := #[.tmp 46,.tmp 47]) (ats := #[37,3]) (d := (some 48)) (ty := 3) (g := none) [(46,zA.row v14)] (some [cL 11 (((((y2.set (y1.toNat) (⟨y3,v7.Name,v7.Ps,v7.F,v7.V,v7.Tk,v7.Pa,v7.Wo,v7.Dr,v7.Ve⟩ : zA)).set (y1.toNat) (⟨v9.Id,r8,v9.Ps,v9.F,v9.V,v9.Tk,v9.Pa,v9.Wo,v9.Dr,v9.Ve⟩ : zA)).set (y1.toNat) (⟨v10.Id,v10.Name,r11.2,v10.F,v10.V,v10.Tk,v10.Pa,v10.Wo,v10.Dr,v10.Ve⟩ : zA)).set (y1.toNat) (⟨v12.Id,v12.Name,v12.Ps,r13.2,v12.V,v12.Tk,v12.Pa,v12.Wo,v12.Dr,v12.Ve⟩ : zA)).set (y1.toNat) (⟨v14.Id,v14.Name,v14.Ps,v14.F,(⟨r15.2,v14.V.Pv⟩ : zF),v14.Tk,v14.Pa,v14.Wo,v14.Dr,v14.Ve⟩ : zA)) zA.row]) kr kr kr [] (zIh n v14.V.Rows r13.1 r15 er15) (YL (row := [cL 11 ((((y2.set (y1.toNat) (⟨y3,v7.Name,v7.Ps,v7.F,v7.V,v7.Tk,v7.Pa,v7.Wo,v7.Dr,v7.Ve⟩ : zA)).set (y1.toNat) (⟨v9.Id,r8,v9.Ps,v9.F,v9.V,v9.Tk,v9.Pa,v9.Wo,v9.Dr,v9.Ve⟩ : zA)).set (y1.toNat) (⟨v10.Id,v10.Name,r11.2,v10.F,v10.V,v10.Tk,v10.Pa,v10.Wo,v10.Dr,v10.Ve⟩ : zA)).set (y1.toNat) (⟨v12.Id,v12.Name,v12.Ps,r13.2,v12.V,v12.Tk,v12.Pa,v12.Wo,v12.Dr,v12.Ve⟩ : zA)) zA.row]) (q := [(0,(y1.toNat))]) kr (Q1 rfl (zI ev14).2) JV) kr (zGE [cL 11 ((((y2.set (y1.toNat) (⟨y3,v7.Name,v7.Ps,v7.F,v7.V,v7.Tk,v7.Pa,v7.Wo,v7.Dr,v7.Ve⟩ : zA)).set (y1.toNat) (⟨v9.Id,r8,v9.Ps,v9.F,v9.V,v9.Tk,v9.Pa,v9.Wo,v9.Dr,v9.Ve⟩ : zA)).set (y1.toNat) (⟨v10.Id,v10.Name,r11.2,v10.F,v10.V,v10.Tk,v10.Pa,v10.Wo,v10.Dr,v10.Ve⟩ : zA)).set (y1.toNat) (⟨v12.Id,v12.Name,v12.Ps,r13.2,v12.V,v12.Tk,v12.Pa,v12.Wo,v12.Dr,v12.Ve⟩ : zA)) zA.row] [(0,(y1.toNat))] false 4 [cL 3 r15.2 zC.row] kr (zBu (new := (⟨v14.Id,v14.Name,v14.Ps,v14.F,(⟨r15.2,v14.V.Pv⟩ : zF),v14.Tk,v14.Pa,v14.Wo,v14.Dr,v14.Ve⟩ : zA)) rfl (zI ev14).2 rfl)) (.inl rfl) ?_
  refine uA 1 35 0 ?_
  refine rA 2 ?_
  obtain ⟨v16,ev16,H⟩ := bs H
  refine oA zA.row ev16 ?_
  refine lA 2 ?_
  refine dE (tI 25) (.slot 0) [(0,(y1.toNat))] 11 5 [cL 11 (((((y2.set (y1.toNat) (⟨y3,v7.Name,v7.Ps,v7.F,v7.V,v7.Tk,v7.Pa,v7.Wo,v7.Dr,v7.Ve⟩ : zA)).set (y1.toNat) (⟨v9.Id,r8,v9.Ps,v9.F,v9.V,v9.Tk,v9.Pa,v9.Wo,v9.Dr,v9.Ve⟩ : zA)).set (y1.toNat) (⟨v10.Id,v10.Name,r11.2,v10.F,v10.V,v10.Tk,v10.Pa,v10.Wo,v10.Dr,v10.Ve⟩ : zA)).set (y1.toNat) (⟨v12.Id,v12.Name,v12.Ps,r13.2,v12.V,v12.Tk,v12.Pa,v12.Wo,v12.Dr,v12.Ve⟩ : zA)).set (y1.toNat) (⟨v14.Id,v14.Name,v14.Ps,v14.F,(⟨r15.2,v14.V.Pv⟩ : zF),v14.Tk,v14.Pa,v14.Wo,v14.Dr,v14.Ve⟩ : zA)) zA.row] (zA.row v16) (Q1 rfl (zI ev16).2) ?_
  refine lA 1 ?_
  obtain ⟨r17,er17,H⟩ := bs H
  refine LAt.callO tOk [.lend,.rd] (f := 191) (av := #[.tmp 54,.tmp 55]) (ats := #[25,3]) (d := (some 56)) (ty := 3) (g := none) [(54,zA.row v16)] (some [cL 11 ((((((y2.set (y1.toNat) (⟨y3,v7.Name,v7.Ps,v7.F,v7.V,v7.Tk,v7.Pa,v7.Wo,v7.Dr,v7.Ve⟩ : zA)).set (y1.toNat) (⟨v9.Id,r8,v9.Ps,v9.F,v9.V,v9.Tk,v9.Pa,v9.Wo,v9.Dr,v9.Ve⟩ : zA)).set (y1.toNat) (⟨v10.Id,v10.Name,r11.2,v10.F,v10.V,v10.Tk,v10.Pa,v10.Wo,v10.Dr,v10.Ve⟩ : zA)).set (y1.toNat) (⟨v12.Id,v12.Name,v12.Ps,r13.2,v12.V,v12.Tk,v12.Pa,v12.Wo,v12.Dr,v12.Ve⟩ : zA)).set (y1.toNat) (⟨v14.Id,v14.Name,v14.Ps,v14.F,(⟨r15.2,v14.V.Pv⟩ : zF),v14.Tk,v14.Pa,v14.Wo,v14.Dr,v14.Ve⟩ : zA)).set (y1.toNat) (⟨v16.Id,v16.Name,v16.Ps,v16.F,(⟨v16.V.Rows,r17.2⟩ : zF),v16.Tk,v16.Pa,v16.Wo,v16.Dr,v16.Ve⟩ : zA)) zA.row]) kr kr kr [] (zJd n v16.V.Pv r15.1 r17 er17) (YL (row := [cL 11 (((((y2.set (y1.toNat) (⟨y3,v7.Name,v7.Ps,v7.F,v7.V,v7.Tk,v7.Pa,v7.Wo,v7.Dr,v7.Ve⟩ : zA)).set (y1.toNat) (⟨v9.Id,r8,v9.Ps,v9.F,v9.V,v9.Tk,v9.Pa,v9.Wo,v9.Dr,v9.Ve⟩ : zA)).set (y1.toNat) (⟨v10.Id,v10.Name,r11.2,v10.F,v10.V,v10.Tk,v10.Pa,v10.Wo,v10.Dr,v10.Ve⟩ : zA)).set (y1.toNat) (⟨v12.Id,v12.Name,v12.Ps,r13.2,v12.V,v12.Tk,v12.Pa,v12.Wo,v12.Dr,v12.Ve⟩ : zA)).set (y1.toNat) (⟨v14.Id,v14.Name,v14.Ps,v14.F,(⟨r15.2,v14.V.Pv⟩ : zF),v14.Tk,v14.Pa,v14.Wo,v14.Dr,v14.Ve⟩ : zA)) zA.row]) (q := [(0,(y1.toNat))]) kr (Q1 rfl (zI ev16).2) JV) kr (zGE [cL 11 (((((y2.set (y1.toNat) (⟨y3,v7.Name,v7.Ps,v7.F,v7.V,v7.Tk,v7.Pa,v7.Wo,v7.Dr,v7.Ve⟩ : zA)).set (y1.toNat) (⟨v9.Id,r8,v9.Ps,v9.F,v9.V,v9.Tk,v9.Pa,v9.Wo,v9.Dr,v9.Ve⟩ : zA)).set (y1.toNat) (⟨v10.Id,v10.Name,r11.2,v10.F,v10.V,v10.Tk,v10.Pa,v10.Wo,v10.Dr,v10.Ve⟩ : zA)).set (y1.toNat) (⟨v12.Id,v12.Name,v12.Ps,r13.2,v12.V,v12.Tk,v12.Pa,v12.Wo,v12.Dr,v12.Ve⟩ : zA)).set (y1.toNat) (⟨v14.Id,v14.Name,v14.Ps,v14.F,(⟨r15.2,v14.V.Pv⟩ : zF),v14.Tk,v14.Pa,v14.Wo,v14.Dr,v14.Ve⟩ : zA)) zA.row] [(0,(y1.toNat))] false 5 [cL 1 r17.2 intRow] kr (zBu (new := (⟨v16.Id,v16.Name,v16.Ps,v16.F,(⟨v16.V.Rows,r17.2⟩ : zF),v16.Tk,v16.Pa,v16.Wo,v16.Dr,v16.Ve⟩ : zA)) rfl (zI ev16).2 rfl)) (.inl rfl) ?_
  refine uA 1 35 0 ?_
  refine rA 3 ?_
  obtain ⟨v18,ev18,H⟩ := bs H
  refine oA zA.row ev18 ?_
  refine lA 1 ?_
  refine sS (tI 3) false [cI r17.1] 0 0 (y1.toNat) 11 6 11 zA.row (⟨v18.Id,v18.Name,v18.Ps,v18.F,v18.V,r17.1,v18.Pa,v18.Wo,v18.Dr,v18.Ve⟩ : zA) (zI ev18).2 ?_
  refine dA 35 0 ?_
  refine gA 3 35 0 ?_
  refine rA 3 ?_
  obtain ⟨v19,ev19,H⟩ := bs H
  refine oA zA.row ev19 ?_
  refine lA 1 ?_
  refine sS (tI 3) false [cI (IntKind.wrap .i64 (r17.1 + 1))] 0 0 (y1.toNat) 11 7 11 zA.row (⟨v19.Id,v19.Name,v19.Ps,v19.F,v19.V,v19.Tk,(IntKind.wrap .i64 (r17.1 + 1)),v19.Wo,v19.Dr,v19.Ve⟩ : zA) (zI ev19).2 ?_
  refine dA 35 0 ?_
  refine gA 3 35 0 ?_
  refine rA 3 ?_
  obtain ⟨v20,ev20,H⟩ := bs H
  refine oA zA.row ev20 ?_
  refine lA 1 ?_
  refine sS (tI 3) false [cI (IntKind.wrap .i64 ((IntKind.wrap .i64 (r17.1 + 1)) + 1))] 0 0 (y1.toNat) 11 8 11 zA.row (⟨v20.Id,v20.Name,v20.Ps,v20.F,v20.V,v20.Tk,v20.Pa,(IntKind.wrap .i64 ((IntKind.wrap .i64 (r17.1 + 1)) + 1)),v20.Dr,v20.Ve⟩ : zA) (zI ev20).2 ?_
  refine dA 35 0 ?_
  refine gA 3 35 0 ?_
  refine rA 3 ?_
  obtain ⟨v21,ev21,H⟩ := bs H
  refine oA zA.row ev21 ?_
  refine lA 1 ?_
  refine sS (tI 3) false [cI (IntKind.wrap .i64 ((IntKind.wrap .i64 ((IntKind.wrap .i64 (r17.1 + 1)) + 1)) + 1))] 0 0 (y1.toNat) 11 9 11 zA.row (⟨v21.Id,v21.Name,v21.Ps,v21.F,v21.V,v21.Tk,v21.Pa,v21.Wo,(IntKind.wrap .i64 ((IntKind.wrap .i64 ((IntKind.wrap .i64 (r17.1 + 1)) + 1)) + 1)),v21.Ve⟩ : zA) (zI ev21).2 ?_
  refine dA 35 0 ?_
  refine gA 3 35 0 ?_
  refine rA 3 ?_
  obtain ⟨v22,ev22,H⟩ := bs H
  refine oA zA.row ev22 ?_
  refine lA 1 ?_
  refine sS (tI 3) false [cI (IntKind.wrap .i64 ((IntKind.wrap .i64 ((IntKind.wrap .i64 ((IntKind.wrap .i64 (r17.1 + 1)) + 1)) + 1)) + 1))] 0 0 (y1.toNat) 11 10 11 zA.row (⟨v22.Id,v22.Name,v22.Ps,v22.F,v22.V,v22.Tk,v22.Pa,v22.Wo,v22.Dr,(IntKind.wrap .i64 ((IntKind.wrap .i64 ((IntKind.wrap .i64 ((IntKind.wrap .i64 (r17.1 + 1)) + 1)) + 1)) + 1))⟩ : zA) (zI ev22).2 ?_
  refine dA 35 0 ?_
  refine eA 3 35 0 ?_
  refine eA 3 35 0 ?_
  exact jB mo6 ((IntKind.wrap .i64 (y1 + 1)),(((((((((((y2.set (y1.toNat) (⟨y3,v7.Name,v7.Ps,v7.F,v7.V,v7.Tk,v7.Pa,v7.Wo,v7.Dr,v7.Ve⟩ : zA)).set (y1.toNat) (⟨v9.Id,r8,v9.Ps,v9.F,v9.V,v9.Tk,v9.Pa,v9.Wo,v9.Dr,v9.Ve⟩ : zA)).set (y1.toNat) (⟨v10.Id,v10.Name,r11.2,v10.F,v10.V,v10.Tk,v10.Pa,v10.Wo,v10.Dr,v10.Ve⟩ : zA)).set (y1.toNat) (⟨v12.Id,v12.Name,v12.Ps,r13.2,v12.V,v12.Tk,v12.Pa,v12.Wo,v12.Dr,v12.Ve⟩ : zA)).set (y1.toNat) (⟨v14.Id,v14.Name,v14.Ps,v14.F,(⟨r15.2,v14.V.Pv⟩ : zF),v14.Tk,v14.Pa,v14.Wo,v14.Dr,v14.Ve⟩ : zA)).set (y1.toNat) (⟨v16.Id,v16.Name,v16.Ps,v16.F,(⟨v16.V.Rows,r17.2⟩ : zF),v16.Tk,v16.Pa,v16.Wo,v16.Dr,v16.Ve⟩ : zA)).set (y1.toNat) (⟨v18.Id,v18.Name,v18.Ps,v18.F,v18.V,r17.1,v18.Pa,v18.Wo,v18.Dr,v18.Ve⟩ : zA)).set (y1.toNat) (⟨v19.Id,v19.Name,v19.Ps,v19.F,v19.V,v19.Tk,(IntKind.wrap .i64 (r17.1 + 1)),v19.Wo,v19.Dr,v19.Ve⟩ : zA)).set (y1.toNat) (⟨v20.Id,v20.Name,v20.Ps,v20.F,v20.V,v20.Tk,v20.Pa,(IntKind.wrap .i64 ((IntKind.wrap .i64 (r17.1 + 1)) + 1)),v20.Dr,v20.Ve⟩ : zA)).set (y1.toNat) (⟨v21.Id,v21.Name,v21.Ps,v21.F,v21.V,v21.Tk,v21.Pa,v21.Wo,(IntKind.wrap .i64 ((IntKind.wrap .i64 ((IntKind.wrap .i64 (r17.1 + 1)) + 1)) + 1)),v21.Ve⟩ : zA)).set (y1.toNat) (⟨v22.Id,v22.Name,v22.Ps,v22.F,v22.V,v22.Tk,v22.Pa,v22.Wo,v22.Dr,(IntKind.wrap .i64 ((IntKind.wrap .i64 ((IntKind.wrap .i64 ((IntKind.wrap .i64 (r17.1 + 1)) + 1)) + 1)) + 1))⟩ : zA)),(IntKind.wrap .i64 ((IntKind.wrap .i64 ((IntKind.wrap .i64 ((IntKind.wrap .i64 ((IntKind.wrap .i64 (r17.1 + 1)) + 1)) + 1)) + 1)) + 1))) H [5,0,1] []
 rintro ⟨y4,y5⟩ H
 have H : (YT n y4 y5) = some r := H
 unfold YT at H
 refine gA 2 17 0 ?_
 refine te ?_
 obtain rfl := si H
 exact Fin.ofY _ [(false,[cI y5])] [false] _ [[cL 11 y4 zA.row]] _ [] kr rfl rfl rfl kr kr kr kr rfl rfl rfl
end Go.Proofs.YtcegokjpmppdbaaGreat.Tw
