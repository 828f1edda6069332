import Derived.Test.YtcegokjpmppdbaaGreatProg
import Derived.Test.YtcegokjpmppdbaaGreatTlRule
import Derived.Test.YtcegokjpmppdbaaGreatTlU12
import Derived.Test.YtcegokjpmppdbaaGreatTwSE0
import Derived.WalkKit
set_option linter.unusedVariables false
set_option linter.unusedSimpArgs false
set_option maxRecDepth 100000
set_option maxHeartbeats 1000000
namespace Go.Proofs.YtcegokjpmppdbaaGreat.Tw
open Go Go.TL Go.Proofs
def J4 (n : Nat) (x0 : (List zB)) : Option (Bool) :=
  (some (decide ((x0.length : Int) ≤ 12)))
def ZZ (n : Nat) : Nat → (List zB) → Int → Option ((Unit) ⊕ (Bool))
  | 0,_,_ => none
  | mo2 + 1,x0,y1 => (bif (decide (y1 < (x0.length : Int))) then ((idx x0 y1).bind fun v3 => ((JI n v3).bind fun r4 => (bif (!r4) then (some (Sum.inr false)) else (bif (decide (y1 > 0)) then ((idx x0 (IntKind.wrap .i64 (y1 - 1))).bind fun v5 => ((idx x0 (IntKind.wrap .i64 (y1 - 1))).bind fun v6 => ((YM n v3 v5.Tag v6.Mac).bind fun r7 => (bif (!r7) then (some (Sum.inr false)) else (ZZ n mo2 x0 (IntKind.wrap .i64 (y1 + 1))))))) else (ZZ n mo2 x0 (IntKind.wrap .i64 (y1 + 1))))))) else (some (Sum.inl ())))
def Yv (n : Nat) (x0 : (List zB)) : Option (Bool) :=
  ((ZZ n n x0 0).bind fun o => match o with | .inl _ => (J4 n x0) | .inr r => some r)
def zKI : Tab := ⟨24,[0,1,2,6,8,24,40,64,64,64,576,1344,2112,4160,64,64,32832,81984,131136,262208,532672,1048640,2097224,4194312],[0,1,2,4,8,24,40,64,64,64,576,1344,2112,4160,64,64,32832,81984,131136,262208,532672,1048640,2097224,4194312],[0,1,3,7,15,31,63,127,127,127,639,1919,3967,8063,127,127,32895,114815,245887,508031,1048575,2097151,4194303,8388607]⟩
theorem q7 : z7 (rg Tryz.f139 4) zKI = true := kr
theorem zE9 (n : Nat) (x0 : (List zB)) (r : Bool) (H : Yv n x0 = some r) : zK Tryz.prog 139 [.val false [.sl false 5 (CV.frzEs (x0.map zB.row))]] [.val false [.lit (.bool r)]] [] := by
 refine cW Tryz.func139 (fun g d => sl [g 0,sl [g 1] (.block 0 (.loop (sl [g 2,cn 8 .skip (.exit 0),.block 1 (sl [g 3,d 4] (cn 35 (sl [g 5] .ret) .skip))] (g 6)))),g 7] .ret) [.tmp 2] fun cx => ?_
 unfold Yv at H
 refine gA 1 1 0 ?_
 refine tS ?_
 refine rA 1 ?_
 refine kF x0 zB.row ?_
 refine uA 1 225 0 ?_
 obtain ⟨o2,eo2,Ho2⟩ := bs H
 clear H
 refine Tr.mid (ι := Unit) (fun v => ⟨40,0,[sC 0 (cF 5 x0 zB.row)],[]⟩) (fun v => J4 n x0 = some r) ?_ ?_
 ·refine tB ?_
  refine Tr.loop (ι := Nat × (Int)) (fun v => ⟨40,0,[sI 7 v.2,sI 6 (x0.length : Int),sC 5 (cF 5 x0 zB.row),sC 0 (cF 5 x0 zB.row)],[]⟩) (fun v => ZZ n v.1 x0 v.2 = some o2) (fun v => v.1) (n,0) eo2 (St.sub_of [7,6,5,0] [] kr) ?_
  rintro ⟨mo2,y1⟩ H
  have H : ZZ n mo2 x0 y1 = some o2 := H
  obtain _ | mo2 := mo2
  ·exact nN H
  rw [ZZ] at H
  refine gA 1 481 0 ?_
  refine tS ?_
  obtain ⟨h1,H⟩ | ⟨h1,H⟩ := bC H
  ·refine nA h1 ?_
   refine Tr.exit ?_
   refine aJ ?_
   obtain rfl := si H
   have H := Ho2
   dsimp only at H
   exact jA () H [0] []
  refine tA h1 ?_
  refine tK ?_
  refine tS ?_
  refine tB ?_
  refine rA 1 ?_
  obtain ⟨v3,ev3,H⟩ := bs H
  refine iA zB.row ev3 ?_
  refine uA 4 249 16 ?_
  obtain ⟨r4,er4,H⟩ := bs H
  refine sT ⟨40,0,[sI 3 y1,sA 4 4 5 0,sI 7 y1,sI 6 (x0.length : Int),sC 5 (cF 5 x0 zB.row),sC 0 (cF 5 x0 zB.row)],[(4,(zB.row v3))]⟩ ?_
  cases h2 : (!r4)
  ·have H := zH h2 H
   refine sT ⟨40,0,[sI 3 y1,sA 4 4 5 0,sI 7 y1,sI 6 (x0.length : Int),sC 5 (cF 5 x0 zB.row),sC 0 (cF 5 x0 zB.row)],[(4,(zB.row v3))]⟩ ?_
   cases h3 : (decide (y1 > 0))
   ·have H := zH h3 H
    refine Tr.draws mixed 24 kr ⟨40,0,[sB 35 false,sI 7 y1,sI 6 (x0.length : Int),sC 5 (cF 5 x0 zB.row),sC 0 (cF 5 x0 zB.row)],[]⟩ (fun cx => ?_) ?_
    ·refine mA q7 [(0,[1])] 23 [⟨[1],169,4,12⟩] fun cx => ?_
     refine mC q7 1 ?_
     refine vA [.rd] (zAz n v3 r4 er4) ?_
     refine fA ?_
     refine mA q7 [(2,[]),(3,[])] 20 [⟨[1],169,4,12⟩] fun cx => ?_
     refine sA_ 37113 16 ⟨40,0,[sB 15 (!r4),sV 12 (zB.row v3),sI 3 y1,sA 4 4 5 0,sI 7 y1,sI 6 (x0.length : Int),sC 5 (cF 5 x0 zB.row),sC 0 (cF 5 x0 zB.row)],[(4,(zB.row v3))]⟩ ?_
     rw [h2]
     refine mA q7 [(4,[]),(5,[]),(6,[])] 17 [⟨[1],169,4,12⟩] fun cx => ?_
     refine sA_ 299257 16 ⟨40,0,[sB 18 (decide (y1 > 0)),sB 15 false,sV 12 (zB.row v3),sI 3 y1,sA 4 4 5 0,sI 7 y1,sI 6 (x0.length : Int),sC 5 (cF 5 x0 zB.row),sC 0 (cF 5 x0 zB.row)],[(4,(zB.row v3))]⟩ ?_
     rw [h3]
     refine mA q7 [(7,[]),(8,[]),(9,[]),(10,[]),(11,[]),(12,[]),(13,[]),(14,[]),(15,[]),(16,[]),(17,[]),(18,[]),(19,[]),(20,[]),(21,[]),(22,[]),(23,[])] 0 [⟨[1],169,4,12⟩] fun cx => ?_
     exact mE q7 [35,7,6,5,0] []
    refine nB_ ?_
    refine tK ?_
    refine eA 2 225 0 ?_
    exact jB mo2 (IntKind.wrap .i64 (y1 + 1)) H [7,6,5,0] []
   have H := zI h3 H
   obtain ⟨v5,ev5,H⟩ := bs H
   obtain ⟨v6,ev6,H⟩ := bs H
   obtain ⟨r7,er7,H⟩ := bs H
   refine Tr.draws mixed 24 kr ⟨40,0,[sB 35 (!r7),sI 7 y1,sI 6 (x0.length : Int),sC 5 (cF 5 x0 zB.row),sC 0 (cF 5 x0 zB.row)],[]⟩ (fun cx => ?_) ?_
   ·refine mA q7 [(0,[1,20])] 23 [⟨[1,20],169,4,12⟩] fun cx => ?_
    refine mC q7 1 ?_
    refine vA [.rd] (zAz n v3 r4 er4) ?_
    refine fA ?_
    refine mA q7 [(2,[]),(3,[])] 20 [⟨[1,20],169,4,12⟩] fun cx => ?_
    refine sA_ 37113 16 ⟨40,0,[sB 15 (!r4),sV 12 (zB.row v3),sI 3 y1,sA 4 4 5 0,sI 7 y1,sI 6 (x0.length : Int),sC 5 (cF 5 x0 zB.row),sC 0 (cF 5 x0 zB.row)],[(4,(zB.row v3))]⟩ ?_
    rw [h2]
    refine mA q7 [(4,[]),(5,[]),(6,[])] 17 [⟨[1,20],169,4,12⟩] fun cx => ?_
    refine sA_ 299257 16 ⟨40,0,[sB 18 (decide (y1 > 0)),sB 15 false,sV 12 (zB.row v3),sI 3 y1,sA 4 4 5 0,sI 7 y1,sI 6 (x0.length : Int),sC 5 (cF 5 x0 zB.row),sC 0 (cF 5 x0 zB.row)],[(4,(zB.row v3))]⟩ ?_
    rw [h3]
    refine mA q7 [(7,[20]),(8,[]),(9,[]),(10,[])] 13 [⟨[20],169,4,19⟩,⟨[1,20],169,4,12⟩] fun cx => ?_
    refine iN q7 11 zB.row ev5 fun cx => ?_
    refine mA q7 [(12,[]),(13,[]),(14,[]),(15,[]),(16,[])] 7 [⟨[20],169,4,19⟩,⟨[1,20],169,4,12⟩] fun cx => ?_
    refine iN q7 17 zB.row ev6 fun cx => ?_
    refine mA q7 [(18,[]),(19,[])] 4 [⟨[20],169,4,19⟩,⟨[1,20],169,4,12⟩] fun cx => ?_
    refine mC q7 20 ?_
    refine vA [.rd,.rd,.rd] (zEI n v3 v5.Tag v6.Mac r7 er7) ?_
    refine fA ?_
    refine mA q7 [(21,[]),(22,[]),(23,[])] 0 [⟨[20],169,4,19⟩,⟨[1,20],169,4,12⟩] fun cx => ?_
    exact mE q7 [35,7,6,5,0] []
   refine sT ⟨40,0,[sB 35 (!r7),sI 7 y1,sI 6 (x0.length : Int),sC 5 (cF 5 x0 zB.row),sC 0 (cF 5 x0 zB.row)],[]⟩ ?_
   cases h4 : (!r7)
   ·have H := zH h4 H
    refine nB_ ?_
    refine tK ?_
    refine eA 2 225 0 ?_
    exact jB mo2 (IntKind.wrap .i64 (y1 + 1)) H [7,6,5,0] []
   have H := zI h4 H
   refine tB_ ?_
   refine gA 1 4 0 ?_
   refine te ?_
   obtain rfl := si H
   have H := Ho2
   dsimp only at H
   exact fF H
  have H := zI h2 H
  refine Tr.draws mixed 24 kr ⟨40,0,[sB 35 true,sI 7 y1,sI 6 (x0.length : Int),sC 5 (cF 5 x0 zB.row),sC 0 (cF 5 x0 zB.row)],[]⟩ (fun cx => ?_) ?_
  ·refine mA q7 [(0,[1])] 23 [⟨[1],169,4,12⟩] fun cx => ?_
   refine mC q7 1 ?_
   refine vA [.rd] (zAz n v3 r4 er4) ?_
   refine fA ?_
   refine mA q7 [(2,[]),(3,[])] 20 [⟨[1],169,4,12⟩] fun cx => ?_
   refine sA_ 37113 16 ⟨40,0,[sB 15 (!r4),sV 12 (zB.row v3),sI 3 y1,sA 4 4 5 0,sI 7 y1,sI 6 (x0.length : Int),sC 5 (cF 5 x0 zB.row),sC 0 (cF 5 x0 zB.row)],[(4,(zB.row v3))]⟩ ?_
   rw [h2]
   refine mA q7 [(4,[]),(5,[]),(6,[]),(7,[]),(8,[]),(9,[]),(10,[]),(11,[]),(12,[]),(13,[]),(14,[]),(15,[]),(16,[]),(17,[]),(18,[]),(19,[]),(20,[]),(21,[]),(22,[]),(23,[])] 0 [⟨[1],169,4,12⟩] fun cx => ?_
   exact mE q7 [35,7,6,5,0] []
  refine tB_ ?_
  refine gA 1 4 0 ?_
  refine te ?_
  obtain rfl := si H
  have H := Ho2
  dsimp only at H
  exact fF H
 rintro _ H
 have H : (J4 n x0) = some r := H
 unfold J4 at H
 refine rA 1 ?_
 refine kF x0 zB.row ?_
 refine uA 2 4 0 ?_
 exact te (fJ [(false,[cB (decide ((x0.length : Int) ≤ 12))])] H)
def Zl (n : Nat) (x0 : Int) : Option (Int) :=
  (bif (decide ((0 : Int) ≤ x0)) then (some (IntKind.wrap .i64 ((IntKind.wrap .i64 (1 * 2 ^ min ((x0 : Int)).toNat (IntKind.bits .i64))) - 1))) else none)
theorem J9 (n : Nat) (x0 : Int) (r : Int) (H : Zl n x0 = some r) : zK Tryz.prog 216 [.val false [.lit (.int .i64 x0)]] [.val false [.lit (.int .i64 r)]] [] := by
 refine cW Tryz.func216 (fun g d => sl [g 0,g 1] .ret) [.tmp 2] fun cx => ?_
 unfold Zl at H
 refine gA 1 1 0 ?_
 refine rA 1 ?_
 obtain ⟨hg1,H⟩ := gs H
 refine LAt.binC tOk (op := .shl) (t := 3) (ty := 3) (ty' := 3) (x := (.const (.int .i64 1))) (y := (.tmp 3)) (d := 4) (g := none) (.int .i64 1) (.int .i64 x0) (.int .i64 (IntKind.wrap .i64 (1 * 2 ^ min ((x0 : Int)).toNat (IntKind.bits .i64)))) _ kr kr kr kr kr (φ := (0 : Int) ≤ x0) kr (of_decide_eq_true hg1) rfl ?_
 refine uA 2 4 0 ?_
 exact te (fJ [(false,[cI (IntKind.wrap .i64 ((IntKind.wrap .i64 (1 * 2 ^ min ((x0 : Int)).toNat (IntKind.bits .i64))) - 1))])] H)
def J6 (n : Nat) : Option (Int) :=
  (some (-1))
def QX (n : Nat) : Nat → zE → Int → Int → Option ((Unit) ⊕ (Int))
  | 0,_,_,_ => none
  | mo2 + 1,x0,x1,y1 => (bif (decide (y1 < (x0.Rows.length : Int))) then ((idx x0.Rows y1).bind fun v3 => (bif (v3.Id == x1) then (some (Sum.inr y1)) else (QX n mo2 x0 x1 (IntKind.wrap .i64 (y1 + 1))))) else (some (Sum.inl ())))
def Qg (n : Nat) (x0 : zE) (x1 : Int) : Option (Int) :=
  ((QX n n x0 x1 0).bind fun o => match o with | .inl _ => (J6 n) | .inr r => some r)
theorem zBY (n : Nat) (x0 : zE) (x1 : Int) (r : Int) (H : Qg n x0 x1 = some r) : zK Tryz.prog 142 [.val true (CV.frzRow (zE.row x0)),.val false [.lit (.int .i64 x1)]] [.val false [.lit (.int .i64 r)]] [] := by
 refine cW Tryz.func142 (fun g d => sl [g 0,sl [g 1] (.block 0 (.loop (sl [g 2,cn 11 .skip (.exit 0),.block 1 (sl [g 3,g 4] (cn 18 (sl [g 5] .ret) .skip))] (g 6)))),g 7] .ret) [.tmp 4] fun cx => ?_
 unfold Qg at H
 refine gA 2 6 4 ?_
 refine tS ?_
 refine rA 2 ?_
 refine kF x0.Rows zC.row ?_
 refine uA 1 1794 0 ?_
 obtain ⟨o2,eo2,Ho2⟩ := bs H
 clear H
 refine Tr.mid (ι := Unit) (fun v => ⟨21,0,[],[]⟩) (fun v => J6 n = some r) ?_ ?_
 ·refine tB ?_
  refine Tr.loop (ι := Nat × (Int)) (fun v => ⟨21,0,[sI 10 v.2,sI 9 (x0.Rows.length : Int),sC 8 (cF 3 x0.Rows zC.row),sI 1 x1],[]⟩) (fun v => QX n v.1 x0 x1 v.2 = some o2) (fun v => v.1) (n,0) eo2 (St.sub_of [10,9,8,1] [] kr) ?_
  rintro ⟨mo2,y1⟩ H
  have H : QX n mo2 x0 x1 y1 = some o2 := H
  obtain _ | mo2 := mo2
  ·exact nN H
  rw [QX] at H
  refine gA 1 3842 0 ?_
  refine tS ?_
  obtain ⟨h1,H⟩ | ⟨h1,H⟩ := bC H
  ·refine nA h1 ?_
   refine Tr.exit ?_
   refine aJ ?_
   obtain rfl := si H
   have H := Ho2
   dsimp only at H
   exact jA () H [] []
  refine tA h1 ?_
  refine tK ?_
  refine tS ?_
  refine tB ?_
  refine rA 1 ?_
  obtain ⟨v3,ev3,H⟩ := bs H
  refine iA zC.row ev3 ?_
  refine uA 4 1890 64 ?_
  refine gA 4 263970 0 ?_
  obtain ⟨h2,H⟩ | ⟨h2,H⟩ := bC H
  ·refine nA h2 ?_
   refine tK ?_
   refine eA 2 1794 0 ?_
   exact jB mo2 (IntKind.wrap .i64 (y1 + 1)) H [10,9,8,1] []
  refine tA h2 ?_
  refine gA 2 16 0 ?_
  refine te ?_
  obtain rfl := si H
  have H := Ho2
  dsimp only at H
  exact fJ [(false,[cI y1])] H
 rintro _ H
 have H : (J6 n) = some r := H
 unfold J6 at H
 refine gA 1 16 0 ?_
 exact te (fJ [(false,[cI (-1)])] H)
def Jc (n : Nat) : Option (Bool) :=
  (some true)
def Zk (n : Nat) : Nat → zE → Int → Option ((Unit) ⊕ (Bool))
  | 0,_,_ => none
  | mo4 + 1,x0,y3 => (bif (decide (y3 < (x0.Pv.length : Int))) then ((idx x0.Pv y3).bind fun v5 => ((Qg n x0 v5).bind fun r6 => (bif (decide (r6 < 0)) then (some (Sum.inr false)) else (Zk n mo4 x0 (IntKind.wrap .i64 (y3 + 1)))))) else (some (Sum.inl ())))
def YL (n : Nat) (x0 : zE) : Option (Bool) :=
  ((Zk n n x0 0).bind fun o => match o with | .inl _ => (Jc n) | .inr r => some r)
def ZG (n : Nat) : Nat → zE → Int → Int → Option ((Unit) ⊕ (Bool))
  | 0,_,_,_ => none
  | mo7 + 1,x0,x1,y2 => (bif (decide (y2 < (x0.Rows.length : Int))) then ((idx x0.Rows y2).bind fun v8 => ((z8 n v8.Id 1 99).bind fun r9 => (bif (!r9) then (some (Sum.inr false)) else (bif (decide (y2 > 0)) then ((idx x0.Rows (IntKind.wrap .i64 (y2 - 1))).bind fun v12 => (bif (decide (v12.Id ≥ v8.Id)) then (some (Sum.inr false)) else ((Zl n x1).bind fun r13 => ((z8 n v8.Members 0 r13).bind fun r14 => (bif (!r14) then (some (Sum.inr false)) else (bif ((IntKind.wrap .i64 (BitVec.ofInt (IntKind.bits .i64) v8.Bare &&& ~~~BitVec.ofInt (IntKind.bits .i64) v8.Members).toNat) != 0) then (some (Sum.inr false)) else (ZG n mo7 x0 x1 (IntKind.wrap .i64 (y2 + 1))))))))) else ((Zl n x1).bind fun r10 => ((z8 n v8.Members 0 r10).bind fun r11 => (bif (!r11) then (some (Sum.inr false)) else (bif ((IntKind.wrap .i64 (BitVec.ofInt (IntKind.bits .i64) v8.Bare &&& ~~~BitVec.ofInt (IntKind.bits .i64) v8.Members).toNat) != 0) then (some (Sum.inr false)) else (ZG n mo7 x0 x1 (IntKind.wrap .i64 (y2 + 1))))))))))) else (some (Sum.inl ())))
def JH (n : Nat) (x0 : zE) (x1 : Int) : Option (Bool) :=
  ((z8 n x1 1 6).bind fun r1 => (bif (!r1) then (some false) else (bif ((x0.Pv.length : Int) != x1) then (some false) else (bif (decide ((x0.Rows.length : Int) > 6)) then (some false) else ((ZG n n x0 x1 0).bind fun o => match o with | .inl _ => (YL n x0) | .inr r => some r)))))
def zKJ : Tab := ⟨36,[0,1,2,4,12,16,48,80,128,384,128,1152,2688,4224,8320,128,32896,82048,131216,262160,524416,1048576,3145728,1048576,9437184,22020096,34603008,68157440,167772160,268435456,805306368,268435456,2415919104,5637144576,8858370048,17448304640],[0,1,2,4,8,16,48,80,128,384,128,1152,2688,4224,8320,128,32896,82048,131216,262160,524288,1048576,3145728,1048576,9437184,22020096,34603008,68157440,134217728,268435456,805306368,268435456,2415919104,5637144576,8858370048,17448304640],[0,1,3,7,15,31,63,127,255,511,255,1279,4095,8191,16383,255,33023,131071,262143,524287,1048575,2097151,4194303,2097151,10485759,33554431,67108863,134217727,268435455,536870911,1073741823,536870911,2684354559,8589934591,17179869183,34359738367]⟩
theorem zZ : z7 (rg Tryz.f140 6) zKJ = true := kr
theorem zFm (n : Nat) (x1 : Int) (r13 : Int) (v8 : zC) (r14 : Bool) (y2 : Int) (x0 : zE) (er13 : (Zl n x1) = some r13) (er14 : (z8 n v8.Members 0 r13) = some r14) (h12 : (!r14) = false) (cx : Cx) : AT Tryz.prog cx (rg Tryz.f140 6) [⟨[24,25],3,48,49⟩,⟨[24,25],37,41,42⟩,⟨[2,24,25],3,33,34⟩] 15 [20,19,18,17,16,15,14,13,12,11,10,9,8,7,6,5,4,3,2,1,0] ⟨82,0,[sB 53 false,sI 49 v8.Id,sA 48 6 3 0,sR 42 2 2 0 1 false,sA 41 2 2 0,sI 34 v8.Id,sA 33 6 3 0,sA 6 6 3 0,sI 28 y2,sI 27 (x0.Rows.length : Int),sC 26 (cF 3 x0.Rows zC.row),sA 2 2 2 0,sI 1 x1],[(6,(zC.row v8)),(2,(CV.frzRow (zE.row x0)))]⟩ (fun s => s = ⟨82,0,[sB 68 ((IntKind.wrap .i64 (BitVec.ofInt (IntKind.bits .i64) v8.Bare &&& ~~~BitVec.ofInt (IntKind.bits .i64) v8.Members).toNat) != 0),sI 28 y2,sI 27 (x0.Rows.length : Int),sC 26 (cF 3 x0.Rows zC.row),sA 2 2 2 0,sI 1 x1],[(2,(CV.frzRow (zE.row x0)))]⟩) := by
 refine mA zZ [(21,[]),(22,[25]),(23,[])] 12 [⟨[25],3,54,55⟩,⟨[24,25],3,48,49⟩,⟨[24,25],37,41,42⟩,⟨[2,24,25],3,33,34⟩] fun cx => ?_
 refine mC zZ 24 ?_
 refine vA [.rd] (J9 n x1 r13 er13) ?_
 refine fA ?_
 refine mC zZ 25 ?_
 refine vA [.rd,.rd,.rd] (qC n v8.Members 0 r13 r14 er14) ?_
 refine fA ?_
 refine mA zZ [(26,[]),(27,[]),(28,[])] 7 [⟨[25],3,54,55⟩,⟨[24,25],3,48,49⟩,⟨[24,25],37,41,42⟩,⟨[2,24,25],3,33,34⟩] fun cx => ?_
 refine sA_ 0x20c306061c000046 68 ⟨82,0,[sB 61 (!r14),sI 55 v8.Members,sA 54 6 3 1,sI 49 v8.Id,sA 48 6 3 0,sR 42 2 2 0 1 false,sA 41 2 2 0,sI 34 v8.Id,sA 33 6 3 0,sA 6 6 3 0,sI 28 y2,sI 27 (x0.Rows.length : Int),sC 26 (cF 3 x0.Rows zC.row),sA 2 2 2 0,sI 1 x1],[(6,(zC.row v8)),(2,(CV.frzRow (zE.row x0)))]⟩ ?_
 rw [h12]
 refine mA zZ [(29,[]),(30,[]),(31,[]),(32,[]),(33,[]),(34,[]),(35,[])] 0 [⟨[],3,64,65⟩,⟨[],3,62,63⟩,⟨[25],3,54,55⟩,⟨[24,25],3,48,49⟩,⟨[24,25],37,41,42⟩,⟨[2,24,25],3,33,34⟩] fun cx => ?_
 exact mE zZ [68,28,27,26,2,1] [2]
theorem zFn (n : Nat) (x1 : Int) (r13 : Int) (v8 : zC) (r14 : Bool) (y2 : Int) (x0 : zE) (er13 : (Zl n x1) = some r13) (er14 : (z8 n v8.Members 0 r13) = some r14) (h12 : (!r14) = true) (cx : Cx) : AT Tryz.prog cx (rg Tryz.f140 6) [⟨[24,25],3,48,49⟩,⟨[24,25],37,41,42⟩,⟨[2,24,25],3,33,34⟩] 15 [20,19,18,17,16,15,14,13,12,11,10,9,8,7,6,5,4,3,2,1,0] ⟨82,0,[sB 53 false,sI 49 v8.Id,sA 48 6 3 0,sR 42 2 2 0 1 false,sA 41 2 2 0,sI 34 v8.Id,sA 33 6 3 0,sA 6 6 3 0,sI 28 y2,sI 27 (x0.Rows.length : Int),sC 26 (cF 3 x0.Rows zC.row),sA 2 2 2 0,sI 1 x1],[(6,(zC.row v8)),(2,(CV.frzRow (zE.row x0)))]⟩ (fun s => s = ⟨82,0,[sB 68 true,sI 28 y2,sI 27 (x0.Rows.length : Int),sC 26 (cF 3 x0.Rows zC.row),sA 2 2 2 0,sI 1 x1],[(2,(CV.frzRow (zE.row x0)))]⟩) := by
 refine mA zZ [(21,[]),(22,[25]),(23,[])] 12 [⟨[25],3,54,55⟩,⟨[24,25],3,48,49⟩,⟨[24,25],37,41,42⟩,⟨[2,24,25],3,33,34⟩] fun cx => ?_
 refine mC zZ 24 ?_
 refine vA [.rd] (J9 n x1 r13 er13) ?_
 refine fA ?_
 refine mC zZ 25 ?_
 refine vA [.rd,.rd,.rd] (qC n v8.Members 0 r13 r14 er14) ?_
 refine fA ?_
 refine mA zZ [(26,[]),(27,[]),(28,[])] 7 [⟨[25],3,54,55⟩,⟨[24,25],3,48,49⟩,⟨[24,25],37,41,42⟩,⟨[2,24,25],3,33,34⟩] fun cx => ?_
 refine sA_ 0x20c306061c000046 68 ⟨82,0,[sB 61 (!r14),sI 55 v8.Members,sA 54 6 3 1,sI 49 v8.Id,sA 48 6 3 0,sR 42 2 2 0 1 false,sA 41 2 2 0,sI 34 v8.Id,sA 33 6 3 0,sA 6 6 3 0,sI 28 y2,sI 27 (x0.Rows.length : Int),sC 26 (cF 3 x0.Rows zC.row),sA 2 2 2 0,sI 1 x1],[(6,(zC.row v8)),(2,(CV.frzRow (zE.row x0)))]⟩ ?_
 rw [h12]
 refine mA zZ [(29,[]),(30,[]),(31,[]),(32,[]),(33,[]),(34,[]),(35,[])] 0 [⟨[25],3,54,55⟩,⟨[24,25],3,48,49⟩,⟨[24,25],37,41,42⟩,⟨[2,24,25],3,33,34⟩] fun cx => ?_
 exact mE zZ [68,28,27,26,2,1] [2]
theorem zFo (n : Nat) (v8 : zC) (y2 : Int) (x0 : zE) (x1 : Int) (cx : Cx) : AT Tryz.prog cx (rg Tryz.f140 6) [⟨[],3,48,49⟩,⟨[],37,41,42⟩,⟨[2],3,33,34⟩] 15 [20,19,18,17,16,15,14,13,12,11,10,9,8,7,6,5,4,3,2,1,0] ⟨82,0,[sB 53 true,sI 49 v8.Id,sA 48 6 3 0,sR 42 2 2 0 1 false,sA 41 2 2 0,sI 34 v8.Id,sA 33 6 3 0,sA 6 6 3 0,sI 28 y2,sI 27 (x0.Rows.length : Int),sC 26 (cF 3 x0.Rows zC.row),sA 2 2 2 0,sI 1 x1],[(6,(zC.row v8)),(2,(CV.frzRow (zE.row x0)))]⟩ (fun s => s = ⟨82,0,[sB 68 true,sI 28 y2,sI 27 (x0.Rows.length : Int),sC 26 (cF 3 x0.Rows zC.row),sA 2 2 2 0,sI 1 x1],[(2,(CV.frzRow (zE.row x0)))]⟩) := by
 refine mA zZ [(21,[]),(22,[]),(23,[]),(24,[]),(25,[]),(26,[]),(27,[]),(28,[]),(29,[]),(30,[]),(31,[]),(32,[]),(33,[]),(34,[]),(35,[])] 0 [⟨[],3,48,49⟩,⟨[],37,41,42⟩,⟨[2],3,33,34⟩] fun cx => ?_
 exact mE zZ [68,28,27,26,2,1] [2]
theorem zHi (n : Nat) (x0 : zE) (x1 : Int) (r : Bool) (H : JH n x0 x1 = some r) : zK Tryz.prog 140 [.val true (CV.frzRow (zE.row x0)),.val false [.lit (.int .i64 x1)]] [.val false [.lit (.bool r)]] [] := by
 refine cW Tryz.func140 (fun g d => sl [g 0,sl [g 1] (cn 24 (sl [g 2] .ret) .skip),sl [g 3] (.block 0 (.loop (sl [g 4,cn 29 .skip (.exit 0),.block 1 (sl [g 5,d 6] (cn 68 (sl [g 7] .ret) .skip))] (g 8)))),sl [g 9] (.block 2 (.loop (sl [g 10,cn 74 .skip (.exit 2),.block 3 (sl [g 11,g 12] (cn 80 (sl [g 13] .ret) .skip))] (g 14)))),g 15] .ret) [.tmp 4] fun cx => ?_
 unfold JH at H
 refine gA 2 6 4 ?_
 refine tS ?_
 refine rA 1 ?_
 obtain ⟨r1,er1,H⟩ := bs H
 refine vA [.rd,.rd,.rd] (qC n x1 1 6 r1 er1) ?_
 refine lA 2 ?_
 refine sL 4102 4 ⟨82,0,[sB 12 (!r1),sA 2 2 2 0,sI 1 x1],[(2,(CV.frzRow (zE.row x0)))]⟩ ?_
 cases h1 : (!r1)
 ·have H := zH h1 H
  refine lA 2 ?_
  refine kF x0.Pv intRow ?_
  refine lA 4 ?_
  refine sL 524294 4 ⟨82,0,[sB 19 ((x0.Pv.length : Int) != x1),sA 2 2 2 0,sI 1 x1],[(2,(CV.frzRow (zE.row x0)))]⟩ ?_
  cases h2 : ((x0.Pv.length : Int) != x1)
  ·have H := zH h2 H
   refine lA 2 ?_
   refine kF x0.Rows zC.row ?_
   refine uA 2 16777222 4 ?_
   obtain ⟨h3,H⟩ | ⟨h3,H⟩ := bC H
   ·refine nA h3 ?_
    refine tK ?_
    refine tS ?_
    refine rA 2 ?_
    refine kF x0.Rows zC.row ?_
    refine uA 1 469762054 4 ?_
    obtain ⟨o7,eo7,Ho7⟩ := bs H
    clear H
    refine Tr.mid (ι := Unit) (fun v => ⟨82,0,[sA 2 2 2 0],[(2,(CV.frzRow (zE.row x0)))]⟩) (fun v => YL n x0 = some r) ?_ ?_
    ·refine tB ?_
     refine Tr.loop (ι := Nat × (Int)) (fun v => ⟨82,0,[sI 28 v.2,sI 27 (x0.Rows.length : Int),sC 26 (cF 3 x0.Rows zC.row),sA 2 2 2 0,sI 1 x1],[(2,(CV.frzRow (zE.row x0)))]⟩) (fun v => ZG n v.1 x0 x1 v.2 = some o7) (fun v => v.1) (n,0) eo7 (St.sub_of [28,27,26,2,1] [2] kr) ?_
     rintro ⟨mo7,y2⟩ H
     have H : ZG n mo7 x0 x1 y2 = some o7 := H
     obtain _ | mo7 := mo7
     ·exact nN H
     rw [ZG] at H
     refine gA 1 1006632966 4 ?_
     refine tS ?_
     obtain ⟨h6,H⟩ | ⟨h6,H⟩ := bC H
     ·refine nA h6 ?_
      refine Tr.exit ?_
      refine aJ ?_
      obtain rfl := si H
      have H := Ho7
      dsimp only at H
      exact jA () H [2] [2]
     refine tA h6 ?_
     refine tK ?_
     refine tS ?_
     refine tB ?_
     refine rA 1 ?_
     obtain ⟨v8,ev8,H⟩ := bs H
     refine iA zC.row ev8 ?_
     refine uA 4 469762150 68 ?_
     obtain ⟨r9,er9,H⟩ := bs H
     refine sT ⟨82,0,[sI 5 y2,sA 6 6 3 0,sI 28 y2,sI 27 (x0.Rows.length : Int),sC 26 (cF 3 x0.Rows zC.row),sA 2 2 2 0,sI 1 x1],[(6,(zC.row v8)),(2,(CV.frzRow (zE.row x0)))]⟩ ?_
     cases h7 : (!r9)
     ·have H := zH h7 H
      refine sT ⟨82,0,[sI 5 y2,sA 6 6 3 0,sI 28 y2,sI 27 (x0.Rows.length : Int),sC 26 (cF 3 x0.Rows zC.row),sA 2 2 2 0,sI 1 x1],[(6,(zC.row v8)),(2,(CV.frzRow (zE.row x0)))]⟩ ?_
      cases h8 : (decide (y2 > 0))
      ·have H := zH h8 H
       obtain ⟨r10,er10,H⟩ := bs H
       obtain ⟨r11,er11,H⟩ := bs H
       refine sT ⟨82,0,[sI 5 y2,sA 6 6 3 0,sI 28 y2,sI 27 (x0.Rows.length : Int),sC 26 (cF 3 x0.Rows zC.row),sA 2 2 2 0,sI 1 x1],[(6,(zC.row v8)),(2,(CV.frzRow (zE.row x0)))]⟩ ?_
       cases h9 : (!r11)
       ·have H := zH h9 H
        refine Tr.draws mixed 36 kr ⟨82,0,[sB 68 ((IntKind.wrap .i64 (BitVec.ofInt (IntKind.bits .i64) v8.Bare &&& ~~~BitVec.ofInt (IntKind.bits .i64) v8.Members).toNat) != 0),sI 28 y2,sI 27 (x0.Rows.length : Int),sC 26 (cF 3 x0.Rows zC.row),sA 2 2 2 0,sI 1 x1],[(2,(CV.frzRow (zE.row x0)))]⟩ (fun cx => ?_) ?_
        ·refine mA zZ [(0,[]),(1,[2,24,25])] 34 [⟨[2,24,25],3,33,34⟩] fun cx => ?_
         refine mC zZ 2 ?_
         refine vA [.rd,.rd,.rd] (qC n v8.Id 1 99 r9 er9) ?_
         refine fA ?_
         refine mA zZ [(3,[]),(4,[])] 31 [⟨[2,24,25],3,33,34⟩] fun cx => ?_
         refine sA_ 163678519398 68 ⟨82,0,[sB 37 (!r9),sI 34 v8.Id,sA 33 6 3 0,sI 5 y2,sA 6 6 3 0,sI 28 y2,sI 27 (x0.Rows.length : Int),sC 26 (cF 3 x0.Rows zC.row),sA 2 2 2 0,sI 1 x1],[(6,(zC.row v8)),(2,(CV.frzRow (zE.row x0)))]⟩ ?_
         rw [h7]
         refine mA zZ [(5,[]),(6,[]),(7,[])] 28 [⟨[2,24,25],3,33,34⟩] fun cx => ?_
         refine sA_ 1263190147174 68 ⟨82,0,[sB 40 (decide (y2 > 0)),sB 37 false,sI 34 v8.Id,sA 33 6 3 0,sI 5 y2,sA 6 6 3 0,sI 28 y2,sI 27 (x0.Rows.length : Int),sC 26 (cF 3 x0.Rows zC.row),sA 2 2 2 0,sI 1 x1],[(6,(zC.row v8)),(2,(CV.frzRow (zE.row x0)))]⟩ ?_
         rw [h8]
         refine mA zZ [(8,[]),(9,[]),(10,[]),(11,[]),(12,[]),(13,[]),(14,[]),(15,[]),(16,[]),(17,[]),(18,[]),(19,[]),(20,[]),(21,[]),(22,[25]),(23,[])] 12 [⟨[25],3,54,55⟩,⟨[2,24,25],3,33,34⟩] fun cx => ?_
         refine mC zZ 24 ?_
         refine vA [.rd] (J9 n x1 r10 er10) ?_
         refine fA ?_
         refine mC zZ 25 ?_
         refine vA [.rd,.rd,.rd] (qC n v8.Members 0 r10 r11 er11) ?_
         refine fA ?_
         refine mA zZ [(26,[]),(27,[]),(28,[])] 7 [⟨[25],3,54,55⟩,⟨[2,24,25],3,33,34⟩] fun cx => ?_
         refine sA_ 0x20c000061c000046 68 ⟨82,0,[sB 61 (!r11),sI 55 v8.Members,sA 54 6 3 1,sI 34 v8.Id,sA 33 6 3 0,sA 6 6 3 0,sI 28 y2,sI 27 (x0.Rows.length : Int),sC 26 (cF 3 x0.Rows zC.row),sA 2 2 2 0,sI 1 x1],[(6,(zC.row v8)),(2,(CV.frzRow (zE.row x0)))]⟩ ?_
         rw [h9]
         refine mA zZ [(29,[]),(30,[]),(31,[]),(32,[]),(33,[]),(34,[]),(35,[])] 0 [⟨[],3,64,65⟩,⟨[],3,62,63⟩,⟨[25],3,54,55⟩,⟨[2,24,25],3,33,34⟩] fun cx => ?_
         exact mE zZ [68,28,27,26,2,1] [2]
        refine sT ⟨82,0,[sB 68 ((IntKind.wrap .i64 (BitVec.ofInt (IntKind.bits .i64) v8.Bare &&& ~~~BitVec.ofInt (IntKind.bits .i64) v8.Members).toNat) != 0),sI 28 y2,sI 27 (x0.Rows.length : Int),sC 26 (cF 3 x0.Rows zC.row),sA 2 2 2 0,sI 1 x1],[(2,(CV.frzRow (zE.row x0)))]⟩ ?_
        cases h10 : ((IntKind.wrap .i64 (BitVec.ofInt (IntKind.bits .i64) v8.Bare &&& ~~~BitVec.ofInt (IntKind.bits .i64) v8.Members).toNat) != 0)
        ·have H := zH h10 H
         refine nB_ ?_
         refine tK ?_
         refine eA 2 469762054 4 ?_
         exact jB mo7 (IntKind.wrap .i64 (y2 + 1)) H [28,27,26,2,1] [2]
        have H := zI h10 H
        refine tB_ ?_
        refine gA 1 16 0 ?_
        refine te ?_
        obtain rfl := si H
        have H := Ho7
        dsimp only at H
        exact fF H
       have H := zI h9 H
       refine Tr.draws mixed 36 kr ⟨82,0,[sB 68 true,sI 28 y2,sI 27 (x0.Rows.length : Int),sC 26 (cF 3 x0.Rows zC.row),sA 2 2 2 0,sI 1 x1],[(2,(CV.frzRow (zE.row x0)))]⟩ (fun cx => ?_) ?_
       ·refine mA zZ [(0,[]),(1,[2,24,25])] 34 [⟨[2,24,25],3,33,34⟩] fun cx => ?_
        refine mC zZ 2 ?_
        refine vA [.rd,.rd,.rd] (qC n v8.Id 1 99 r9 er9) ?_
        refine fA ?_
        refine mA zZ [(3,[]),(4,[])] 31 [⟨[2,24,25],3,33,34⟩] fun cx => ?_
        refine sA_ 163678519398 68 ⟨82,0,[sB 37 (!r9),sI 34 v8.Id,sA 33 6 3 0,sI 5 y2,sA 6 6 3 0,sI 28 y2,sI 27 (x0.Rows.length : Int),sC 26 (cF 3 x0.Rows zC.row),sA 2 2 2 0,sI 1 x1],[(6,(zC.row v8)),(2,(CV.frzRow (zE.row x0)))]⟩ ?_
        rw [h7]
        refine mA zZ [(5,[]),(6,[]),(7,[])] 28 [⟨[2,24,25],3,33,34⟩] fun cx => ?_
        refine sA_ 1263190147174 68 ⟨82,0,[sB 40 (decide (y2 > 0)),sB 37 false,sI 34 v8.Id,sA 33 6 3 0,sI 5 y2,sA 6 6 3 0,sI 28 y2,sI 27 (x0.Rows.length : Int),sC 26 (cF 3 x0.Rows zC.row),sA 2 2 2 0,sI 1 x1],[(6,(zC.row v8)),(2,(CV.frzRow (zE.row x0)))]⟩ ?_
        rw [h8]
        refine mA zZ [(8,[]),(9,[]),(10,[]),(11,[]),(12,[]),(13,[]),(14,[]),(15,[]),(16,[]),(17,[]),(18,[]),(19,[]),(20,[]),(21,[]),(22,[25]),(23,[])] 12 [⟨[25],3,54,55⟩,⟨[2,24,25],3,33,34⟩] fun cx => ?_
        refine mC zZ 24 ?_
        refine vA [.rd] (J9 n x1 r10 er10) ?_
        refine fA ?_
        refine mC zZ 25 ?_
        refine vA [.rd,.rd,.rd] (qC n v8.Members 0 r10 r11 er11) ?_
        refine fA ?_
        refine mA zZ [(26,[]),(27,[]),(28,[])] 7 [⟨[25],3,54,55⟩,⟨[2,24,25],3,33,34⟩] fun cx => ?_
        refine sA_ 0x20c000061c000046 68 ⟨82,0,[sB 61 (!r11),sI 55 v8.Members,sA 54 6 3 1,sI 34 v8.Id,sA 33 6 3 0,sA 6 6 3 0,sI 28 y2,sI 27 (x0.Rows.length : Int),sC 26 (cF 3 x0.Rows zC.row),sA 2 2 2 0,sI 1 x1],[(6,(zC.row v8)),(2,(CV.frzRow (zE.row x0)))]⟩ ?_
        rw [h9]
        refine mA zZ [(29,[]),(30,[]),(31,[]),(32,[]),(33,[]),(34,[]),(35,[])] 0 [⟨[25],3,54,55⟩,⟨[2,24,25],3,33,34⟩] fun cx => ?_
        exact mE zZ [68,28,27,26,2,1] [2]
       refine tB_ ?_
       refine gA 1 16 0 ?_
       refine te ?_
       obtain rfl := si H
       have H := Ho7
       dsimp only at H
       exact fF H
      have H := zI h8 H
      obtain ⟨v12,ev12,H⟩ := bs H
      refine sT ⟨82,0,[sI 5 y2,sA 6 6 3 0,sI 28 y2,sI 27 (x0.Rows.length : Int),sC 26 (cF 3 x0.Rows zC.row),sA 2 2 2 0,sI 1 x1],[(6,(zC.row v8)),(2,(CV.frzRow (zE.row x0)))]⟩ ?_
      cases h11 : (decide (v12.Id ≥ v8.Id))
      ·have H := zH h11 H
       obtain ⟨r13,er13,H⟩ := bs H
       obtain ⟨r14,er14,H⟩ := bs H
       refine sT ⟨82,0,[sI 5 y2,sA 6 6 3 0,sI 28 y2,sI 27 (x0.Rows.length : Int),sC 26 (cF 3 x0.Rows zC.row),sA 2 2 2 0,sI 1 x1],[(6,(zC.row v8)),(2,(CV.frzRow (zE.row x0)))]⟩ ?_
       cases h12 : (!r14)
       ·have H := zH h12 H
        refine Tr.draws mixed 36 kr ⟨82,0,[sB 68 ((IntKind.wrap .i64 (BitVec.ofInt (IntKind.bits .i64) v8.Bare &&& ~~~BitVec.ofInt (IntKind.bits .i64) v8.Members).toNat) != 0),sI 28 y2,sI 27 (x0.Rows.length : Int),sC 26 (cF 3 x0.Rows zC.row),sA 2 2 2 0,sI 1 x1],[(2,(CV.frzRow (zE.row x0)))]⟩ (fun cx => ?_) ?_
        ·refine mA zZ [(0,[]),(1,[2,24,25])] 34 [⟨[2,24,25],3,33,34⟩] fun cx => ?_
         refine mC zZ 2 ?_
         refine vA [.rd,.rd,.rd] (qC n v8.Id 1 99 r9 er9) ?_
         refine fA ?_
         refine mA zZ [(3,[]),(4,[])] 31 [⟨[2,24,25],3,33,34⟩] fun cx => ?_
         refine sA_ 163678519398 68 ⟨82,0,[sB 37 (!r9),sI 34 v8.Id,sA 33 6 3 0,sI 5 y2,sA 6 6 3 0,sI 28 y2,sI 27 (x0.Rows.length : Int),sC 26 (cF 3 x0.Rows zC.row),sA 2 2 2 0,sI 1 x1],[(6,(zC.row v8)),(2,(CV.frzRow (zE.row x0)))]⟩ ?_
         rw [h7]
         refine mA zZ [(5,[]),(6,[]),(7,[])] 28 [⟨[2,24,25],3,33,34⟩] fun cx => ?_
         refine sA_ 1263190147174 68 ⟨82,0,[sB 40 (decide (y2 > 0)),sB 37 false,sI 34 v8.Id,sA 33 6 3 0,sI 5 y2,sA 6 6 3 0,sI 28 y2,sI 27 (x0.Rows.length : Int),sC 26 (cF 3 x0.Rows zC.row),sA 2 2 2 0,sI 1 x1],[(6,(zC.row v8)),(2,(CV.frzRow (zE.row x0)))]⟩ ?_
         rw [h8]
         refine mA zZ [(8,[]),(9,[24,25]),(10,[]),(11,[])] 24 [⟨[24,25],37,41,42⟩,⟨[2,24,25],3,33,34⟩] fun cx => ?_
         refine iN zZ 12 zC.row ev12 fun cx => ?_
         refine mA zZ [(13,[]),(14,[]),(15,[]),(16,[24,25]),(17,[]),(18,[]),(19,[]),(20,[])] 15 [⟨[24,25],3,48,49⟩,⟨[24,25],37,41,42⟩,⟨[2,24,25],3,33,34⟩] fun cx => ?_
         refine sA_ 9858247494205510 68 ⟨82,0,[sB 53 (decide (v12.Id ≥ v8.Id)),sI 49 v8.Id,sA 48 6 3 0,sR 42 2 2 0 1 false,sA 41 2 2 0,sI 34 v8.Id,sA 33 6 3 0,sA 6 6 3 0,sI 28 y2,sI 27 (x0.Rows.length : Int),sC 26 (cF 3 x0.Rows zC.row),sA 2 2 2 0,sI 1 x1],[(6,(zC.row v8)),(2,(CV.frzRow (zE.row x0)))]⟩ ?_
         rw [h11]
         exact zFm n x1 r13 v8 r14 y2 x0 er13 er14 h12 cx
        refine sT ⟨82,0,[sB 68 ((IntKind.wrap .i64 (BitVec.ofInt (IntKind.bits .i64) v8.Bare &&& ~~~BitVec.ofInt (IntKind.bits .i64) v8.Members).toNat) != 0),sI 28 y2,sI 27 (x0.Rows.length : Int),sC 26 (cF 3 x0.Rows zC.row),sA 2 2 2 0,sI 1 x1],[(2,(CV.frzRow (zE.row x0)))]⟩ ?_
        cases h13 : ((IntKind.wrap .i64 (BitVec.ofInt (IntKind.bits .i64) v8.Bare &&& ~~~BitVec.ofInt (IntKind.bits .i64) v8.Members).toNat) != 0)
        ·have H := zH h13 H
         refine nB_ ?_
         refine tK ?_
         refine eA 2 469762054 4 ?_
         exact jB mo7 (IntKind.wrap .i64 (y2 + 1)) H [28,27,26,2,1] [2]
        have H := zI h13 H
        refine tB_ ?_
        refine gA 1 16 0 ?_
        refine te ?_
        obtain rfl := si H
        have H := Ho7
        dsimp only at H
        exact fF H
       have H := zI h12 H
       refine Tr.draws mixed 36 kr ⟨82,0,[sB 68 true,sI 28 y2,sI 27 (x0.Rows.length : Int),sC 26 (cF 3 x0.Rows zC.row),sA 2 2 2 0,sI 1 x1],[(2,(CV.frzRow (zE.row x0)))]⟩ (fun cx => ?_) ?_
       ·refine mA zZ [(0,[]),(1,[2,24,25])] 34 [⟨[2,24,25],3,33,34⟩] fun cx => ?_
        refine mC zZ 2 ?_
        refine vA [.rd,.rd,.rd] (qC n v8.Id 1 99 r9 er9) ?_
        refine fA ?_
        refine mA zZ [(3,[]),(4,[])] 31 [⟨[2,24,25],3,33,34⟩] fun cx => ?_
        refine sA_ 163678519398 68 ⟨82,0,[sB 37 (!r9),sI 34 v8.Id,sA 33 6 3 0,sI 5 y2,sA 6 6 3 0,sI 28 y2,sI 27 (x0.Rows.length : Int),sC 26 (cF 3 x0.Rows zC.row),sA 2 2 2 0,sI 1 x1],[(6,(zC.row v8)),(2,(CV.frzRow (zE.row x0)))]⟩ ?_
        rw [h7]
        refine mA zZ [(5,[]),(6,[]),(7,[])] 28 [⟨[2,24,25],3,33,34⟩] fun cx => ?_
        refine sA_ 1263190147174 68 ⟨82,0,[sB 40 (decide (y2 > 0)),sB 37 false,sI 34 v8.Id,sA 33 6 3 0,sI 5 y2,sA 6 6 3 0,sI 28 y2,sI 27 (x0.Rows.length : Int),sC 26 (cF 3 x0.Rows zC.row),sA 2 2 2 0,sI 1 x1],[(6,(zC.row v8)),(2,(CV.frzRow (zE.row x0)))]⟩ ?_
        rw [h8]
        refine mA zZ [(8,[]),(9,[24,25]),(10,[]),(11,[])] 24 [⟨[24,25],37,41,42⟩,⟨[2,24,25],3,33,34⟩] fun cx => ?_
        refine iN zZ 12 zC.row ev12 fun cx => ?_
        refine mA zZ [(13,[]),(14,[]),(15,[]),(16,[24,25]),(17,[]),(18,[]),(19,[]),(20,[])] 15 [⟨[24,25],3,48,49⟩,⟨[24,25],37,41,42⟩,⟨[2,24,25],3,33,34⟩] fun cx => ?_
        refine sA_ 9858247494205510 68 ⟨82,0,[sB 53 (decide (v12.Id ≥ v8.Id)),sI 49 v8.Id,sA 48 6 3 0,sR 42 2 2 0 1 false,sA 41 2 2 0,sI 34 v8.Id,sA 33 6 3 0,sA 6 6 3 0,sI 28 y2,sI 27 (x0.Rows.length : Int),sC 26 (cF 3 x0.Rows zC.row),sA 2 2 2 0,sI 1 x1],[(6,(zC.row v8)),(2,(CV.frzRow (zE.row x0)))]⟩ ?_
        rw [h11]
        exact zFn n x1 r13 v8 r14 y2 x0 er13 er14 h12 cx
       refine tB_ ?_
       refine gA 1 16 0 ?_
       refine te ?_
       obtain rfl := si H
       have H := Ho7
       dsimp only at H
       exact fF H
      have H := zI h11 H
      refine Tr.draws mixed 36 kr ⟨82,0,[sB 68 true,sI 28 y2,sI 27 (x0.Rows.length : Int),sC 26 (cF 3 x0.Rows zC.row),sA 2 2 2 0,sI 1 x1],[(2,(CV.frzRow (zE.row x0)))]⟩ (fun cx => ?_) ?_
      ·refine mA zZ [(0,[]),(1,[2])] 34 [⟨[2],3,33,34⟩] fun cx => ?_
       refine mC zZ 2 ?_
       refine vA [.rd,.rd,.rd] (qC n v8.Id 1 99 r9 er9) ?_
       refine fA ?_
       refine mA zZ [(3,[]),(4,[])] 31 [⟨[2],3,33,34⟩] fun cx => ?_
       refine sA_ 163678519398 68 ⟨82,0,[sB 37 (!r9),sI 34 v8.Id,sA 33 6 3 0,sI 5 y2,sA 6 6 3 0,sI 28 y2,sI 27 (x0.Rows.length : Int),sC 26 (cF 3 x0.Rows zC.row),sA 2 2 2 0,sI 1 x1],[(6,(zC.row v8)),(2,(CV.frzRow (zE.row x0)))]⟩ ?_
       rw [h7]
       refine mA zZ [(5,[]),(6,[]),(7,[])] 28 [⟨[2],3,33,34⟩] fun cx => ?_
       refine sA_ 1263190147174 68 ⟨82,0,[sB 40 (decide (y2 > 0)),sB 37 false,sI 34 v8.Id,sA 33 6 3 0,sI 5 y2,sA 6 6 3 0,sI 28 y2,sI 27 (x0.Rows.length : Int),sC 26 (cF 3 x0.Rows zC.row),sA 2 2 2 0,sI 1 x1],[(6,(zC.row v8)),(2,(CV.frzRow (zE.row x0)))]⟩ ?_
       rw [h8]
       refine mA zZ [(8,[]),(9,[]),(10,[]),(11,[])] 24 [⟨[],37,41,42⟩,⟨[2],3,33,34⟩] fun cx => ?_
       refine iN zZ 12 zC.row ev12 fun cx => ?_
       refine mA zZ [(13,[]),(14,[]),(15,[]),(16,[]),(17,[]),(18,[]),(19,[]),(20,[])] 15 [⟨[],3,48,49⟩,⟨[],37,41,42⟩,⟨[2],3,33,34⟩] fun cx => ?_
       refine sA_ 9858247494205510 68 ⟨82,0,[sB 53 (decide (v12.Id ≥ v8.Id)),sI 49 v8.Id,sA 48 6 3 0,sR 42 2 2 0 1 false,sA 41 2 2 0,sI 34 v8.Id,sA 33 6 3 0,sA 6 6 3 0,sI 28 y2,sI 27 (x0.Rows.length : Int),sC 26 (cF 3 x0.Rows zC.row),sA 2 2 2 0,sI 1 x1],[(6,(zC.row v8)),(2,(CV.frzRow (zE.row x0)))]⟩ ?_
       rw [h11]
       exact zFo n v8 y2 x0 x1 cx
      refine tB_ ?_
      refine gA 1 16 0 ?_
      refine te ?_
      obtain rfl := si H
      have H := Ho7
      dsimp only at H
      exact fF H
     have H := zI h7 H
     refine Tr.draws mixed 36 kr ⟨82,0,[sB 68 true,sI 28 y2,sI 27 (x0.Rows.length : Int),sC 26 (cF 3 x0.Rows zC.row),sA 2 2 2 0,sI 1 x1],[(2,(CV.frzRow (zE.row x0)))]⟩ (fun cx => ?_) ?_
     ·refine mA zZ [(0,[]),(1,[2])] 34 [⟨[2],3,33,34⟩] fun cx => ?_
      refine mC zZ 2 ?_
      refine vA [.rd,.rd,.rd] (qC n v8.Id 1 99 r9 er9) ?_
      refine fA ?_
      refine mA zZ [(3,[]),(4,[])] 31 [⟨[2],3,33,34⟩] fun cx => ?_
      refine sA_ 163678519398 68 ⟨82,0,[sB 37 (!r9),sI 34 v8.Id,sA 33 6 3 0,sI 5 y2,sA 6 6 3 0,sI 28 y2,sI 27 (x0.Rows.length : Int),sC 26 (cF 3 x0.Rows zC.row),sA 2 2 2 0,sI 1 x1],[(6,(zC.row v8)),(2,(CV.frzRow (zE.row x0)))]⟩ ?_
      rw [h7]
      refine mA zZ [(5,[]),(6,[]),(7,[]),(8,[]),(9,[]),(10,[]),(11,[]),(12,[]),(13,[]),(14,[]),(15,[]),(16,[]),(17,[]),(18,[]),(19,[]),(20,[]),(21,[]),(22,[]),(23,[]),(24,[]),(25,[]),(26,[]),(27,[]),(28,[]),(29,[]),(30,[]),(31,[]),(32,[]),(33,[]),(34,[]),(35,[])] 0 [⟨[2],3,33,34⟩] fun cx => ?_
      exact mE zZ [68,28,27,26,2,1] [2]
     refine tB_ ?_
     refine gA 1 16 0 ?_
     refine te ?_
     obtain rfl := si H
     have H := Ho7
     dsimp only at H
     exact fF H
    rintro _ H
    have H : (YL n x0) = some r := H
    unfold YL at H
    refine tS ?_
    refine rA 2 ?_
    refine kF x0.Pv intRow ?_
    refine uA 1 0x3800000000000000004 4 ?_
    obtain ⟨o4,eo4,Ho4⟩ := bs H
    clear H
    refine Tr.mid (ι := Unit) (fun v => ⟨82,0,[],[]⟩) (fun v => Jc n = some r) ?_ ?_
    ·refine tB ?_
     refine Tr.loop (ι := Nat × (Int)) (fun v => ⟨82,0,[sI 73 v.2,sI 72 (x0.Pv.length : Int),sC 71 (cF 1 x0.Pv intRow),sA 2 2 2 0],[(2,(CV.frzRow (zE.row x0)))]⟩) (fun v => Zk n v.1 x0 v.2 = some o4) (fun v => v.1) (n,0) eo4 (St.sub_of [73,72,71,2] [2] kr) ?_
     rintro ⟨mo4,y3⟩ H
     have H : Zk n mo4 x0 y3 = some o4 := H
     obtain _ | mo4 := mo4
     ·exact nN H
     rw [Zk] at H
     refine gA 1 0x7800000000000000004 4 ?_
     refine tS ?_
     obtain ⟨h4,H⟩ | ⟨h4,H⟩ := bC H
     ·refine nA h4 ?_
      refine Tr.exit ?_
      refine aJ ?_
      obtain rfl := si H
      have H := Ho4
      dsimp only at H
      exact jA () H [] []
     refine tA h4 ?_
     refine tK ?_
     refine tS ?_
     refine tB ?_
     refine tR ?_
     obtain ⟨v5,ev5,H⟩ := bs H
     refine iA intRow ev5 ?_
     refine uA 2 0x3800000000000000104 4 ?_
     refine rA 2 ?_
     obtain ⟨r6,er6,H⟩ := bs H
     refine vA [.rd,.rd] (zBY n x0 v5 r6 er6) ?_
     refine uA 1 0x103800000000000000004 4 ?_
     obtain ⟨h5,H⟩ | ⟨h5,H⟩ := bC H
     ·refine nA h5 ?_
      refine tK ?_
      refine eA 2 0x3800000000000000004 4 ?_
      exact jB mo4 (IntKind.wrap .i64 (y3 + 1)) H [73,72,71,2] [2]
     refine tA h5 ?_
     refine gA 1 16 0 ?_
     refine te ?_
     obtain rfl := si H
     have H := Ho4
     dsimp only at H
     exact fF H
    rintro _ H
    have H : (Jc n) = some r := H
    unfold Jc at H
    refine gA 1 16 0 ?_
    exact te (fT H)
   refine tA h3 ?_
   refine gA 1 16 0 ?_
   exact te (fF H)
  have H := zI h2 H
  refine uA 5 16777222 4 ?_
  refine tB_ ?_
  refine gA 1 16 0 ?_
  exact te (fF H)
 have H := zI h1 H
 refine uA 12 16777222 4 ?_
 refine tB_ ?_
 refine gA 1 16 0 ?_
 exact te (fF H)
def Z8 (n : Nat) (x0 : Int) : Option (Bool) :=
  ((z8 n x0 0 1000000).bind fun r1 => (some r1))
theorem JJ (n : Nat) (x0 : Int) (r : Bool) (H : Z8 n x0 = some r) : zK Tryz.prog 141 [.val false [.lit (.int .i64 x0)]] [.val false [.lit (.bool r)]] [] := by
 refine cW Tryz.func141 (fun g d => sl [g 0,g 1] .ret) [.tmp 2] fun cx => ?_
 unfold Z8 at H
 refine gA 1 1 0 ?_
 refine rA 1 ?_
 obtain ⟨r1,er1,H⟩ := bs H
 refine vA [.rd,.rd,.rd] (qC n x0 0 1000000 r1 er1) ?_
 refine uA 1 4 0 ?_
 exact te (fJ [(false,[cB r1])] H)
def Qr (n : Nat) (x0 : zA) : Option (Bool) :=
  ((z8 n x0.Id 1 99).bind fun r2 => (bif (!r2) then (some false) else (bif (decide ((x0.Name.size : Int) > 10)) then (some false) else ((z8 n (x0.Ps.length : Int) 1 6).bind fun r3 => (bif (!r3) then (some false) else ((Yv n x0.F).bind fun r4 => (bif (!r4) then (some false) else ((JH n x0.V (x0.Ps.length : Int)).bind fun r5 => (bif (!r5) then (some false) else ((Z8 n x0.Tk).bind fun r6 => (bif r6 then ((Z8 n x0.Pa).bind fun r7 => (bif r7 then ((Z8 n x0.Wo).bind fun r8 => (bif r8 then ((Z8 n x0.Dr).bind fun r9 => (bif r9 then ((Z8 n x0.Ve).bind fun r10 => (some r10)) else (some false))) else (some false))) else (some false))) else (some false))))))))))))
def Ze (n : Nat) : Nat → zA → Int → Option ((Unit) ⊕ (Bool))
  | 0,_,_ => none
  | mo11 + 1,x0,y1 => (bif (decide (y1 < (x0.Ps.length : Int))) then ((idx x0.Ps y1).bind fun v12 => ((zAR n v12).bind fun r13 => (bif (!r13) then (some (Sum.inr false)) else (Ze n mo11 x0 (IntKind.wrap .i64 (y1 + 1)))))) else (some (Sum.inl ())))
def Zj (n : Nat) (x0 : zA) : Option (Bool) :=
  ((Ze n n x0 0).bind fun o => match o with | .inl _ => (Qr n x0) | .inr r => some r)
theorem zDE (n : Nat) (x0 : zA) (r : Bool) (H : Zj n x0 = some r) : zK Tryz.prog 41 [.val true (CV.frzRow (zA.row x0))] [.val false [.lit (.bool r)]] [] := by
 refine cW Tryz.func41 (fun g d => sl [g 0,sl [g 1] (.block 0 (.loop (sl [g 2,cn 9 .skip (.exit 0),.block 1 (sl [g 3,g 4] (cn 14 (sl [g 5] .ret) .skip))] (g 6)))),sl [g 7] (cn 47 (sl [g 8] .ret) .skip),g 9] .ret) [.tmp 2] fun cx => ?_
 unfold Zj at H
 refine gA 2 2 2 ?_
 refine tS ?_
 refine rA 2 ?_
 refine kF x0.Ps Pt.row ?_
 refine uA 1 450 2 ?_
 obtain ⟨o11,eo11,Ho11⟩ := bs H
 clear H
 refine Tr.mid (ι := Unit) (fun v => ⟨71,0,[sA 1 1 11 0],[(1,(CV.frzRow (zA.row x0)))]⟩) (fun v => Qr n x0 = some r) ?_ ?_
 ·refine tB ?_
  refine Tr.loop (ι := Nat × (Int)) (fun v => ⟨71,0,[sI 8 v.2,sI 7 (x0.Ps.length : Int),sC 6 (cF 8 x0.Ps Pt.row),sA 1 1 11 0],[(1,(CV.frzRow (zA.row x0)))]⟩) (fun v => Ze n v.1 x0 v.2 = some o11) (fun v => v.1) (n,0) eo11 (St.sub_of [8,7,6,1] [1] kr) ?_
  rintro ⟨mo11,y1⟩ H
  have H : Ze n mo11 x0 y1 = some o11 := H
  obtain _ | mo11 := mo11
  ·exact nN H
  rw [Ze] at H
  refine gA 1 962 2 ?_
  refine tS ?_
  obtain ⟨h10,H⟩ | ⟨h10,H⟩ := bC H
  ·refine nA h10 ?_
   refine Tr.exit ?_
   refine aJ ?_
   obtain rfl := si H
   have H := Ho11
   dsimp only at H
   exact jA () H [1] [1]
  refine tA h10 ?_
  refine tK ?_
  refine tS ?_
  refine tB ?_
  refine tR ?_
  obtain ⟨v12,ev12,H⟩ := bs H
  refine iA Pt.row ev12 ?_
  refine uA 3 466 18 ?_
  refine rA 1 ?_
  obtain ⟨r13,er13,H⟩ := bs H
  refine vA [.rd] (zI4 n v12 r13 er13) ?_
  refine uA 1 16834 2 ?_
  obtain ⟨h11,H⟩ | ⟨h11,H⟩ := bC H
  ·refine nA h11 ?_
   refine tK ?_
   refine eA 2 450 2 ?_
   exact jB mo11 (IntKind.wrap .i64 (y1 + 1)) H [8,7,6,1] [1]
  refine tA h11 ?_
  refine gA 1 4 0 ?_
  refine te ?_
  obtain rfl := si H
  have H := Ho11
  dsimp only at H
  exact fF H
 rintro _ H
 have H : (Qr n x0) = some r := H
 unfold Qr at H
 refine tS ?_
 refine rA 2 ?_
 obtain ⟨r2,er2,H⟩ := bs H
 refine vA [.rd,.rd,.rd] (qC n x0.Id 1 99 r2 er2) ?_
 refine lA 2 ?_
 refine sL 1048578 2 ⟨71,0,[sB 20 (!r2),sA 1 1 11 0],[(1,(CV.frzRow (zA.row x0)))]⟩ ?_
 cases h1 : (!r2)
 ·have H := zH h1 H
  refine lA 6 ?_
  refine sL 67108866 2 ⟨71,0,[sB 26 (decide ((x0.Name.size : Int) > 10)),sA 1 1 11 0],[(1,(CV.frzRow (zA.row x0)))]⟩ ?_
  cases h2 : (decide ((x0.Name.size : Int) > 10))
  ·have H := zH h2 H
   refine lA 2 ?_
   refine kF x0.Ps Pt.row ?_
   obtain ⟨r3,er3,H⟩ := bs H
   refine vA [.rd,.rd,.rd] (qC n (x0.Ps.length : Int) 1 6 r3 er3) ?_
   refine lA 3 ?_
   refine sL 8589934594 2 ⟨71,0,[sB 33 (!r3),sA 1 1 11 0],[(1,(CV.frzRow (zA.row x0)))]⟩ ?_
   cases h3 : (!r3)
   ·have H := zH h3 H
    refine lA 2 ?_
    obtain ⟨r4,er4,H⟩ := bs H
    refine vA [.rd] (zE9 n x0.F r4 er4) ?_
    refine lA 3 ?_
    refine sL 549755813890 2 ⟨71,0,[sB 39 (!r4),sA 1 1 11 0],[(1,(CV.frzRow (zA.row x0)))]⟩ ?_
    cases h4 : (!r4)
    ·have H := zH h4 H
     refine lA 4 ?_
     refine kF x0.Ps Pt.row ?_
     obtain ⟨r5,er5,H⟩ := bs H
     refine vA [.rd,.rd] (zHi n x0.V (x0.Ps.length : Int) r5 er5) ?_
     refine uA 2 0x800000000002 2 ?_
     obtain ⟨h5,H⟩ | ⟨h5,H⟩ := bC H
     ·refine nA h5 ?_
      refine tK ?_
      refine rA 2 ?_
      obtain ⟨r6,er6,H⟩ := bs H
      refine vA [.rd] (JJ n x0.Tk r6 er6) ?_
      refine lA 1 ?_
      refine sL 0x8000000000002 2 ⟨71,0,[sB 51 r6,sA 1 1 11 0],[(1,(CV.frzRow (zA.row x0)))]⟩ ?_
      cases h6 : r6
      ·have H := zH h6 H
       refine uA 20 4 0 ?_
       exact te (fF H)
      have H := zI h6 H
      refine lA 2 ?_
      obtain ⟨r7,er7,H⟩ := bs H
      refine vA [.rd] (JJ n x0.Pa r7 er7) ?_
      refine lA 2 ?_
      refine sL 72057594037927938 2 ⟨71,0,[sB 56 r7,sA 1 1 11 0],[(1,(CV.frzRow (zA.row x0)))]⟩ ?_
      cases h7 : r7
      ·have H := zH h7 H
       refine uA 15 4 0 ?_
       exact te (fF H)
      have H := zI h7 H
      refine lA 2 ?_
      obtain ⟨r8,er8,H⟩ := bs H
      refine vA [.rd] (JJ n x0.Wo r8 er8) ?_
      refine lA 2 ?_
      refine sL 0x2000000000000002 2 ⟨71,0,[sB 61 r8,sA 1 1 11 0],[(1,(CV.frzRow (zA.row x0)))]⟩ ?_
      cases h8 : r8
      ·have H := zH h8 H
       refine uA 10 4 0 ?_
       exact te (fF H)
      have H := zI h8 H
      refine lA 2 ?_
      obtain ⟨r9,er9,H⟩ := bs H
      refine vA [.rd] (JJ n x0.Dr r9 er9) ?_
      refine lA 2 ?_
      refine sL 0x40000000000000002 2 ⟨71,0,[sB 66 r9,sA 1 1 11 0],[(1,(CV.frzRow (zA.row x0)))]⟩ ?_
      cases h9 : r9
      ·have H := zH h9 H
       refine uA 5 4 0 ?_
       exact te (fF H)
      have H := zI h9 H
      refine lA 2 ?_
      obtain ⟨r10,er10,H⟩ := bs H
      refine vA [.rd] (JJ n x0.Ve r10 er10) ?_
      refine uA 2 4 0 ?_
      exact te (fJ [(false,[cB r10])] H)
     refine tA h5 ?_
     refine gA 1 4 0 ?_
     exact te (fF H)
    have H := zI h4 H
    refine uA 8 0x800000000002 2 ?_
    refine tB_ ?_
    refine gA 1 4 0 ?_
    exact te (fF H)
   have H := zI h3 H
   refine uA 14 0x800000000002 2 ?_
   refine tB_ ?_
   refine gA 1 4 0 ?_
   exact te (fF H)
  have H := zI h2 H
  refine uA 21 0x800000000002 2 ?_
  refine tB_ ?_
  refine gA 1 4 0 ?_
  exact te (fF H)
 have H := zI h1 H
 refine uA 27 0x800000000002 2 ?_
 refine tB_ ?_
 refine gA 1 4 0 ?_
 exact te (fF H)
def JK (n : Nat) (x0 : zA) (x1 : Int) : Option (Bool) :=
  ((Zj n x0).bind fun r1 => (bif r1 then ((z8 n x1 0 (IntKind.wrap .i64 ((x0.Ps.length : Int) - 1))).bind fun r2 => (some r2)) else (some false)))
theorem zHj (n : Nat) (x0 : zA) (x1 : Int) (r : Bool) (H : JK n x0 x1 = some r) : zK Tryz.prog 84 [.val true (CV.frzRow (zA.row x0)),.val false [.lit (.int .i64 x1)]] [.val false [.lit (.bool r)]] [] := by
 refine cW Tryz.func84 (fun g d => sl [g 0,g 1] .ret) [.tmp 4] fun cx => ?_
 unfold JK at H
 refine gA 2 6 4 ?_
 refine rA 1 ?_
 obtain ⟨r1,er1,H⟩ := bs H
 refine vA [.rd] (zDE n x0 r1 er1) ?_
 refine lA 1 ?_
 refine sL 134 4 ⟨15,0,[sB 7 r1,sA 2 2 11 0,sI 1 x1],[(2,(CV.frzRow (zA.row x0)))]⟩ ?_
 cases h1 : r1
 ·have H := zH h1 H
  refine uA 8 16 0 ?_
  exact te (fF H)
 have H := zI h1 H
 refine lA 3 ?_
 refine kF x0.Ps Pt.row ?_
 refine lA 1 ?_
 obtain ⟨r2,er2,H⟩ := bs H
 refine vA [.rd,.rd,.rd] (qC n x1 0 (IntKind.wrap .i64 ((x0.Ps.length : Int) - 1)) r2 er2) ?_
 refine uA 2 16 0 ?_
 exact te (fJ [(false,[cB r2])] H)
def J5 (n : Nat) (x0 : Frame) : Option (Bool) :=
  ((z8 n x0.Dst 0 9999).bind fun r1 => (bif r1 then ((z8 n x0.Src 1 9999).bind fun r2 => (bif r2 then ((z8 n x0.Tag 0 99).bind fun r3 => (bif r3 then (some (decide ((x0.Data.length : Int) ≤ 20))) else (some false))) else (some false))) else (some false)))
theorem zG8 (n : Nat) (x0 : Frame) (r : Bool) (H : J5 n x0 = some r) : zK Tryz.prog 85 [.val true (CV.frzRow (Frame.row x0))] [.val false [.lit (.bool r)]] [] := by
 refine cW Tryz.func85 (fun g d => sl [g 0,g 1] .ret) [.tmp 2] fun cx => ?_
 unfold J5 at H
 refine gA 2 2 2 ?_
 refine rA 2 ?_
 obtain ⟨r1,er1,H⟩ := bs H
 refine vA [.rd,.rd,.rd] (qC n x0.Dst 0 9999 r1 er1) ?_
 refine lA 1 ?_
 refine sL 66 2 ⟨22,0,[sB 6 r1,sA 1 1 4 0],[(1,(CV.frzRow (Frame.row x0)))]⟩ ?_
 cases h1 : r1
 ·have H := zH h1 H
  refine uA 16 4 0 ?_
  exact te (fF H)
 have H := zI h1 H
 refine lA 2 ?_
 obtain ⟨r2,er2,H⟩ := bs H
 refine vA [.rd,.rd,.rd] (qC n x0.Src 1 9999 r2 er2) ?_
 refine lA 2 ?_
 refine sL 2050 2 ⟨22,0,[sB 11 r2,sA 1 1 4 0],[(1,(CV.frzRow (Frame.row x0)))]⟩ ?_
 cases h2 : r2
 ·have H := zH h2 H
  refine uA 11 4 0 ?_
  exact te (fF H)
 have H := zI h2 H
 refine lA 2 ?_
 obtain ⟨r3,er3,H⟩ := bs H
 refine vA [.rd,.rd,.rd] (qC n x0.Tag 0 99 r3 er3) ?_
 refine lA 2 ?_
 refine sL 65538 2 ⟨22,0,[sB 16 r3,sA 1 1 4 0],[(1,(CV.frzRow (Frame.row x0)))]⟩ ?_
 cases h3 : r3
 ·have H := zH h3 H
  refine uA 6 4 0 ?_
  exact te (fF H)
 have H := zI h3 H
 refine lA 2 ?_
 refine kF x0.Data zM ?_
 refine uA 3 4 0 ?_
 exact te (fJ [(false,[cB (decide ((x0.Data.length : Int) ≤ 20))])] H)
def J8 (n : Nat) (x0 : Vec) (x1 : Int) : Option (Vec × Bool) :=
  ((Yw n x0).bind fun r1 => (bif (!r1) then (some (x0,false)) else ((z8 n x1 1 1000).bind fun r2 => (bif (!r2) then (some (x0,false)) else ((Yw n (⟨x0.Root,(IntKind.wrap .i64 (x0.Co + x1)),(IntKind.wrap .i64 (x0.Hops + 1)),x0.Bridge,x0.Port⟩ : Vec)).bind fun r3 => (bif (!r3) then (some (x0,false)) else (some ((⟨x0.Root,(IntKind.wrap .i64 (x0.Co + x1)),(IntKind.wrap .i64 (x0.Hops + 1)),x0.Bridge,x0.Port⟩ : Vec),true))))))))
theorem zHA (n : Nat) (x0 : Vec) (x1 : Int) (r : Vec × Bool) (H : J8 n x0 x1 = some r) : zK Tryz.prog 249 [.val true (CV.frzRow (Vec.row x0)),.val false [.lit (.int .i64 x1)]] [.val true (Vec.row r.1),.val false [.lit (.bool r.2)]] [] := by
 refine cW Tryz.func249 (fun g d => sl [g 0,sl [g 1] (cn 14 (sl [g 2] .ret) .skip),g 3,g 4,g 5,sl [g 6] (cn 28 (sl [g 7] .ret) .skip),g 8] .ret) [.cell 4 165,.tmp 5] fun cx => ?_
 unfold J8 at H
 refine gA 3 22 20 ?_
 refine tS ?_
 refine rA 1 ?_
 obtain ⟨r1,er1,H⟩ := bs H
 refine vA [.rd] (zCv n x0 r1 er1) ?_
 refine lA 2 ?_
 refine sL 1046 20 ⟨31,0,[sB 10 (!r1),sA 4 4 5 0,sA 2 2 5 0,sI 1 x1],[(4,[cI 0,cI 0,cI 0,cI 0,cI 0]),(2,(Vec.row x0))]⟩ ?_
 cases h1 : (!r1)
 ·have H := zH h1 H
  refine lA 1 ?_
  obtain ⟨r2,er2,H⟩ := bs H
  refine vA [.rd,.rd,.rd] (qC n x1 1 1000 r2 er2) ?_
  refine uA 2 16406 20 ?_
  obtain ⟨h2,H⟩ | ⟨h2,H⟩ := bC H
  ·refine nA h2 ?_
   refine tK ?_
   refine gA 3 86 84 ?_
   refine gA 6 84 84 ?_
   refine gA 5 84 84 ?_
   refine tS ?_
   refine rA 1 ?_
   obtain ⟨r3,er3,H⟩ := bs H
   refine vA [.rd] (zCv n (⟨x0.Root,(IntKind.wrap .i64 (x0.Co + x1)),(IntKind.wrap .i64 (x0.Hops + 1)),x0.Bridge,x0.Port⟩ : Vec) r3 er3) ?_
   refine uA 1 268435540 84 ?_
   obtain ⟨h3,H⟩ | ⟨h3,H⟩ := bC H
   ·refine nA h3 ?_
    refine tK ?_
    refine gA 3 48 16 ?_
    exact te (fJ [(true,[cI x0.Root,cI (IntKind.wrap .i64 (x0.Co + x1)),cI (IntKind.wrap .i64 (x0.Hops + 1)),cI x0.Bridge,cI x0.Port]),(false,[cB true])] H)
   refine tA h3 ?_
   refine gA 3 48 16 ?_
   exact te (fJ [(true,(Vec.row x0)),(false,[cB false])] H)
  refine tA h2 ?_
  refine gA 3 48 16 ?_
  exact te (fJ [(true,(Vec.row x0)),(false,[cB false])] H)
 have H := zI h1 H
 refine uA 4 16406 20 ?_
 refine tB_ ?_
 refine gA 3 48 16 ?_
 exact te (fJ [(true,(Vec.row x0)),(false,[cB false])] H)
def Yk (n : Nat) (x0 : Vec) (x1 : Vec) : Option (Bool) :=
  (bif (x0.Root != x1.Root) then (some (decide (x0.Root < x1.Root))) else (bif (x0.Co != x1.Co) then (some (decide (x0.Co < x1.Co))) else (bif (x0.Bridge != x1.Bridge) then (some (decide (x0.Bridge < x1.Bridge))) else (some (decide (x0.Port < x1.Port))))))
theorem zDT (n : Nat) (x0 : Vec) (x1 : Vec) (r : Bool) (H : Yk n x0 x1 = some r) : zK Tryz.prog 218 [.val true (CV.frzRow (Vec.row x0)),.val true (CV.frzRow (Vec.row x1))] [.val false [.lit (.bool r)]] [] := by
 refine cW Tryz.func218 (fun g d => sl [g 0,.block 0 (sl [g 1] (cn 5 (sl [g 2] .ret) (sl [g 3] (cn 16 (sl [g 4] .ret) (sl [g 5] (cn 27 (sl [g 6] .ret) .skip)))))),g 7] .ret) [.tmp 4] fun cx => ?_
 unfold Yk at H
 refine gA 3 12 12 ?_
 refine tS ?_
 refine tB ?_
 refine gA 6 44 12 ?_
 obtain ⟨h1,H⟩ | ⟨h1,H⟩ := bC H
 ·refine nA h1 ?_
  refine gA 6 65548 12 ?_
  obtain ⟨h2,H⟩ | ⟨h2,H⟩ := bC H
  ·refine nA h2 ?_
   refine gA 6 134217740 12 ?_
   obtain ⟨h3,H⟩ | ⟨h3,H⟩ := bC H
   ·refine nA h3 ?_
    refine tK ?_
    refine gA 6 16 0 ?_
    exact te (fJ [(false,[cB (decide (x0.Port < x1.Port))])] H)
   refine tA h3 ?_
   refine gA 6 16 0 ?_
   exact te (fJ [(false,[cB (decide (x0.Bridge < x1.Bridge))])] H)
  refine tA h2 ?_
  refine gA 6 16 0 ?_
  exact te (fJ [(false,[cB (decide (x0.Co < x1.Co))])] H)
 refine tA h1 ?_
 refine gA 6 16 0 ?_
 exact te (fJ [(false,[cB (decide (x0.Root < x1.Root))])] H)
def Yz (n : Nat) (x0 : Int) (y11 : Int) (y12 : Int) (y13 : Int) (y14 : Int) : Option (Vec × Int) :=
  (some ((⟨y12,y13,y14,x0,0⟩ : Vec),y11))
def ZN (n : Nat) (k : (Int × Int × Int × Int × Int × Int × Int × Int × Int × Int → Option ((Int × Int × Int × Int) ⊕ (Vec × Int)))) (r17 : Vec × Bool) (y1 : Int) (y10 : Int) (y2 : Int) (y3 : Int) (y4 : Int) (y5 : Int) (y6 : Int) (y7 : Int) (y8 : Int) (y9 : Int) (y18 : Bool) (y19 : Bool) (y20 : Bool) (y21 : Bool) (y22 : Bool) (y23 : Bool) (y24 : Bool) : Option ((Int × Int × Int × Int) ⊕ (Vec × Int)) :=
  (bif y18 then (k ((IntKind.wrap .i64 (y1 + 1)),y1,r17.1.Root,r17.1.Co,r17.1.Hops,r17.1.Bridge,r17.1.Port,r17.1.Root,r17.1.Co,r17.1.Hops)) else (k ((IntKind.wrap .i64 (y1 + 1)),y2,y3,y4,y5,y6,y7,y8,y9,y10)))
def qE (n : Nat) : Nat → Int → (List Pt) → Int → Int → Int → Int → Int → Int → Int → Int → Int → Int → Option ((Int × Int × Int × Int) ⊕ (Vec × Int))
  | 0,_,_,_,_,_,_,_,_,_,_,_,_ => none
  | mo15 + 1,x0,x1,y1,y2,y3,y4,y5,y6,y7,y8,y9,y10 => (bif (decide (y1 < (x1.length : Int))) then ((idx x1 y1).bind fun v16 => (bif (!v16.Up) then (qE n mo15 x0 x1 (IntKind.wrap .i64 (y1 + 1)) y2 y3 y4 y5 y6 y7 y8 y9 y10) else (bif (!v16.Has) then (qE n mo15 x0 x1 (IntKind.wrap .i64 (y1 + 1)) y2 y3 y4 y5 y6 y7 y8 y9 y10) else ((J8 n v16.Hd v16.Co).bind fun r17 => (bif r17.2 then (bif (decide (r17.1.Root < x0)) then (bif (decide (y2 < 0)) then (ZN n (fun v => qE n mo15 x0 x1 v.1 v.2.1 v.2.2.1 v.2.2.2.1 v.2.2.2.2.1 v.2.2.2.2.2.1 v.2.2.2.2.2.2.1 v.2.2.2.2.2.2.2.1 v.2.2.2.2.2.2.2.2.1 v.2.2.2.2.2.2.2.2.2) r17 y1 y10 y2 y3 y4 y5 y6 y7 y8 y9 true true true true true true true) else ((Yk n r17.1 (⟨y3,y4,y5,y6,y7⟩ : Vec)).bind fun r25 => (ZN n (fun v => qE n mo15 x0 x1 v.1 v.2.1 v.2.2.1 v.2.2.2.1 v.2.2.2.2.1 v.2.2.2.2.2.1 v.2.2.2.2.2.2.1 v.2.2.2.2.2.2.2.1 v.2.2.2.2.2.2.2.2.1 v.2.2.2.2.2.2.2.2.2) r17 y1 y10 y2 y3 y4 y5 y6 y7 y8 y9 r25 true true true true true true))) else (ZN n (fun v => qE n mo15 x0 x1 v.1 v.2.1 v.2.2.1 v.2.2.2.1 v.2.2.2.2.1 v.2.2.2.2.2.1 v.2.2.2.2.2.2.1 v.2.2.2.2.2.2.2.1 v.2.2.2.2.2.2.2.2.1 v.2.2.2.2.2.2.2.2.2) r17 y1 y10 y2 y3 y4 y5 y6 y7 y8 y9 false false false true true true true)) else (ZN n (fun v => qE n mo15 x0 x1 v.1 v.2.1 v.2.2.1 v.2.2.2.1 v.2.2.2.2.1 v.2.2.2.2.2.1 v.2.2.2.2.2.2.1 v.2.2.2.2.2.2.2.1 v.2.2.2.2.2.2.2.2.1 v.2.2.2.2.2.2.2.2.2) r17 y1 y10 y2 y3 y4 y5 y6 y7 y8 y9 false false false false false false false)))))) else (some (Sum.inl (y2,y8,y9,y10))))
def Qy (n : Nat) (x0 : Int) (x1 : (List Pt)) : Option (Vec × Int) :=
  ((qE n n x0 x1 0 (-1) 0 0 0 0 0 x0 0 0).bind fun o => match o with | .inl (y11,y12,y13,y14) => (Yz n x0 y11 y12 y13 y14) | .inr r => some r)
theorem zDQ (n : Nat) (x0 : Int) (x1 : (List Pt)) (r : Vec × Int) (H : Qy n x0 x1 = some r) : zK Tryz.prog 217 [.val false [.lit (.int .i64 x0)],.val false [.sl false 8 (CV.frzEs (x1.map Pt.row))]] [.val true (Vec.row r.1),.val false [.lit (.int .i64 r.2)]] [] := by
 refine cW Tryz.func217 (fun g d => sl [g 0,g 1,g 2,sl [g 3] (.block 0 (.loop (sl [g 4,cn 19 .skip (.exit 0),.block 1 (sl [g 5,sl [g 6] (cn 30 (.exit 1) .skip),g 7,g 8] (cn 54 (sl [g 9] (g 10)) .skip))] (g 11)))),g 12] .ret) [.cell 4 165,.tmp 5] fun cx => ?_
 unfold Qy at H
 refine gA 2 51 16 ?_
 refine gA 6 243 80 ?_
 refine gA 1 499 336 ?_
 refine tS ?_
 refine rA 1 ?_
 refine kF x1 Pt.row ?_
 refine uA 1 459249 336 ?_
 obtain ⟨o15,eo15,Ho15⟩ := bs H
 clear H
 refine Tr.mid (ι := Int × Int × Int × Int) (fun v => ⟨68,0,[sI 7 v.1,sA 6 6 5 0,sI 5 0,sA 4 4 5 0],[(6,[cI v.2.1,cI v.2.2.1,cI v.2.2.2,cI x0,cI 0]),(4,[cI 0,cI 0,cI 0,cI 0,cI 0])]⟩) (fun v => Yz n x0 v.1 v.2.1 v.2.2.1 v.2.2.2 = some r) ?_ ?_
 ·refine tB ?_
  refine Tr.loop (ι := Nat × (Int × Int × Int × Int × Int × Int × Int × Int × Int × Int)) (fun v => ⟨68,0,[sI 18 v.2.1,sI 17 (x1.length : Int),sC 16 (cF 8 x1 Pt.row),sA 8 8 5 0,sI 7 v.2.2.1,sA 6 6 5 0,sI 5 0,sA 4 4 5 0,sI 0 x0],[(8,[cI v.2.2.2.1,cI v.2.2.2.2.1,cI v.2.2.2.2.2.1,cI v.2.2.2.2.2.2.1,cI v.2.2.2.2.2.2.2.1]),(6,[cI v.2.2.2.2.2.2.2.2.1,cI v.2.2.2.2.2.2.2.2.2.1,cI v.2.2.2.2.2.2.2.2.2.2,cI x0,cI 0]),(4,[cI 0,cI 0,cI 0,cI 0,cI 0])]⟩) (fun v => qE n v.1 x0 x1 v.2.1 v.2.2.1 v.2.2.2.1 v.2.2.2.2.1 v.2.2.2.2.2.1 v.2.2.2.2.2.2.1 v.2.2.2.2.2.2.2.1 v.2.2.2.2.2.2.2.2.1 v.2.2.2.2.2.2.2.2.2.1 v.2.2.2.2.2.2.2.2.2.2 = some o15) (fun v => v.1) (n,(0,(-1),0,0,0,0,0,x0,0,0)) eo15 (St.sub_of [18,17,16,8,7,6,5,4,0] [8,6,4] kr) ?_
  rintro ⟨mo15,y1,y2,y3,y4,y5,y6,y7,y8,y9,y10⟩ H
  have H : qE n mo15 x0 x1 y1 y2 y3 y4 y5 y6 y7 y8 y9 y10 = some o15 := H
  obtain _ | mo15 := mo15
  ·exact nN H
  rw [qE] at H
  refine gA 1 983537 336 ?_
  refine tS ?_
  obtain ⟨h1,H⟩ | ⟨h1,H⟩ := bC H
  ·refine nA h1 ?_
   refine Tr.exit ?_
   refine aJ ?_
   obtain rfl := si H
   have H := Ho15
   dsimp only at H
   exact jA (y2,y8,y9,y10) H [7,6,5,4] [6,4]
  refine tA h1 ?_
  refine tK ?_
  refine tS ?_
  refine tB ?_
  refine rA 1 ?_
  obtain ⟨v16,ev16,H⟩ := bs H
  refine iA Pt.row ev16 ?_
  refine uA 4 8325105 1360 ?_
  refine tS ?_
  refine rA 4 ?_
  refine sL 134154225 1360 ⟨68,0,[sB 26 (!v16.Up),sB 25 (!v16.Up),sB 24 v16.Up,sA 23 10 8 0,sI 9 y1,sA 10 10 8 0,sV 22 (Pt.row v16),(21,.fad ((Pt.row v16))),sI 20 y1,sB 19 (decide (y1 < (x1.length : Int))),sI 18 y1,sI 17 (x1.length : Int),sC 16 (cF 8 x1 Pt.row),sA 8 8 5 0,sI 7 y2,sA 6 6 5 0,sI 5 0,sA 4 4 5 0,sI 0 x0],[(10,(Pt.row v16)),(8,[cI y3,cI y4,cI y5,cI y6,cI y7]),(6,[cI y8,cI y9,cI y10,cI x0,cI 0]),(4,[cI 0,cI 0,cI 0,cI 0,cI 0])]⟩ ?_
  cases h2 : (!v16.Up)
  ·have H := zH h2 H
   refine uA 4 2147420145 1360 ?_
   obtain ⟨h3,H⟩ | ⟨h3,H⟩ := bC H
   ·refine nA h3 ?_
    refine tK ?_
    refine rA 4 ?_
    obtain ⟨r17,er17,H⟩ := bs H
    refine vA [.rd,.rd] (zHA n v16.Hd v16.Co r17 er17) ?_
    refine LAt.movT tOk (ty := 255) (t := 36) (d := 31) (g := none) [(true,(Vec.row r17.1)),(false,[cB r17.2])] _ kr (.inl rfl) kr kr kr kr rfl ?_
    refine uA 5 481036279793 3408 ?_
    refine tS ?_
    refine Tr.mid (ι := Bool × Bool × Bool × Bool × Bool × Bool × Bool) (fun v => ⟨68,0,[sB 54 v.1,sB 46 v.2.1,sB 45 v.2.2.1,sB 40 v.2.2.2.1,sB 39 v.2.2.2.2.1,sB 12 v.2.2.2.2.2.1,sA 11 11 5 0,sB 38 v.2.2.2.2.2.2,(31,.tup [(true,[.dead,.dead,.dead,.dead,.dead]),(false,[.dead])]),sV 37 (Vec.row r17.1),sI 35 v16.Co,sA 34 10 8 1,sV 33 ((Pt.row v16).drop 3),sA 32 10 8 3,sB 30 false,sB 29 false,sB 28 v16.Has,sA 27 10 8 2,sB 26 false,sB 25 false,sB 24 v16.Up,sA 23 10 8 0,sI 9 y1,sA 10 10 8 0,sV 22 (Pt.row v16),(21,.fad ((Pt.row v16))),sI 20 y1,sB 19 true,sI 18 y1,sI 17 (x1.length : Int),sC 16 (cF 8 x1 Pt.row),sA 8 8 5 0,sI 7 y2,sA 6 6 5 0,sI 5 0,sA 4 4 5 0,sI 0 x0],[(11,(Vec.row r17.1)),(10,(Pt.row v16)),(8,[cI y3,cI y4,cI y5,cI y6,cI y7]),(6,[cI y8,cI y9,cI y10,cI x0,cI 0]),(4,[cI 0,cI 0,cI 0,cI 0,cI 0])]⟩) (fun v => ZN n (fun v => qE n mo15 x0 x1 v.1 v.2.1 v.2.2.1 v.2.2.2.1 v.2.2.2.2.1 v.2.2.2.2.2.1 v.2.2.2.2.2.2.1 v.2.2.2.2.2.2.2.1 v.2.2.2.2.2.2.2.2.1 v.2.2.2.2.2.2.2.2.2) r17 y1 y10 y2 y3 y4 y5 y6 y7 y8 y9 v.1 v.2.1 v.2.2.1 v.2.2.2.1 v.2.2.2.2.1 v.2.2.2.2.2.1 v.2.2.2.2.2.2 = some o15) ?_ ?_
    ·refine Tr.at ?_
     refine lA 2 ?_
     refine sL 2130303721457 3408 ⟨68,0,[sB 40 r17.2,sB 39 r17.2,sB 12 r17.2,sA 11 11 5 0,sB 38 r17.2,(31,.tup [(true,[.dead,.dead,.dead,.dead,.dead]),(false,[.dead])]),sV 37 (Vec.row r17.1),sI 35 v16.Co,sA 34 10 8 1,sV 33 ((Pt.row v16).drop 3),sA 32 10 8 3,sB 30 (!v16.Has),sB 29 (!v16.Has),sB 28 v16.Has,sA 27 10 8 2,sB 26 false,sB 25 false,sB 24 v16.Up,sA 23 10 8 0,sI 9 y1,sA 10 10 8 0,sV 22 (Pt.row v16),(21,.fad ((Pt.row v16))),sI 20 y1,sB 19 (decide (y1 < (x1.length : Int))),sI 18 y1,sI 17 (x1.length : Int),sC 16 (cF 8 x1 Pt.row),sA 8 8 5 0,sI 7 y2,sA 6 6 5 0,sI 5 0,sA 4 4 5 0,sI 0 x0],[(11,(Vec.row r17.1)),(10,(Pt.row v16)),(8,[cI y3,cI y4,cI y5,cI y6,cI y7]),(6,[cI y8,cI y9,cI y10,cI x0,cI 0]),(4,[cI 0,cI 0,cI 0,cI 0,cI 0])]⟩ ?_
     cases h5 : r17.2
     ·have H := zH h5 H
      refine uA 14 0x7fffefffff1ff1 3408 ?_
      refine sB' 0x7fffefffff1ff1 3408 ⟨68,0,[sB 54 false,(53,.tup []),(52,.tup []),(51,.tup []),(50,.tup []),(49,.tup []),(48,.tup []),(47,.tup []),sB 46 false,sB 45 false,(44,.tup []),(43,.tup []),(42,.tup []),(41,.tup []),sB 40 false,sB 39 false,sB 12 false,sA 11 11 5 0,sB 38 false,(31,.tup [(true,[.dead,.dead,.dead,.dead,.dead]),(false,[.dead])]),sV 37 (Vec.row r17.1),sI 35 v16.Co,sA 34 10 8 1,sV 33 ((Pt.row v16).drop 3),sA 32 10 8 3,sB 30 (!v16.Has),sB 29 (!v16.Has),sB 28 v16.Has,sA 27 10 8 2,sB 26 false,sB 25 false,sB 24 v16.Up,sA 23 10 8 0,sI 9 y1,sA 10 10 8 0,sV 22 (Pt.row v16),(21,.fad ((Pt.row v16))),sI 20 y1,sB 19 (decide (y1 < (x1.length : Int))),sI 18 y1,sI 17 (x1.length : Int),sC 16 (cF 8 x1 Pt.row),sA 8 8 5 0,sI 7 y2,sA 6 6 5 0,sI 5 0,sA 4 4 5 0,sI 0 x0],[(11,(Vec.row r17.1)),(10,(Pt.row v16)),(8,[cI y3,cI y4,cI y5,cI y6,cI y7]),(6,[cI y8,cI y9,cI y10,cI x0,cI 0]),(4,[cI 0,cI 0,cI 0,cI 0,cI 0])]⟩ ?_
      rw [h1]
      rw [h3]
      exact jA (false,false,false,false,false,false,false) H [54,46,45,40,39,12,11,38,31,37,35,34,33,32,30,29,28,27,26,25,24,23,9,10,22,21,20,19,18,17,16,8,7,6,5,4,0] [11,10,8,6,4]
     have H := zI h5 H
     refine lA 6 ?_
     refine sL 0x7fefffff1ff1 3408 ⟨68,0,[sB 46 (decide (r17.1.Root < x0)),sB 45 (decide (r17.1.Root < x0)),sB 44 (decide (r17.1.Root < x0)),sI 43 x0,sI 42 r17.1.Root,sA 41 11 5 0,sB 40 true,sB 39 true,sB 12 true,sA 11 11 5 0,sB 38 true,(31,.tup [(true,[.dead,.dead,.dead,.dead,.dead]),(false,[.dead])]),sV 37 (Vec.row r17.1),sI 35 v16.Co,sA 34 10 8 1,sV 33 ((Pt.row v16).drop 3),sA 32 10 8 3,sB 30 (!v16.Has),sB 29 (!v16.Has),sB 28 v16.Has,sA 27 10 8 2,sB 26 false,sB 25 false,sB 24 v16.Up,sA 23 10 8 0,sI 9 y1,sA 10 10 8 0,sV 22 (Pt.row v16),(21,.fad ((Pt.row v16))),sI 20 y1,sB 19 (decide (y1 < (x1.length : Int))),sI 18 y1,sI 17 (x1.length : Int),sC 16 (cF 8 x1 Pt.row),sA 8 8 5 0,sI 7 y2,sA 6 6 5 0,sI 5 0,sA 4 4 5 0,sI 0 x0],[(11,(Vec.row r17.1)),(10,(Pt.row v16)),(8,[cI y3,cI y4,cI y5,cI y6,cI y7]),(6,[cI y8,cI y9,cI y10,cI x0,cI 0]),(4,[cI 0,cI 0,cI 0,cI 0,cI 0])]⟩ ?_
     cases h6 : (decide (r17.1.Root < x0))
     ·have H := zH h6 H
      refine uA 8 0x7fffefffff1ff1 3408 ?_
      refine sB' 0x7fffefffff1ff1 3408 ⟨68,0,[sB 54 false,(53,.tup []),(52,.tup []),(51,.tup []),(50,.tup []),(49,.tup []),(48,.tup []),(47,.tup []),sB 46 false,sB 45 false,sB 44 false,sI 43 x0,sI 42 r17.1.Root,sA 41 11 5 0,sB 40 true,sB 39 true,sB 12 true,sA 11 11 5 0,sB 38 true,(31,.tup [(true,[.dead,.dead,.dead,.dead,.dead]),(false,[.dead])]),sV 37 (Vec.row r17.1),sI 35 v16.Co,sA 34 10 8 1,sV 33 ((Pt.row v16).drop 3),sA 32 10 8 3,sB 30 (!v16.Has),sB 29 (!v16.Has),sB 28 v16.Has,sA 27 10 8 2,sB 26 false,sB 25 false,sB 24 v16.Up,sA 23 10 8 0,sI 9 y1,sA 10 10 8 0,sV 22 (Pt.row v16),(21,.fad ((Pt.row v16))),sI 20 y1,sB 19 (decide (y1 < (x1.length : Int))),sI 18 y1,sI 17 (x1.length : Int),sC 16 (cF 8 x1 Pt.row),sA 8 8 5 0,sI 7 y2,sA 6 6 5 0,sI 5 0,sA 4 4 5 0,sI 0 x0],[(11,(Vec.row r17.1)),(10,(Pt.row v16)),(8,[cI y3,cI y4,cI y5,cI y6,cI y7]),(6,[cI y8,cI y9,cI y10,cI x0,cI 0]),(4,[cI 0,cI 0,cI 0,cI 0,cI 0])]⟩ ?_
      rw [h1]
      rw [h3]
      exact jA (false,false,false,true,true,true,true) H [54,46,45,40,39,12,11,38,31,37,35,34,33,32,30,29,28,27,26,25,24,23,9,10,22,21,20,19,18,17,16,8,7,6,5,4,0] [11,10,8,6,4]
     have H := zI h6 H
     refine lA 3 ?_
     refine sL 0x3ffefffff1ff1 3408 ⟨68,0,[sB 49 (decide (y2 < 0)),sB 48 (decide (y2 < 0)),sI 47 y2,sB 46 true,sB 45 true,sB 44 true,sI 43 x0,sI 42 r17.1.Root,sA 41 11 5 0,sB 40 true,sB 39 true,sB 12 true,sA 11 11 5 0,sB 38 true,(31,.tup [(true,[.dead,.dead,.dead,.dead,.dead]),(false,[.dead])]),sV 37 (Vec.row r17.1),sI 35 v16.Co,sA 34 10 8 1,sV 33 ((Pt.row v16).drop 3),sA 32 10 8 3,sB 30 (!v16.Has),sB 29 (!v16.Has),sB 28 v16.Has,sA 27 10 8 2,sB 26 false,sB 25 false,sB 24 v16.Up,sA 23 10 8 0,sI 9 y1,sA 10 10 8 0,sV 22 (Pt.row v16),(21,.fad ((Pt.row v16))),sI 20 y1,sB 19 (decide (y1 < (x1.length : Int))),sI 18 y1,sI 17 (x1.length : Int),sC 16 (cF 8 x1 Pt.row),sA 8 8 5 0,sI 7 y2,sA 6 6 5 0,sI 5 0,sA 4 4 5 0,sI 0 x0],[(11,(Vec.row r17.1)),(10,(Pt.row v16)),(8,[cI y3,cI y4,cI y5,cI y6,cI y7]),(6,[cI y8,cI y9,cI y10,cI x0,cI 0]),(4,[cI 0,cI 0,cI 0,cI 0,cI 0])]⟩ ?_
     cases h7 : (decide (y2 < 0))
     ·have H := zH h7 H
      refine lA 2 ?_
      obtain ⟨r25,er25,H⟩ := bs H
      refine vA [.rd,.rd] (zDT n r17.1 (⟨y3,y4,y5,y6,y7⟩ : Vec) r25 er25) ?_
      refine uA 2 0x7fffefffff1ff1 3408 ?_
      refine sB' 0x7fffefffff1ff1 3408 ⟨68,0,[sB 54 r25,sB 53 r25,sB 52 r25,sV 51 [cI y3,cI y4,cI y5,cI y6,cI y7],sV 50 (Vec.row r17.1),sB 49 false,sB 48 false,sI 47 y2,sB 46 true,sB 45 true,sB 44 true,sI 43 x0,sI 42 r17.1.Root,sA 41 11 5 0,sB 40 true,sB 39 true,sB 12 true,sA 11 11 5 0,sB 38 true,(31,.tup [(true,[.dead,.dead,.dead,.dead,.dead]),(false,[.dead])]),sV 37 (Vec.row r17.1),sI 35 v16.Co,sA 34 10 8 1,sV 33 ((Pt.row v16).drop 3),sA 32 10 8 3,sB 30 (!v16.Has),sB 29 (!v16.Has),sB 28 v16.Has,sA 27 10 8 2,sB 26 false,sB 25 false,sB 24 v16.Up,sA 23 10 8 0,sI 9 y1,sA 10 10 8 0,sV 22 (Pt.row v16),(21,.fad ((Pt.row v16))),sI 20 y1,sB 19 (decide (y1 < (x1.length : Int))),sI 18 y1,sI 17 (x1.length : Int),sC 16 (cF 8 x1 Pt.row),sA 8 8 5 0,sI 7 y2,sA 6 6 5 0,sI 5 0,sA 4 4 5 0,sI 0 x0],[(11,(Vec.row r17.1)),(10,(Pt.row v16)),(8,[cI y3,cI y4,cI y5,cI y6,cI y7]),(6,[cI y8,cI y9,cI y10,cI x0,cI 0]),(4,[cI 0,cI 0,cI 0,cI 0,cI 0])]⟩ ?_
      rw [h1]
      rw [h3]
      exact jA (r25,true,true,true,true,true,true) H [54,46,45,40,39,12,11,38,31,37,35,34,33,32,30,29,28,27,26,25,24,23,9,10,22,21,20,19,18,17,16,8,7,6,5,4,0] [11,10,8,6,4]
     have H := zI h7 H
     refine uA 5 0x7fffefffff1ff1 3408 ?_
     refine sB' 0x7fffefffff1ff1 3408 ⟨68,0,[sB 54 true,sB 53 true,(52,.tup []),(51,.tup []),(50,.tup []),sB 49 true,sB 48 true,sI 47 y2,sB 46 true,sB 45 true,sB 44 true,sI 43 x0,sI 42 r17.1.Root,sA 41 11 5 0,sB 40 true,sB 39 true,sB 12 true,sA 11 11 5 0,sB 38 true,(31,.tup [(true,[.dead,.dead,.dead,.dead,.dead]),(false,[.dead])]),sV 37 (Vec.row r17.1),sI 35 v16.Co,sA 34 10 8 1,sV 33 ((Pt.row v16).drop 3),sA 32 10 8 3,sB 30 (!v16.Has),sB 29 (!v16.Has),sB 28 v16.Has,sA 27 10 8 2,sB 26 false,sB 25 false,sB 24 v16.Up,sA 23 10 8 0,sI 9 y1,sA 10 10 8 0,sV 22 (Pt.row v16),(21,.fad ((Pt.row v16))),sI 20 y1,sB 19 (decide (y1 < (x1.length : Int))),sI 18 y1,sI 17 (x1.length : Int),sC 16 (cF 8 x1 Pt.row),sA 8 8 5 0,sI 7 y2,sA 6 6 5 0,sI 5 0,sA 4 4 5 0,sI 0 x0],[(11,(Vec.row r17.1)),(10,(Pt.row v16)),(8,[cI y3,cI y4,cI y5,cI y6,cI y7]),(6,[cI y8,cI y9,cI y10,cI x0,cI 0]),(4,[cI 0,cI 0,cI 0,cI 0,cI 0])]⟩ ?_
     rw [h1]
     rw [h3]
     exact jA (true,true,true,true,true,true,true) H [54,46,45,40,39,12,11,38,31,37,35,34,33,32,30,29,28,27,26,25,24,23,9,10,22,21,20,19,18,17,16,8,7,6,5,4,0] [11,10,8,6,4]
    rintro ⟨y18,y19,y20,y21,y22,y23,y24⟩ H
    have H : (ZN n (fun v => qE n mo15 x0 x1 v.1 v.2.1 v.2.2.1 v.2.2.2.1 v.2.2.2.2.1 v.2.2.2.2.2.1 v.2.2.2.2.2.2.1 v.2.2.2.2.2.2.2.1 v.2.2.2.2.2.2.2.2.1 v.2.2.2.2.2.2.2.2.2) r17 y1 y10 y2 y3 y4 y5 y6 y7 y8 y9 y18 y19 y20 y21 y22 y23 y24) = some o15 := H
    unfold ZN at H
    cases h4 : y18
    ·have H := zH h4 H
     refine nB_ ?_
     refine tK ?_
     refine eA 2 0x2004061efffff1ff1 3408 ?_
     exact jB mo15 ((IntKind.wrap .i64 (y1 + 1)),y2,y3,y4,y5,y6,y7,y8,y9,y10) H [18,17,16,8,7,6,5,4,0] [8,6,4]
    have H := zI h4 H
    refine tB_ ?_
    refine gA 4 0x1c061efffff1ff1 3408 ?_
    refine eA 9 0x1ffc061efffff1ff1 3408 ?_
    refine eA 2 0x3ffc061efffff1ff1 3408 ?_
    exact jB mo15 ((IntKind.wrap .i64 (y1 + 1)),y1,r17.1.Root,r17.1.Co,r17.1.Hops,r17.1.Bridge,r17.1.Port,r17.1.Root,r17.1.Co,r17.1.Hops) H [18,17,16,8,7,6,5,4,0] [8,6,4]
   refine tA h3 ?_
   refine Tr.exit ?_
   refine aJ ?_
   refine eA 2 0x2000000007fff07f1 1360 ?_
   exact jB mo15 ((IntKind.wrap .i64 (y1 + 1)),y2,y3,y4,y5,y6,y7,y8,y9,y10) H [18,17,16,8,7,6,5,4,0] [8,6,4]
  have H := zI h2 H
  refine uA 4 2147420145 1360 ?_
  refine tB_ ?_
  refine Tr.exit ?_
  refine aJ ?_
  refine eA 2 0x2000000007fff07f1 1360 ?_
  exact jB mo15 ((IntKind.wrap .i64 (y1 + 1)),y2,y3,y4,y5,y6,y7,y8,y9,y10) H [18,17,16,8,7,6,5,4,0] [8,6,4]
 rintro ⟨y11,y12,y13,y14⟩ H
 have H : (Yz n x0 y11 y12 y13 y14) = some r := H
 unfold Yz at H
 refine gA 4 48 16 ?_
 exact te (fJ [(true,[cI y12,cI y13,cI y14,cI x0,cI 0]),(false,[cI y11])] H)
def JF (n : Nat) (x0 : Int) (x1 : (List Pt)) (x2 : Int) : Option (Vec) :=
  ((Qy n x0 x1).bind fun r1 => (some (⟨r1.1.Root,r1.1.Co,r1.1.Hops,r1.1.Bridge,x2⟩ : Vec)))
theorem zHg (n : Nat) (x0 : Int) (x1 : (List Pt)) (x2 : Int) (r : Vec) (H : JF n x0 x1 x2 = some r) : zK Tryz.prog 219 [.val false [.lit (.int .i64 x0)],.val false [.sl false 8 (CV.frzEs (x1.map Pt.row))],.val false [.lit (.int .i64 x2)]] [.val true (Vec.row r)] [] := by
 refine cW Tryz.func219 (fun g d => sl [g 0,g 1,g 2,g 3] .ret) [.cell 6 165] fun cx => ?_
 unfold JF at H
 refine gA 1 71 64 ?_
 refine rA 2 ?_
 obtain ⟨r1,er1,H⟩ := bs H
 refine vA [.rd,.rd] (zDQ n x0 x1 r1 er1) ?_
 refine LAt.movT tOk (ty := 233) (t := 12) (d := 9) (g := none) [(true,(Vec.row r1.1)),(false,[cI r1.2])] _ kr (.inl rfl) kr kr kr kr rfl ?_
 refine uA 5 196 192 ?_
 refine gA 3 192 192 ?_
 refine gA 2 64 64 ?_
 exact te (fJ [(true,[cI r1.1.Root,cI r1.1.Co,cI r1.1.Hops,cI r1.1.Bridge,cI x2])] H)
def JE (n : Nat) (x0 : Int) (x1 : (List Pt)) (x2 : Int) : Option (Int) :=
  ((z8 n x2 0 (IntKind.wrap .i64 ((x1.length : Int) - 1))).bind fun r1 => (bif (!r1) then (some 4) else ((idx x1 x2).bind fun v2 => (bif (!v2.Up) then (some 4) else ((Qy n x0 x1).bind fun r3 => (bif (r3.2 == x2) then (some 1) else ((idx x1 x2).bind fun v4 => (bif (!v4.Has) then (some 2) else ((JF n x0 x1 x2).bind fun r5 => ((idx x1 x2).bind fun v6 => ((Yk n r5 v6.Hd).bind fun r7 => (bif r7 then (some 2) else (some 3)))))))))))))
def zKK : Tab := ⟨19,[0,0,3,4,8,16,32,64,64,64,960,64,64,6208,8256,16448,33856,65600,196608],[0,0,3,4,8,16,32,64,64,64,960,64,64,6208,8256,16448,33856,65600,131072],[0,0,3,7,15,31,63,127,127,127,1023,127,127,6271,14463,30847,65535,131071,262143]⟩
theorem Qp : z7 (rg Tryz.f143 6) zKK = true := kr
theorem zHf (n : Nat) (x0 : Int) (x1 : (List Pt)) (x2 : Int) (r : Int) (H : JE n x0 x1 x2 = some r) : zK Tryz.prog 143 [.val false [.lit (.int .i64 x0)],.val false [.sl false 8 (CV.frzEs (x1.map Pt.row))],.val false [.lit (.int .i64 x2)]] [.val false [.lit (.int .i64 r)]] [] := by
 refine cW Tryz.func143 (fun g d => sl [g 0,sl [g 1] (cn 22 (sl [g 2] .ret) .skip),g 3,.block 0 (sl [g 4] (cn 29 (sl [g 5] .ret) (sl [d 6] (cn 33 (sl [g 7] .ret) .skip)))),g 8] .ret) [.tmp 6] fun cx => ?_
 unfold JE at H
 refine gA 1 7 0 ?_
 refine tS ?_
 refine rA 2 ?_
 refine kF x1 Pt.row ?_
 refine lA 1 ?_
 obtain ⟨r1,er1,H⟩ := bs H
 refine vA [.rd,.rd,.rd] (qC n x2 0 (IntKind.wrap .i64 ((x1.length : Int) - 1)) r1 er1) ?_
 refine lA 2 ?_
 refine sL 32775 0 ⟨52,0,[sB 15 (!r1),sI 0 x0,sC 1 (cF 8 x1 Pt.row),sI 2 x2],[]⟩ ?_
 cases h1 : (!r1)
 ·have H := zH h1 H
  refine lA 2 ?_
  obtain ⟨v2,ev2,H⟩ := bs H
  refine iA Pt.row ev2 ?_
  refine uA 4 4194311 0 ?_
  obtain ⟨h2,H⟩ | ⟨h2,H⟩ := bC H
  ·refine nA h2 ?_
   refine tK ?_
   refine rA 2 ?_
   obtain ⟨r3,er3,H⟩ := bs H
   refine vA [.rd,.rd] (zDQ n x0 x1 r3 er3) ?_
   refine LAt.movT tOk (ty := 233) (t := 26) (d := 23) (g := none) [(true,(Vec.row r3.1)),(false,[cI r3.2])] _ kr (.inl rfl) kr kr kr kr rfl ?_
   refine uA 5 263 0 ?_
   refine tS ?_
   refine tB ?_
   refine gA 4 536870919 0 ?_
   obtain ⟨h3,H⟩ | ⟨h3,H⟩ := bC H
   ·refine nA h3 ?_
    obtain ⟨v4,ev4,H⟩ := bs H
    refine sT ⟨52,0,[sB 29 (r3.2 == x2),sI 0 x0,sC 1 (cF 8 x1 Pt.row),sI 2 x2],[]⟩ ?_
    cases h4 : (!v4.Has)
    ·have H := zH h4 H
     obtain ⟨r5,er5,H⟩ := bs H
     obtain ⟨v6,ev6,H⟩ := bs H
     obtain ⟨r7,er7,H⟩ := bs H
     refine Tr.draws mixed 19 kr ⟨52,0,[sB 33 r7],[]⟩ (fun cx => ?_) ?_
     ·refine mA Qp [(0,[]),(1,[])] 17 [] fun cx => ?_
      refine iN Qp 2 Pt.row ev4 fun cx => ?_
      refine mA Qp [(3,[]),(4,[]),(5,[]),(6,[])] 12 [] fun cx => ?_
      refine sA_ 1099511627783 0 ⟨52,0,[sB 40 (!v4.Has),sI 0 x0,sC 1 (cF 8 x1 Pt.row),sI 2 x2],[]⟩ ?_
      rw [h4]
      refine mA Qp [(7,[]),(8,[]),(9,[]),(11,[]),(12,[])] 7 [] fun cx => ?_
      refine iN Qp 13 Pt.row ev6 fun cx => ?_
      refine mA Qp [(14,[]),(15,[])] 4 [] fun cx => ?_
      refine mC Qp 10 ?_
      refine vA [.rd,.rd,.rd] (zHg n x0 x1 x2 r5 er5) ?_
      refine fA ?_
      refine mC Qp 16 ?_
      refine vA [.rd,.rd] (zDT n r5 v6.Hd r7 er7) ?_
      refine fA ?_
      refine mA Qp [(17,[]),(18,[])] 0 [] fun cx => ?_
      exact mE Qp [33] []
     cases h5 : r7
     ·have H := zH h5 H
      refine nB_ ?_
      refine tK ?_
      refine gA 1 64 0 ?_
      exact te (fJ [(false,[cI 3])] H)
     have H := zI h5 H
     refine tB_ ?_
     refine gA 1 64 0 ?_
     exact te (fJ [(false,[cI 2])] H)
    have H := zI h4 H
    refine Tr.draws mixed 19 kr ⟨52,0,[sB 33 true],[]⟩ (fun cx => ?_) ?_
    ·refine mA Qp [(0,[]),(1,[])] 17 [] fun cx => ?_
     refine iN Qp 2 Pt.row ev4 fun cx => ?_
     refine mA Qp [(3,[]),(4,[]),(5,[]),(6,[])] 12 [] fun cx => ?_
     refine sA_ 1099511627783 0 ⟨52,0,[sB 40 (!v4.Has),sI 0 x0,sC 1 (cF 8 x1 Pt.row),sI 2 x2],[]⟩ ?_
     rw [h4]
     refine mA Qp [(7,[]),(8,[]),(9,[]),(10,[]),(11,[]),(12,[]),(13,[]),(14,[]),(15,[]),(16,[]),(17,[]),(18,[])] 0 [] fun cx => ?_
     exact mE Qp [33] []
    refine tB_ ?_
    refine gA 1 64 0 ?_
    exact te (fJ [(false,[cI 2])] H)
   refine tA h3 ?_
   refine gA 1 64 0 ?_
   exact te (fJ [(false,[cI 1])] H)
  refine tA h2 ?_
  refine gA 1 64 0 ?_
  exact te (fJ [(false,[cI 4])] H)
 have H := zI h1 H
 refine uA 7 4194311 0 ?_
 refine tB_ ?_
 refine gA 1 64 0 ?_
 exact te (fJ [(false,[cI 4])] H)
def J7 (n : Nat) (y3 : Int) : Option (Int) :=
  (some y3)
def ZB (n : Nat) : Nat → Int → (List Pt) → Int → Int → Option ((Int) ⊕ (Int))
  | 0,_,_,_,_ => none
  | mo4 + 1,x0,x1,y1,y2 => (bif (decide (y1 < (x1.length : Int))) then (bif (decide (y1 < 6)) then ((JE n x0 x1 y1).bind fun r5 => (bif (r5 == 1) then (bif (decide ((0 : Int) ≤ y1)) then (ZB n mo4 x0 x1 (IntKind.wrap .i64 (y1 + 1)) (IntKind.wrap .i64 (BitVec.ofInt (IntKind.bits .i64) y2 ||| BitVec.ofInt (IntKind.bits .i64) (IntKind.wrap .i64 (1 * 2 ^ min ((y1 : Int)).toNat (IntKind.bits .i64)))).toNat)) else none) else (bif (r5 == 2) then (bif (decide ((0 : Int) ≤ y1)) then (ZB n mo4 x0 x1 (IntKind.wrap .i64 (y1 + 1)) (IntKind.wrap .i64 (BitVec.ofInt (IntKind.bits .i64) y2 ||| BitVec.ofInt (IntKind.bits .i64) (IntKind.wrap .i64 (1 * 2 ^ min ((y1 : Int)).toNat (IntKind.bits .i64)))).toNat)) else none) else (ZB n mo4 x0 x1 (IntKind.wrap .i64 (y1 + 1)) y2)))) else (some (Sum.inl y2))) else (some (Sum.inl y2)))
def Qh (n : Nat) (x0 : Int) (x1 : (List Pt)) : Option (Int) :=
  ((ZB n n x0 x1 0 0).bind fun o => match o with | .inl y3 => (J7 n y3) | .inr r => some r)
theorem zFD (n : Nat) (x0 : Int) (x1 : (List Pt)) (r : Int) (H : Qh n x0 x1 = some r) : zK Tryz.prog 43 [.val false [.lit (.int .i64 x0)],.val false [.sl false 8 (CV.frzEs (x1.map Pt.row))]] [.val false [.lit (.int .i64 r)]] [] := by
 refine cW Tryz.func43 (fun g d => sl [g 0,g 1,sl [g 2] (.block 0 (.loop (sl [sl [g 3] (cn 15 .skip (.exit 0)),.block 1 (sl [g 5,g 6] (cn 27 (g 7) .skip))] (g 4)))),g 8] .ret) [.tmp 4] fun cx => ?_
 unfold Qh at H
 refine gA 1 3 0 ?_
 refine gA 1 35 0 ?_
 refine tS ?_
 refine gA 1 99 0 ?_
 obtain ⟨o4,eo4,Ho4⟩ := bs H
 clear H
 refine Tr.mid (ι := Int) (fun v => ⟨33,0,[sI 5 v],[]⟩) (fun v => J7 n v = some r) ?_ ?_
 ·refine tB ?_
  refine Tr.loop (ι := Nat × (Int × Int)) (fun v => ⟨33,0,[sI 6 v.2.1,sI 5 v.2.2,sI 0 x0,sC 1 (cF 8 x1 Pt.row)],[]⟩) (fun v => ZB n v.1 x0 x1 v.2.1 v.2.2 = some o4) (fun v => v.1) (n,(0,0)) eo4 (St.sub_of [6,5,0,1] [] kr) ?_
  rintro ⟨mo4,y1,y2⟩ H
  have H : ZB n mo4 x0 x1 y1 y2 = some o4 := H
  obtain _ | mo4 := mo4
  ·exact nN H
  rw [ZB] at H
  refine tS ?_
  refine rA 2 ?_
  refine kF x1 Pt.row ?_
  refine lA 2 ?_
  refine sL 4195 0 ⟨33,0,[sB 12 (decide (y1 < (x1.length : Int))),sI 6 y1,sI 5 y2,sI 0 x0,sC 1 (cF 8 x1 Pt.row)],[]⟩ ?_
  cases h1 : (decide (y1 < (x1.length : Int)))
  ·have H := zH h1 H
   refine uA 3 32867 0 ?_
   refine nB_ ?_
   refine Tr.exit ?_
   refine aJ ?_
   obtain rfl := si H
   have H := Ho4
   dsimp only at H
   exact jA y2 H [5] []
  have H := zI h1 H
  refine uA 3 32867 0 ?_
  obtain ⟨h2,H⟩ | ⟨h2,H⟩ := bC H
  ·refine nA h2 ?_
   refine Tr.exit ?_
   refine aJ ?_
   obtain rfl := si H
   have H := Ho4
   dsimp only at H
   exact jA y2 H [5] []
  refine tA h2 ?_
  refine tK ?_
  refine tS ?_
  refine tB ?_
  refine rA 3 ?_
  obtain ⟨r5,er5,H⟩ := bs H
  refine vA [.rd,.rd,.rd] (zHf n x0 x1 y1 r5 er5) ?_
  refine uA 1 227 0 ?_
  refine rA 3 ?_
  refine sL 16777443 0 ⟨33,0,[sB 24 (r5 == 1),sI 7 r5,sI 6 y1,sI 5 y2,sI 0 x0,sC 1 (cF 8 x1 Pt.row)],[]⟩ ?_
  cases h3 : (r5 == 1)
  ·have H := zH h3 H
   refine uA 3 134217827 0 ?_
   obtain ⟨h4,H⟩ | ⟨h4,H⟩ := bC H
   ·refine nA h4 ?_
    refine tK ?_
    refine eA 3 99 0 ?_
    exact jB mo4 ((IntKind.wrap .i64 (y1 + 1)),y2) H [6,5,0,1] []
   refine tA h4 ?_
   refine Tr.at ?_
   refine lA 2 ?_
   obtain ⟨hg6,H⟩ := gs H
   refine LAt.binC tOk (op := .shl) (t := 3) (ty := 3) (ty' := 3) (x := (.const (.int .i64 1))) (y := (.tmp 29)) (d := 30) (g := none) (.int .i64 1) (.int .i64 y1) (.int .i64 (IntKind.wrap .i64 (1 * 2 ^ min ((y1 : Int)).toNat (IntKind.bits .i64)))) _ kr kr kr kr kr (φ := (0 : Int) ≤ y1) kr (of_decide_eq_true hg6) rfl ?_
   refine uA 2 99 0 ?_
   refine eA 3 99 0 ?_
   exact jB mo4 ((IntKind.wrap .i64 (y1 + 1)),(IntKind.wrap .i64 (BitVec.ofInt (IntKind.bits .i64) y2 ||| BitVec.ofInt (IntKind.bits .i64) (IntKind.wrap .i64 (1 * 2 ^ min ((y1 : Int)).toNat (IntKind.bits .i64)))).toNat)) H [6,5,0,1] []
  have H := zI h3 H
  refine uA 3 134217827 0 ?_
  refine tB_ ?_
  refine Tr.at ?_
  refine lA 2 ?_
  obtain ⟨hg7,H⟩ := gs H
  refine LAt.binC tOk (op := .shl) (t := 3) (ty := 3) (ty' := 3) (x := (.const (.int .i64 1))) (y := (.tmp 29)) (d := 30) (g := none) (.int .i64 1) (.int .i64 y1) (.int .i64 (IntKind.wrap .i64 (1 * 2 ^ min ((y1 : Int)).toNat (IntKind.bits .i64)))) _ kr kr kr kr kr (φ := (0 : Int) ≤ y1) kr (of_decide_eq_true hg7) rfl ?_
  refine uA 2 99 0 ?_
  refine eA 3 99 0 ?_
  exact jB mo4 ((IntKind.wrap .i64 (y1 + 1)),(IntKind.wrap .i64 (BitVec.ofInt (IntKind.bits .i64) y2 ||| BitVec.ofInt (IntKind.bits .i64) (IntKind.wrap .i64 (1 * 2 ^ min ((y1 : Int)).toNat (IntKind.bits .i64)))).toNat)) H [6,5,0,1] []
 rintro y3 H
 have H : (J7 n y3) = some r := H
 unfold J7 at H
 refine gA 2 16 0 ?_
 exact te (fJ [(false,[cI y3])] H)
def ql (n : Nat) (x0 : Int) (x1 : Int) : Option (Bool) :=
  ((z8 n x1 0 62).bind fun r1 => (bif r1 then (bif (decide ((0 : Int) ≤ x1)) then (some ((IntKind.wrap .i64 (BitVec.ofInt (IntKind.bits .i64) (Int.fdiv x0 (2 ^ min ((x1 : Int)).toNat (IntKind.bits .i64))) &&& BitVec.ofInt (IntKind.bits .i64) 1).toNat) == 1)) else none) else (some false)))
theorem zAS (n : Nat) (x0 : Int) (x1 : Int) (r : Bool) (H : ql n x0 x1 = some r) : zK Tryz.prog 86 [.val false [.lit (.int .i64 x0)],.val false [.lit (.int .i64 x1)]] [.val false [.lit (.bool r)]] [] := by
 refine cW Tryz.func86 (fun g d => sl [g 0,g 1] .ret) [.tmp 4] fun cx => ?_
 unfold ql at H
 refine gA 1 3 0 ?_
 refine rA 1 ?_
 obtain ⟨r1,er1,H⟩ := bs H
 refine vA [.rd,.rd,.rd] (qC n x1 0 62 r1 er1) ?_
 refine lA 1 ?_
 refine sL 131 0 ⟨14,0,[sB 7 r1,sI 0 x0,sI 1 x1],[]⟩ ?_
 cases h1 : r1
 ·have H := zH h1 H
  refine uA 7 16 0 ?_
  exact te (fF H)
 have H := zI h1 H
 refine lA 2 ?_
 obtain ⟨hg2,H⟩ := gs H
 refine LAt.binC tOk (op := .shr) (t := 3) (ty := 3) (ty' := 3) (x := (.tmp 8)) (y := (.tmp 9)) (d := 10) (g := (some (2,true))) (.int .i64 x0) (.int .i64 x1) (.int .i64 (Int.fdiv x0 (2 ^ min ((x1 : Int)).toNat (IntKind.bits .i64)))) _ kr kr kr kr kr (φ := (0 : Int) ≤ x1) kr (of_decide_eq_true hg2) rfl ?_
 refine uA 4 16 0 ?_
 exact te (fJ [(false,[cB ((IntKind.wrap .i64 (BitVec.ofInt (IntKind.bits .i64) (Int.fdiv x0 (2 ^ min ((x1 : Int)).toNat (IntKind.bits .i64))) &&& BitVec.ofInt (IntKind.bits .i64) 1).toNat) == 1)])] H)
def Zs (n : Nat) (x0 : zE) (x1 : Int) (y2 : Int) : Option (Int × Bool) :=
  ((Qg n x0 y2).bind fun r3 => (bif (decide (r3 < 0)) then (some (0,false)) else ((idx x0.Rows r3).bind fun v4 => ((ql n v4.Members x1).bind fun r5 => (bif (!r5) then (some (0,false)) else (some (y2,true)))))))
def QW (n : Nat) (x0 : zE) (x1 : Int) (x2 : Int) : Option (Int × Bool) :=
  ((z8 n x1 0 (IntKind.wrap .i64 ((x0.Pv.length : Int) - 1))).bind fun r1 => (bif (!r1) then (some (0,false)) else (bif (x2 == 0) then ((idx x0.Pv x1).bind fun v6 => (Zs n x0 x1 v6)) else (Zs n x0 x1 x2))))
theorem zDS (n : Nat) (x0 : zE) (x1 : Int) (x2 : Int) (r : Int × Bool) (H : QW n x0 x1 x2 = some r) : zK Tryz.prog 42 [.val true (CV.frzRow (zE.row x0)),.val false [.lit (.int .i64 x1)],.val false [.lit (.int .i64 x2)]] [.val false [.lit (.int .i64 r.1)],.val false [.lit (.bool r.2)]] [] := by
 refine cW Tryz.func42 (fun g d => sl [g 0,sl [g 1] (cn 16 (sl [g 2] .ret) .skip),g 3,sl [g 4] (cn 19 (g 5) .skip),sl [g 6,g 7] (cn 40 (sl [g 8] .ret) .skip),g 9] .ret) [.tmp 6,.tmp 7] fun cx => ?_
 unfold QW at H
 refine gA 3 14 8 ?_
 refine tS ?_
 refine rA 3 ?_
 refine kF x0.Pv intRow ?_
 refine lA 1 ?_
 obtain ⟨r1,er1,H⟩ := bs H
 refine vA [.rd,.rd,.rd] (qC n x1 0 (IntKind.wrap .i64 ((x0.Pv.length : Int) - 1)) r1 er1) ?_
 refine uA 1 65550 8 ?_
 obtain ⟨h1,H⟩ | ⟨h1,H⟩ := bC H
 ·refine nA h1 ?_
  refine tK ?_
  refine gA 2 270 8 ?_
  refine tS ?_
  refine Tr.mid (ι := Int) (fun v => ⟨42,0,[sI 8 v,sA 3 3 2 0,sI 1 x1],[(3,(CV.frzRow (zE.row x0)))]⟩) (fun v => Zs n x0 x1 v = some r) ?_ ?_
  ·refine gA 2 524554 8 ?_
   obtain ⟨h4,H⟩ | ⟨h4,H⟩ := bC H
   ·refine nA h4 ?_
    refine tK ?_
    exact jA x2 H [8,3,1] [3]
   refine tA h4 ?_
   refine Tr.at ?_
   refine lA 3 ?_
   obtain ⟨v6,ev6,H⟩ := bs H
   refine iA intRow ev6 ?_
   refine uA 2 266 8 ?_
   exact jA v6 H [8,3,1] [3]
  rintro y2 H
  have H : (Zs n x0 x1 y2) = some r := H
  unfold Zs at H
  refine tS ?_
  refine rA 2 ?_
  obtain ⟨r3,er3,H⟩ := bs H
  refine vA [.rd,.rd] (zBY n x0 y2 r3 er3) ?_
  refine uA 1 778 8 ?_
  refine rA 3 ?_
  refine sL 1073742602 8 ⟨42,0,[sB 30 (decide (r3 < 0)),sI 9 r3,sI 8 y2,sA 3 3 2 0,sI 1 x1],[(3,(CV.frzRow (zE.row x0)))]⟩ ?_
  cases h2 : (decide (r3 < 0))
  ·have H := zH h2 H
   refine lA 3 ?_
   obtain ⟨v4,ev4,H⟩ := bs H
   refine iA zC.row ev4 ?_
   refine lA 3 ?_
   obtain ⟨r5,er5,H⟩ := bs H
   refine vA [.rd,.rd] (zAS n v4.Members x1 r5 er5) ?_
   refine uA 2 1099511628032 0 ?_
   obtain ⟨h3,H⟩ | ⟨h3,H⟩ := bC H
   ·refine nA h3 ?_
    refine tK ?_
    refine gA 3 192 0 ?_
    exact te (fJ [(false,[cI y2]),(false,[cB true])] H)
   refine tA h3 ?_
   refine gA 2 192 0 ?_
   exact te (fJ [(false,[cI 0]),(false,[cB false])] H)
  have H := zI h2 H
  refine uA 10 1099511628032 0 ?_
  refine tB_ ?_
  refine gA 2 192 0 ?_
  exact te (fJ [(false,[cI 0]),(false,[cB false])] H)
 refine tA h1 ?_
 refine gA 2 192 0 ?_
 exact te (fJ [(false,[cI 0]),(false,[cB false])] H)
def Yb (n : Nat) (x0 : Int) : Option (Int) :=
  (some (if 1000000 < (IntKind.wrap .i64 (x0 + 1)) then 1000000 else (IntKind.wrap .i64 (x0 + 1))))
theorem zDU (n : Nat) (x0 : Int) (r : Int) (H : Yb n x0 = some r) : zK Tryz.prog 87 [.val false [.lit (.int .i64 x0)]] [.val false [.lit (.int .i64 r)]] [] := by
 refine cW Tryz.func87 (fun g d => sl [g 0,g 1] .ret) [.tmp 2] fun cx => ?_
 unfold Yb at H
 refine gA 1 1 0 ?_
 refine gA 4 4 0 ?_
 exact te (fJ [(false,[cI (if 1000000 < (IntKind.wrap .i64 (x0 + 1)) then 1000000 else (IntKind.wrap .i64 (x0 + 1)))])] H)
def zAA (n : Nat) : Option (Int) :=
  (some (-1))
def Z7 (n : Nat) : Nat → (List zB) → Int → Int → Int → Option ((Unit) ⊕ (Int))
  | 0,_,_,_,_ => none
  | mo2 + 1,x0,x1,x2,y1 => (bif (decide (y1 < (x0.length : Int))) then ((idx x0 y1).bind fun v3 => (bif (v3.Tag == x1) then (bif (v3.Mac == x2) then (some (Sum.inr y1)) else (Z7 n mo2 x0 x1 x2 (IntKind.wrap .i64 (y1 + 1)))) else (Z7 n mo2 x0 x1 x2 (IntKind.wrap .i64 (y1 + 1))))) else (some (Sum.inl ())))
def YC (n : Nat) (x0 : (List zB)) (x1 : Int) (x2 : Int) : Option (Int) :=
  ((Z7 n n x0 x1 x2 0).bind fun o => match o with | .inl _ => (zAA n) | .inr r => some r)
theorem zCw (n : Nat) (x0 : (List zB)) (x1 : Int) (x2 : Int) (r : Int) (H : YC n x0 x1 x2 = some r) : zK Tryz.prog 144 [.val false [.sl false 5 (CV.frzEs (x0.map zB.row))],.val false [.lit (.int .i64 x1)],.val false [.lit (.int .i64 x2)]] [.val false [.lit (.int .i64 r)]] [] := by
 refine cW Tryz.func144 (fun g d => sl [g 0,sl [g 1] (.block 0 (.loop (sl [g 2,cn 12 .skip (.exit 0),.block 1 (sl [g 3,g 4] (cn 25 (sl [g 5] .ret) .skip))] (g 6)))),g 7] .ret) [.tmp 6] fun cx => ?_
 unfold YC at H
 refine gA 1 7 0 ?_
 refine tS ?_
 refine rA 1 ?_
 refine kF x0 zB.row ?_
 refine uA 1 3590 0 ?_
 obtain ⟨o2,eo2,Ho2⟩ := bs H
 clear H
 refine Tr.mid (ι := Unit) (fun v => ⟨28,0,[],[]⟩) (fun v => zAA n = some r) ?_ ?_
 ·refine tB ?_
  refine Tr.loop (ι := Nat × (Int)) (fun v => ⟨28,0,[sI 11 v.2,sI 10 (x0.length : Int),sC 9 (cF 5 x0 zB.row),sI 1 x1,sI 2 x2],[]⟩) (fun v => Z7 n v.1 x0 x1 x2 v.2 = some o2) (fun v => v.1) (n,0) eo2 (St.sub_of [11,10,9,1,2] [] kr) ?_
  rintro ⟨mo2,y1⟩ H
  have H : Z7 n mo2 x0 x1 x2 y1 = some o2 := H
  obtain _ | mo2 := mo2
  ·exact nN H
  rw [Z7] at H
  refine gA 1 7686 0 ?_
  refine tS ?_
  obtain ⟨h1,H⟩ | ⟨h1,H⟩ := bC H
  ·refine nA h1 ?_
   refine Tr.exit ?_
   refine aJ ?_
   obtain rfl := si H
   have H := Ho2
   dsimp only at H
   exact jA () H [] []
  refine tA h1 ?_
  refine tK ?_
  refine tS ?_
  refine tB ?_
  refine rA 1 ?_
  obtain ⟨v3,ev3,H⟩ := bs H
  refine iA zB.row ev3 ?_
  refine uA 4 3974 256 ?_
  refine rA 5 ?_
  refine sL 1052550 256 ⟨28,0,[sB 20 (v3.Tag == x1),sI 7 y1,sA 8 8 5 0,sI 11 y1,sI 10 (x0.length : Int),sC 9 (cF 5 x0 zB.row),sI 1 x1,sI 2 x2],[(8,(zB.row v3))]⟩ ?_
  cases h2 : (v3.Tag == x1)
  ·have H := zH h2 H
   refine uA 5 33558150 0 ?_
   refine nB_ ?_
   refine tK ?_
   refine eA 2 3590 0 ?_
   exact jB mo2 (IntKind.wrap .i64 (y1 + 1)) H [11,10,9,1,2] []
  have H := zI h2 H
  refine uA 5 33558150 0 ?_
  obtain ⟨h3,H⟩ | ⟨h3,H⟩ := bC H
  ·refine nA h3 ?_
   refine tK ?_
   refine eA 2 3590 0 ?_
   exact jB mo2 (IntKind.wrap .i64 (y1 + 1)) H [11,10,9,1,2] []
  refine tA h3 ?_
  refine gA 2 64 0 ?_
  refine te ?_
  obtain rfl := si H
  have H := Ho2
  dsimp only at H
  exact fJ [(false,[cI y1])] H
 rintro _ H
 have H : (zAA n) = some r := H
 unfold zAA at H
 refine gA 1 64 0 ?_
 exact te (fJ [(false,[cI (-1)])] H)
def Js (n : Nat) (x0 : (List zB)) (x1 : zB) (y4 : Int) : Option ((List zB) × Bool) :=
  (bif (decide ((0 : Int) ≤ 0) && (decide ((0 : Int) ≤ y4) && decide ((y4 : Int) ≤ (x0.length : Int)))) then ((qH n ((x0.drop ((0 : Int)).toNat).take (((y4 : Int)).toNat - ((0 : Int)).toNat))).bind fun r6 => (bif (decide (r6.length + [x1].length ≤ 268435456)) then (bif (decide ((0 : Int) ≤ y4) && (decide ((y4 : Int) ≤ (x0.length : Int)) && decide (((x0.length : Int) : Int) ≤ (x0.length : Int)))) then (bif (decide ((r6 ++ [x1]).length + ((x0.drop ((y4 : Int)).toNat).take ((((x0.length : Int) : Int)).toNat - ((y4 : Int)).toNat)).length ≤ 268435456)) then (some (((r6 ++ [x1]) ++ ((x0.drop ((y4 : Int)).toNat).take ((((x0.length : Int) : Int)).toNat - ((y4 : Int)).toNat))),true)) else none) else none) else none)) else none)
def Qi (n : Nat) : Nat → (List zB) → zB → Int → Option ((Int) ⊕ ((List zB) × Bool))
  | 0,_,_,_ => none
  | mo10 + 1,x0,x1,y3 => (bif (decide (y3 < (x0.length : Int))) then ((idx x0 y3).bind fun v11 => ((YM n v11 x1.Tag x1.Mac).bind fun r12 => (bif (!r12) then (Qi n mo10 x0 x1 (IntKind.wrap .i64 (y3 + 1))) else (some (Sum.inl y3))))) else (some (Sum.inl y3)))
def zAJ (n : Nat) (x0 : (List zB)) (x1 : zB) : Option ((List zB) × Bool) :=
  ((qH n x0).bind fun r1 => ((YC n x0 x1.Tag x1.Mac).bind fun r2 => (bif (decide (r2 ≥ 0)) then ((idx r1 r2).bind fun v13 => (some ((r1.set (r2.toNat) x1),true))) else (bif (decide ((x0.length : Int) ≥ 12)) then (some (r1,false)) else ((Qi n n x0 x1 0).bind fun o => match o with | .inl y4 => (Js n x0 x1 y4) | .inr r => some r)))))
def zKQ : Tab := ⟨16,[0,0,2,5,8,16,16,112,144,16,528,16,2064,5392,8208,16400],[0,0,2,5,8,16,16,112,144,16,528,16,2064,5392,8208,16400],[0,0,2,7,15,31,31,127,255,31,543,31,2079,8191,16383,32767]⟩
theorem Q1 : z7 (rg Tryz.f184 9) zKQ = true := kr
def zJp : Tab := ⟨13,[0,0,3,4,0,16,40,0,0,384,576,2047,4095],[0,0,3,4,0,16,40,0,0,384,576,1024,0],[0,0,3,7,0,16,63,0,0,384,1023,2047,4095]⟩
theorem zJ : z7 (rg Tryz.f184 11) zJp = true := kr
theorem zHk (n : Nat) (x0 : (List zB)) (y4 : Int) (r6 : (List zB)) (x1 : zB) (hg5 : (decide ((0 : Int) ≤ 0) && (decide ((0 : Int) ≤ y4) && decide ((y4 : Int) ≤ (x0.length : Int)))) = true) (er6 : (qH n ((x0.drop ((0 : Int)).toNat).take (((y4 : Int)).toNat - ((0 : Int)).toNat))) = some r6) (hg7 : (decide (r6.length + [x1].length ≤ 268435456)) = true) (hg8 : (decide ((0 : Int) ≤ y4) && (decide ((y4 : Int) ≤ (x0.length : Int)) && decide (((x0.length : Int) : Int) ≤ (x0.length : Int)))) = true) (hg9 : (decide ((r6 ++ [x1]).length + ((x0.drop ((y4 : Int)).toNat).take ((((x0.length : Int) : Int)).toNat - ((y4 : Int)).toNat)).length ≤ 268435456)) = true) (cx : Cx) : AT Tryz.prog cx (rg Tryz.f184 11) [] 13 [] ⟨57,0,[sI 8 y4,sA 3 3 5 0,sC 0 (cF 5 x0 zB.row)],[(3,(zB.row x1))]⟩ (fun s => s = ⟨57,0,[sB 5 true,sC 4 (cL 5 ((r6 ++ [x1]) ++ ((x0.drop ((y4 : Int)).toNat).take ((((x0.length : Int) : Int)).toNat - ((y4 : Int)).toNat))) zB.row)],[]⟩) := by
 refine mA zJ [(0,[]),(1,[]),(4,[5,6,10]),(7,[]),(8,[])] 8 [⟨[5,6,10],169,3,50⟩] fun cx => ?_
 refine mB3 tOk zJ 2 5 9 kr (And.intro kr ?_) (And.intro kr ?_) (And.intro kr ?_)
 ·refine LAt.cutG tOk (t := 36) (ty := 36) (e := 169) (x := (.tmp 46)) (lo := none) (hi := (some (.tmp 47))) (d := 48) (g := none) (tI 169) zB.row x0 ⟨(.slot 46),[],0,false,5,(CV.frzEs (x0.map zB.row))⟩ 0 y4 kr kr kr kr kr kr rfl kr rfl kr kr hg5 ?_
  refine fA ?_
  refine mB3 tOk zJ 3 5 9 kr (And.intro kr ?_) (And.intro kr ?_) (And.intro kr ?_)
  ·refine vA [.rd] (qP n ((x0.drop ((0 : Int)).toNat).take (((y4 : Int)).toNat - ((0 : Int)).toNat)) r6 er6) ?_
   refine fA ?_
   refine mB2 tOk zJ 5 9 kr (And.intro kr ?_) (And.intro kr ?_)
   ·refine lA 1 ?_
    refine fA ?_
    refine mB2 tOk zJ 6 9 kr (And.intro kr ?_) (And.intro kr ?_)
    ·refine LAt.appMU tOk (t := 36) (ty := 36) (e := 169) (x := (.tmp 49)) (y := (.tmp 51)) (d := 52) (g := none) (tI 169) zB.row r6 [x1] kr kr kr kr kr kr kr kr kr kr hg7 ?_
     refine fA ?_
     refine mC zJ 9 ?_
     refine LAt.cutG tOk (t := 36) (ty := 36) (e := 169) (x := (.tmp 53)) (lo := (some (.tmp 54))) (hi := none) (d := 55) (g := none) (tI 169) zB.row x0 ⟨(.slot 53),[],0,false,5,(CV.frzEs (x0.map zB.row))⟩ y4 (x0.length : Int) kr kr kr kr kr kr rfl kr rfl kr kr hg8 ?_
     refine fA ?_
     refine mC zJ 10 ?_
     refine pD zB.row hg9 ?_
     refine fA ?_
     refine mC zJ 11 ?_
     refine LAt.moveU (T := lk tab) (ty := 36) (x := (.tmp 56)) (d := 4) (g := none) false [cL 5 ((r6 ++ [x1]) ++ ((x0.drop ((y4 : Int)).toNat).take ((((x0.length : Int) : Int)).toNat - ((y4 : Int)).toNat))) zB.row] kr kr kr kr kr ?_
     refine fA ?_
     refine mA zJ [(12,[])] 0 [⟨[5,6,10],169,3,50⟩] fun cx => ?_
     exact mE zJ [5,4] []
    ·refine LAt.cutG tOk (t := 36) (ty := 36) (e := 169) (x := (.tmp 53)) (lo := (some (.tmp 54))) (hi := none) (d := 55) (g := none) (tI 169) zB.row x0 ⟨(.slot 53),[],0,false,5,(CV.frzEs (x0.map zB.row))⟩ y4 (x0.length : Int) kr kr kr kr kr kr rfl kr rfl kr kr hg8 ?_
     refine fA ?_
     refine mC zJ 6 ?_
     refine LAt.appMU tOk (t := 36) (ty := 36) (e := 169) (x := (.tmp 49)) (y := (.tmp 51)) (d := 52) (g := none) (tI 169) zB.row r6 [x1] kr kr kr kr kr kr kr kr kr kr hg7 ?_
     refine fA ?_
     refine mC zJ 10 ?_
     refine pD zB.row hg9 ?_
     refine fA ?_
     refine mC zJ 11 ?_
     refine LAt.moveU (T := lk tab) (ty := 36) (x := (.tmp 56)) (d := 4) (g := none) false [cL 5 ((r6 ++ [x1]) ++ ((x0.drop ((y4 : Int)).toNat).take ((((x0.length : Int) : Int)).toNat - ((y4 : Int)).toNat))) zB.row] kr kr kr kr kr ?_
     refine fA ?_
     refine mA zJ [(12,[])] 0 [⟨[5,6,10],169,3,50⟩] fun cx => ?_
     exact mE zJ [5,4] []
   ·refine LAt.cutG tOk (t := 36) (ty := 36) (e := 169) (x := (.tmp 53)) (lo := (some (.tmp 54))) (hi := none) (d := 55) (g := none) (tI 169) zB.row x0 ⟨(.slot 53),[],0,false,5,(CV.frzEs (x0.map zB.row))⟩ y4 (x0.length : Int) kr kr kr kr kr kr rfl kr rfl kr kr hg8 ?_
    refine fA ?_
    refine mC zJ 5 ?_
    refine lA 1 ?_
    refine fA ?_
    refine mC zJ 6 ?_
    refine LAt.appMU tOk (t := 36) (ty := 36) (e := 169) (x := (.tmp 49)) (y := (.tmp 51)) (d := 52) (g := none) (tI 169) zB.row r6 [x1] kr kr kr kr kr kr kr kr kr kr hg7 ?_
    refine fA ?_
    refine mC zJ 10 ?_
    refine pD zB.row hg9 ?_
    refine fA ?_
    refine mC zJ 11 ?_
    refine LAt.moveU (T := lk tab) (ty := 36) (x := (.tmp 56)) (d := 4) (g := none) false [cL 5 ((r6 ++ [x1]) ++ ((x0.drop ((y4 : Int)).toNat).take ((((x0.length : Int) : Int)).toNat - ((y4 : Int)).toNat))) zB.row] kr kr kr kr kr ?_
    refine fA ?_
    refine mA zJ [(12,[])] 0 [⟨[5,6,10],169,3,50⟩] fun cx => ?_
    exact mE zJ [5,4] []
  ·refine lA 1 ?_
   refine fA ?_
   refine mB2 tOk zJ 3 9 kr (And.intro kr ?_) (And.intro kr ?_)
   ·refine vA [.rd] (qP n ((x0.drop ((0 : Int)).toNat).take (((y4 : Int)).toNat - ((0 : Int)).toNat)) r6 er6) ?_
    refine fA ?_
    refine mB2 tOk zJ 6 9 kr (And.intro kr ?_) (And.intro kr ?_)
    ·refine LAt.appMU tOk (t := 36) (ty := 36) (e := 169) (x := (.tmp 49)) (y := (.tmp 51)) (d := 52) (g := none) (tI 169) zB.row r6 [x1] kr kr kr kr kr kr kr kr kr kr hg7 ?_
     refine fA ?_
     refine mC zJ 9 ?_
     refine LAt.cutG tOk (t := 36) (ty := 36) (e := 169) (x := (.tmp 53)) (lo := (some (.tmp 54))) (hi := none) (d := 55) (g := none) (tI 169) zB.row x0 ⟨(.slot 53),[],0,false,5,(CV.frzEs (x0.map zB.row))⟩ y4 (x0.length : Int) kr kr kr kr kr kr rfl kr rfl kr kr hg8 ?_
     refine fA ?_
     refine mC zJ 10 ?_
     refine pD zB.row hg9 ?_
     refine fA ?_
     refine mC zJ 11 ?_
     refine LAt.moveU (T := lk tab) (ty := 36) (x := (.tmp 56)) (d := 4) (g := none) false [cL 5 ((r6 ++ [x1]) ++ ((x0.drop ((y4 : Int)).toNat).take ((((x0.length : Int) : Int)).toNat - ((y4 : Int)).toNat))) zB.row] kr kr kr kr kr ?_
     refine fA ?_
     refine mA zJ [(12,[])] 0 [⟨[5,6,10],169,3,50⟩] fun cx => ?_
     exact mE zJ [5,4] []
    ·refine LAt.cutG tOk (t := 36) (ty := 36) (e := 169) (x := (.tmp 53)) (lo := (some (.tmp 54))) (hi := none) (d := 55) (g := none) (tI 169) zB.row x0 ⟨(.slot 53),[],0,false,5,(CV.frzEs (x0.map zB.row))⟩ y4 (x0.length : Int) kr kr kr kr kr kr rfl kr rfl kr kr hg8 ?_
     refine fA ?_
     refine mC zJ 6 ?_
     refine LAt.appMU tOk (t := 36) (ty := 36) (e := 169) (x := (.tmp 49)) (y := (.tmp 51)) (d := 52) (g := none) (tI 169) zB.row r6 [x1] kr kr kr kr kr kr kr kr kr kr hg7 ?_
     refine fA ?_
     refine mC zJ 10 ?_
     refine pD zB.row hg9 ?_
     refine fA ?_
     refine mC zJ 11 ?_
     refine LAt.moveU (T := lk tab) (ty := 36) (x := (.tmp 56)) (d := 4) (g := none) false [cL 5 ((r6 ++ [x1]) ++ ((x0.drop ((y4 : Int)).toNat).take ((((x0.length : Int) : Int)).toNat - ((y4 : Int)).toNat))) zB.row] kr kr kr kr kr ?_
     refine fA ?_
     refine mA zJ [(12,[])] 0 [⟨[5,6,10],169,3,50⟩] fun cx => ?_
     exact mE zJ [5,4] []
   ·refine LAt.cutG tOk (t := 36) (ty := 36) (e := 169) (x := (.tmp 53)) (lo := (some (.tmp 54))) (hi := none) (d := 55) (g := none) (tI 169) zB.row x0 ⟨(.slot 53),[],0,false,5,(CV.frzEs (x0.map zB.row))⟩ y4 (x0.length : Int) kr kr kr kr kr kr rfl kr rfl kr kr hg8 ?_
    refine fA ?_
    refine mC zJ 3 ?_
    refine vA [.rd] (qP n ((x0.drop ((0 : Int)).toNat).take (((y4 : Int)).toNat - ((0 : Int)).toNat)) r6 er6) ?_
    refine fA ?_
    refine mC zJ 6 ?_
    refine LAt.appMU tOk (t := 36) (ty := 36) (e := 169) (x := (.tmp 49)) (y := (.tmp 51)) (d := 52) (g := none) (tI 169) zB.row r6 [x1] kr kr kr kr kr kr kr kr kr kr hg7 ?_
    refine fA ?_
    refine mC zJ 10 ?_
    refine pD zB.row hg9 ?_
    refine fA ?_
    refine mC zJ 11 ?_
    refine LAt.moveU (T := lk tab) (ty := 36) (x := (.tmp 56)) (d := 4) (g := none) false [cL 5 ((r6 ++ [x1]) ++ ((x0.drop ((y4 : Int)).toNat).take ((((x0.length : Int) : Int)).toNat - ((y4 : Int)).toNat))) zB.row] kr kr kr kr kr ?_
    refine fA ?_
    refine mA zJ [(12,[])] 0 [⟨[5,6,10],169,3,50⟩] fun cx => ?_
    exact mE zJ [5,4] []
  ·refine LAt.cutG tOk (t := 36) (ty := 36) (e := 169) (x := (.tmp 53)) (lo := (some (.tmp 54))) (hi := none) (d := 55) (g := none) (tI 169) zB.row x0 ⟨(.slot 53),[],0,false,5,(CV.frzEs (x0.map zB.row))⟩ y4 (x0.length : Int) kr kr kr kr kr kr rfl kr rfl kr kr hg8 ?_
   refine fA ?_
   refine mB2 tOk zJ 3 5 kr (And.intro kr ?_) (And.intro kr ?_)
   ·refine vA [.rd] (qP n ((x0.drop ((0 : Int)).toNat).take (((y4 : Int)).toNat - ((0 : Int)).toNat)) r6 er6) ?_
    refine fA ?_
    refine mC zJ 5 ?_
    refine lA 1 ?_
    refine fA ?_
    refine mC zJ 6 ?_
    refine LAt.appMU tOk (t := 36) (ty := 36) (e := 169) (x := (.tmp 49)) (y := (.tmp 51)) (d := 52) (g := none) (tI 169) zB.row r6 [x1] kr kr kr kr kr kr kr kr kr kr hg7 ?_
    refine fA ?_
    refine mC zJ 10 ?_
    refine pD zB.row hg9 ?_
    refine fA ?_
    refine mC zJ 11 ?_
    refine LAt.moveU (T := lk tab) (ty := 36) (x := (.tmp 56)) (d := 4) (g := none) false [cL 5 ((r6 ++ [x1]) ++ ((x0.drop ((y4 : Int)).toNat).take ((((x0.length : Int) : Int)).toNat - ((y4 : Int)).toNat))) zB.row] kr kr kr kr kr ?_
    refine fA ?_
    refine mA zJ [(12,[])] 0 [⟨[5,6,10],169,3,50⟩] fun cx => ?_
    exact mE zJ [5,4] []
   ·refine lA 1 ?_
    refine fA ?_
    refine mC zJ 3 ?_
    refine vA [.rd] (qP n ((x0.drop ((0 : Int)).toNat).take (((y4 : Int)).toNat - ((0 : Int)).toNat)) r6 er6) ?_
    refine fA ?_
    refine mC zJ 6 ?_
    refine LAt.appMU tOk (t := 36) (ty := 36) (e := 169) (x := (.tmp 49)) (y := (.tmp 51)) (d := 52) (g := none) (tI 169) zB.row r6 [x1] kr kr kr kr kr kr kr kr kr kr hg7 ?_
    refine fA ?_
    refine mC zJ 10 ?_
    refine pD zB.row hg9 ?_
    refine fA ?_
    refine mC zJ 11 ?_
    refine LAt.moveU (T := lk tab) (ty := 36) (x := (.tmp 56)) (d := 4) (g := none) false [cL 5 ((r6 ++ [x1]) ++ ((x0.drop ((y4 : Int)).toNat).take ((((x0.length : Int) : Int)).toNat - ((y4 : Int)).toNat))) zB.row] kr kr kr kr kr ?_
    refine fA ?_
    refine mA zJ [(12,[])] 0 [⟨[5,6,10],169,3,50⟩] fun cx => ?_
    exact mE zJ [5,4] []
 ·refine lA 1 ?_
  refine fA ?_
  refine mB2 tOk zJ 2 9 kr (And.intro kr ?_) (And.intro kr ?_)
  ·refine LAt.cutG tOk (t := 36) (ty := 36) (e := 169) (x := (.tmp 46)) (lo := none) (hi := (some (.tmp 47))) (d := 48) (g := none) (tI 169) zB.row x0 ⟨(.slot 46),[],0,false,5,(CV.frzEs (x0.map zB.row))⟩ 0 y4 kr kr kr kr kr kr rfl kr rfl kr kr hg5 ?_
   refine fA ?_
   refine mB2 tOk zJ 3 9 kr (And.intro kr ?_) (And.intro kr ?_)
   ·refine vA [.rd] (qP n ((x0.drop ((0 : Int)).toNat).take (((y4 : Int)).toNat - ((0 : Int)).toNat)) r6 er6) ?_
    refine fA ?_
    refine mB2 tOk zJ 6 9 kr (And.intro kr ?_) (And.intro kr ?_)
    ·refine LAt.appMU tOk (t := 36) (ty := 36) (e := 169) (x := (.tmp 49)) (y := (.tmp 51)) (d := 52) (g := none) (tI 169) zB.row r6 [x1] kr kr kr kr kr kr kr kr kr kr hg7 ?_
     refine fA ?_
     refine mC zJ 9 ?_
     refine LAt.cutG tOk (t := 36) (ty := 36) (e := 169) (x := (.tmp 53)) (lo := (some (.tmp 54))) (hi := none) (d := 55) (g := none) (tI 169) zB.row x0 ⟨(.slot 53),[],0,false,5,(CV.frzEs (x0.map zB.row))⟩ y4 (x0.length : Int) kr kr kr kr kr kr rfl kr rfl kr kr hg8 ?_
     refine fA ?_
     refine mC zJ 10 ?_
     refine pD zB.row hg9 ?_
     refine fA ?_
     refine mC zJ 11 ?_
     refine LAt.moveU (T := lk tab) (ty := 36) (x := (.tmp 56)) (d := 4) (g := none) false [cL 5 ((r6 ++ [x1]) ++ ((x0.drop ((y4 : Int)).toNat).take ((((x0.length : Int) : Int)).toNat - ((y4 : Int)).toNat))) zB.row] kr kr kr kr kr ?_
     refine fA ?_
     refine mA zJ [(12,[])] 0 [⟨[5,6,10],169,3,50⟩] fun cx => ?_
     exact mE zJ [5,4] []
    ·refine LAt.cutG tOk (t := 36) (ty := 36) (e := 169) (x := (.tmp 53)) (lo := (some (.tmp 54))) (hi := none) (d := 55) (g := none) (tI 169) zB.row x0 ⟨(.slot 53),[],0,false,5,(CV.frzEs (x0.map zB.row))⟩ y4 (x0.length : Int) kr kr kr kr kr kr rfl kr rfl kr kr hg8 ?_
     refine fA ?_
     refine mC zJ 6 ?_
     refine LAt.appMU tOk (t := 36) (ty := 36) (e := 169) (x := (.tmp 49)) (y := (.tmp 51)) (d := 52) (g := none) (tI 169) zB.row r6 [x1] kr kr kr kr kr kr kr kr kr kr hg7 ?_
     refine fA ?_
     refine mC zJ 10 ?_
     refine pD zB.row hg9 ?_
     refine fA ?_
     refine mC zJ 11 ?_
     refine LAt.moveU (T := lk tab) (ty := 36) (x := (.tmp 56)) (d := 4) (g := none) false [cL 5 ((r6 ++ [x1]) ++ ((x0.drop ((y4 : Int)).toNat).take ((((x0.length : Int) : Int)).toNat - ((y4 : Int)).toNat))) zB.row] kr kr kr kr kr ?_
     refine fA ?_
     refine mA zJ [(12,[])] 0 [⟨[5,6,10],169,3,50⟩] fun cx => ?_
     exact mE zJ [5,4] []
   ·refine LAt.cutG tOk (t := 36) (ty := 36) (e := 169) (x := (.tmp 53)) (lo := (some (.tmp 54))) (hi := none) (d := 55) (g := none) (tI 169) zB.row x0 ⟨(.slot 53),[],0,false,5,(CV.frzEs (x0.map zB.row))⟩ y4 (x0.length : Int) kr kr kr kr kr kr rfl kr rfl kr kr hg8 ?_
    refine fA ?_
    refine mC zJ 3 ?_
    refine vA [.rd] (qP n ((x0.drop ((0 : Int)).toNat).take (((y4 : Int)).toNat - ((0 : Int)).toNat)) r6 er6) ?_
    refine fA ?_
    refine mC zJ 6 ?_
    refine LAt.appMU tOk (t := 36) (ty := 36) (e := 169) (x := (.tmp 49)) (y := (.tmp 51)) (d := 52) (g := none) (tI 169) zB.row r6 [x1] kr kr kr kr kr kr kr kr kr kr hg7 ?_
    refine fA ?_
    refine mC zJ 10 ?_
    refine pD zB.row hg9 ?_
    refine fA ?_
    refine mC zJ 11 ?_
    refine LAt.moveU (T := lk tab) (ty := 36) (x := (.tmp 56)) (d := 4) (g := none) false [cL 5 ((r6 ++ [x1]) ++ ((x0.drop ((y4 : Int)).toNat).take ((((x0.length : Int) : Int)).toNat - ((y4 : Int)).toNat))) zB.row] kr kr kr kr kr ?_
    refine fA ?_
    refine mA zJ [(12,[])] 0 [⟨[5,6,10],169,3,50⟩] fun cx => ?_
    exact mE zJ [5,4] []
  ·refine LAt.cutG tOk (t := 36) (ty := 36) (e := 169) (x := (.tmp 53)) (lo := (some (.tmp 54))) (hi := none) (d := 55) (g := none) (tI 169) zB.row x0 ⟨(.slot 53),[],0,false,5,(CV.frzEs (x0.map zB.row))⟩ y4 (x0.length : Int) kr kr kr kr kr kr rfl kr rfl kr kr hg8 ?_
   refine fA ?_
   refine mC zJ 2 ?_
   refine LAt.cutG tOk (t := 36) (ty := 36) (e := 169) (x := (.tmp 46)) (lo := none) (hi := (some (.tmp 47))) (d := 48) (g := none) (tI 169) zB.row x0 ⟨(.slot 46),[],0,false,5,(CV.frzEs (x0.map zB.row))⟩ 0 y4 kr kr kr kr kr kr rfl kr rfl kr kr hg5 ?_
   refine fA ?_
   refine mC zJ 3 ?_
   refine vA [.rd] (qP n ((x0.drop ((0 : Int)).toNat).take (((y4 : Int)).toNat - ((0 : Int)).toNat)) r6 er6) ?_
   refine fA ?_
   refine mC zJ 6 ?_
   refine LAt.appMU tOk (t := 36) (ty := 36) (e := 169) (x := (.tmp 49)) (y := (.tmp 51)) (d := 52) (g := none) (tI 169) zB.row r6 [x1] kr kr kr kr kr kr kr kr kr kr hg7 ?_
   refine fA ?_
   refine mC zJ 10 ?_
   refine pD zB.row hg9 ?_
   refine fA ?_
   refine mC zJ 11 ?_
   refine LAt.moveU (T := lk tab) (ty := 36) (x := (.tmp 56)) (d := 4) (g := none) false [cL 5 ((r6 ++ [x1]) ++ ((x0.drop ((y4 : Int)).toNat).take ((((x0.length : Int) : Int)).toNat - ((y4 : Int)).toNat))) zB.row] kr kr kr kr kr ?_
   refine fA ?_
   refine mA zJ [(12,[])] 0 [⟨[5,6,10],169,3,50⟩] fun cx => ?_
   exact mE zJ [5,4] []
 ·refine LAt.cutG tOk (t := 36) (ty := 36) (e := 169) (x := (.tmp 53)) (lo := (some (.tmp 54))) (hi := none) (d := 55) (g := none) (tI 169) zB.row x0 ⟨(.slot 53),[],0,false,5,(CV.frzEs (x0.map zB.row))⟩ y4 (x0.length : Int) kr kr kr kr kr kr rfl kr rfl kr kr hg8 ?_
  refine fA ?_
  refine mB2 tOk zJ 2 5 kr (And.intro kr ?_) (And.intro kr ?_)
  ·refine LAt.cutG tOk (t := 36) (ty := 36) (e := 169) (x := (.tmp 46)) (lo := none) (hi := (some (.tmp 47))) (d := 48) (g := none) (tI 169) zB.row x0 ⟨(.slot 46),[],0,false,5,(CV.frzEs (x0.map zB.row))⟩ 0 y4 kr kr kr kr kr kr rfl kr rfl kr kr hg5 ?_
   refine fA ?_
   refine mB2 tOk zJ 3 5 kr (And.intro kr ?_) (And.intro kr ?_)
   ·refine vA [.rd] (qP n ((x0.drop ((0 : Int)).toNat).take (((y4 : Int)).toNat - ((0 : Int)).toNat)) r6 er6) ?_
    refine fA ?_
    refine mC zJ 5 ?_
    refine lA 1 ?_
    refine fA ?_
    refine mC zJ 6 ?_
    refine LAt.appMU tOk (t := 36) (ty := 36) (e := 169) (x := (.tmp 49)) (y := (.tmp 51)) (d := 52) (g := none) (tI 169) zB.row r6 [x1] kr kr kr kr kr kr kr kr kr kr hg7 ?_
    refine fA ?_
    refine mC zJ 10 ?_
    refine pD zB.row hg9 ?_
    refine fA ?_
    refine mC zJ 11 ?_
    refine LAt.moveU (T := lk tab) (ty := 36) (x := (.tmp 56)) (d := 4) (g := none) false [cL 5 ((r6 ++ [x1]) ++ ((x0.drop ((y4 : Int)).toNat).take ((((x0.length : Int) : Int)).toNat - ((y4 : Int)).toNat))) zB.row] kr kr kr kr kr ?_
    refine fA ?_
    refine mA zJ [(12,[])] 0 [⟨[5,6,10],169,3,50⟩] fun cx => ?_
    exact mE zJ [5,4] []
   ·refine lA 1 ?_
    refine fA ?_
    refine mC zJ 3 ?_
    refine vA [.rd] (qP n ((x0.drop ((0 : Int)).toNat).take (((y4 : Int)).toNat - ((0 : Int)).toNat)) r6 er6) ?_
    refine fA ?_
    refine mC zJ 6 ?_
    refine LAt.appMU tOk (t := 36) (ty := 36) (e := 169) (x := (.tmp 49)) (y := (.tmp 51)) (d := 52) (g := none) (tI 169) zB.row r6 [x1] kr kr kr kr kr kr kr kr kr kr hg7 ?_
    refine fA ?_
    refine mC zJ 10 ?_
    refine pD zB.row hg9 ?_
    refine fA ?_
    refine mC zJ 11 ?_
    refine LAt.moveU (T := lk tab) (ty := 36) (x := (.tmp 56)) (d := 4) (g := none) false [cL 5 ((r6 ++ [x1]) ++ ((x0.drop ((y4 : Int)).toNat).take ((((x0.length : Int) : Int)).toNat - ((y4 : Int)).toNat))) zB.row] kr kr kr kr kr ?_
    refine fA ?_
    refine mA zJ [(12,[])] 0 [⟨[5,6,10],169,3,50⟩] fun cx => ?_
    exact mE zJ [5,4] []
  ·refine lA 1 ?_
   refine fA ?_
   refine mC zJ 2 ?_
   refine LAt.cutG tOk (t := 36) (ty := 36) (e := 169) (x := (.tmp 46)) (lo := none) (hi := (some (.tmp 47))) (d := 48) (g := none) (tI 169) zB.row x0 ⟨(.slot 46),[],0,false,5,(CV.frzEs (x0.map zB.row))⟩ 0 y4 kr kr kr kr kr kr rfl kr rfl kr kr hg5 ?_
   refine fA ?_
   refine mC zJ 3 ?_
   refine vA [.rd] (qP n ((x0.drop ((0 : Int)).toNat).take (((y4 : Int)).toNat - ((0 : Int)).toNat)) r6 er6) ?_
   refine fA ?_
   refine mC zJ 6 ?_
   refine LAt.appMU tOk (t := 36) (ty := 36) (e := 169) (x := (.tmp 49)) (y := (.tmp 51)) (d := 52) (g := none) (tI 169) zB.row r6 [x1] kr kr kr kr kr kr kr kr kr kr hg7 ?_
   refine fA ?_
   refine mC zJ 10 ?_
   refine pD zB.row hg9 ?_
   refine fA ?_
   refine mC zJ 11 ?_
   refine LAt.moveU (T := lk tab) (ty := 36) (x := (.tmp 56)) (d := 4) (g := none) false [cL 5 ((r6 ++ [x1]) ++ ((x0.drop ((y4 : Int)).toNat).take ((((x0.length : Int) : Int)).toNat - ((y4 : Int)).toNat))) zB.row] kr kr kr kr kr ?_
   refine fA ?_
   refine mA zJ [(12,[])] 0 [⟨[5,6,10],169,3,50⟩] fun cx => ?_
   exact mE zJ [5,4] []
theorem zHB (n : Nat) (x0 : (List zB)) (x1 : zB) (r : (List zB) × Bool) (H : zAJ n x0 x1 = some r) : zK Tryz.prog 184 [.val false [.sl false 5 (CV.frzEs (x0.map zB.row))],.val true (CV.frzRow (zB.row x1))] [.val false [.sl true 5 (r.1.map zB.row)],.val false [.lit (.bool r.2)]] [] := by
 refine cW Tryz.func184 (fun g d => sl [g 0,g 1,sl [g 2,g 3] (cn 18 (sl [g 4,g 5] .ret) .skip),sl [g 6] (cn 26 (sl [g 7] .ret) .skip),g 8,.block 0 (.loop (sl [sl [d 9] (cn 43 .skip (.exit 0))] (.block 1 (g 10)))),d 11] .ret) [.tmp 4,.tmp 5] fun cx => ?_
 unfold zAJ at H
 refine gA 3 9 8 ?_
 refine rA 1 ?_
 obtain ⟨r1,er1,H⟩ := bs H
 refine vA [.rd] (qP n x0 r1 er1) ?_
 refine LAt.moveU (T := lk tab) (ty := 36) (x := (.tmp 10)) (d := 6) (g := none) false [cL 5 r1 zB.row] kr kr kr kr kr ?_
 refine dA 73 8 ?_
 refine tS ?_
 refine rA 5 ?_
 obtain ⟨r2,er2,H⟩ := bs H
 refine vA [.rd,.rd,.rd] (zCw n x0 x1.Tag x1.Mac r2 er2) ?_
 refine uA 1 201 8 ?_
 refine gA 2 262345 8 ?_
 obtain ⟨h1,H⟩ | ⟨h1,H⟩ := bC H
 ·refine nA h1 ?_
  refine tK ?_
  refine tS ?_
  refine rA 1 ?_
  refine kF x0 zB.row ?_
  refine uA 1 67108937 8 ?_
  obtain ⟨h2,H⟩ | ⟨h2,H⟩ := bC H
  ·refine nA h2 ?_
   refine tK ?_
   refine gA 1 265 8 ?_
   refine tS ?_
   obtain ⟨o10,eo10,Ho10⟩ := bs H
   clear H
   refine Tr.mid (ι := Int) (fun v => ⟨57,0,[sI 8 v,sA 3 3 5 0,sC 0 (cF 5 x0 zB.row)],[(3,(zB.row x1))]⟩) (fun v => Js n x0 x1 v = some r) ?_ ?_
   ·refine tB ?_
    refine Tr.loop (ι := Nat × (Int)) (fun v => ⟨57,0,[sI 8 v.2,sA 3 3 5 0,sC 0 (cF 5 x0 zB.row)],[(3,(zB.row x1))]⟩) (fun v => Qi n v.1 x0 x1 v.2 = some o10) (fun v => v.1) (n,0) eo10 (St.sub_of [8,3,0] [3] kr) ?_
    rintro ⟨mo10,y3⟩ H
    have H : Qi n mo10 x0 x1 y3 = some o10 := H
    obtain _ | mo10 := mo10
    ·exact nN H
    rw [Qi] at H
    refine tS ?_
    refine sT ⟨57,0,[sI 8 y3,sA 3 3 5 0,sC 0 (cF 5 x0 zB.row)],[(3,(zB.row x1))]⟩ ?_
    cases h3 : (decide (y3 < (x0.length : Int)))
    ·have H := zH h3 H
     refine Tr.draws mixed 16 kr ⟨57,0,[sB 43 false,sI 8 y3,sA 3 3 5 0,sC 0 (cF 5 x0 zB.row)],[(3,(zB.row x1))]⟩ (fun cx => ?_) ?_
     ·refine mA Q1 [(0,[]),(1,[])] 14 [] fun cx => ?_
      refine kFN Q1 2 x0 zB.row fun cx => ?_
      refine mA Q1 [(3,[]),(4,[])] 11 [] fun cx => ?_
      refine sA_ 4294967561 8 ⟨57,0,[sB 32 (decide (y3 < (x0.length : Int))),sI 8 y3,sA 3 3 5 0,sC 0 (cF 5 x0 zB.row)],[(3,(zB.row x1))]⟩ ?_
      rw [h3]
      refine mA Q1 [(5,[]),(6,[]),(7,[]),(8,[]),(9,[]),(10,[]),(11,[]),(12,[]),(13,[]),(14,[]),(15,[])] 0 [] fun cx => ?_
      exact mE Q1 [43,8,3,0] [3]
     refine nB_ ?_
     refine Tr.exit ?_
     refine aJ ?_
     obtain rfl := si H
     have H := Ho10
     dsimp only at H
     exact jA y3 H [8,3,0] [3]
    have H := zI h3 H
    obtain ⟨v11,ev11,H⟩ := bs H
    obtain ⟨r12,er12,H⟩ := bs H
    refine Tr.draws mixed 16 kr ⟨57,0,[sB 43 (!r12),sI 8 y3,sA 3 3 5 0,sC 0 (cF 5 x0 zB.row)],[(3,(zB.row x1))]⟩ (fun cx => ?_) ?_
    ·refine mA Q1 [(0,[]),(1,[])] 14 [] fun cx => ?_
     refine kFN Q1 2 x0 zB.row fun cx => ?_
     refine mA Q1 [(3,[]),(4,[])] 11 [] fun cx => ?_
     refine sA_ 4294967561 8 ⟨57,0,[sB 32 (decide (y3 < (x0.length : Int))),sI 8 y3,sA 3 3 5 0,sC 0 (cF 5 x0 zB.row)],[(3,(zB.row x1))]⟩ ?_
     rw [h3]
     refine mA Q1 [(5,[]),(6,[])] 9 [] fun cx => ?_
     refine iN Q1 7 zB.row ev11 fun cx => ?_
     refine mA Q1 [(8,[]),(9,[]),(10,[13]),(11,[]),(12,[13])] 3 [⟨[13],3,39,40⟩,⟨[13],3,37,38⟩] fun cx => ?_
     refine mC Q1 13 ?_
     refine vA [.rd,.rd,.rd] (zEI n v11 x1.Tag x1.Mac r12 er12) ?_
     refine fA ?_
     refine mA Q1 [(14,[]),(15,[])] 0 [⟨[13],3,39,40⟩,⟨[13],3,37,38⟩] fun cx => ?_
     exact mE Q1 [43,8,3,0] [3]
    refine sT ⟨57,0,[sB 43 (!r12),sI 8 y3,sA 3 3 5 0,sC 0 (cF 5 x0 zB.row)],[(3,(zB.row x1))]⟩ ?_
    cases h4 : (!r12)
    ·have H := zH h4 H
     refine nB_ ?_
     refine Tr.exit ?_
     refine aJ ?_
     obtain rfl := si H
     have H := Ho10
     dsimp only at H
     exact jA y3 H [8,3,0] [3]
    have H := zI h4 H
    refine tB_ ?_
    refine tK ?_
    refine tB ?_
    refine eA 3 265 8 ?_
    exact jB mo10 (IntKind.wrap .i64 (y3 + 1)) H [8,3,0] [3]
   rintro y4 H
   have H : (Js n x0 x1 y4) = some r := H
   unfold Js at H
   obtain ⟨hg5,H⟩ := gs H
   obtain ⟨r6,er6,H⟩ := bs H
   obtain ⟨hg7,H⟩ := gs H
   obtain ⟨hg8,H⟩ := gs H
   obtain ⟨hg9,H⟩ := gs H
   refine sT ⟨57,0,[sI 8 y4,sA 3 3 5 0,sC 0 (cF 5 x0 zB.row)],[(3,(zB.row x1))]⟩ ?_
   refine Tr.draws mixed 13 kr ⟨57,0,[sB 5 true,sC 4 (cL 5 ((r6 ++ [x1]) ++ ((x0.drop ((y4 : Int)).toNat).take ((((x0.length : Int) : Int)).toNat - ((y4 : Int)).toNat))) zB.row)],[]⟩ (zHk n x0 y4 r6 x1 hg5 er6 hg7 hg8 hg9) ?_
   exact te (fJ [(false,[cL 5 ((r6 ++ [x1]) ++ ((x0.drop ((y4 : Int)).toNat).take ((((x0.length : Int) : Int)).toNat - ((y4 : Int)).toNat))) zB.row]),(false,[cB true])] H)
  refine tA h2 ?_
  refine gA 3 112 0 ?_
  exact te (fJ [(false,[cL 5 r1 zB.row]),(false,[cB false])] H)
 refine tA h1 ?_
 refine rA 3 ?_
 obtain ⟨v13,ev13,H⟩ := bs H
 refine oA zB.row ev13 ?_
 refine sS (tI 169) true (zB.row x1) 6 0 (r2.toNat) 5 0 5 zB.row x1 (zY ev13).2 ?_
 refine dA 64 0 ?_
 refine gA 3 112 0 ?_
 exact te (fJ [(false,[cL 5 (r1.set (r2.toNat) x1) zB.row]),(false,[cB true])] H)
def Jr (n : Nat) (x0 : (List zB)) (x1 : Int) (x2 : Int) (x3 : Int) : Option ((List zB)) :=
  ((YC n x0 x1 x2).bind fun r1 => ((Yv n x0).bind fun r2 => (bif (!r2) then ((qH n x0).bind fun r9 => (some r9)) else ((JI n (⟨x1,x2,x3,0,false⟩ : zB)).bind fun r3 => (bif (!r3) then ((qH n x0).bind fun r8 => (some r8)) else (bif (decide (r1 ≥ 0)) then ((idx x0 r1).bind fun v5 => (bif v5.Sc then ((qH n x0).bind fun r7 => (some r7)) else ((zAJ n x0 (⟨x1,x2,x3,0,false⟩ : zB)).bind fun r6 => (some r6.1)))) else ((zAJ n x0 (⟨x1,x2,x3,0,false⟩ : zB)).bind fun r4 => (some r4.1))))))))
theorem zIX (n : Nat) (x0 : (List zB)) (x1 : Int) (x2 : Int) (x3 : Int) (r : (List zB)) (H : Jr n x0 x1 x2 x3 = some r) : zK Tryz.prog 88 [.val false [.sl false 5 (CV.frzEs (x0.map zB.row))],.val false [.lit (.int .i64 x1)],.val false [.lit (.int .i64 x2)],.val false [.lit (.int .i64 x3)]] [.val false [.sl true 5 (r.map zB.row)]] [] := by
 refine cW Tryz.func88 (fun g d => sl [g 0,g 1,g 2,sl [g 3] (cn 39 (sl [g 4] .ret) .skip),g 5,g 6] .ret) [.tmp 8] fun cx => ?_
 unfold Jr at H
 refine gA 1 15 0 ?_
 refine gA 6 519 512 ?_
 refine rA 3 ?_
 obtain ⟨r1,er1,H⟩ := bs H
 refine vA [.rd,.rd,.rd] (zCw n x0 x1 x2 r1 er1) ?_
 refine uA 1 1537 512 ?_
 refine tS ?_
 refine rA 1 ?_
 obtain ⟨r2,er2,H⟩ := bs H
 refine vA [.rd] (zE9 n x0 r2 er2) ?_
 refine lA 2 ?_
 refine sL 16778753 512 ⟨49,0,[sB 24 (!r2),sI 10 r1,sA 9 9 5 0,sC 0 (cF 5 x0 zB.row)],[(9,[cI x1,cI x2,cI x3,cI 0,cB false])]⟩ ?_
 cases h1 : (!r2)
 ·have H := zH h1 H
  refine lA 1 ?_
  obtain ⟨r3,er3,H⟩ := bs H
  refine vA [.rd] (zAz n (⟨x1,x2,x3,0,false⟩ : zB) r3 er3) ?_
  refine lA 3 ?_
  refine sL 536872449 512 ⟨49,0,[sB 29 (!r3),sI 10 r1,sA 9 9 5 0,sC 0 (cF 5 x0 zB.row)],[(9,[cI x1,cI x2,cI x3,cI 0,cB false])]⟩ ?_
  cases h2 : (!r3)
  ·have H := zH h2 H
   refine lA 3 ?_
   refine sL 4831839745 512 ⟨49,0,[sB 32 (decide (r1 ≥ 0)),sB 29 false,sI 10 r1,sA 9 9 5 0,sC 0 (cF 5 x0 zB.row)],[(9,[cI x1,cI x2,cI x3,cI 0,cB false])]⟩ ?_
   cases h3 : (decide (r1 ≥ 0))
   ·have H := zH h3 H
    refine uA 7 549755814401 512 ?_
    refine nB_ ?_
    refine tK ?_
    refine rA 2 ?_
    obtain ⟨r4,er4,H⟩ := bs H
    refine vA [.rd,.rd] (zHB n x0 (⟨x1,x2,x3,0,false⟩ : zB) r4 er4) ?_
    refine LAt.movT tOk (ty := 205) (t := 45) (d := 42) (g := none) [(false,[cL 5 r4.1 zB.row]),(false,[cB r4.2])] _ kr (.inl rfl) kr kr kr kr rfl ?_
    refine lA 2 ?_
    refine LAt.moveU (T := lk tab) (ty := 36) (x := (.tmp 46)) (d := 11) (g := none) false [cL 5 r4.1 zB.row] kr kr kr kr kr ?_
    refine uA 1 2048 0 ?_
    refine gA 2 2304 0 ?_
    exact te (fJ [(false,[cL 5 r4.1 zB.row])] H)
   have H := zI h3 H
   refine lA 2 ?_
   obtain ⟨v5,ev5,H⟩ := bs H
   refine iA zB.row ev5 ?_
   refine uA 4 549755814401 512 ?_
   obtain ⟨h4,H⟩ | ⟨h4,H⟩ := bC H
   ·refine nA h4 ?_
    refine tK ?_
    refine rA 2 ?_
    obtain ⟨r6,er6,H⟩ := bs H
    refine vA [.rd,.rd] (zHB n x0 (⟨x1,x2,x3,0,false⟩ : zB) r6 er6) ?_
    refine LAt.movT tOk (ty := 205) (t := 45) (d := 42) (g := none) [(false,[cL 5 r6.1 zB.row]),(false,[cB r6.2])] _ kr (.inl rfl) kr kr kr kr rfl ?_
    refine lA 2 ?_
    refine LAt.moveU (T := lk tab) (ty := 36) (x := (.tmp 46)) (d := 11) (g := none) false [cL 5 r6.1 zB.row] kr kr kr kr kr ?_
    refine uA 1 2048 0 ?_
    refine gA 2 2304 0 ?_
    exact te (fJ [(false,[cL 5 r6.1 zB.row])] H)
   refine tA h4 ?_
   refine rA 1 ?_
   obtain ⟨r7,er7,H⟩ := bs H
   refine vA [.rd] (qP n x0 r7 er7) ?_
   refine LAt.moveU (T := lk tab) (ty := 36) (x := (.tmp 41)) (d := 8) (g := none) false [cL 5 r7 zB.row] kr kr kr kr kr ?_
   refine dA 256 0 ?_
   exact te (fJ [(false,[cL 5 r7 zB.row])] H)
  have H := zI h2 H
  refine uA 10 549755814401 512 ?_
  refine tB_ ?_
  refine rA 1 ?_
  obtain ⟨r8,er8,H⟩ := bs H
  refine vA [.rd] (qP n x0 r8 er8) ?_
  refine LAt.moveU (T := lk tab) (ty := 36) (x := (.tmp 41)) (d := 8) (g := none) false [cL 5 r8 zB.row] kr kr kr kr kr ?_
  refine dA 256 0 ?_
  exact te (fJ [(false,[cL 5 r8 zB.row])] H)
 have H := zI h1 H
 refine uA 15 549755814401 512 ?_
 refine tB_ ?_
 refine rA 1 ?_
 obtain ⟨r9,er9,H⟩ := bs H
 refine vA [.rd] (qP n x0 r9 er9) ?_
 refine LAt.moveU (T := lk tab) (ty := 36) (x := (.tmp 41)) (d := 8) (g := none) false [cL 5 r9 zB.row] kr kr kr kr kr ?_
 refine dA 256 0 ?_
 exact te (fJ [(false,[cL 5 r9 zB.row])] H)
def Qs (n : Nat) (x0 : (List zB)) (x1 : Int) (x2 : Int) : Option (Int) :=
  ((YC n x0 x1 x2).bind fun r1 => (bif (decide (r1 < 0)) then (some (-1)) else ((idx x0 r1).bind fun v2 => (some v2.Port))))
theorem zCM (n : Nat) (x0 : (List zB)) (x1 : Int) (x2 : Int) (r : Int) (H : Qs n x0 x1 x2 = some r) : zK Tryz.prog 49 [.val false [.sl false 5 (CV.frzEs (x0.map zB.row))],.val false [.lit (.int .i64 x1)],.val false [.lit (.int .i64 x2)]] [.val false [.lit (.int .i64 r)]] [] := by
 refine cW Tryz.func49 (fun g d => sl [g 0,g 1,sl [g 2] (cn 13 (sl [g 3] .ret) .skip),g 4] .ret) [.tmp 6] fun cx => ?_
 unfold Qs at H
 refine gA 1 7 0 ?_
 refine rA 3 ?_
 obtain ⟨r1,er1,H⟩ := bs H
 refine vA [.rd,.rd,.rd] (zCw n x0 x1 x2 r1 er1) ?_
 refine uA 1 129 0 ?_
 refine tS ?_
 refine gA 2 8321 0 ?_
 obtain ⟨h1,H⟩ | ⟨h1,H⟩ := bC H
 ·refine nA h1 ?_
  refine tK ?_
  refine rA 2 ?_
  obtain ⟨v2,ev2,H⟩ := bs H
  refine iA zB.row ev2 ?_
  refine uA 3 64 0 ?_
  exact te (fJ [(false,[cI v2.Port])] H)
 refine tA h1 ?_
 refine gA 1 64 0 ?_
 exact te (fJ [(false,[cI (-1)])] H)
def qG (n : Nat) (x0 : zE) (x1 : Int) : Option (Int) :=
  ((Qg n x0 x1).bind fun r1 => (bif (decide (r1 < 0)) then (some 0) else ((idx x0.Rows r1).bind fun v2 => (some v2.Members))))
theorem Z6 (n : Nat) (x0 : zE) (x1 : Int) (r : Int) (H : qG n x0 x1 = some r) : zK Tryz.prog 46 [.val true (CV.frzRow (zE.row x0)),.val false [.lit (.int .i64 x1)]] [.val false [.lit (.int .i64 r)]] [] := by
 refine cW Tryz.func46 (fun g d => sl [g 0,g 1,sl [g 2] (cn 10 (sl [g 3] .ret) .skip),g 4] .ret) [.tmp 4] fun cx => ?_
 unfold qG at H
 refine gA 2 6 4 ?_
 refine rA 2 ?_
 obtain ⟨r1,er1,H⟩ := bs H
 refine vA [.rd,.rd] (zBY n x0 x1 r1 er1) ?_
 refine uA 1 36 4 ?_
 refine tS ?_
 refine gA 2 1060 4 ?_
 obtain ⟨h1,H⟩ | ⟨h1,H⟩ := bC H
 ·refine nA h1 ?_
  refine tK ?_
  refine rA 3 ?_
  obtain ⟨v2,ev2,H⟩ := bs H
  refine iA zC.row ev2 ?_
  refine uA 3 16 0 ?_
  exact te (fJ [(false,[cI v2.Members])] H)
 refine tA h1 ?_
 refine gA 1 16 0 ?_
 exact te (fJ [(false,[cI 0])] H)
def qc (n : Nat) (x0 : zE) (x1 : Int) (x2 : Int) : Option (Int) :=
  ((Qg n x0 x1).bind fun r1 => (bif (decide (r1 < 0)) then (some 0) else ((idx x0.Rows r1).bind fun v2 => ((ql n v2.Bare x2).bind fun r3 => (bif r3 then (some 0) else (some x1))))))
theorem qb (n : Nat) (x0 : zE) (x1 : Int) (x2 : Int) (r : Int) (H : qc n x0 x1 x2 = some r) : zK Tryz.prog 47 [.val true (CV.frzRow (zE.row x0)),.val false [.lit (.int .i64 x1)],.val false [.lit (.int .i64 x2)]] [.val false [.lit (.int .i64 r)]] [] := by
 refine cW Tryz.func47 (fun g d => sl [g 0,g 1,sl [g 2] (cn 22 (sl [g 3] .ret) .skip),g 4] .ret) [.tmp 6] fun cx => ?_
 unfold qc at H
 refine gA 2 14 8 ?_
 refine rA 2 ?_
 obtain ⟨r1,er1,H⟩ := bs H
 refine vA [.rd,.rd] (zBY n x0 x1 r1 er1) ?_
 refine uA 1 142 8 ?_
 refine tS ?_
 refine rA 3 ?_
 refine sL 8334 8 ⟨24,0,[sB 13 (decide (r1 < 0)),sI 7 r1,sA 3 3 2 0,sI 1 x1,sI 2 x2],[(3,(CV.frzRow (zE.row x0)))]⟩ ?_
 cases h1 : (decide (r1 < 0))
 ·have H := zH h1 H
  refine lA 3 ?_
  obtain ⟨v2,ev2,H⟩ := bs H
  refine iA zC.row ev2 ?_
  refine lA 3 ?_
  obtain ⟨r3,er3,H⟩ := bs H
  refine vA [.rd,.rd] (zAS n v2.Bare x2 r3 er3) ?_
  refine uA 1 4194306 0 ?_
  cases h2 : r3
  ·have H := zH h2 H
   refine nB_ ?_
   refine tK ?_
   refine gA 2 64 0 ?_
   exact te (fJ [(false,[cI x1])] H)
  have H := zI h2 H
  refine tB_ ?_
  refine gA 1 64 0 ?_
  exact te (fJ [(false,[cI 0])] H)
 have H := zI h1 H
 refine uA 9 4194306 0 ?_
 refine tB_ ?_
 refine gA 1 64 0 ?_
 exact te (fJ [(false,[cI 0])] H)
def Y2 (n : Nat) (x0 : (List Int)) : Option ((List Int)) :=
  (bif (decide (([] : List Int).length + x0.length ≤ 268435456)) then (some (([] : List Int) ++ x0)) else none)
theorem zFp (n : Nat) (x0 : (List Int)) (r : (List Int)) (H : Y2 n x0 = some r) : zK Tryz.prog 185 [.val false [.sl false 1 (CV.frzEs (x0.map zM))]] [.val false [.sl true 1 (r.map zM)]] [] := by
 refine cW Tryz.func185 (fun g d => sl [g 0,g 1] .ret) [.tmp 2] fun cx => ?_
 unfold Y2 at H
 refine gA 1 1 0 ?_
 refine rA 1 ?_
 obtain ⟨hg1,H⟩ := gs H
 refine LAt.appCU tOk (t := 30) (ty := 30) (e := 5) (x := (.const (.slice none 0 0))) (y := (.tmp 3)) (d := 4) (g := none) (tI 5) zM ([] : List Int) x0 ⟨(.slot 3),[],0,false,1,(CV.frzEs (x0.map zM))⟩ kr kr kr kr kr kr kr kr kr kr kr (.inr rfl) (fun _ => rfl) (fun _ => rfl) hg1 ?_
 refine LAt.moveU (T := lk tab) (ty := 30) (x := (.tmp 4)) (d := 2) (g := none) false [cL 1 (([] : List Int) ++ x0) zM] kr kr kr kr kr ?_
 refine dA 4 0 ?_
 exact te (fJ [(false,[cL 1 (([] : List Int) ++ x0) zM])] H)
def JG (n : Nat) (x0 : Frame) (x1 : Int) : Option (Frame) :=
  ((Y2 n x0.Data).bind fun r1 => (some (⟨x0.Dst,x0.Src,x1,r1⟩ : Frame)))
theorem zHh (n : Nat) (x0 : Frame) (x1 : Int) (r : Frame) (H : JG n x0 x1 = some r) : zK Tryz.prog 89 [.val true (CV.frzRow (Frame.row x0)),.val false [.lit (.int .i64 x1)]] [.val true (Frame.row r)] [] := by
 refine cW Tryz.func89 (fun g d => sl [g 0,g 1,g 2,g 3] .ret) [.cell 4 46] fun cx => ?_
 unfold JG at H
 refine gA 2 22 20 ?_
 refine rA 2 ?_
 obtain ⟨r1,er1,H⟩ := bs H
 refine vA [.rd] (zFp n x0.Data r1 er1) ?_
 refine uA 2 22 20 ?_
 refine gA 3 20 20 ?_
 refine gA 2 16 16 ?_
 exact te (fJ [(true,[cI x0.Dst,cI x0.Src,cI x1,cL 1 r1 zM])] H)
def Y0 (n : Nat) (r1 : zA) (r7 : (List zB)) (r8 : Int) (y12 : (List Out)) : Option (zA × (List Out)) :=
  (some ((⟨r1.Id,r1.Name,r1.Ps,r7,r1.V,r1.Tk,r1.Pa,r1.Wo,r1.Dr,r8⟩ : zA),y12))
def ZO (n : Nat) (k : (Int × (List Out) → Option (((List Out)) ⊕ (zA × (List Out))))) (r5 : Int × Bool) (x0 : zA) (x2 : Frame) (y10 : Int) (y11 : (List Out)) (y14 : Bool) : Option (((List Out)) ⊕ (zA × (List Out))) :=
  (bif y14 then ((qc n x0.V r5.1 y10).bind fun r15 => ((JG n x2 r15).bind fun r16 => (bif (decide (y11.length + [(⟨y10,r16⟩ : Out)].length ≤ 268435456)) then (k ((IntKind.wrap .i64 (y10 + 1)),(y11 ++ [(⟨y10,r16⟩ : Out)]))) else none))) else (k ((IntKind.wrap .i64 (y10 + 1)),y11)))
def qF (n : Nat) : Nat → Int → Int × Bool → zA → Int → Frame → Int → Int → (List Out) → Option (((List Out)) ⊕ (zA × (List Out)))
  | 0,_,_,_,_,_,_,_,_ => none
  | mo13 + 1,r4,r5,x0,x1,x2,y9,y10,y11 => (bif (decide (y10 < (x0.Ps.length : Int))) then (bif (y10 != x1) then ((qG n x0.V r5.1).bind fun r18 => ((ql n (IntKind.wrap .i64 (BitVec.ofInt (IntKind.bits .i64) r4 &&& BitVec.ofInt (IntKind.bits .i64) r18).toNat) y10).bind fun r19 => (bif r19 then (bif (decide (y9 < 0)) then (ZO n (fun v => qF n mo13 r4 r5 x0 x1 x2 y9 v.1 v.2) r5 x0 x2 y10 y11 true) else (ZO n (fun v => qF n mo13 r4 r5 x0 x1 x2 y9 v.1 v.2) r5 x0 x2 y10 y11 (y9 == y10))) else (ZO n (fun v => qF n mo13 r4 r5 x0 x1 x2 y9 v.1 v.2) r5 x0 x2 y10 y11 false)))) else (ZO n (fun v => qF n mo13 r4 r5 x0 x1 x2 y9 v.1 v.2) r5 x0 x2 y10 y11 false)) else (some (Sum.inl y11)))
def Zt (n : Nat) (r1 : zA) (r4 : Int) (r5 : Int × Bool) (r7 : (List zB)) (r8 : Int) (x0 : zA) (x1 : Int) (x2 : Frame) (y9 : Int) : Option (zA × (List Out)) :=
  ((qF n n r4 r5 x0 x1 x2 y9 0 ([] : List Out)).bind fun o => match o with | .inl y12 => (Y0 n r1 r7 r8 y12) | .inr r => some r)
def Yj (n : Nat) (x0 : zA) (x1 : Int) (x2 : Frame) : Option (zA × (List Out)) :=
  ((Qu n x0).bind fun r1 => ((JK n x0 x1).bind fun r2 => (bif (!r2) then (some (r1,([] : List Out))) else ((J5 n x2).bind fun r3 => (bif (!r3) then (some (r1,([] : List Out))) else ((Qh n x0.Id x0.Ps).bind fun r4 => ((QW n x0.V x1 x2.Tag).bind fun r5 => ((ql n r4 x1).bind fun r6 => (bif (!r6) then ((Yb n x0.Dr).bind fun r22 => (some ((⟨r1.Id,r1.Name,r1.Ps,r1.F,r1.V,r1.Tk,r1.Pa,r1.Wo,r22,r1.Ve⟩ : zA),([] : List Out)))) else (bif (!r5.2) then ((Yb n x0.Dr).bind fun r21 => (some ((⟨r1.Id,r1.Name,r1.Ps,r1.F,r1.V,r1.Tk,r1.Pa,r1.Wo,r21,r1.Ve⟩ : zA),([] : List Out)))) else ((Jr n x0.F r5.1 x2.Src x1).bind fun r7 => ((Yb n x0.Ve).bind fun r8 => (bif (x2.Dst != 0) then ((Qs n r7 r5.1 x2.Dst).bind fun r20 => (Zt n r1 r4 r5 r7 r8 x0 x1 x2 r20)) else (Zt n r1 r4 r5 r7 r8 x0 x1 x2 (-1)))))))))))))))
def zKL : Tab := ⟨13,[0,0,0,0,8,0,0,112,132,258,512,1281,4095],[0,0,0,0,8,0,0,112,132,258,512,1025,2049],[0,0,0,0,8,0,0,120,252,510,1022,2047,4095]⟩
theorem zA1 : z7 (rg Tryz.f14 19) zKL = true := kr
theorem zG7 (n : Nat) (x0 : zA) (x1 : Int) (x2 : Frame) (r : zA × (List Out)) (H : Yj n x0 x1 x2 = some r) : zK Tryz.prog 14 [.val true (CV.frzRow (zA.row x0)),.val false [.lit (.int .i64 x1)],.val true (CV.frzRow (Frame.row x2))] [.val true (zA.row r.1),.val false [.sl true 5 (r.2.map Out.row)]] [] := by
 refine cW Tryz.func14 (fun g d => sl [g 0,g 1,sl [g 2] (cn 25 (sl [g 3] .ret) .skip),g 4,g 5,sl [g 6] (cn 48 (sl [g 7,g 8] .ret) .skip),g 9,g 10,g 11,sl [g 12] (cn 68 (g 13) .skip),g 14,sl [g 15] (.block 0 (.loop (sl [g 16,cn 79 .skip (.exit 0),.block 1 (sl [g 17,g 18] (cn 102 (d 19) .skip))] (g 20)))),g 21] .ret) [.cell 6 41,.tmp 7] fun cx => ?_
 unfold Yj at H
 refine gA 4 106 104 ?_
 refine rA 1 ?_
 obtain ⟨r1,er1,H⟩ := bs H
 refine vA [.rd] (zFE n x0 r1 er1) ?_
 refine uA 2 362 360 ?_
 refine tS ?_
 refine rA 2 ?_
 obtain ⟨r2,er2,H⟩ := bs H
 refine vA [.rd,.rd] (zHj n x0 x1 r2 er2) ?_
 refine lA 2 ?_
 refine sL 2097514 360 ⟨118,0,[sB 21 (!r2),sA 8 8 11 0,sA 6 6 11 0,sA 5 5 4 0,sA 3 3 11 0,sI 1 x1],[(8,(zA.row r1)),(6,[cI 0,cS (⟨#[]⟩ : ByteArray),cL 8 ([] : List Pt) Pt.row,cL 5 ([] : List zB) zB.row,cL 3 ([] : List zC) zC.row,cL 1 ([] : List Int) intRow,cI 0,cI 0,cI 0,cI 0,cI 0]),(5,(CV.frzRow (Frame.row x2))),(3,(CV.frzRow (zA.row x0)))]⟩ ?_
 cases h1 : (!r2)
 ·have H := zH h1 H
  refine lA 1 ?_
  obtain ⟨r3,er3,H⟩ := bs H
  refine vA [.rd] (zG8 n x2 r3 er3) ?_
  refine uA 2 33554794 360 ?_
  obtain ⟨h2,H⟩ | ⟨h2,H⟩ := bC H
  ·refine nA h2 ?_
   refine tK ?_
   refine rA 4 ?_
   obtain ⟨r4,er4,H⟩ := bs H
   refine vA [.rd,.rd] (zFD n x0.Id x0.Ps r4 er4) ?_
   refine uA 1 874 360 ?_
   refine rA 5 ?_
   obtain ⟨r5,er5,H⟩ := bs H
   refine vA [.rd,.rd,.rd] (zDS n x0.V x1 x2.Tag r5 er5) ?_
   refine LAt.movT tOk (ty := 88) (t := 38) (d := 32) (g := none) [(false,[cI r5.1]),(false,[cB r5.2])] _ kr (.inl rfl) kr kr kr kr rfl ?_
   refine uA 4 3946 360 ?_
   refine tS ?_
   refine tS ?_
   refine Tr.at ?_
   refine lA 2 ?_
   obtain ⟨r6,er6,H⟩ := bs H
   refine vA [.rd,.rd] (zAS n r4 x1 r6 er6) ?_
   refine lA 2 ?_
   refine sL 35184372092778 360 ⟨118,0,[sB 45 (!r6),sB 11 r5.2,sI 10 r5.1,sI 9 r4,sA 8 8 11 0,sA 6 6 11 0,sA 5 5 4 0,sA 3 3 11 0,sI 1 x1],[(8,(zA.row r1)),(6,[cI 0,cS (⟨#[]⟩ : ByteArray),cL 8 ([] : List Pt) Pt.row,cL 5 ([] : List zB) zB.row,cL 3 ([] : List zC) zC.row,cL 1 ([] : List Int) intRow,cI 0,cI 0,cI 0,cI 0,cI 0]),(5,(CV.frzRow (Frame.row x2))),(3,(CV.frzRow (zA.row x0)))]⟩ ?_
   cases h3 : (!r6)
   ·have H := zH h3 H
    refine uA 3 281474976712554 360 ?_
    obtain ⟨h4,H⟩ | ⟨h4,H⟩ := bC H
    ·refine nA h4 ?_
     refine tK ?_
     refine rA 6 ?_
     obtain ⟨r7,er7,H⟩ := bs H
     refine vA [.rd,.rd,.rd,.rd] (zIX n x0.F r5.1 x2.Src x1 r7 er7) ?_
     refine uA 2 1898 360 ?_
     refine rA 2 ?_
     obtain ⟨r8,er8,H⟩ := bs H
     refine vA [.rd] (zDU n x0.Ve r8 er8) ?_
     refine uA 2 1898 360 ?_
     refine gA 1 5994 360 ?_
     refine tS ?_
     refine Tr.mid (ι := Int) (fun v => ⟨118,0,[sI 12 v,sI 10 r5.1,sI 9 r4,sA 8 8 11 0,sA 6 6 11 0,sA 5 5 4 0,sA 3 3 11 0,sI 1 x1],[(8,[cI r1.Id,cS r1.Name,cL 8 r1.Ps Pt.row,cL 5 r7 zB.row,cL 3 r1.V.Rows zC.row,cL 1 r1.V.Pv intRow,cI r1.Tk,cI r1.Pa,cI r1.Wo,cI r1.Dr,cI r8]),(6,[cI 0,cS (⟨#[]⟩ : ByteArray),cL 8 ([] : List Pt) Pt.row,cL 5 ([] : List zB) zB.row,cL 3 ([] : List zC) zC.row,cL 1 ([] : List Int) intRow,cI 0,cI 0,cI 0,cI 0,cI 0]),(5,(CV.frzRow (Frame.row x2))),(3,(CV.frzRow (zA.row x0)))]⟩) (fun v => Zt n r1 r4 r5 r7 r8 x0 x1 x2 v = some r) ?_ ?_
     ·refine gA 3 0x10000000000000176a 360 ?_
      obtain ⟨h10,H⟩ | ⟨h10,H⟩ := bC H
      ·refine nA h10 ?_
       refine tK ?_
       exact jA (-1) H [12,10,9,8,6,5,3,1] [8,6,5,3]
      refine tA h10 ?_
      refine Tr.at ?_
      refine lA 5 ?_
      obtain ⟨r20,er20,H⟩ := bs H
      refine vB [.rd,.rd,.rd] [.box 8] (zCM n r7 r5.1 x2.Dst r20 er20) (.inr (zO (zF zL zP) zb)) ?_
      refine uA 1 5994 360 ?_
      exact jA r20 H [12,10,9,8,6,5,3,1] [8,6,5,3]
     rintro y9 H
     have H : (Zt n r1 r4 r5 r7 r8 x0 x1 x2 y9) = some r := H
     unfold Zt at H
     refine gA 1 14186 360 ?_
     refine tS ?_
     refine rA 2 ?_
     refine kF x0.Ps Pt.row ?_
     refine uA 1 0x6000000000000000376a 360 ?_
     obtain ⟨o13,eo13,Ho13⟩ := bs H
     clear H
     refine Tr.mid (ι := (List Out)) (fun v => ⟨118,0,[sC 13 (cL 5 v Out.row),sA 8 8 11 0,sA 6 6 11 0],[(8,[cI r1.Id,cS r1.Name,cL 8 r1.Ps Pt.row,cL 5 r7 zB.row,cL 3 r1.V.Rows zC.row,cL 1 r1.V.Pv intRow,cI r1.Tk,cI r1.Pa,cI r1.Wo,cI r1.Dr,cI r8]),(6,[cI 0,cS (⟨#[]⟩ : ByteArray),cL 8 ([] : List Pt) Pt.row,cL 5 ([] : List zB) zB.row,cL 3 ([] : List zC) zC.row,cL 1 ([] : List Int) intRow,cI 0,cI 0,cI 0,cI 0,cI 0])]⟩) (fun v => Y0 n r1 r7 r8 v = some r) ?_ ?_
     ·refine tB ?_
      refine Tr.loop (ι := Nat × (Int × (List Out))) (fun v => ⟨118,0,[sI 78 v.2.1,sI 77 (x0.Ps.length : Int),sC 13 (cL 5 v.2.2 Out.row),sI 12 y9,sI 10 r5.1,sI 9 r4,sA 8 8 11 0,sA 6 6 11 0,sA 5 5 4 0,sA 3 3 11 0,sI 1 x1],[(8,[cI r1.Id,cS r1.Name,cL 8 r1.Ps Pt.row,cL 5 r7 zB.row,cL 3 r1.V.Rows zC.row,cL 1 r1.V.Pv intRow,cI r1.Tk,cI r1.Pa,cI r1.Wo,cI r1.Dr,cI r8]),(6,[cI 0,cS (⟨#[]⟩ : ByteArray),cL 8 ([] : List Pt) Pt.row,cL 5 ([] : List zB) zB.row,cL 3 ([] : List zC) zC.row,cL 1 ([] : List Int) intRow,cI 0,cI 0,cI 0,cI 0,cI 0]),(5,(CV.frzRow (Frame.row x2))),(3,(CV.frzRow (zA.row x0)))]⟩) (fun v => qF n v.1 r4 r5 x0 x1 x2 y9 v.2.1 v.2.2 = some o13) (fun v => v.1) (n,(0,([] : List Out))) eo13 (St.sub_of [78,77,13,12,10,9,8,6,5,3,1] [8,6,5,3] kr) ?_
      rintro ⟨mo13,y10,y11⟩ H
      have H : qF n mo13 r4 r5 x0 x1 x2 y9 y10 y11 = some o13 := H
      obtain _ | mo13 := mo13
      ·exact nN H
      rw [qF] at H
      refine gA 1 0xe000000000000000376a 360 ?_
      refine tS ?_
      obtain ⟨h5,H⟩ | ⟨h5,H⟩ := bC H
      ·refine nA h5 ?_
       refine Tr.exit ?_
       refine aJ ?_
       obtain rfl := si H
       have H := Ho13
       dsimp only at H
       exact jA y11 H [13,8,6] [8,6]
      refine tA h5 ?_
      refine tK ?_
      refine tS ?_
      refine tB ?_
      refine gA 2 0x6000000000000000776a 360 ?_
      refine tS ?_
      refine Tr.mid (ι := Bool) (fun v => ⟨118,0,[sB 102 v,sI 14 y10,sI 78 y10,sI 77 (x0.Ps.length : Int),sC 13 (cL 5 y11 Out.row),sI 12 y9,sI 10 r5.1,sI 9 r4,sA 8 8 11 0,sA 6 6 11 0,sA 5 5 4 0,sA 3 3 11 0,sI 1 x1],[(8,[cI r1.Id,cS r1.Name,cL 8 r1.Ps Pt.row,cL 5 r7 zB.row,cL 3 r1.V.Rows zC.row,cL 1 r1.V.Pv intRow,cI r1.Tk,cI r1.Pa,cI r1.Wo,cI r1.Dr,cI r8]),(6,[cI 0,cS (⟨#[]⟩ : ByteArray),cL 8 ([] : List Pt) Pt.row,cL 5 ([] : List zB) zB.row,cL 3 ([] : List zC) zC.row,cL 1 ([] : List Int) intRow,cI 0,cI 0,cI 0,cI 0,cI 0]),(5,(CV.frzRow (Frame.row x2))),(3,(CV.frzRow (zA.row x0)))]⟩) (fun v => ZO n (fun v => qF n mo13 r4 r5 x0 x1 x2 y9 v.1 v.2) r5 x0 x2 y10 y11 v = some o13) ?_ ?_
      ·refine Tr.at ?_
       refine lA 4 ?_
       refine sL 0x106000000000000000776a 360 ⟨118,0,[sB 84 (y10 != x1),sI 14 y10,sI 78 y10,sI 77 (x0.Ps.length : Int),sC 13 (cL 5 y11 Out.row),sI 12 y9,sI 10 r5.1,sI 9 r4,sA 8 8 11 0,sA 6 6 11 0,sA 5 5 4 0,sA 3 3 11 0,sI 1 x1],[(8,[cI r1.Id,cS r1.Name,cL 8 r1.Ps Pt.row,cL 5 r7 zB.row,cL 3 r1.V.Rows zC.row,cL 1 r1.V.Pv intRow,cI r1.Tk,cI r1.Pa,cI r1.Wo,cI r1.Dr,cI r8]),(6,[cI 0,cS (⟨#[]⟩ : ByteArray),cL 8 ([] : List Pt) Pt.row,cL 5 ([] : List zB) zB.row,cL 3 ([] : List zC) zC.row,cL 1 ([] : List Int) intRow,cI 0,cI 0,cI 0,cI 0,cI 0]),(5,(CV.frzRow (Frame.row x2))),(3,(CV.frzRow (zA.row x0)))]⟩ ?_
       cases h7 : (y10 != x1)
       ·have H := zH h7 H
        refine uA 18 0x4000006000000000000000776a 360 ?_
        exact jA false H [102,14,78,77,13,12,10,9,8,6,5,3,1] [8,6,5,3]
       have H := zI h7 H
       refine lA 4 ?_
       obtain ⟨r18,er18,H⟩ := bs H
       refine vA [.rd,.rd] (Z6 n x0.V r5.1 r18 er18) ?_
       refine lA 2 ?_
       obtain ⟨r19,er19,H⟩ := bs H
       refine vA [.rd,.rd] (zAS n (IntKind.wrap .i64 (BitVec.ofInt (IntKind.bits .i64) r4 &&& BitVec.ofInt (IntKind.bits .i64) r18).toNat) y10 r19 er19) ?_
       refine lA 2 ?_
       refine sL 0x40006000000000000000776a 360 ⟨118,0,[sB 94 r19,sI 14 y10,sI 78 y10,sI 77 (x0.Ps.length : Int),sC 13 (cL 5 y11 Out.row),sI 12 y9,sI 10 r5.1,sI 9 r4,sA 8 8 11 0,sA 6 6 11 0,sA 5 5 4 0,sA 3 3 11 0,sI 1 x1],[(8,[cI r1.Id,cS r1.Name,cL 8 r1.Ps Pt.row,cL 5 r7 zB.row,cL 3 r1.V.Rows zC.row,cL 1 r1.V.Pv intRow,cI r1.Tk,cI r1.Pa,cI r1.Wo,cI r1.Dr,cI r8]),(6,[cI 0,cS (⟨#[]⟩ : ByteArray),cL 8 ([] : List Pt) Pt.row,cL 5 ([] : List zB) zB.row,cL 3 ([] : List zC) zC.row,cL 1 ([] : List Int) intRow,cI 0,cI 0,cI 0,cI 0,cI 0]),(5,(CV.frzRow (Frame.row x2))),(3,(CV.frzRow (zA.row x0)))]⟩ ?_
       cases h8 : r19
       ·have H := zH h8 H
        refine uA 8 0x4000006000000000000000776a 360 ?_
        exact jA false H [102,14,78,77,13,12,10,9,8,6,5,3,1] [8,6,5,3]
       have H := zI h8 H
       refine lA 3 ?_
       refine sL 0x240006000000000000000776a 360 ⟨118,0,[sB 97 (decide (y9 < 0)),sB 94 true,sI 14 y10,sI 78 y10,sI 77 (x0.Ps.length : Int),sC 13 (cL 5 y11 Out.row),sI 12 y9,sI 10 r5.1,sI 9 r4,sA 8 8 11 0,sA 6 6 11 0,sA 5 5 4 0,sA 3 3 11 0,sI 1 x1],[(8,[cI r1.Id,cS r1.Name,cL 8 r1.Ps Pt.row,cL 5 r7 zB.row,cL 3 r1.V.Rows zC.row,cL 1 r1.V.Pv intRow,cI r1.Tk,cI r1.Pa,cI r1.Wo,cI r1.Dr,cI r8]),(6,[cI 0,cS (⟨#[]⟩ : ByteArray),cL 8 ([] : List Pt) Pt.row,cL 5 ([] : List zB) zB.row,cL 3 ([] : List zC) zC.row,cL 1 ([] : List Int) intRow,cI 0,cI 0,cI 0,cI 0,cI 0]),(5,(CV.frzRow (Frame.row x2))),(3,(CV.frzRow (zA.row x0)))]⟩ ?_
       cases h9 : (decide (y9 < 0))
       ·have H := zH h9 H
        refine uA 5 0x4000006000000000000000776a 360 ?_
        exact jA (y9 == y10) H [102,14,78,77,13,12,10,9,8,6,5,3,1] [8,6,5,3]
       have H := zI h9 H
       refine uA 5 0x4000006000000000000000776a 360 ?_
       exact jA true H [102,14,78,77,13,12,10,9,8,6,5,3,1] [8,6,5,3]
      rintro y14 H
      have H : (ZO n (fun v => qF n mo13 r4 r5 x0 x1 x2 y9 v.1 v.2) r5 x0 x2 y10 y11 y14) = some o13 := H
      unfold ZO at H
      cases h6 : y14
      ·have H := zH h6 H
       refine nB_ ?_
       refine tK ?_
       refine eA 2 0x6000000000000000376a 360 ?_
       exact jB mo13 ((IntKind.wrap .i64 (y10 + 1)),y11) H [78,77,13,12,10,9,8,6,5,3,1] [8,6,5,3]
      have H := zI h6 H
      refine tB_ ?_
      obtain ⟨r15,er15,H⟩ := bs H
      obtain ⟨r16,er16,H⟩ := bs H
      obtain ⟨hg17,H⟩ := gs H
      refine Tr.draw mixed 13 kr ⟨118,0,[sC 13 (cL 5 (y11 ++ [(⟨y10,r16⟩ : Out)]) Out.row),sI 78 y10,sI 77 (x0.Ps.length : Int),sI 12 y9,sI 10 r5.1,sI 9 r4,sA 8 8 11 0,sA 6 6 11 0,sA 5 5 4 0,sA 3 3 11 0,sI 1 x1],[(8,[cI r1.Id,cS r1.Name,cL 8 r1.Ps Pt.row,cL 5 r7 zB.row,cL 3 r1.V.Rows zC.row,cL 1 r1.V.Pv intRow,cI r1.Tk,cI r1.Pa,cI r1.Wo,cI r1.Dr,cI r8]),(6,[cI 0,cS (⟨#[]⟩ : ByteArray),cL 8 ([] : List Pt) Pt.row,cL 5 ([] : List zB) zB.row,cL 3 ([] : List zC) zC.row,cL 1 ([] : List Int) intRow,cI 0,cI 0,cI 0,cI 0,cI 0]),(5,(CV.frzRow (Frame.row x2))),(3,(CV.frzRow (zA.row x0)))]⟩ (fun cx => ?_) ?_
      ·refine mA zA1 [(0,[]),(1,[]),(2,[8,9,10,11]),(3,[]),(4,[7,8,9,10,11]),(5,[]),(6,[])] 6 [⟨[7,8,9,10,11],39,106,107⟩,⟨[8,9,10,11],46,5,105⟩] fun cx => ?_
       refine mC zA1 7 ?_
       refine vA [.rd,.rd,.rd] (qb n x0.V r5.1 y10 r15 er15) ?_
       refine fA ?_
       refine mC zA1 8 ?_
       refine vA [.rd,.rd] (zHh n x2 r15 r16 er16) ?_
       refine fA ?_
       refine mC zA1 9 ?_
       refine lA 1 ?_
       refine fA ?_
       refine mC zA1 10 ?_
       refine lA 1 ?_
       refine fA ?_
       refine mC zA1 11 ?_
       refine LAt.appMU tOk (t := 42) (ty := 42) (e := 94) (x := (.tmp 103)) (y := (.tmp 113)) (d := 114) (g := none) (tI 94) Out.row y11 [(⟨y10,r16⟩ : Out)] kr kr kr kr kr kr kr kr kr kr hg17 ?_
       refine fA ?_
       refine mC zA1 12 ?_
       refine LAt.moveU (T := lk tab) (ty := 42) (x := (.tmp 114)) (d := 13) (g := none) false [cL 5 (y11 ++ [(⟨y10,r16⟩ : Out)]) Out.row] kr kr kr kr kr ?_
       refine fA ?_
       exact mE zA1 [13,78,77,12,10,9,8,6,5,3,1] [8,6,5,3]
      refine eA 2 0x6000000000000000376a 360 ?_
      exact jB mo13 ((IntKind.wrap .i64 (y10 + 1)),(y11 ++ [(⟨y10,r16⟩ : Out)])) H [78,77,13,12,10,9,8,6,5,3,1] [8,6,5,3]
     rintro y12 H
     have H : (Y0 n r1 r7 r8 y12) = some r := H
     unfold Y0 at H
     refine gA 4 8384 64 ?_
     exact te (fJ [(true,[cI r1.Id,cS r1.Name,cL 8 r1.Ps Pt.row,cL 5 r7 zB.row,cL 3 r1.V.Rows zC.row,cL 1 r1.V.Pv intRow,cI r1.Tk,cI r1.Pa,cI r1.Wo,cI r1.Dr,cI r8]),(false,[cL 5 y12 Out.row])] H)
    refine tA h4 ?_
    refine rA 2 ?_
    obtain ⟨r21,er21,H⟩ := bs H
    refine vA [.rd] (zDU n x0.Dr r21 er21) ?_
    refine uA 2 320 320 ?_
    refine gA 3 192 64 ?_
    exact te (fJ [(true,[cI r1.Id,cS r1.Name,cL 8 r1.Ps Pt.row,cL 5 r1.F zB.row,cL 3 r1.V.Rows zC.row,cL 1 r1.V.Pv intRow,cI r1.Tk,cI r1.Pa,cI r1.Wo,cI r21,cI r1.Ve]),(false,[cL 5 ([] : List Out) Out.row])] H)
   have H := zI h3 H
   refine uA 3 281474976712554 360 ?_
   refine tB_ ?_
   refine rA 2 ?_
   obtain ⟨r22,er22,H⟩ := bs H
   refine vA [.rd] (zDU n x0.Dr r22 er22) ?_
   refine uA 2 320 320 ?_
   refine gA 3 192 64 ?_
   exact te (fJ [(true,[cI r1.Id,cS r1.Name,cL 8 r1.Ps Pt.row,cL 5 r1.F zB.row,cL 3 r1.V.Rows zC.row,cL 1 r1.V.Pv intRow,cI r1.Tk,cI r1.Pa,cI r1.Wo,cI r22,cI r1.Ve]),(false,[cL 5 ([] : List Out) Out.row])] H)
  refine tA h2 ?_
  refine gA 3 192 64 ?_
  exact te (fJ [(true,(zA.row r1)),(false,[cL 5 ([] : List Out) Out.row])] H)
 have H := zI h1 H
 refine uA 4 33554794 360 ?_
 refine tB_ ?_
 refine gA 3 192 64 ?_
 exact te (fJ [(true,(zA.row r1)),(false,[cL 5 ([] : List Out) Out.row])] H)
def Yq (n : Nat) (x0 : zA) : Option (zA) :=
  (bif (decide (([] : List Pt).length + x0.Ps.length ≤ 268435456)) then ((qD n x0.F).bind fun r2 => ((qp n x0.V).bind fun r3 => (some (⟨x0.Id,x0.Name,(([] : List Pt) ++ x0.Ps),r2,r3,x0.Tk,x0.Pa,x0.Wo,x0.Dr,x0.Ve⟩ : zA)))) else none)
theorem zHW (n : Nat) (x0 : zA) (r : zA) (H : Yq n x0 = some r) : zK Tryz.prog 68 [.val true (CV.frzRow (zA.row x0))] [.val true (zA.row r)] [] := by
 refine cW Tryz.func68 (fun g d => sl [g 0,g 1,g 2,g 3,g 4,g 5] .ret) [.cell 2 41] fun cx => ?_
 unfold Yq at H
 refine gA 2 6 6 ?_
 refine gA 3 14 14 ?_
 refine rA 3 ?_
 obtain ⟨hg1,H⟩ := gs H
 refine pD Pt.row hg1 ?_
 refine uA 2 14 14 ?_
 refine rA 2 ?_
 obtain ⟨r2,er2,H⟩ := bs H
 refine vA [.rd] (QK n x0.F r2 er2) ?_
 refine uA 2 14 14 ?_
 refine rA 2 ?_
 obtain ⟨r3,er3,H⟩ := bs H
 refine vA [.rd] (QL n x0.V r3 er3) ?_
 refine uA 2 12 12 ?_
 refine gA 2 4 4 ?_
 exact te (fJ [(true,[cI x0.Id,cS x0.Name,cL 8 (([] : List Pt) ++ x0.Ps) Pt.row,cL 5 r2 zB.row,cL 3 r3.Rows zC.row,cL 1 r3.Pv intRow,cI x0.Tk,cI x0.Pa,cI x0.Wo,cI x0.Dr,cI x0.Ve])] H)
def qr (n : Nat) (x0 : Vec) : Option (Bool) :=
  ((zU n x0.Root 1 99).bind fun r1 => (bif r1 then ((zU n x0.Co 0 100000).bind fun r2 => (bif r2 then ((zU n x0.Hops 0 10).bind fun r3 => (bif r3 then ((zU n x0.Bridge 1 99).bind fun r4 => (bif r4 then ((zU n x0.Port 0 7).bind fun r5 => (some r5)) else (some false))) else (some false))) else (some false))) else (some false)))
theorem zDB (n : Nat) (x0 : Vec) (r : Bool) (H : qr n x0 = some r) : zK Tryz.prog 161 [.val true (CV.frzRow (Vec.row x0))] [.val false [.lit (.bool r)]] [] := by
 refine cW Tryz.func161 (fun g d => sl [g 0,g 1] .ret) [.tmp 2] fun cx => ?_
 unfold qr at H
 refine gA 2 2 2 ?_
 refine rA 2 ?_
 obtain ⟨r1,er1,H⟩ := bs H
 refine vA [.rd,.rd,.rd] (zT n x0.Root 1 99 r1 er1) ?_
 refine lA 1 ?_
 refine sL 66 2 ⟨26,0,[sB 6 r1,sA 1 1 5 0],[(1,(Vec.row x0))]⟩ ?_
 cases h1 : r1
 ·have H := zH h1 H
  refine uA 20 4 0 ?_
  exact te (fF H)
 have H := zI h1 H
 refine lA 2 ?_
 obtain ⟨r2,er2,H⟩ := bs H
 refine vA [.rd,.rd,.rd] (zT n x0.Co 0 100000 r2 er2) ?_
 refine lA 2 ?_
 refine sL 2050 2 ⟨26,0,[sB 11 r2,sA 1 1 5 0],[(1,(Vec.row x0))]⟩ ?_
 cases h2 : r2
 ·have H := zH h2 H
  refine uA 15 4 0 ?_
  exact te (fF H)
 have H := zI h2 H
 refine lA 2 ?_
 obtain ⟨r3,er3,H⟩ := bs H
 refine vA [.rd,.rd,.rd] (zT n x0.Hops 0 10 r3 er3) ?_
 refine lA 2 ?_
 refine sL 65538 2 ⟨26,0,[sB 16 r3,sA 1 1 5 0],[(1,(Vec.row x0))]⟩ ?_
 cases h3 : r3
 ·have H := zH h3 H
  refine uA 10 4 0 ?_
  exact te (fF H)
 have H := zI h3 H
 refine lA 2 ?_
 obtain ⟨r4,er4,H⟩ := bs H
 refine vA [.rd,.rd,.rd] (zT n x0.Bridge 1 99 r4 er4) ?_
 refine lA 2 ?_
 refine sL 2097154 2 ⟨26,0,[sB 21 r4,sA 1 1 5 0],[(1,(Vec.row x0))]⟩ ?_
 cases h4 : r4
 ·have H := zH h4 H
  refine uA 5 4 0 ?_
  exact te (fF H)
 have H := zI h4 H
 refine lA 2 ?_
 obtain ⟨r5,er5,H⟩ := bs H
 refine vA [.rd,.rd,.rd] (zT n x0.Port 0 7 r5 er5) ?_
 refine uA 2 4 0 ?_
 exact te (fJ [(false,[cB r5])] H)
def qK (n : Nat) (x0 : Pt) : Option (Bool) :=
  ((zU n x0.Co 1 1000).bind fun r1 => (bif (!r1) then (some false) else (bif (!x0.Up) then (bif x0.Has then (some false) else (some ((x0.Hd.Root == 0) && ((x0.Hd.Co == 0) && ((x0.Hd.Hops == 0) && ((x0.Hd.Bridge == 0) && ((x0.Hd.Port == 0) && true))))))) else (bif (!x0.Has) then (some ((x0.Hd.Root == 0) && ((x0.Hd.Co == 0) && ((x0.Hd.Hops == 0) && ((x0.Hd.Bridge == 0) && ((x0.Hd.Port == 0) && true)))))) else ((qr n x0.Hd).bind fun r2 => (some r2))))))
theorem zJG (n : Nat) (x0 : Pt) (r : Bool) (H : qK n x0 = some r) : zK Tryz.prog 226 [.val true (CV.frzRow (Pt.row x0))] [.val false [.lit (.bool r)]] [] := by
 refine cW Tryz.func226 (fun g d => sl [g 0,sl [g 1] (cn 15 (sl [g 2] .ret) .skip),sl [g 3] (cn 18 (sl [g 4] .ret) .skip),g 5] .ret) [.tmp 2] fun cx => ?_
 unfold qK at H
 refine gA 2 2 2 ?_
 refine tS ?_
 refine rA 2 ?_
 obtain ⟨r1,er1,H⟩ := bs H
 refine vA [.rd,.rd,.rd] (zT n x0.Co 1 1000 r1 er1) ?_
 refine lA 2 ?_
 refine sL 130 2 ⟨26,0,[sB 7 (!r1),sA 1 1 8 0],[(1,(Pt.row x0))]⟩ ?_
 cases h1 : (!r1)
 ·have H := zH h1 H
  refine lA 4 ?_
  refine sL 2178 2 ⟨26,0,[sB 11 (!x0.Up),sB 7 false,sA 1 1 8 0],[(1,(Pt.row x0))]⟩ ?_
  cases h2 : (!x0.Up)
  ·have H := zH h2 H
   refine uA 4 32770 2 ?_
   refine nB_ ?_
   refine tK ?_
   refine tS ?_
   refine gA 3 262146 2 ?_
   obtain ⟨h3,H⟩ | ⟨h3,H⟩ := bC H
   ·refine nA h3 ?_
    refine tK ?_
    refine rA 2 ?_
    obtain ⟨r2,er2,H⟩ := bs H
    refine vA [.rd] (zDB n x0.Hd r2 er2) ?_
    refine uA 1 4 0 ?_
    exact te (fJ [(false,[cB r2])] H)
   refine tA h3 ?_
   refine rA 3 ?_
   refine LAt.eqSG false (t := 165) (ty := 165) (ty' := 4) (x := (.tmp 20)) (y := (.tmp 21)) (d := 22) (g := none) ((x0.Hd.Root == 0) && ((x0.Hd.Co == 0) && ((x0.Hd.Hops == 0) && ((x0.Hd.Bridge == 0) && ((x0.Hd.Port == 0) && true))))) _ kr kr kr kr rfl ?_
   refine uA 1 4 0 ?_
   exact te (fJ [(false,[cB ((x0.Hd.Root == 0) && ((x0.Hd.Co == 0) && ((x0.Hd.Hops == 0) && ((x0.Hd.Bridge == 0) && ((x0.Hd.Port == 0) && true)))))])] H)
  have H := zI h2 H
  refine uA 4 32770 2 ?_
  refine sT ⟨26,0,[sB 15 x0.Has,sA 1 1 8 0],[(1,(Pt.row x0))]⟩ ?_
  cases h4 : x0.Has
  ·have H := zH h4 H
   refine nB_ ?_
   refine tK ?_
   refine tS ?_
   refine gA 3 262146 2 ?_
   refine sT ⟨26,0,[sB 18 (!x0.Has),sA 1 1 8 0],[(1,(Pt.row x0))]⟩ ?_
   rw [h4]
   refine tB_ ?_
   refine rA 3 ?_
   refine LAt.eqSG false (t := 165) (ty := 165) (ty' := 4) (x := (.tmp 20)) (y := (.tmp 21)) (d := 22) (g := none) ((x0.Hd.Root == 0) && ((x0.Hd.Co == 0) && ((x0.Hd.Hops == 0) && ((x0.Hd.Bridge == 0) && ((x0.Hd.Port == 0) && true))))) _ kr kr kr kr rfl ?_
   refine uA 1 4 0 ?_
   exact te (fJ [(false,[cB ((x0.Hd.Root == 0) && ((x0.Hd.Co == 0) && ((x0.Hd.Hops == 0) && ((x0.Hd.Bridge == 0) && ((x0.Hd.Port == 0) && true)))))])] H)
  have H := zI h4 H
  refine tB_ ?_
  refine gA 1 4 0 ?_
  exact te (fF H)
 have H := zI h1 H
 refine uA 8 32770 2 ?_
 refine tB_ ?_
 refine gA 1 4 0 ?_
 exact te (fF H)
def QS (n : Nat) (x0 : zA) : Option (Bool) :=
  ((zU n x0.Tk 0 1000000).bind fun r1 => (bif r1 then ((zU n x0.Pa 0 1000000).bind fun r2 => (bif r2 then ((zU n x0.Wo 0 1000000).bind fun r3 => (bif r3 then ((zU n x0.Dr 0 1000000).bind fun r4 => (bif r4 then ((zU n x0.Ve 0 1000000).bind fun r5 => (some r5)) else (some false))) else (some false))) else (some false))) else (some false)))
theorem zGC (n : Nat) (x0 : zA) (r : Bool) (H : QS n x0 = some r) : zK Tryz.prog 228 [.val true (CV.frzRow (zA.row x0))] [.val false [.lit (.bool r)]] [] := by
 refine cW Tryz.func228 (fun g d => sl [g 0,g 1] .ret) [.tmp 2] fun cx => ?_
 unfold QS at H
 refine gA 2 2 2 ?_
 refine rA 2 ?_
 obtain ⟨r1,er1,H⟩ := bs H
 refine vA [.rd,.rd,.rd] (zT n x0.Tk 0 1000000 r1 er1) ?_
 refine lA 1 ?_
 refine sL 66 2 ⟨26,0,[sB 6 r1,sA 1 1 11 0],[(1,(CV.frzRow (zA.row x0)))]⟩ ?_
 cases h1 : r1
 ·have H := zH h1 H
  refine uA 20 4 0 ?_
  exact te (fF H)
 have H := zI h1 H
 refine lA 2 ?_
 obtain ⟨r2,er2,H⟩ := bs H
 refine vA [.rd,.rd,.rd] (zT n x0.Pa 0 1000000 r2 er2) ?_
 refine lA 2 ?_
 refine sL 2050 2 ⟨26,0,[sB 11 r2,sA 1 1 11 0],[(1,(CV.frzRow (zA.row x0)))]⟩ ?_
 cases h2 : r2
 ·have H := zH h2 H
  refine uA 15 4 0 ?_
  exact te (fF H)
 have H := zI h2 H
 refine lA 2 ?_
 obtain ⟨r3,er3,H⟩ := bs H
 refine vA [.rd,.rd,.rd] (zT n x0.Wo 0 1000000 r3 er3) ?_
 refine lA 2 ?_
 refine sL 65538 2 ⟨26,0,[sB 16 r3,sA 1 1 11 0],[(1,(CV.frzRow (zA.row x0)))]⟩ ?_
 cases h3 : r3
 ·have H := zH h3 H
  refine uA 10 4 0 ?_
  exact te (fF H)
 have H := zI h3 H
 refine lA 2 ?_
 obtain ⟨r4,er4,H⟩ := bs H
 refine vA [.rd,.rd,.rd] (zT n x0.Dr 0 1000000 r4 er4) ?_
 refine lA 2 ?_
 refine sL 2097154 2 ⟨26,0,[sB 21 r4,sA 1 1 11 0],[(1,(CV.frzRow (zA.row x0)))]⟩ ?_
 cases h4 : r4
 ·have H := zH h4 H
  refine uA 5 4 0 ?_
  exact te (fF H)
 have H := zI h4 H
 refine lA 2 ?_
 obtain ⟨r5,er5,H⟩ := bs H
 refine vA [.rd,.rd,.rd] (zT n x0.Ve 0 1000000 r5 er5) ?_
 refine uA 2 4 0 ?_
 exact te (fJ [(false,[cB r5])] H)
def Zg (n : Nat) (x0 : zA) : Option (Bool) :=
  ((zU n x0.Id 1 99).bind fun r2 => (bif r2 then (bif (decide ((x0.Name.size : Int) ≤ 10)) then ((zU n (x0.Ps.length : Int) 1 6).bind fun r3 => (bif r3 then ((qj n x0.F).bind fun r4 => (bif r4 then ((zq n x0.V (x0.Ps.length : Int)).bind fun r5 => (bif r5 then ((QS n x0).bind fun r6 => (some r6)) else (some false))) else (some false))) else (some false))) else (some false)) else (some false)))
def zl (n : Nat) : Nat → zA → Int → Option ((Unit) ⊕ (Bool))
  | 0,_,_ => none
  | mo7 + 1,x0,y1 => (bif (decide (y1 < (x0.Ps.length : Int))) then ((idx x0.Ps y1).bind fun v8 => ((qK n v8).bind fun r9 => (bif (!r9) then (some (Sum.inr false)) else (zl n mo7 x0 (IntKind.wrap .i64 (y1 + 1)))))) else (some (Sum.inl ())))
def qT (n : Nat) (x0 : zA) : Option (Bool) :=
  ((zl n n x0 0).bind fun o => match o with | .inl _ => (Zg n x0) | .inr r => some r)
theorem zGj (n : Nat) (x0 : zA) (r : Bool) (H : qT n x0 = some r) : zK Tryz.prog 168 [.val true (CV.frzRow (zA.row x0))] [.val false [.lit (.bool r)]] [] := by
 refine cW Tryz.func168 (fun g d => sl [g 0,sl [g 1] (.block 0 (.loop (sl [sl [g 2] (cn 8 .skip (.exit 0)),.block 1 (sl [g 4] (cn 17 (sl [g 5] .ret) .skip))] (g 3)))),g 6] .ret) [.tmp 2] fun cx => ?_
 unfold qT at H
 refine gA 2 2 2 ?_
 refine tS ?_
 refine gA 1 10 2 ?_
 obtain ⟨o7,eo7,Ho7⟩ := bs H
 clear H
 refine Tr.mid (ι := Unit) (fun v => ⟨50,0,[sA 1 1 11 0],[(1,(CV.frzRow (zA.row x0)))]⟩) (fun v => Zg n x0 = some r) ?_ ?_
 ·refine tB ?_
  refine Tr.loop (ι := Nat × (Int)) (fun v => ⟨50,0,[sI 3 v.2,sA 1 1 11 0],[(1,(CV.frzRow (zA.row x0)))]⟩) (fun v => zl n v.1 x0 v.2 = some o7) (fun v => v.1) (n,0) eo7 (St.sub_of [3,1] [1] kr) ?_
  rintro ⟨mo7,y1⟩ H
  have H : zl n mo7 x0 y1 = some o7 := H
  obtain _ | mo7 := mo7
  ·exact nN H
  rw [zl] at H
  refine tS ?_
  refine rA 3 ?_
  refine kF x0.Ps Pt.row ?_
  refine uA 1 266 2 ?_
  obtain ⟨h6,H⟩ | ⟨h6,H⟩ := bC H
  ·refine nA h6 ?_
   refine Tr.exit ?_
   refine aJ ?_
   obtain rfl := si H
   have H := Ho7
   dsimp only at H
   exact jA () H [1] [1]
  refine tA h6 ?_
  refine tK ?_
  refine tS ?_
  refine tB ?_
  refine rA 3 ?_
  obtain ⟨v8,ev8,H⟩ := bs H
  refine iA Pt.row ev8 ?_
  refine lA 1 ?_
  obtain ⟨r9,er9,H⟩ := bs H
  refine vA [.rd] (zJG n v8 r9 er9) ?_
  refine uA 1 131082 2 ?_
  obtain ⟨h7,H⟩ | ⟨h7,H⟩ := bC H
  ·refine nA h7 ?_
   refine tK ?_
   refine eA 3 10 2 ?_
   exact jB mo7 (IntKind.wrap .i64 (y1 + 1)) H [3,1] [1]
  refine tA h7 ?_
  refine gA 1 4 0 ?_
  refine te ?_
  obtain rfl := si H
  have H := Ho7
  dsimp only at H
  exact fF H
 rintro _ H
 have H : (Zg n x0) = some r := H
 unfold Zg at H
 refine rA 2 ?_
 obtain ⟨r2,er2,H⟩ := bs H
 refine vA [.rd,.rd,.rd] (zT n x0.Id 1 99 r2 er2) ?_
 refine lA 1 ?_
 refine sL 2097154 2 ⟨50,0,[sB 21 r2,sA 1 1 11 0],[(1,(CV.frzRow (zA.row x0)))]⟩ ?_
 cases h1 : r2
 ·have H := zH h1 H
  refine uA 29 4 0 ?_
  exact te (fF H)
 have H := zI h1 H
 refine lA 6 ?_
 refine sL 134217730 2 ⟨50,0,[sB 27 (decide ((x0.Name.size : Int) ≤ 10)),sA 1 1 11 0],[(1,(CV.frzRow (zA.row x0)))]⟩ ?_
 cases h2 : (decide ((x0.Name.size : Int) ≤ 10))
 ·have H := zH h2 H
  refine uA 23 4 0 ?_
  exact te (fF H)
 have H := zI h2 H
 refine lA 2 ?_
 refine kF x0.Ps Pt.row ?_
 obtain ⟨r3,er3,H⟩ := bs H
 refine vA [.rd,.rd,.rd] (zT n (x0.Ps.length : Int) 1 6 r3 er3) ?_
 refine lA 2 ?_
 refine sL 8589934594 2 ⟨50,0,[sB 33 r3,sA 1 1 11 0],[(1,(CV.frzRow (zA.row x0)))]⟩ ?_
 cases h3 : r3
 ·have H := zH h3 H
  refine uA 17 4 0 ?_
  exact te (fF H)
 have H := zI h3 H
 refine lA 2 ?_
 obtain ⟨r4,er4,H⟩ := bs H
 refine vA [.rd] (zDA n x0.F r4 er4) ?_
 refine lA 2 ?_
 refine sL 274877906946 2 ⟨50,0,[sB 38 r4,sA 1 1 11 0],[(1,(CV.frzRow (zA.row x0)))]⟩ ?_
 cases h4 : r4
 ·have H := zH h4 H
  refine uA 12 4 0 ?_
  exact te (fF H)
 have H := zI h4 H
 refine lA 4 ?_
 refine kF x0.Ps Pt.row ?_
 obtain ⟨r5,er5,H⟩ := bs H
 refine vA [.rd,.rd] (Jw n x0.V (x0.Ps.length : Int) r5 er5) ?_
 refine lA 2 ?_
 refine sL 70368744177666 2 ⟨50,0,[sB 46 r5,sA 1 1 11 0],[(1,(CV.frzRow (zA.row x0)))]⟩ ?_
 cases h5 : r5
 ·have H := zH h5 H
  refine uA 4 4 0 ?_
  exact te (fF H)
 have H := zI h5 H
 refine lA 1 ?_
 obtain ⟨r6,er6,H⟩ := bs H
 refine vA [.rd] (zGC n x0 r6 er6) ?_
 refine uA 2 4 0 ?_
 exact te (fJ [(false,[cB r6])] H)
def YT (n : Nat) (x0 : zA) (x1 : Int) : Option (Bool) :=
  ((qT n x0).bind fun r1 => (bif r1 then ((zU n x1 0 (IntKind.wrap .i64 ((x0.Ps.length : Int) - 1))).bind fun r2 => (some r2)) else (some false)))
theorem zGo (n : Nat) (x0 : zA) (x1 : Int) (r : Bool) (H : YT n x0 x1 = some r) : zK Tryz.prog 69 [.val true (CV.frzRow (zA.row x0)),.val false [.lit (.int .i64 x1)]] [.val false [.lit (.bool r)]] [] := by
 refine cW Tryz.func69 (fun g d => sl [g 0,g 1] .ret) [.tmp 4] fun cx => ?_
 unfold YT at H
 refine gA 2 6 4 ?_
 refine rA 1 ?_
 obtain ⟨r1,er1,H⟩ := bs H
 refine vA [.rd] (zGj n x0 r1 er1) ?_
 refine lA 1 ?_
 refine sL 134 4 ⟨15,0,[sB 7 r1,sA 2 2 11 0,sI 1 x1],[(2,(CV.frzRow (zA.row x0)))]⟩ ?_
 cases h1 : r1
 ·have H := zH h1 H
  refine uA 8 16 0 ?_
  exact te (fF H)
 have H := zI h1 H
 refine lA 3 ?_
 refine kF x0.Ps Pt.row ?_
 refine lA 1 ?_
 obtain ⟨r2,er2,H⟩ := bs H
 refine vA [.rd,.rd,.rd] (zT n x1 0 (IntKind.wrap .i64 ((x0.Ps.length : Int) - 1)) r2 er2) ?_
 refine uA 2 16 0 ?_
 exact te (fJ [(false,[cB r2])] H)
def ZD (n : Nat) (x0 : Frame) : Option (Bool) :=
  ((zU n x0.Dst 0 9999).bind fun r1 => (bif r1 then ((zU n x0.Src 1 9999).bind fun r2 => (bif r2 then ((zU n x0.Tag 0 99).bind fun r3 => (bif r3 then (some (decide ((x0.Data.length : Int) ≤ 20))) else (some false))) else (some false))) else (some false)))
theorem zHT (n : Nat) (x0 : Frame) (r : Bool) (H : ZD n x0 = some r) : zK Tryz.prog 70 [.val true (CV.frzRow (Frame.row x0))] [.val false [.lit (.bool r)]] [] := by
 refine cW Tryz.func70 (fun g d => sl [g 0,g 1] .ret) [.tmp 2] fun cx => ?_
 unfold ZD at H
 refine gA 2 2 2 ?_
 refine rA 2 ?_
 obtain ⟨r1,er1,H⟩ := bs H
 refine vA [.rd,.rd,.rd] (zT n x0.Dst 0 9999 r1 er1) ?_
 refine lA 1 ?_
 refine sL 66 2 ⟨22,0,[sB 6 r1,sA 1 1 4 0],[(1,(CV.frzRow (Frame.row x0)))]⟩ ?_
 cases h1 : r1
 ·have H := zH h1 H
  refine uA 16 4 0 ?_
  exact te (fF H)
 have H := zI h1 H
 refine lA 2 ?_
 obtain ⟨r2,er2,H⟩ := bs H
 refine vA [.rd,.rd,.rd] (zT n x0.Src 1 9999 r2 er2) ?_
 refine lA 2 ?_
 refine sL 2050 2 ⟨22,0,[sB 11 r2,sA 1 1 4 0],[(1,(CV.frzRow (Frame.row x0)))]⟩ ?_
 cases h2 : r2
 ·have H := zH h2 H
  refine uA 11 4 0 ?_
  exact te (fF H)
 have H := zI h2 H
 refine lA 2 ?_
 obtain ⟨r3,er3,H⟩ := bs H
 refine vA [.rd,.rd,.rd] (zT n x0.Tag 0 99 r3 er3) ?_
 refine lA 2 ?_
 refine sL 65538 2 ⟨22,0,[sB 16 r3,sA 1 1 4 0],[(1,(CV.frzRow (Frame.row x0)))]⟩ ?_
 cases h3 : r3
 ·have H := zH h3 H
  refine uA 6 4 0 ?_
  exact te (fF H)
 have H := zI h3 H
 refine lA 2 ?_
 refine kF x0.Data zM ?_
 refine uA 3 4 0 ?_
 exact te (fJ [(false,[cB (decide ((x0.Data.length : Int) ≤ 20))])] H)
def Q0 (n : Nat) (x0 : Vec) (x1 : Int) : Option (Vec × Bool) :=
  ((qr n x0).bind fun r1 => (bif (!r1) then (some (x0,false)) else ((zU n x1 1 1000).bind fun r2 => (bif (!r2) then (some (x0,false)) else ((qr n (⟨x0.Root,(IntKind.wrap .i64 (x0.Co + x1)),(IntKind.wrap .i64 (x0.Hops + 1)),x0.Bridge,x0.Port⟩ : Vec)).bind fun r3 => (bif (!r3) then (some (x0,false)) else (some ((⟨x0.Root,(IntKind.wrap .i64 (x0.Co + x1)),(IntKind.wrap .i64 (x0.Hops + 1)),x0.Bridge,x0.Port⟩ : Vec),true))))))))
theorem zDm (n : Nat) (x0 : Vec) (x1 : Int) (r : Vec × Bool) (H : Q0 n x0 x1 = some r) : zK Tryz.prog 253 [.val true (CV.frzRow (Vec.row x0)),.val false [.lit (.int .i64 x1)]] [.val true (Vec.row r.1),.val false [.lit (.bool r.2)]] [] := by
 refine cW Tryz.func253 (fun g d => sl [g 0,sl [g 1] (cn 14 (sl [g 2] .ret) .skip),g 3,g 4,g 5,sl [g 6] (cn 28 (sl [g 7] .ret) .skip),g 8] .ret) [.cell 4 165,.tmp 5] fun cx => ?_
 unfold Q0 at H
 refine gA 3 22 20 ?_
 refine tS ?_
 refine rA 1 ?_
 obtain ⟨r1,er1,H⟩ := bs H
 refine vA [.rd] (zDB n x0 r1 er1) ?_
 refine lA 2 ?_
 refine sL 1046 20 ⟨31,0,[sB 10 (!r1),sA 4 4 5 0,sA 2 2 5 0,sI 1 x1],[(4,[cI 0,cI 0,cI 0,cI 0,cI 0]),(2,(Vec.row x0))]⟩ ?_
 cases h1 : (!r1)
 ·have H := zH h1 H
  refine lA 1 ?_
  obtain ⟨r2,er2,H⟩ := bs H
  refine vA [.rd,.rd,.rd] (zT n x1 1 1000 r2 er2) ?_
  refine uA 2 16406 20 ?_
  obtain ⟨h2,H⟩ | ⟨h2,H⟩ := bC H
  ·refine nA h2 ?_
   refine tK ?_
   refine gA 3 86 84 ?_
   refine gA 6 84 84 ?_
   refine gA 5 84 84 ?_
   refine tS ?_
   refine rA 1 ?_
   obtain ⟨r3,er3,H⟩ := bs H
   refine vA [.rd] (zDB n (⟨x0.Root,(IntKind.wrap .i64 (x0.Co + x1)),(IntKind.wrap .i64 (x0.Hops + 1)),x0.Bridge,x0.Port⟩ : Vec) r3 er3) ?_
   refine uA 1 268435540 84 ?_
   obtain ⟨h3,H⟩ | ⟨h3,H⟩ := bC H
   ·refine nA h3 ?_
    refine tK ?_
    refine gA 3 48 16 ?_
    exact te (fJ [(true,[cI x0.Root,cI (IntKind.wrap .i64 (x0.Co + x1)),cI (IntKind.wrap .i64 (x0.Hops + 1)),cI x0.Bridge,cI x0.Port]),(false,[cB true])] H)
   refine tA h3 ?_
   refine gA 3 48 16 ?_
   exact te (fJ [(true,(Vec.row x0)),(false,[cB false])] H)
  refine tA h2 ?_
  refine gA 3 48 16 ?_
  exact te (fJ [(true,(Vec.row x0)),(false,[cB false])] H)
 have H := zI h1 H
 refine uA 4 16406 20 ?_
 refine tB_ ?_
 refine gA 3 48 16 ?_
 exact te (fJ [(true,(Vec.row x0)),(false,[cB false])] H)
def QY (n : Nat) (x0 : Vec) (x1 : Vec) : Option (Bool) :=
  (bif (x0.Root != x1.Root) then (some (decide (x0.Root < x1.Root))) else (bif (x0.Co != x1.Co) then (some (decide (x0.Co < x1.Co))) else (bif (x0.Bridge != x1.Bridge) then (some (decide (x0.Bridge < x1.Bridge))) else (some (decide (x0.Port < x1.Port))))))
theorem zDk (n : Nat) (x0 : Vec) (x1 : Vec) (r : Bool) (H : QY n x0 x1 = some r) : zK Tryz.prog 230 [.val true (CV.frzRow (Vec.row x0)),.val true (CV.frzRow (Vec.row x1))] [.val false [.lit (.bool r)]] [] := by
 refine cW Tryz.func230 (fun g d => sl [g 0,.block 0 (sl [g 1] (cn 5 (sl [g 2] .ret) (sl [g 3] (cn 16 (sl [g 4] .ret) (sl [g 5] (cn 27 (sl [g 6] .ret) .skip)))))),g 7] .ret) [.tmp 4] fun cx => ?_
 unfold QY at H
 refine gA 3 12 12 ?_
 refine tS ?_
 refine tB ?_
 refine gA 6 44 12 ?_
 obtain ⟨h1,H⟩ | ⟨h1,H⟩ := bC H
 ·refine nA h1 ?_
  refine gA 6 65548 12 ?_
  obtain ⟨h2,H⟩ | ⟨h2,H⟩ := bC H
  ·refine nA h2 ?_
   refine gA 6 134217740 12 ?_
   obtain ⟨h3,H⟩ | ⟨h3,H⟩ := bC H
   ·refine nA h3 ?_
    refine tK ?_
    refine gA 6 16 0 ?_
    exact te (fJ [(false,[cB (decide (x0.Port < x1.Port))])] H)
   refine tA h3 ?_
   refine gA 6 16 0 ?_
   exact te (fJ [(false,[cB (decide (x0.Bridge < x1.Bridge))])] H)
  refine tA h2 ?_
  refine gA 6 16 0 ?_
  exact te (fJ [(false,[cB (decide (x0.Co < x1.Co))])] H)
 refine tA h1 ?_
 refine gA 6 16 0 ?_
 exact te (fJ [(false,[cB (decide (x0.Root < x1.Root))])] H)
def Y5 (n : Nat) (x0 : Int) (y11 : Int) (y12 : Int) (y13 : Int) (y14 : Int) : Option (Vec × Int) :=
  (some ((⟨y12,y13,y14,x0,0⟩ : Vec),y11))
def q3 (n : Nat) (k : (Int × Int × Int × Int × Int × Int × Int × Int × Int × Int → Option ((Int × Int × Int × Int) ⊕ (Vec × Int)))) (r20 : Vec × Bool) (y1 : Int) (y10 : Int) (y2 : Int) (y3 : Int) (y4 : Int) (y5 : Int) (y6 : Int) (y7 : Int) (y8 : Int) (y9 : Int) (y21 : Bool) (y22 : Bool) (y23 : Bool) (y24 : Bool) (y25 : Bool) (y26 : Bool) (y27 : Bool) : Option ((Int × Int × Int × Int) ⊕ (Vec × Int)) :=
  (bif y21 then (k ((IntKind.wrap .i64 (y1 + 1)),y1,r20.1.Root,r20.1.Co,r20.1.Hops,r20.1.Bridge,r20.1.Port,r20.1.Root,r20.1.Co,r20.1.Hops)) else (k ((IntKind.wrap .i64 (y1 + 1)),y2,y3,y4,y5,y6,y7,y8,y9,y10)))
def z6 (n : Nat) : Nat → Int → (List Pt) → Int → Int → Int → Int → Int → Int → Int → Int → Int → Int → Option ((Int × Int × Int × Int) ⊕ (Vec × Int))
  | 0,_,_,_,_,_,_,_,_,_,_,_,_ => none
  | mo15 + 1,x0,x1,y1,y2,y3,y4,y5,y6,y7,y8,y9,y10 => (bif (decide (y1 < (x1.length : Int))) then ((idx x1 y1).bind fun v16 => (bif (!v16.Up) then (z6 n mo15 x0 x1 (IntKind.wrap .i64 (y1 + 1)) y2 y3 y4 y5 y6 y7 y8 y9 y10) else ((idx x1 y1).bind fun v17 => (bif (!v17.Has) then (z6 n mo15 x0 x1 (IntKind.wrap .i64 (y1 + 1)) y2 y3 y4 y5 y6 y7 y8 y9 y10) else ((idx x1 y1).bind fun v18 => ((idx x1 y1).bind fun v19 => ((Q0 n v18.Hd v19.Co).bind fun r20 => (bif r20.2 then (bif (decide (r20.1.Root < x0)) then (bif (decide (y2 < 0)) then (q3 n (fun v => z6 n mo15 x0 x1 v.1 v.2.1 v.2.2.1 v.2.2.2.1 v.2.2.2.2.1 v.2.2.2.2.2.1 v.2.2.2.2.2.2.1 v.2.2.2.2.2.2.2.1 v.2.2.2.2.2.2.2.2.1 v.2.2.2.2.2.2.2.2.2) r20 y1 y10 y2 y3 y4 y5 y6 y7 y8 y9 true true true true true true true) else ((QY n r20.1 (⟨y3,y4,y5,y6,y7⟩ : Vec)).bind fun r28 => (q3 n (fun v => z6 n mo15 x0 x1 v.1 v.2.1 v.2.2.1 v.2.2.2.1 v.2.2.2.2.1 v.2.2.2.2.2.1 v.2.2.2.2.2.2.1 v.2.2.2.2.2.2.2.1 v.2.2.2.2.2.2.2.2.1 v.2.2.2.2.2.2.2.2.2) r20 y1 y10 y2 y3 y4 y5 y6 y7 y8 y9 r28 true true true true true true))) else (q3 n (fun v => z6 n mo15 x0 x1 v.1 v.2.1 v.2.2.1 v.2.2.2.1 v.2.2.2.2.1 v.2.2.2.2.2.1 v.2.2.2.2.2.2.1 v.2.2.2.2.2.2.2.1 v.2.2.2.2.2.2.2.2.1 v.2.2.2.2.2.2.2.2.2) r20 y1 y10 y2 y3 y4 y5 y6 y7 y8 y9 false false false true true true true)) else (q3 n (fun v => z6 n mo15 x0 x1 v.1 v.2.1 v.2.2.1 v.2.2.2.1 v.2.2.2.2.1 v.2.2.2.2.2.1 v.2.2.2.2.2.2.1 v.2.2.2.2.2.2.2.1 v.2.2.2.2.2.2.2.2.1 v.2.2.2.2.2.2.2.2.2) r20 y1 y10 y2 y3 y4 y5 y6 y7 y8 y9 false false false false false false false))))))))) else (some (Sum.inl (y2,y8,y9,y10))))
def Z9 (n : Nat) (x0 : Int) (x1 : (List Pt)) : Option (Vec × Int) :=
  ((z6 n n x0 x1 0 (-1) 0 0 0 0 0 x0 0 0).bind fun o => match o with | .inl (y11,y12,y13,y14) => (Y5 n x0 y11 y12 y13 y14) | .inr r => some r)
def zKV : Tab := ⟨17,[0,0,3,4,8,0,0,96,128,256,528,1024,2048,2048,0,24575,65535],[0,0,3,4,8,0,0,96,128,256,528,1024,2048,2048,0,20480,8192],[0,0,3,7,15,0,0,96,224,480,1023,2047,4095,4095,0,24575,65535]⟩
theorem Zh : z7 (rg Tryz.f229 8) zKV = true := kr
theorem zDi (n : Nat) (x0 : Int) (x1 : (List Pt)) (r : Vec × Int) (H : Z9 n x0 x1 = some r) : zK Tryz.prog 229 [.val false [.lit (.int .i64 x0)],.val false [.sl false 8 (CV.frzEs (x1.map Pt.row))]] [.val true (Vec.row r.1),.val false [.lit (.int .i64 r.2)]] [] := by
 refine cW Tryz.func229 (fun g d => sl [g 0,g 1,g 2,g 3,sl [g 4] (.block 0 (.loop (sl [sl [g 5] (cn 19 .skip (.exit 0)),.block 1 (sl [sl [g 7] (cn 35 (.exit 1) .skip),d 8,g 9] (cn 65 (sl [g 10,g 11] (g 12)) .skip))] (g 6)))),g 13] .ret) [.cell 4 165,.tmp 5] fun cx => ?_
 unfold Z9 at H
 refine gA 2 51 16 ?_
 refine gA 5 115 80 ?_
 refine gA 3 243 208 ?_
 refine gA 1 499 208 ?_
 refine tS ?_
 refine gA 1 1011 208 ?_
 obtain ⟨o15,eo15,Ho15⟩ := bs H
 clear H
 refine Tr.mid (ι := Int × Int × Int × Int) (fun v => ⟨78,0,[sI 8 v.1,sA 6 6 5 0,sI 5 0,sA 4 4 5 0],[(6,[cI v.2.1,cI v.2.2.1,cI v.2.2.2,cI x0,cI 0]),(4,[cI 0,cI 0,cI 0,cI 0,cI 0])]⟩) (fun v => Y5 n x0 v.1 v.2.1 v.2.2.1 v.2.2.2 = some r) ?_ ?_
 ·refine tB ?_
  refine Tr.loop (ι := Nat × (Int × Int × Int × Int × Int × Int × Int × Int × Int × Int)) (fun v => ⟨78,0,[sI 9 v.2.1,sI 8 v.2.2.1,sA 7 7 5 0,sA 6 6 5 0,sI 5 0,sA 4 4 5 0,sI 0 x0,sC 1 (cF 8 x1 Pt.row)],[(7,[cI v.2.2.2.1,cI v.2.2.2.2.1,cI v.2.2.2.2.2.1,cI v.2.2.2.2.2.2.1,cI v.2.2.2.2.2.2.2.1]),(6,[cI v.2.2.2.2.2.2.2.2.1,cI v.2.2.2.2.2.2.2.2.2.1,cI v.2.2.2.2.2.2.2.2.2.2,cI x0,cI 0]),(4,[cI 0,cI 0,cI 0,cI 0,cI 0])]⟩) (fun v => z6 n v.1 x0 x1 v.2.1 v.2.2.1 v.2.2.2.1 v.2.2.2.2.1 v.2.2.2.2.2.1 v.2.2.2.2.2.2.1 v.2.2.2.2.2.2.2.1 v.2.2.2.2.2.2.2.2.1 v.2.2.2.2.2.2.2.2.2.1 v.2.2.2.2.2.2.2.2.2.2 = some o15) (fun v => v.1) (n,(0,(-1),0,0,0,0,0,x0,0,0)) eo15 (St.sub_of [9,8,7,6,5,4,0,1] [7,6,4] kr) ?_
  rintro ⟨mo15,y1,y2,y3,y4,y5,y6,y7,y8,y9,y10⟩ H
  have H : z6 n mo15 x0 x1 y1 y2 y3 y4 y5 y6 y7 y8 y9 y10 = some o15 := H
  obtain _ | mo15 := mo15
  ·exact nN H
  rw [z6] at H
  refine tS ?_
  refine rA 2 ?_
  refine kF x1 Pt.row ?_
  refine uA 1 984051 208 ?_
  obtain ⟨h1,H⟩ | ⟨h1,H⟩ := bC H
  ·refine nA h1 ?_
   refine Tr.exit ?_
   refine aJ ?_
   obtain rfl := si H
   have H := Ho15
   dsimp only at H
   exact jA (y2,y8,y9,y10) H [8,6,5,4] [6,4]
  refine tA h1 ?_
  refine tK ?_
  refine tS ?_
  refine tB ?_
  refine tS ?_
  refine rA 2 ?_
  obtain ⟨v16,ev16,H⟩ := bs H
  refine iA Pt.row ev16 ?_
  refine lA 4 ?_
  refine sL 533660659 208 ⟨78,0,[sB 28 (!v16.Up),sB 27 (!v16.Up),sB 26 v16.Up,(25,.fad ((Pt.row v16))),(24,.fad ((Pt.row v16))),sI 23 y1,sC 22 (cF 8 x1 Pt.row),sB 19 (decide (y1 < (x1.length : Int))),sI 18 (x1.length : Int),sC 17 (cF 8 x1 Pt.row),sI 16 y1,sI 9 y1,sI 8 y2,sA 7 7 5 0,sA 6 6 5 0,sI 5 0,sA 4 4 5 0,sI 0 x0,sC 1 (cF 8 x1 Pt.row)],[(7,[cI y3,cI y4,cI y5,cI y6,cI y7]),(6,[cI y8,cI y9,cI y10,cI x0,cI 0]),(4,[cI 0,cI 0,cI 0,cI 0,cI 0])]⟩ ?_
  cases h2 : (!v16.Up)
  ·have H := zH h2 H
   refine lA 2 ?_
   obtain ⟨v17,ev17,H⟩ := bs H
   refine iA Pt.row ev17 ?_
   refine uA 4 68716266483 208 ?_
   obtain ⟨h3,H⟩ | ⟨h3,H⟩ := bC H
   ·refine nA h3 ?_
    refine tK ?_
    obtain ⟨v18,ev18,H⟩ := bs H
    obtain ⟨v19,ev19,H⟩ := bs H
    obtain ⟨r20,er20,H⟩ := bs H
    refine Tr.draws mixed 17 kr ⟨78,0,[sB 11 r20.2,sA 10 10 5 0,sB 49 r20.2,(36,.tup [(true,[.dead,.dead,.dead,.dead,.dead]),(false,[.dead])]),sV 48 (Vec.row r20.1),sI 46 v19.Co,(45,.fad (((Pt.row v19).drop 1))),(44,.fad ((Pt.row v19))),sI 43 y1,sC 42 (cF 8 x1 Pt.row),sV 41 ((Pt.row v18).drop 3),(40,.fad (((Pt.row v18).drop 3))),(39,.fad ((Pt.row v18))),sI 38 y1,sC 37 (cF 8 x1 Pt.row),sB 35 (!v17.Has),sB 34 (!v17.Has),sB 33 v17.Has,(32,.fad (((Pt.row v17).drop 2))),(31,.fad ((Pt.row v17))),sI 30 y1,sC 29 (cF 8 x1 Pt.row),sB 28 false,sB 27 false,sB 26 v16.Up,(25,.fad ((Pt.row v16))),(24,.fad ((Pt.row v16))),sI 23 y1,sC 22 (cF 8 x1 Pt.row),sB 19 (decide (y1 < (x1.length : Int))),sI 18 (x1.length : Int),sC 17 (cF 8 x1 Pt.row),sI 16 y1,sI 9 y1,sI 8 y2,sA 7 7 5 0,sA 6 6 5 0,sI 5 0,sA 4 4 5 0,sI 0 x0,sC 1 (cF 8 x1 Pt.row)],[(10,(Vec.row r20.1)),(7,[cI y3,cI y4,cI y5,cI y6,cI y7]),(6,[cI y8,cI y9,cI y10,cI x0,cI 0]),(4,[cI 0,cI 0,cI 0,cI 0,cI 0])]⟩ (fun cx => ?_) ?_
    ·refine mA Zh [(0,[]),(1,[])] 15 [] fun cx => ?_
     refine iN Zh 2 Pt.row ev18 fun cx => ?_
     refine mA Zh [(3,[]),(4,[]),(5,[]),(6,[])] 10 [] fun cx => ?_
     refine iN Zh 7 Pt.row ev19 fun cx => ?_
     refine mA Zh [(8,[]),(9,[])] 7 [] fun cx => ?_
     refine mB2 tOk Zh 10 14 kr (And.intro kr ?_) (And.intro kr ?_)
     ·refine vA [.rd,.rd] (zDm n v18.Hd v19.Co r20 er20) ?_
      refine fA ?_
      refine AT.movT tOk 11 (ty := 255) (t := 47) (d := 36) (g := none) [(true,(Vec.row r20.1)),(false,[cB r20.2])] _ kr (oM Zh kr) (dM Zh kr) (.inl rfl) kr kr kr kr rfl (fun cx => ?_)
      refine mA Zh [(12,[]),(13,[])] 3 [] fun cx => ?_
      refine mC Zh 14 ?_
      refine lA 1 ?_
      refine fA ?_
      refine mC Zh 15 ?_
      refine lA 1 ?_
      refine fA ?_
      refine mA Zh [(16,[])] 0 [] fun cx => ?_
      exact mE Zh [11,10,49,36,48,46,45,44,43,42,41,40,39,38,37,35,34,33,32,31,30,29,28,27,26,25,24,23,22,19,18,17,16,9,8,7,6,5,4,0,1] [10,7,6,4]
     ·refine lA 1 ?_
      refine fA ?_
      refine mC Zh 10 ?_
      refine vA [.rd,.rd] (zDm n v18.Hd v19.Co r20 er20) ?_
      refine fA ?_
      refine AT.movT tOk 11 (ty := 255) (t := 47) (d := 36) (g := none) [(true,(Vec.row r20.1)),(false,[cB r20.2])] _ kr (oM Zh kr) (dM Zh kr) (.inl rfl) kr kr kr kr rfl (fun cx => ?_)
      refine mA Zh [(12,[]),(13,[])] 2 [] fun cx => ?_
      refine mC Zh 15 ?_
      refine lA 1 ?_
      refine fA ?_
      refine mA Zh [(16,[])] 0 [] fun cx => ?_
      exact mE Zh [11,10,49,36,48,46,45,44,43,42,41,40,39,38,37,35,34,33,32,31,30,29,28,27,26,25,24,23,22,19,18,17,16,9,8,7,6,5,4,0,1] [10,7,6,4]
    refine tS ?_
    refine Tr.mid (ι := Bool × Bool × Bool × Bool × Bool × Bool × Bool) (fun v => ⟨78,0,[sB 65 v.1,sB 57 v.2.1,sB 56 v.2.2.1,sB 51 v.2.2.2.1,sB 50 v.2.2.2.2.1,sB 11 v.2.2.2.2.2.1,sA 10 10 5 0,sB 49 v.2.2.2.2.2.2,(36,.tup [(true,[.dead,.dead,.dead,.dead,.dead]),(false,[.dead])]),sV 48 (Vec.row r20.1),sI 46 v19.Co,(45,.fad (((Pt.row v19).drop 1))),(44,.fad ((Pt.row v19))),sI 43 y1,sC 42 (cF 8 x1 Pt.row),sV 41 ((Pt.row v18).drop 3),(40,.fad (((Pt.row v18).drop 3))),(39,.fad ((Pt.row v18))),sI 38 y1,sC 37 (cF 8 x1 Pt.row),sB 35 false,sB 34 false,sB 33 v17.Has,(32,.fad (((Pt.row v17).drop 2))),(31,.fad ((Pt.row v17))),sI 30 y1,sC 29 (cF 8 x1 Pt.row),sB 28 false,sB 27 false,sB 26 v16.Up,(25,.fad ((Pt.row v16))),(24,.fad ((Pt.row v16))),sI 23 y1,sC 22 (cF 8 x1 Pt.row),sB 19 true,sI 18 (x1.length : Int),sC 17 (cF 8 x1 Pt.row),sI 16 y1,sI 9 y1,sI 8 y2,sA 7 7 5 0,sA 6 6 5 0,sI 5 0,sA 4 4 5 0,sI 0 x0,sC 1 (cF 8 x1 Pt.row)],[(10,(Vec.row r20.1)),(7,[cI y3,cI y4,cI y5,cI y6,cI y7]),(6,[cI y8,cI y9,cI y10,cI x0,cI 0]),(4,[cI 0,cI 0,cI 0,cI 0,cI 0])]⟩) (fun v => q3 n (fun v => z6 n mo15 x0 x1 v.1 v.2.1 v.2.2.1 v.2.2.2.1 v.2.2.2.2.1 v.2.2.2.2.2.1 v.2.2.2.2.2.2.1 v.2.2.2.2.2.2.2.1 v.2.2.2.2.2.2.2.2.1 v.2.2.2.2.2.2.2.2.2) r20 y1 y10 y2 y3 y4 y5 y6 y7 y8 y9 v.1 v.2.1 v.2.2.1 v.2.2.2.1 v.2.2.2.2.1 v.2.2.2.2.2.1 v.2.2.2.2.2.2 = some o15) ?_ ?_
    ·refine Tr.at ?_
     refine lA 2 ?_
     refine sL 0xf7fffffcf0ff3 1232 ⟨78,0,[sB 51 r20.2,sB 50 r20.2,sB 11 r20.2,sA 10 10 5 0,sB 49 r20.2,(36,.tup [(true,[.dead,.dead,.dead,.dead,.dead]),(false,[.dead])]),sV 48 (Vec.row r20.1),sI 46 v19.Co,(45,.fad (((Pt.row v19).drop 1))),(44,.fad ((Pt.row v19))),sI 43 y1,sC 42 (cF 8 x1 Pt.row),sV 41 ((Pt.row v18).drop 3),(40,.fad (((Pt.row v18).drop 3))),(39,.fad ((Pt.row v18))),sI 38 y1,sC 37 (cF 8 x1 Pt.row),sB 35 (!v17.Has),sB 34 (!v17.Has),sB 33 v17.Has,(32,.fad (((Pt.row v17).drop 2))),(31,.fad ((Pt.row v17))),sI 30 y1,sC 29 (cF 8 x1 Pt.row),sB 28 false,sB 27 false,sB 26 v16.Up,(25,.fad ((Pt.row v16))),(24,.fad ((Pt.row v16))),sI 23 y1,sC 22 (cF 8 x1 Pt.row),sB 19 (decide (y1 < (x1.length : Int))),sI 18 (x1.length : Int),sC 17 (cF 8 x1 Pt.row),sI 16 y1,sI 9 y1,sI 8 y2,sA 7 7 5 0,sA 6 6 5 0,sI 5 0,sA 4 4 5 0,sI 0 x0,sC 1 (cF 8 x1 Pt.row)],[(10,(Vec.row r20.1)),(7,[cI y3,cI y4,cI y5,cI y6,cI y7]),(6,[cI y8,cI y9,cI y10,cI x0,cI 0]),(4,[cI 0,cI 0,cI 0,cI 0,cI 0])]⟩ ?_
     cases h5 : r20.2
     ·have H := zH h5 H
      refine uA 14 0x3ffff7fffffcf0ff3 1232 ?_
      refine sB' 0x3ffff7fffffcf0ff3 1232 ⟨78,0,[sB 65 false,(64,.tup []),(63,.tup []),(62,.tup []),(61,.tup []),(60,.tup []),(59,.tup []),(58,.tup []),sB 57 false,sB 56 false,(55,.tup []),(54,.tup []),(53,.tup []),(52,.tup []),sB 51 false,sB 50 false,sB 11 false,sA 10 10 5 0,sB 49 false,(36,.tup [(true,[.dead,.dead,.dead,.dead,.dead]),(false,[.dead])]),sV 48 (Vec.row r20.1),sI 46 v19.Co,(45,.fad (((Pt.row v19).drop 1))),(44,.fad ((Pt.row v19))),sI 43 y1,sC 42 (cF 8 x1 Pt.row),sV 41 ((Pt.row v18).drop 3),(40,.fad (((Pt.row v18).drop 3))),(39,.fad ((Pt.row v18))),sI 38 y1,sC 37 (cF 8 x1 Pt.row),sB 35 (!v17.Has),sB 34 (!v17.Has),sB 33 v17.Has,(32,.fad (((Pt.row v17).drop 2))),(31,.fad ((Pt.row v17))),sI 30 y1,sC 29 (cF 8 x1 Pt.row),sB 28 false,sB 27 false,sB 26 v16.Up,(25,.fad ((Pt.row v16))),(24,.fad ((Pt.row v16))),sI 23 y1,sC 22 (cF 8 x1 Pt.row),sB 19 (decide (y1 < (x1.length : Int))),sI 18 (x1.length : Int),sC 17 (cF 8 x1 Pt.row),sI 16 y1,sI 9 y1,sI 8 y2,sA 7 7 5 0,sA 6 6 5 0,sI 5 0,sA 4 4 5 0,sI 0 x0,sC 1 (cF 8 x1 Pt.row)],[(10,(Vec.row r20.1)),(7,[cI y3,cI y4,cI y5,cI y6,cI y7]),(6,[cI y8,cI y9,cI y10,cI x0,cI 0]),(4,[cI 0,cI 0,cI 0,cI 0,cI 0])]⟩ ?_
      rw [h1]
      rw [h3]
      exact jA (false,false,false,false,false,false,false) H [65,57,56,51,50,11,10,49,36,48,46,45,44,43,42,41,40,39,38,37,35,34,33,32,31,30,29,28,27,26,25,24,23,22,19,18,17,16,9,8,7,6,5,4,0,1] [10,7,6,4]
     have H := zI h5 H
     refine lA 6 ?_
     refine sL 0x3ff7fffffcf0ff3 1232 ⟨78,0,[sB 57 (decide (r20.1.Root < x0)),sB 56 (decide (r20.1.Root < x0)),sB 55 (decide (r20.1.Root < x0)),sI 54 x0,sI 53 r20.1.Root,sA 52 10 5 0,sB 51 true,sB 50 true,sB 11 true,sA 10 10 5 0,sB 49 true,(36,.tup [(true,[.dead,.dead,.dead,.dead,.dead]),(false,[.dead])]),sV 48 (Vec.row r20.1),sI 46 v19.Co,(45,.fad (((Pt.row v19).drop 1))),(44,.fad ((Pt.row v19))),sI 43 y1,sC 42 (cF 8 x1 Pt.row),sV 41 ((Pt.row v18).drop 3),(40,.fad (((Pt.row v18).drop 3))),(39,.fad ((Pt.row v18))),sI 38 y1,sC 37 (cF 8 x1 Pt.row),sB 35 (!v17.Has),sB 34 (!v17.Has),sB 33 v17.Has,(32,.fad (((Pt.row v17).drop 2))),(31,.fad ((Pt.row v17))),sI 30 y1,sC 29 (cF 8 x1 Pt.row),sB 28 false,sB 27 false,sB 26 v16.Up,(25,.fad ((Pt.row v16))),(24,.fad ((Pt.row v16))),sI 23 y1,sC 22 (cF 8 x1 Pt.row),sB 19 (decide (y1 < (x1.length : Int))),sI 18 (x1.length : Int),sC 17 (cF 8 x1 Pt.row),sI 16 y1,sI 9 y1,sI 8 y2,sA 7 7 5 0,sA 6 6 5 0,sI 5 0,sA 4 4 5 0,sI 0 x0,sC 1 (cF 8 x1 Pt.row)],[(10,(Vec.row r20.1)),(7,[cI y3,cI y4,cI y5,cI y6,cI y7]),(6,[cI y8,cI y9,cI y10,cI x0,cI 0]),(4,[cI 0,cI 0,cI 0,cI 0,cI 0])]⟩ ?_
     cases h6 : (decide (r20.1.Root < x0))
     ·have H := zH h6 H
      refine uA 8 0x3ffff7fffffcf0ff3 1232 ?_
      refine sB' 0x3ffff7fffffcf0ff3 1232 ⟨78,0,[sB 65 false,(64,.tup []),(63,.tup []),(62,.tup []),(61,.tup []),(60,.tup []),(59,.tup []),(58,.tup []),sB 57 false,sB 56 false,sB 55 false,sI 54 x0,sI 53 r20.1.Root,sA 52 10 5 0,sB 51 true,sB 50 true,sB 11 true,sA 10 10 5 0,sB 49 true,(36,.tup [(true,[.dead,.dead,.dead,.dead,.dead]),(false,[.dead])]),sV 48 (Vec.row r20.1),sI 46 v19.Co,(45,.fad (((Pt.row v19).drop 1))),(44,.fad ((Pt.row v19))),sI 43 y1,sC 42 (cF 8 x1 Pt.row),sV 41 ((Pt.row v18).drop 3),(40,.fad (((Pt.row v18).drop 3))),(39,.fad ((Pt.row v18))),sI 38 y1,sC 37 (cF 8 x1 Pt.row),sB 35 (!v17.Has),sB 34 (!v17.Has),sB 33 v17.Has,(32,.fad (((Pt.row v17).drop 2))),(31,.fad ((Pt.row v17))),sI 30 y1,sC 29 (cF 8 x1 Pt.row),sB 28 false,sB 27 false,sB 26 v16.Up,(25,.fad ((Pt.row v16))),(24,.fad ((Pt.row v16))),sI 23 y1,sC 22 (cF 8 x1 Pt.row),sB 19 (decide (y1 < (x1.length : Int))),sI 18 (x1.length : Int),sC 17 (cF 8 x1 Pt.row),sI 16 y1,sI 9 y1,sI 8 y2,sA 7 7 5 0,sA 6 6 5 0,sI 5 0,sA 4 4 5 0,sI 0 x0,sC 1 (cF 8 x1 Pt.row)],[(10,(Vec.row r20.1)),(7,[cI y3,cI y4,cI y5,cI y6,cI y7]),(6,[cI y8,cI y9,cI y10,cI x0,cI 0]),(4,[cI 0,cI 0,cI 0,cI 0,cI 0])]⟩ ?_
      rw [h1]
      rw [h3]
      exact jA (false,false,false,true,true,true,true) H [65,57,56,51,50,11,10,49,36,48,46,45,44,43,42,41,40,39,38,37,35,34,33,32,31,30,29,28,27,26,25,24,23,22,19,18,17,16,9,8,7,6,5,4,0,1] [10,7,6,4]
     have H := zI h6 H
     refine lA 3 ?_
     refine sL 0x1fff7fffffcf0ff3 1232 ⟨78,0,[sB 60 (decide (y2 < 0)),sB 59 (decide (y2 < 0)),sI 58 y2,sB 57 true,sB 56 true,sB 55 true,sI 54 x0,sI 53 r20.1.Root,sA 52 10 5 0,sB 51 true,sB 50 true,sB 11 true,sA 10 10 5 0,sB 49 true,(36,.tup [(true,[.dead,.dead,.dead,.dead,.dead]),(false,[.dead])]),sV 48 (Vec.row r20.1),sI 46 v19.Co,(45,.fad (((Pt.row v19).drop 1))),(44,.fad ((Pt.row v19))),sI 43 y1,sC 42 (cF 8 x1 Pt.row),sV 41 ((Pt.row v18).drop 3),(40,.fad (((Pt.row v18).drop 3))),(39,.fad ((Pt.row v18))),sI 38 y1,sC 37 (cF 8 x1 Pt.row),sB 35 (!v17.Has),sB 34 (!v17.Has),sB 33 v17.Has,(32,.fad (((Pt.row v17).drop 2))),(31,.fad ((Pt.row v17))),sI 30 y1,sC 29 (cF 8 x1 Pt.row),sB 28 false,sB 27 false,sB 26 v16.Up,(25,.fad ((Pt.row v16))),(24,.fad ((Pt.row v16))),sI 23 y1,sC 22 (cF 8 x1 Pt.row),sB 19 (decide (y1 < (x1.length : Int))),sI 18 (x1.length : Int),sC 17 (cF 8 x1 Pt.row),sI 16 y1,sI 9 y1,sI 8 y2,sA 7 7 5 0,sA 6 6 5 0,sI 5 0,sA 4 4 5 0,sI 0 x0,sC 1 (cF 8 x1 Pt.row)],[(10,(Vec.row r20.1)),(7,[cI y3,cI y4,cI y5,cI y6,cI y7]),(6,[cI y8,cI y9,cI y10,cI x0,cI 0]),(4,[cI 0,cI 0,cI 0,cI 0,cI 0])]⟩ ?_
     cases h7 : (decide (y2 < 0))
     ·have H := zH h7 H
      refine lA 2 ?_
      obtain ⟨r28,er28,H⟩ := bs H
      refine vA [.rd,.rd] (zDk n r20.1 (⟨y3,y4,y5,y6,y7⟩ : Vec) r28 er28) ?_
      refine uA 2 0x3ffff7fffffcf0ff3 1232 ?_
      refine sB' 0x3ffff7fffffcf0ff3 1232 ⟨78,0,[sB 65 r28,sB 64 r28,sB 63 r28,sV 62 [cI y3,cI y4,cI y5,cI y6,cI y7],sV 61 (Vec.row r20.1),sB 60 false,sB 59 false,sI 58 y2,sB 57 true,sB 56 true,sB 55 true,sI 54 x0,sI 53 r20.1.Root,sA 52 10 5 0,sB 51 true,sB 50 true,sB 11 true,sA 10 10 5 0,sB 49 true,(36,.tup [(true,[.dead,.dead,.dead,.dead,.dead]),(false,[.dead])]),sV 48 (Vec.row r20.1),sI 46 v19.Co,(45,.fad (((Pt.row v19).drop 1))),(44,.fad ((Pt.row v19))),sI 43 y1,sC 42 (cF 8 x1 Pt.row),sV 41 ((Pt.row v18).drop 3),(40,.fad (((Pt.row v18).drop 3))),(39,.fad ((Pt.row v18))),sI 38 y1,sC 37 (cF 8 x1 Pt.row),sB 35 (!v17.Has),sB 34 (!v17.Has),sB 33 v17.Has,(32,.fad (((Pt.row v17).drop 2))),(31,.fad ((Pt.row v17))),sI 30 y1,sC 29 (cF 8 x1 Pt.row),sB 28 false,sB 27 false,sB 26 v16.Up,(25,.fad ((Pt.row v16))),(24,.fad ((Pt.row v16))),sI 23 y1,sC 22 (cF 8 x1 Pt.row),sB 19 (decide (y1 < (x1.length : Int))),sI 18 (x1.length : Int),sC 17 (cF 8 x1 Pt.row),sI 16 y1,sI 9 y1,sI 8 y2,sA 7 7 5 0,sA 6 6 5 0,sI 5 0,sA 4 4 5 0,sI 0 x0,sC 1 (cF 8 x1 Pt.row)],[(10,(Vec.row r20.1)),(7,[cI y3,cI y4,cI y5,cI y6,cI y7]),(6,[cI y8,cI y9,cI y10,cI x0,cI 0]),(4,[cI 0,cI 0,cI 0,cI 0,cI 0])]⟩ ?_
      rw [h1]
      rw [h3]
      exact jA (r28,true,true,true,true,true,true) H [65,57,56,51,50,11,10,49,36,48,46,45,44,43,42,41,40,39,38,37,35,34,33,32,31,30,29,28,27,26,25,24,23,22,19,18,17,16,9,8,7,6,5,4,0,1] [10,7,6,4]
     have H := zI h7 H
     refine uA 5 0x3ffff7fffffcf0ff3 1232 ?_
     refine sB' 0x3ffff7fffffcf0ff3 1232 ⟨78,0,[sB 65 true,sB 64 true,(63,.tup []),(62,.tup []),(61,.tup []),sB 60 true,sB 59 true,sI 58 y2,sB 57 true,sB 56 true,sB 55 true,sI 54 x0,sI 53 r20.1.Root,sA 52 10 5 0,sB 51 true,sB 50 true,sB 11 true,sA 10 10 5 0,sB 49 true,(36,.tup [(true,[.dead,.dead,.dead,.dead,.dead]),(false,[.dead])]),sV 48 (Vec.row r20.1),sI 46 v19.Co,(45,.fad (((Pt.row v19).drop 1))),(44,.fad ((Pt.row v19))),sI 43 y1,sC 42 (cF 8 x1 Pt.row),sV 41 ((Pt.row v18).drop 3),(40,.fad (((Pt.row v18).drop 3))),(39,.fad ((Pt.row v18))),sI 38 y1,sC 37 (cF 8 x1 Pt.row),sB 35 (!v17.Has),sB 34 (!v17.Has),sB 33 v17.Has,(32,.fad (((Pt.row v17).drop 2))),(31,.fad ((Pt.row v17))),sI 30 y1,sC 29 (cF 8 x1 Pt.row),sB 28 false,sB 27 false,sB 26 v16.Up,(25,.fad ((Pt.row v16))),(24,.fad ((Pt.row v16))),sI 23 y1,sC 22 (cF 8 x1 Pt.row),sB 19 (decide (y1 < (x1.length : Int))),sI 18 (x1.length : Int),sC 17 (cF 8 x1 Pt.row),sI 16 y1,sI 9 y1,sI 8 y2,sA 7 7 5 0,sA 6 6 5 0,sI 5 0,sA 4 4 5 0,sI 0 x0,sC 1 (cF 8 x1 Pt.row)],[(10,(Vec.row r20.1)),(7,[cI y3,cI y4,cI y5,cI y6,cI y7]),(6,[cI y8,cI y9,cI y10,cI x0,cI 0]),(4,[cI 0,cI 0,cI 0,cI 0,cI 0])]⟩ ?_
     rw [h1]
     rw [h3]
     exact jA (true,true,true,true,true,true,true) H [65,57,56,51,50,11,10,49,36,48,46,45,44,43,42,41,40,39,38,37,35,34,33,32,31,30,29,28,27,26,25,24,23,22,19,18,17,16,9,8,7,6,5,4,0,1] [10,7,6,4]
    rintro ⟨y21,y22,y23,y24,y25,y26,y27⟩ H
    have H : (q3 n (fun v => z6 n mo15 x0 x1 v.1 v.2.1 v.2.2.1 v.2.2.2.1 v.2.2.2.2.1 v.2.2.2.2.2.1 v.2.2.2.2.2.2.1 v.2.2.2.2.2.2.2.1 v.2.2.2.2.2.2.2.2.1 v.2.2.2.2.2.2.2.2.2) r20 y1 y10 y2 y3 y4 y5 y6 y7 y8 y9 y21 y22 y23 y24 y25 y26 y27) = some o15 := H
    unfold q3 at H
    cases h4 : y21
    ·have H := zH h4 H
     refine nB_ ?_
     refine tK ?_
     refine eA 3 0x2030f7fffffff0ff3 1232 ?_
     exact jB mo15 ((IntKind.wrap .i64 (y1 + 1)),y2,y3,y4,y5,y6,y7,y8,y9,y10) H [9,8,7,6,5,4,0,1] [7,6,4]
    have H := zI h4 H
    refine tB_ ?_
    refine gA 2 0x6030f7fffffcf0ff3 1232 ?_
    refine gA 2 0xe030f7fffffcf0ff3 1232 ?_
    refine eA 9 0xffe030f7fffffcf0ff3 1232 ?_
    refine eA 3 0xffe030f7fffffff0ff3 1232 ?_
    exact jB mo15 ((IntKind.wrap .i64 (y1 + 1)),y1,r20.1.Root,r20.1.Co,r20.1.Hops,r20.1.Bridge,r20.1.Port,r20.1.Root,r20.1.Co,r20.1.Hops) H [9,8,7,6,5,4,0,1] [7,6,4]
   refine tA h3 ?_
   refine Tr.exit ?_
   refine aJ ?_
   refine eA 3 68719412211 208 ?_
   exact jB mo15 ((IntKind.wrap .i64 (y1 + 1)),y2,y3,y4,y5,y6,y7,y8,y9,y10) H [9,8,7,6,5,4,0,1] [7,6,4]
  have H := zI h2 H
  refine uA 7 68716266483 208 ?_
  refine tB_ ?_
  refine Tr.exit ?_
  refine aJ ?_
  refine eA 3 68719412211 208 ?_
  exact jB mo15 ((IntKind.wrap .i64 (y1 + 1)),y2,y3,y4,y5,y6,y7,y8,y9,y10) H [9,8,7,6,5,4,0,1] [7,6,4]
 rintro ⟨y11,y12,y13,y14⟩ H
 have H : (Y5 n x0 y11 y12 y13 y14) = some r := H
 unfold Y5 at H
 refine gA 4 48 16 ?_
 exact te (fJ [(true,[cI y12,cI y13,cI y14,cI x0,cI 0]),(false,[cI y11])] H)
def YS (n : Nat) (x0 : Int) (x1 : (List Pt)) (x2 : Int) : Option (Vec) :=
  ((Z9 n x0 x1).bind fun r1 => (some (⟨r1.1.Root,r1.1.Co,r1.1.Hops,r1.1.Bridge,x2⟩ : Vec)))
theorem zHv (n : Nat) (x0 : Int) (x1 : (List Pt)) (x2 : Int) (r : Vec) (H : YS n x0 x1 x2 = some r) : zK Tryz.prog 231 [.val false [.lit (.int .i64 x0)],.val false [.sl false 8 (CV.frzEs (x1.map Pt.row))],.val false [.lit (.int .i64 x2)]] [.val true (Vec.row r)] [] := by
 refine cW Tryz.func231 (fun g d => sl [g 0,g 1,g 2,g 3] .ret) [.cell 6 165] fun cx => ?_
 unfold YS at H
 refine gA 1 71 64 ?_
 refine rA 2 ?_
 obtain ⟨r1,er1,H⟩ := bs H
 refine vA [.rd,.rd] (zDi n x0 x1 r1 er1) ?_
 refine LAt.movT tOk (ty := 233) (t := 12) (d := 9) (g := none) [(true,(Vec.row r1.1)),(false,[cI r1.2])] _ kr (.inl rfl) kr kr kr kr rfl ?_
 refine uA 5 196 192 ?_
 refine gA 3 192 192 ?_
 refine gA 2 64 64 ?_
 exact te (fJ [(true,[cI r1.1.Root,cI r1.1.Co,cI r1.1.Hops,cI r1.1.Bridge,cI x2])] H)
def Qv (n : Nat) (x0 : Int) (x1 : (List Pt)) (x2 : Int) : Option (Int) :=
  ((zU n x2 0 (IntKind.wrap .i64 ((x1.length : Int) - 1))).bind fun r1 => (bif (!r1) then (some 4) else ((idx x1 x2).bind fun v2 => (bif (!v2.Up) then (some 4) else ((Z9 n x0 x1).bind fun r3 => (bif (r3.2 == x2) then (some 1) else ((idx x1 x2).bind fun v4 => (bif (!v4.Has) then (some 2) else ((YS n x0 x1 x2).bind fun r5 => ((idx x1 x2).bind fun v6 => ((QY n r5 v6.Hd).bind fun r7 => (bif r7 then (some 2) else (some 3)))))))))))))
def zKM : Tab := ⟨19,[0,0,3,4,8,16,32,64,64,64,960,64,64,6208,8256,16448,33856,65600,196608],[0,0,3,4,8,16,32,64,64,64,960,64,64,6208,8256,16448,33856,65600,131072],[0,0,3,7,15,31,63,127,127,127,1023,127,127,6271,14463,30847,65535,131071,262143]⟩
theorem Qq : z7 (rg Tryz.f169 6) zKM = true := kr
theorem zHu (n : Nat) (x0 : Int) (x1 : (List Pt)) (x2 : Int) (r : Int) (H : Qv n x0 x1 x2 = some r) : zK Tryz.prog 169 [.val false [.lit (.int .i64 x0)],.val false [.sl false 8 (CV.frzEs (x1.map Pt.row))],.val false [.lit (.int .i64 x2)]] [.val false [.lit (.int .i64 r)]] [] := by
 refine cW Tryz.func169 (fun g d => sl [g 0,sl [g 1] (cn 22 (sl [g 2] .ret) .skip),g 3,.block 0 (sl [g 4] (cn 29 (sl [g 5] .ret) (sl [d 6] (cn 33 (sl [g 7] .ret) .skip)))),g 8] .ret) [.tmp 6] fun cx => ?_
 unfold Qv at H
 refine gA 1 7 0 ?_
 refine tS ?_
 refine rA 2 ?_
 refine kF x1 Pt.row ?_
 refine lA 1 ?_
 obtain ⟨r1,er1,H⟩ := bs H
 refine vA [.rd,.rd,.rd] (zT n x2 0 (IntKind.wrap .i64 ((x1.length : Int) - 1)) r1 er1) ?_
 refine lA 2 ?_
 refine sL 32775 0 ⟨52,0,[sB 15 (!r1),sI 0 x0,sC 1 (cF 8 x1 Pt.row),sI 2 x2],[]⟩ ?_
 cases h1 : (!r1)
 ·have H := zH h1 H
  refine lA 2 ?_
  obtain ⟨v2,ev2,H⟩ := bs H
  refine iA Pt.row ev2 ?_
  refine uA 4 4194311 0 ?_
  obtain ⟨h2,H⟩ | ⟨h2,H⟩ := bC H
  ·refine nA h2 ?_
   refine tK ?_
   refine rA 2 ?_
   obtain ⟨r3,er3,H⟩ := bs H
   refine vA [.rd,.rd] (zDi n x0 x1 r3 er3) ?_
   refine LAt.movT tOk (ty := 233) (t := 26) (d := 23) (g := none) [(true,(Vec.row r3.1)),(false,[cI r3.2])] _ kr (.inl rfl) kr kr kr kr rfl ?_
   refine uA 5 263 0 ?_
   refine tS ?_
   refine tB ?_
   refine gA 4 536870919 0 ?_
   obtain ⟨h3,H⟩ | ⟨h3,H⟩ := bC H
   ·refine nA h3 ?_
    obtain ⟨v4,ev4,H⟩ := bs H
    refine sT ⟨52,0,[sB 29 (r3.2 == x2),sI 0 x0,sC 1 (cF 8 x1 Pt.row),sI 2 x2],[]⟩ ?_
    cases h4 : (!v4.Has)
    ·have H := zH h4 H
     obtain ⟨r5,er5,H⟩ := bs H
     obtain ⟨v6,ev6,H⟩ := bs H
     obtain ⟨r7,er7,H⟩ := bs H
     refine Tr.draws mixed 19 kr ⟨52,0,[sB 33 r7],[]⟩ (fun cx => ?_) ?_
     ·refine mA Qq [(0,[]),(1,[])] 17 [] fun cx => ?_
      refine iN Qq 2 Pt.row ev4 fun cx => ?_
      refine mA Qq [(3,[]),(4,[]),(5,[]),(6,[])] 12 [] fun cx => ?_
      refine sA_ 1099511627783 0 ⟨52,0,[sB 40 (!v4.Has),sI 0 x0,sC 1 (cF 8 x1 Pt.row),sI 2 x2],[]⟩ ?_
      rw [h4]
      refine mA Qq [(7,[]),(8,[]),(9,[]),(11,[]),(12,[])] 7 [] fun cx => ?_
      refine iN Qq 13 Pt.row ev6 fun cx => ?_
      refine mA Qq [(14,[]),(15,[])] 4 [] fun cx => ?_
      refine mC Qq 10 ?_
      refine vA [.rd,.rd,.rd] (zHv n x0 x1 x2 r5 er5) ?_
      refine fA ?_
      refine mC Qq 16 ?_
      refine vA [.rd,.rd] (zDk n r5 v6.Hd r7 er7) ?_
      refine fA ?_
      refine mA Qq [(17,[]),(18,[])] 0 [] fun cx => ?_
      exact mE Qq [33] []
     cases h5 : r7
     ·have H := zH h5 H
      refine nB_ ?_
      refine tK ?_
      refine gA 1 64 0 ?_
      exact te (fJ [(false,[cI 3])] H)
     have H := zI h5 H
     refine tB_ ?_
     refine gA 1 64 0 ?_
     exact te (fJ [(false,[cI 2])] H)
    have H := zI h4 H
    refine Tr.draws mixed 19 kr ⟨52,0,[sB 33 true],[]⟩ (fun cx => ?_) ?_
    ·refine mA Qq [(0,[]),(1,[])] 17 [] fun cx => ?_
     refine iN Qq 2 Pt.row ev4 fun cx => ?_
     refine mA Qq [(3,[]),(4,[]),(5,[]),(6,[])] 12 [] fun cx => ?_
     refine sA_ 1099511627783 0 ⟨52,0,[sB 40 (!v4.Has),sI 0 x0,sC 1 (cF 8 x1 Pt.row),sI 2 x2],[]⟩ ?_
     rw [h4]
     refine mA Qq [(7,[]),(8,[]),(9,[]),(10,[]),(11,[]),(12,[]),(13,[]),(14,[]),(15,[]),(16,[]),(17,[]),(18,[])] 0 [] fun cx => ?_
     exact mE Qq [33] []
    refine tB_ ?_
    refine gA 1 64 0 ?_
    exact te (fJ [(false,[cI 2])] H)
   refine tA h3 ?_
   refine gA 1 64 0 ?_
   exact te (fJ [(false,[cI 1])] H)
  refine tA h2 ?_
  refine gA 1 64 0 ?_
  exact te (fJ [(false,[cI 4])] H)
 have H := zI h1 H
 refine uA 7 4194311 0 ?_
 refine tB_ ?_
 refine gA 1 64 0 ?_
 exact te (fJ [(false,[cI 4])] H)
def zAC (n : Nat) (y3 : Int) : Option (Int) :=
  (some y3)
def qm (n : Nat) : Nat → Int → (List Pt) → Int → Int → Option ((Int) ⊕ (Int))
  | 0,_,_,_,_ => none
  | mo4 + 1,x0,x1,y1,y2 => (bif (decide (y1 < (x1.length : Int))) then (bif (decide (y1 < 6)) then ((Qv n x0 x1 y1).bind fun r5 => (bif (decide (r5 ≤ 2)) then (bif (decide ((0 : Int) ≤ (IntKind.wrap .u64 y1))) then (qm n mo4 x0 x1 (IntKind.wrap .i64 (y1 + 1)) (IntKind.wrap .i64 (BitVec.ofInt (IntKind.bits .i64) y2 ||| BitVec.ofInt (IntKind.bits .i64) (IntKind.wrap .i64 (1 * 2 ^ min (((IntKind.wrap .u64 y1) : Int)).toNat (IntKind.bits .i64)))).toNat)) else none) else (qm n mo4 x0 x1 (IntKind.wrap .i64 (y1 + 1)) y2))) else (some (Sum.inl y2))) else (some (Sum.inl y2)))
def QJ (n : Nat) (x0 : Int) (x1 : (List Pt)) : Option (Int) :=
  ((qm n n x0 x1 0 0).bind fun o => match o with | .inl y3 => (zAC n y3) | .inr r => some r)
theorem zIi (n : Nat) (x0 : Int) (x1 : (List Pt)) (r : Int) (H : QJ n x0 x1 = some r) : zK Tryz.prog 71 [.val false [.lit (.int .i64 x0)],.val false [.sl false 8 (CV.frzEs (x1.map Pt.row))]] [.val false [.lit (.int .i64 r)]] [] := by
 refine cW Tryz.func71 (fun g d => sl [g 0,g 1,sl [g 2] (.block 0 (.loop (sl [sl [g 3] (cn 14 .skip (.exit 0)),.block 1 (sl [g 5] (cn 21 (g 6) .skip))] (g 4)))),g 7] .ret) [.tmp 4] fun cx => ?_
 unfold QJ at H
 refine gA 1 3 0 ?_
 refine gA 1 35 0 ?_
 refine tS ?_
 refine gA 1 99 0 ?_
 obtain ⟨o4,eo4,Ho4⟩ := bs H
 clear H
 refine Tr.mid (ι := Int) (fun v => ⟨28,0,[sI 5 v],[]⟩) (fun v => zAC n v = some r) ?_ ?_
 ·refine tB ?_
  refine Tr.loop (ι := Nat × (Int × Int)) (fun v => ⟨28,0,[sI 6 v.2.1,sI 5 v.2.2,sI 0 x0,sC 1 (cF 8 x1 Pt.row)],[]⟩) (fun v => qm n v.1 x0 x1 v.2.1 v.2.2 = some o4) (fun v => v.1) (n,(0,0)) eo4 (St.sub_of [6,5,0,1] [] kr) ?_
  rintro ⟨mo4,y1,y2⟩ H
  have H : qm n mo4 x0 x1 y1 y2 = some o4 := H
  obtain _ | mo4 := mo4
  ·exact nN H
  rw [qm] at H
  refine tS ?_
  refine rA 2 ?_
  refine kF x1 Pt.row ?_
  refine lA 2 ?_
  refine sL 2147 0 ⟨28,0,[sB 11 (decide (y1 < (x1.length : Int))),sI 6 y1,sI 5 y2,sI 0 x0,sC 1 (cF 8 x1 Pt.row)],[]⟩ ?_
  cases h1 : (decide (y1 < (x1.length : Int)))
  ·have H := zH h1 H
   refine uA 3 16483 0 ?_
   refine nB_ ?_
   refine Tr.exit ?_
   refine aJ ?_
   obtain rfl := si H
   have H := Ho4
   dsimp only at H
   exact jA y2 H [5] []
  have H := zI h1 H
  refine uA 3 16483 0 ?_
  obtain ⟨h2,H⟩ | ⟨h2,H⟩ := bC H
  ·refine nA h2 ?_
   refine Tr.exit ?_
   refine aJ ?_
   obtain rfl := si H
   have H := Ho4
   dsimp only at H
   exact jA y2 H [5] []
  refine tA h2 ?_
  refine tK ?_
  refine tS ?_
  refine tB ?_
  refine rA 3 ?_
  obtain ⟨r5,er5,H⟩ := bs H
  refine vA [.rd,.rd,.rd] (zHu n x0 x1 y1 r5 er5) ?_
  refine uA 1 2097251 0 ?_
  obtain ⟨h3,H⟩ | ⟨h3,H⟩ := bC H
  ·refine nA h3 ?_
   refine tK ?_
   refine eA 3 99 0 ?_
   exact jB mo4 ((IntKind.wrap .i64 (y1 + 1)),y2) H [6,5,0,1] []
  refine tA h3 ?_
  refine Tr.at ?_
  refine lA 3 ?_
  obtain ⟨hg6,H⟩ := gs H
  refine LAt.binC tOk (op := .shl) (t := 3) (ty := 124) (ty' := 3) (x := (.const (.int .i64 1))) (y := (.tmp 24)) (d := 25) (g := none) (.int .i64 1) (.int .u64 (IntKind.wrap .u64 y1)) (.int .i64 (IntKind.wrap .i64 (1 * 2 ^ min (((IntKind.wrap .u64 y1) : Int)).toNat (IntKind.bits .i64)))) _ kr kr kr kr kr (φ := (0 : Int) ≤ (IntKind.wrap .u64 y1)) kr (of_decide_eq_true hg6) rfl ?_
  refine uA 2 99 0 ?_
  refine eA 3 99 0 ?_
  exact jB mo4 ((IntKind.wrap .i64 (y1 + 1)),(IntKind.wrap .i64 (BitVec.ofInt (IntKind.bits .i64) y2 ||| BitVec.ofInt (IntKind.bits .i64) (IntKind.wrap .i64 (1 * 2 ^ min (((IntKind.wrap .u64 y1) : Int)).toNat (IntKind.bits .i64)))).toNat)) H [6,5,0,1] []
 rintro y3 H
 have H : (zAC n y3) = some r := H
 unfold zAC at H
 refine gA 2 16 0 ?_
 exact te (fJ [(false,[cI y3])] H)
def ZY (n : Nat) (x0 : Int) (x1 : Int) : Option (Bool) :=
  ((zU n x1 0 7).bind fun r1 => (bif r1 then (bif (decide ((0 : Int) ≤ (IntKind.wrap .u64 x1))) then (some ((IntKind.wrap .i64 (BitVec.ofInt (IntKind.bits .i64) (Int.fdiv x0 (2 ^ min (((IntKind.wrap .u64 x1) : Int)).toNat (IntKind.bits .i64))) &&& BitVec.ofInt (IntKind.bits .i64) 1).toNat) == 1)) else none) else (some false)))
theorem zBd (n : Nat) (x0 : Int) (x1 : Int) (r : Bool) (H : ZY n x0 x1 = some r) : zK Tryz.prog 73 [.val false [.lit (.int .i64 x0)],.val false [.lit (.int .i64 x1)]] [.val false [.lit (.bool r)]] [] := by
 refine cW Tryz.func73 (fun g d => sl [g 0,g 1] .ret) [.tmp 4] fun cx => ?_
 unfold ZY at H
 refine gA 1 3 0 ?_
 refine rA 1 ?_
 obtain ⟨r1,er1,H⟩ := bs H
 refine vA [.rd,.rd,.rd] (zT n x1 0 7 r1 er1) ?_
 refine lA 1 ?_
 refine sL 131 0 ⟨15,0,[sB 7 r1,sI 0 x0,sI 1 x1],[]⟩ ?_
 cases h1 : r1
 ·have H := zH h1 H
  refine uA 8 16 0 ?_
  exact te (fF H)
 have H := zI h1 H
 refine lA 3 ?_
 obtain ⟨hg2,H⟩ := gs H
 refine LAt.binC tOk (op := .shr) (t := 3) (ty := 124) (ty' := 3) (x := (.tmp 8)) (y := (.tmp 10)) (d := 11) (g := (some (2,true))) (.int .i64 x0) (.int .u64 (IntKind.wrap .u64 x1)) (.int .i64 (Int.fdiv x0 (2 ^ min (((IntKind.wrap .u64 x1) : Int)).toNat (IntKind.bits .i64)))) _ kr kr kr kr kr (φ := (0 : Int) ≤ (IntKind.wrap .u64 x1)) kr (of_decide_eq_true hg2) rfl ?_
 refine uA 4 16 0 ?_
 exact te (fJ [(false,[cB ((IntKind.wrap .i64 (BitVec.ofInt (IntKind.bits .i64) (Int.fdiv x0 (2 ^ min (((IntKind.wrap .u64 x1) : Int)).toNat (IntKind.bits .i64))) &&& BitVec.ofInt (IntKind.bits .i64) 1).toNat) == 1)])] H)
def ZQ (n : Nat) (x0 : zE) (x1 : Int) (y2 : Int) : Option (Int × Bool) :=
  ((ZW n x0 y2).bind fun r3 => (bif (decide (r3 < 0)) then (some (0,false)) else ((idx x0.Rows r3).bind fun v4 => ((ZY n v4.Members x1).bind fun r5 => (bif (!r5) then (some (0,false)) else (some (y2,true)))))))
def Za (n : Nat) (x0 : zE) (x1 : Int) (x2 : Int) : Option (Int × Bool) :=
  ((zU n x1 0 (IntKind.wrap .i64 ((x0.Pv.length : Int) - 1))).bind fun r1 => (bif (!r1) then (some (0,false)) else (bif (x2 == 0) then ((idx x0.Pv x1).bind fun v6 => (ZQ n x0 x1 v6)) else (ZQ n x0 x1 x2))))
theorem zHQ (n : Nat) (x0 : zE) (x1 : Int) (x2 : Int) (r : Int × Bool) (H : Za n x0 x1 x2 = some r) : zK Tryz.prog 72 [.val true (CV.frzRow (zE.row x0)),.val false [.lit (.int .i64 x1)],.val false [.lit (.int .i64 x2)]] [.val false [.lit (.int .i64 r.1)],.val false [.lit (.bool r.2)]] [] := by
 refine cW Tryz.func72 (fun g d => sl [g 0,sl [g 1] (cn 15 (sl [g 2] .ret) .skip),sl [g 3] (cn 17 (g 4) .skip),g 5,sl [g 6] (cn 38 (sl [g 7] .ret) .skip),g 8] .ret) [.tmp 6,.tmp 7] fun cx => ?_
 unfold Za at H
 refine gA 3 14 8 ?_
 refine tS ?_
 refine rA 3 ?_
 refine kF x0.Pv intRow ?_
 refine lA 1 ?_
 obtain ⟨r1,er1,H⟩ := bs H
 refine vA [.rd,.rd,.rd] (zT n x1 0 (IntKind.wrap .i64 ((x0.Pv.length : Int) - 1)) r1 er1) ?_
 refine uA 1 32782 8 ?_
 obtain ⟨h1,H⟩ | ⟨h1,H⟩ := bC H
 ·refine nA h1 ?_
  refine tK ?_
  refine tS ?_
  refine Tr.mid (ι := Int) (fun v => ⟨40,0,[sA 3 3 2 0,sI 1 x1,sI 2 v],[(3,(CV.frzRow (zE.row x0)))]⟩) (fun v => ZQ n x0 x1 v = some r) ?_ ?_
  ·refine gA 2 131086 8 ?_
   obtain ⟨h4,H⟩ | ⟨h4,H⟩ := bC H
   ·refine nA h4 ?_
    refine tK ?_
    exact jA x2 H [3,1,2] [3]
   refine tA h4 ?_
   refine Tr.at ?_
   refine lA 3 ?_
   obtain ⟨v6,ev6,H⟩ := bs H
   refine iA intRow ev6 ?_
   refine uA 2 14 8 ?_
   exact jA v6 H [3,1,2] [3]
  rintro y2 H
  have H : (ZQ n x0 x1 y2) = some r := H
  unfold ZQ at H
  refine rA 2 ?_
  obtain ⟨r3,er3,H⟩ := bs H
  refine vA [.rd,.rd] (zAa n x0 y2 r3 er3) ?_
  refine uA 1 270 8 ?_
  refine tS ?_
  refine rA 3 ?_
  refine sL 268435726 8 ⟨40,0,[sB 28 (decide (r3 < 0)),sI 8 r3,sA 3 3 2 0,sI 1 x1,sI 2 y2],[(3,(CV.frzRow (zE.row x0)))]⟩ ?_
  cases h2 : (decide (r3 < 0))
  ·have H := zH h2 H
   refine lA 3 ?_
   obtain ⟨v4,ev4,H⟩ := bs H
   refine iA zC.row ev4 ?_
   refine lA 3 ?_
   obtain ⟨r5,er5,H⟩ := bs H
   refine vA [.rd,.rd] (zBd n v4.Members x1 r5 er5) ?_
   refine uA 2 274877906948 0 ?_
   obtain ⟨h3,H⟩ | ⟨h3,H⟩ := bC H
   ·refine nA h3 ?_
    refine tK ?_
    refine gA 3 192 0 ?_
    exact te (fJ [(false,[cI y2]),(false,[cB true])] H)
   refine tA h3 ?_
   refine gA 2 192 0 ?_
   exact te (fJ [(false,[cI 0]),(false,[cB false])] H)
  have H := zI h2 H
  refine uA 10 274877906948 0 ?_
  refine tB_ ?_
  refine gA 2 192 0 ?_
  exact te (fJ [(false,[cI 0]),(false,[cB false])] H)
 refine tA h1 ?_
 refine gA 2 192 0 ?_
 exact te (fJ [(false,[cI 0]),(false,[cB false])] H)
def Zy (n : Nat) (x0 : Int) : Option (Int) :=
  (bif (decide (x0 ≥ 1000000)) then (some x0) else (some (IntKind.wrap .i64 (x0 + 1))))
theorem zCR (n : Nat) (x0 : Int) (r : Int) (H : Zy n x0 = some r) : zK Tryz.prog 74 [.val false [.lit (.int .i64 x0)]] [.val false [.lit (.int .i64 r)]] [] := by
 refine cW Tryz.func74 (fun g d => sl [g 0,sl [g 1] (cn 4 (sl [g 2] .ret) .skip),g 3] .ret) [.tmp 2] fun cx => ?_
 unfold Zy at H
 refine gA 1 1 0 ?_
 refine tS ?_
 refine gA 2 17 0 ?_
 obtain ⟨h1,H⟩ | ⟨h1,H⟩ := bC H
 ·refine nA h1 ?_
  refine tK ?_
  refine gA 3 4 0 ?_
  exact te (fJ [(false,[cI (IntKind.wrap .i64 (x0 + 1))])] H)
 refine tA h1 ?_
 refine gA 2 4 0 ?_
 exact te (fJ [(false,[cI x0])] H)
def qU (n : Nat) (x0 : zE) (x1 : Int) : Option (Int) :=
  ((ZW n x0 x1).bind fun r1 => (bif (decide (r1 < 0)) then (some 0) else ((idx x0.Rows r1).bind fun v2 => (some v2.Members))))
theorem zGl (n : Nat) (x0 : zE) (x1 : Int) (r : Int) (H : qU n x0 x1 = some r) : zK Tryz.prog 76 [.val true (CV.frzRow (zE.row x0)),.val false [.lit (.int .i64 x1)]] [.val false [.lit (.int .i64 r)]] [] := by
 refine cW Tryz.func76 (fun g d => sl [g 0,g 1,sl [g 2] (cn 10 (sl [g 3] .ret) .skip),g 4] .ret) [.tmp 4] fun cx => ?_
 unfold qU at H
 refine gA 2 6 4 ?_
 refine rA 2 ?_
 obtain ⟨r1,er1,H⟩ := bs H
 refine vA [.rd,.rd] (zAa n x0 x1 r1 er1) ?_
 refine uA 1 36 4 ?_
 refine tS ?_
 refine gA 2 1060 4 ?_
 obtain ⟨h1,H⟩ | ⟨h1,H⟩ := bC H
 ·refine nA h1 ?_
  refine tK ?_
  refine rA 3 ?_
  obtain ⟨v2,ev2,H⟩ := bs H
  refine iA zC.row ev2 ?_
  refine uA 3 16 0 ?_
  exact te (fJ [(false,[cI v2.Members])] H)
 refine tA h1 ?_
 refine gA 1 16 0 ?_
 exact te (fJ [(false,[cI 0])] H)
def ZA (n : Nat) (x0 : (List zB)) (x1 : Int) (x2 : Int) : Option (Int) :=
  ((Z3 n x0 x1 x2).bind fun r1 => (bif (decide (r1 < 0)) then (some (-1)) else ((idx x0 r1).bind fun v2 => (some v2.Port))))
theorem zHs (n : Nat) (x0 : (List zB)) (x1 : Int) (x2 : Int) (r : Int) (H : ZA n x0 x1 x2 = some r) : zK Tryz.prog 77 [.val false [.sl false 5 (CV.frzEs (x0.map zB.row))],.val false [.lit (.int .i64 x1)],.val false [.lit (.int .i64 x2)]] [.val false [.lit (.int .i64 r)]] [] := by
 refine cW Tryz.func77 (fun g d => sl [g 0,g 1,sl [g 2] (cn 13 (sl [g 3] .ret) .skip),g 4] .ret) [.tmp 6] fun cx => ?_
 unfold ZA at H
 refine gA 1 7 0 ?_
 refine rA 3 ?_
 obtain ⟨r1,er1,H⟩ := bs H
 refine vA [.rd,.rd,.rd] (zDq n x0 x1 x2 r1 er1) ?_
 refine uA 1 129 0 ?_
 refine tS ?_
 refine gA 2 8321 0 ?_
 obtain ⟨h1,H⟩ | ⟨h1,H⟩ := bC H
 ·refine nA h1 ?_
  refine tK ?_
  refine rA 2 ?_
  obtain ⟨v2,ev2,H⟩ := bs H
  refine iA zB.row ev2 ?_
  refine uA 3 64 0 ?_
  exact te (fJ [(false,[cI v2.Port])] H)
 refine tA h1 ?_
 refine gA 1 64 0 ?_
 exact te (fJ [(false,[cI (-1)])] H)
def Qn (n : Nat) (x0 : zE) (x1 : Int) (x2 : Int) : Option (Int) :=
  ((ZW n x0 x1).bind fun r1 => (bif (decide (r1 < 0)) then (some 0) else ((idx x0.Rows r1).bind fun v2 => ((ZY n v2.Bare x2).bind fun r3 => (bif r3 then (some 0) else (some x1))))))
theorem zGn (n : Nat) (x0 : zE) (x1 : Int) (x2 : Int) (r : Int) (H : Qn n x0 x1 x2 = some r) : zK Tryz.prog 176 [.val true (CV.frzRow (zE.row x0)),.val false [.lit (.int .i64 x1)],.val false [.lit (.int .i64 x2)]] [.val false [.lit (.int .i64 r)]] [] := by
 refine cW Tryz.func176 (fun g d => sl [g 0,g 1,sl [g 2] (cn 22 (sl [g 3] .ret) .skip),g 4] .ret) [.tmp 6] fun cx => ?_
 unfold Qn at H
 refine gA 2 14 8 ?_
 refine rA 2 ?_
 obtain ⟨r1,er1,H⟩ := bs H
 refine vA [.rd,.rd] (zAa n x0 x1 r1 er1) ?_
 refine uA 1 142 8 ?_
 refine tS ?_
 refine rA 3 ?_
 refine sL 8334 8 ⟨24,0,[sB 13 (decide (r1 < 0)),sI 7 r1,sA 3 3 2 0,sI 1 x1,sI 2 x2],[(3,(CV.frzRow (zE.row x0)))]⟩ ?_
 cases h1 : (decide (r1 < 0))
 ·have H := zH h1 H
  refine lA 3 ?_
  obtain ⟨v2,ev2,H⟩ := bs H
  refine iA zC.row ev2 ?_
  refine lA 3 ?_
  obtain ⟨r3,er3,H⟩ := bs H
  refine vA [.rd,.rd] (zBd n v2.Bare x2 r3 er3) ?_
  refine uA 1 4194306 0 ?_
  cases h2 : r3
  ·have H := zH h2 H
   refine nB_ ?_
   refine tK ?_
   refine gA 2 64 0 ?_
   exact te (fJ [(false,[cI x1])] H)
  have H := zI h2 H
  refine tB_ ?_
  refine gA 1 64 0 ?_
  exact te (fJ [(false,[cI 0])] H)
 have H := zI h1 H
 refine uA 9 4194306 0 ?_
 refine tB_ ?_
 refine gA 1 64 0 ?_
 exact te (fJ [(false,[cI 0])] H)
def zAd (n : Nat) (x0 : Frame) : Option (Frame) :=
  (bif (decide (([] : List Int).length + x0.Data.length ≤ 268435456)) then (some (⟨x0.Dst,x0.Src,x0.Tag,(([] : List Int) ++ x0.Data)⟩ : Frame)) else none)
theorem zHy (n : Nat) (x0 : Frame) (r : Frame) (H : zAd n x0 = some r) : zK Tryz.prog 233 [.val true (CV.frzRow (Frame.row x0))] [.val true (Frame.row r)] [] := by
 refine cW Tryz.func233 (fun g d => sl [g 0,g 1,g 2,g 3] .ret) [.cell 2 46] fun cx => ?_
 unfold zAd at H
 refine gA 2 6 6 ?_
 refine gA 3 14 14 ?_
 refine rA 3 ?_
 obtain ⟨hg1,H⟩ := gs H
 refine pD zM hg1 ?_
 refine uA 2 12 12 ?_
 refine gA 2 4 4 ?_
 exact te (fJ [(true,[cI x0.Dst,cI x0.Src,cI x0.Tag,cL 1 (([] : List Int) ++ x0.Data) zM])] H)
def JT (n : Nat) (x0 : Frame) (x1 : Int) : Option (Frame) :=
  ((zAd n x0).bind fun r1 => (some (⟨r1.Dst,r1.Src,x1,r1.Data⟩ : Frame)))
theorem zHw (n : Nat) (x0 : Frame) (x1 : Int) (r : Frame) (H : JT n x0 x1 = some r) : zK Tryz.prog 175 [.val true (CV.frzRow (Frame.row x0)),.val false [.lit (.int .i64 x1)]] [.val true (Frame.row r)] [] := by
 refine cW Tryz.func175 (fun g d => sl [g 0,g 1,g 2,g 3] .ret) [.cell 4 46] fun cx => ?_
 unfold JT at H
 refine gA 2 22 20 ?_
 refine rA 1 ?_
 obtain ⟨r1,er1,H⟩ := bs H
 refine vA [.rd] (zHy n x0 r1 er1) ?_
 refine uA 2 50 48 ?_
 refine gA 3 48 48 ?_
 refine gA 2 16 16 ?_
 exact te (fJ [(true,[cI r1.Dst,cI r1.Src,cI x1,cL 1 r1.Data zM])] H)
def Y8 (n : Nat) (y3 : (List Out)) : Option ((List Out)) :=
  (some y3)
def qL (n : Nat) : Nat → zA → Int → Int → Frame → Int → (List Out) → Option (((List Out)) ⊕ ((List Out)))
  | 0,_,_,_,_,_,_ => none
  | mo4 + 1,x0,x1,x2,x3,y1,y2 => (bif (decide (y1 < (x0.Ps.length : Int))) then ((ZY n x2 y1).bind fun r5 => (bif r5 then ((Qn n x0.V x1 y1).bind fun r6 => ((JT n x3 r6).bind fun r7 => (bif (decide (y2.length + [(⟨y1,r7⟩ : Out)].length ≤ 268435456)) then (qL n mo4 x0 x1 x2 x3 (IntKind.wrap .i64 (y1 + 1)) (y2 ++ [(⟨y1,r7⟩ : Out)])) else none))) else (qL n mo4 x0 x1 x2 x3 (IntKind.wrap .i64 (y1 + 1)) y2))) else (some (Sum.inl y2)))
def ZF (n : Nat) (x0 : zA) (x1 : Int) (x2 : Int) (x3 : Frame) : Option ((List Out)) :=
  ((qL n n x0 x1 x2 x3 0 ([] : List Out)).bind fun o => match o with | .inl y3 => (Y8 n y3) | .inr r => some r)
def zKq : Tab := ⟨13,[0,0,0,0,8,0,0,112,132,258,512,1281,4095],[0,0,0,0,8,0,0,112,132,258,512,1025,2049],[0,0,0,0,8,0,0,120,252,510,1022,2047,4095]⟩
theorem zB2 : z7 (rg Tryz.f78 6) zKq = true := kr
theorem zDo (n : Nat) (x0 : zA) (x1 : Int) (x2 : Int) (x3 : Frame) (r : (List Out)) (H : ZF n x0 x1 x2 x3 = some r) : zK Tryz.prog 78 [.val true (CV.frzRow (zA.row x0)),.val false [.lit (.int .i64 x1)],.val false [.lit (.int .i64 x2)],.val true (CV.frzRow (Frame.row x3))] [.val false [.sl true 5 (r.map Out.row)]] [] := by
 refine cW Tryz.func78 (fun g d => sl [g 0,g 1,sl [g 2] (.block 0 (.loop (sl [sl [g 3] (cn 16 .skip (.exit 0)),.block 1 (sl [g 5] (cn 21 (d 6) .skip))] (g 4)))),g 7] .ret) [.tmp 8] fun cx => ?_
 unfold ZF at H
 refine gA 3 150 144 ?_
 refine rA 1 ?_
 refine LAt.moveU (T := lk tab) (ty := 42) (x := (.tmp 11)) (d := 9) (g := none) false [cL 5 ([] : List Out) Out.row] kr kr kr kr kr ?_
 refine dA 662 144 ?_
 refine tS ?_
 refine gA 1 1686 144 ?_
 obtain ⟨o4,eo4,Ho4⟩ := bs H
 clear H
 refine Tr.mid (ι := (List Out)) (fun v => ⟨35,0,[sC 9 (cL 5 v Out.row)],[]⟩) (fun v => Y8 n v = some r) ?_ ?_
 ·refine tB ?_
  refine Tr.loop (ι := Nat × (Int × (List Out))) (fun v => ⟨35,0,[sI 10 v.2.1,sC 9 (cL 5 v.2.2 Out.row),sA 7 7 4 0,sA 4 4 11 0,sI 1 x1,sI 2 x2],[(7,(CV.frzRow (Frame.row x3))),(4,(CV.frzRow (zA.row x0)))]⟩) (fun v => qL n v.1 x0 x1 x2 x3 v.2.1 v.2.2 = some o4) (fun v => v.1) (n,(0,([] : List Out))) eo4 (St.sub_of [10,9,7,4,1,2] [7,4] kr) ?_
  rintro ⟨mo4,y1,y2⟩ H
  have H : qL n mo4 x0 x1 x2 x3 y1 y2 = some o4 := H
  obtain _ | mo4 := mo4
  ·exact nN H
  rw [qL] at H
  refine tS ?_
  refine rA 3 ?_
  refine kF x0.Ps Pt.row ?_
  refine uA 1 67222 144 ?_
  obtain ⟨h1,H⟩ | ⟨h1,H⟩ := bC H
  ·refine nA h1 ?_
   refine Tr.exit ?_
   refine aJ ?_
   obtain rfl := si H
   have H := Ho4
   dsimp only at H
   exact jA y2 H [9] []
  refine tA h1 ?_
  refine tK ?_
  refine tS ?_
  refine tB ?_
  refine rA 2 ?_
  obtain ⟨r5,er5,H⟩ := bs H
  refine vA [.rd,.rd] (zBd n x2 y1 r5 er5) ?_
  refine dA 2098838 144 ?_
  cases h2 : r5
  ·have H := zH h2 H
   refine nB_ ?_
   refine tK ?_
   refine eA 3 1686 144 ?_
   exact jB mo4 ((IntKind.wrap .i64 (y1 + 1)),y2) H [10,9,7,4,1,2] [7,4]
  have H := zI h2 H
  refine tB_ ?_
  obtain ⟨r6,er6,H⟩ := bs H
  obtain ⟨r7,er7,H⟩ := bs H
  obtain ⟨hg8,H⟩ := gs H
  refine Tr.draw mixed 13 kr ⟨35,0,[sC 9 (cL 5 (y2 ++ [(⟨y1,r7⟩ : Out)]) Out.row),sI 10 y1,sA 7 7 4 0,sA 4 4 11 0,sI 1 x1,sI 2 x2],[(7,(CV.frzRow (Frame.row x3))),(4,(CV.frzRow (zA.row x0)))]⟩ (fun cx => ?_) ?_
  ·refine mA zB2 [(0,[]),(1,[]),(2,[8,9,10,11]),(3,[]),(4,[7,8,9,10,11]),(5,[]),(6,[])] 6 [⟨[7,8,9,10,11],39,25,26⟩,⟨[8,9,10,11],46,7,24⟩] fun cx => ?_
   refine mC zB2 7 ?_
   refine vA [.rd,.rd,.rd] (zGn n x0.V x1 y1 r6 er6) ?_
   refine fA ?_
   refine mC zB2 8 ?_
   refine vA [.rd,.rd] (zHw n x3 r6 r7 er7) ?_
   refine fA ?_
   refine mC zB2 9 ?_
   refine lA 1 ?_
   refine fA ?_
   refine mC zB2 10 ?_
   refine lA 1 ?_
   refine fA ?_
   refine mC zB2 11 ?_
   refine LAt.appMU tOk (t := 42) (ty := 42) (e := 94) (x := (.tmp 22)) (y := (.tmp 32)) (d := 33) (g := none) (tI 94) Out.row y2 [(⟨y1,r7⟩ : Out)] kr kr kr kr kr kr kr kr kr kr hg8 ?_
   refine fA ?_
   refine mC zB2 12 ?_
   refine LAt.moveU (T := lk tab) (ty := 42) (x := (.tmp 33)) (d := 9) (g := none) false [cL 5 (y2 ++ [(⟨y1,r7⟩ : Out)]) Out.row] kr kr kr kr kr ?_
   refine fA ?_
   exact mE zB2 [9,10,7,4,1,2] [7,4]
  refine eA 3 1686 144 ?_
  exact jB mo4 ((IntKind.wrap .i64 (y1 + 1)),(y2 ++ [(⟨y1,r7⟩ : Out)])) H [10,9,7,4,1,2] [7,4]
 rintro y3 H
 have H : (Y8 n y3) = some r := H
 unfold Y8 at H
 refine gA 2 768 0 ?_
 exact te (fJ [(false,[cL 5 y3 Out.row])] H)
def q4 (n : Nat) (r1 : zA) (r4 : Int) (r5 : Int × Bool) (r7 : (List zB)) (r8 : Int) (r9 : Int) (x0 : zA) (x1 : Int) (x2 : Frame) (y11 : Int) : Option (zA × (List Out)) :=
  (bif (decide (y11 ≥ 0)) then (bif (decide ((0 : Int) ≤ (IntKind.wrap .u64 y11))) then ((ZF n x0 r5.1 (IntKind.wrap .i64 (BitVec.ofInt (IntKind.bits .i64) (IntKind.wrap .i64 (BitVec.ofInt (IntKind.bits .i64) (IntKind.wrap .i64 (BitVec.ofInt (IntKind.bits .i64) r4 &&& BitVec.ofInt (IntKind.bits .i64) r9).toNat) &&& ~~~BitVec.ofInt (IntKind.bits .i64) (IntKind.wrap .i64 (1 * 2 ^ min (((IntKind.wrap .u64 x1) : Int)).toNat (IntKind.bits .i64)))).toNat) &&& BitVec.ofInt (IntKind.bits .i64) (IntKind.wrap .i64 (1 * 2 ^ min (((IntKind.wrap .u64 y11) : Int)).toNat (IntKind.bits .i64)))).toNat) x2).bind fun r14 => (some ((⟨r1.Id,r1.Name,r1.Ps,r7,r1.V,r1.Tk,r1.Pa,r1.Wo,r1.Dr,r8⟩ : zA),r14))) else none) else ((ZF n x0 r5.1 (IntKind.wrap .i64 (BitVec.ofInt (IntKind.bits .i64) (IntKind.wrap .i64 (BitVec.ofInt (IntKind.bits .i64) r4 &&& BitVec.ofInt (IntKind.bits .i64) r9).toNat) &&& ~~~BitVec.ofInt (IntKind.bits .i64) (IntKind.wrap .i64 (1 * 2 ^ min (((IntKind.wrap .u64 x1) : Int)).toNat (IntKind.bits .i64)))).toNat) x2).bind fun r12 => (some ((⟨r1.Id,r1.Name,r1.Ps,r7,r1.V,r1.Tk,r1.Pa,r1.Wo,r1.Dr,r8⟩ : zA),r12))))
def ZC (n : Nat) (x0 : zA) (x1 : Int) (x2 : Frame) : Option (zA × (List Out)) :=
  ((Yq n x0).bind fun r1 => ((YT n x0 x1).bind fun r2 => (bif (!r2) then (some (r1,([] : List Out))) else ((ZD n x2).bind fun r3 => (bif (!r3) then (some (r1,([] : List Out))) else ((QJ n x0.Id x0.Ps).bind fun r4 => ((Za n x0.V x1 x2.Tag).bind fun r5 => ((ZY n r4 x1).bind fun r6 => (bif (!r6) then ((Zy n x0.Dr).bind fun r17 => (some ((⟨r1.Id,r1.Name,r1.Ps,r1.F,r1.V,r1.Tk,r1.Pa,r1.Wo,r17,r1.Ve⟩ : zA),([] : List Out)))) else (bif (!r5.2) then ((Zy n x0.Dr).bind fun r16 => (some ((⟨r1.Id,r1.Name,r1.Ps,r1.F,r1.V,r1.Tk,r1.Pa,r1.Wo,r16,r1.Ve⟩ : zA),([] : List Out)))) else ((QI n x0.F r5.1 x2.Src x1).bind fun r7 => ((Zy n x0.Ve).bind fun r8 => ((qU n x0.V r5.1).bind fun r9 => (bif (decide ((0 : Int) ≤ (IntKind.wrap .u64 x1))) then (bif (x2.Dst != 0) then ((ZA n r7 r5.1 x2.Dst).bind fun r15 => (q4 n r1 r4 r5 r7 r8 r9 x0 x1 x2 r15)) else (q4 n r1 r4 r5 r7 r8 r9 x0 x1 x2 (-1))) else none))))))))))))))
theorem zHS (n : Nat) (x0 : zA) (x1 : Int) (x2 : Frame) (r : zA × (List Out)) (H : ZC n x0 x1 x2 = some r) : zK Tryz.prog 11 [.val true (CV.frzRow (zA.row x0)),.val false [.lit (.int .i64 x1)],.val true (CV.frzRow (Frame.row x2))] [.val true (zA.row r.1),.val false [.sl true 5 (r.2.map Out.row)]] [] := by
 refine cW Tryz.func11 (fun g d => sl [g 0,g 1,g 2,sl [g 3] (cn 26 (sl [g 4] .ret) .skip),g 5,g 6,sl [g 7] (cn 50 (sl [g 8,g 9] .ret) .skip),g 10,g 11,g 12,g 13,sl [g 14] (cn 81 (g 15) .skip),sl [g 16] (cn 89 (g 17) .skip),d 18] .ret) [.cell 6 41,.tmp 7] fun cx => ?_
 unfold ZC at H
 refine gA 4 106 104 ?_
 refine rA 1 ?_
 obtain ⟨r1,er1,H⟩ := bs H
 refine vA [.rd] (zHW n x0 r1 er1) ?_
 refine uA 2 362 360 ?_
 refine rA 1 ?_
 refine LAt.moveU (T := lk tab) (ty := 42) (x := (.tmp 17)) (d := 9) (g := none) false [cL 5 ([] : List Out) Out.row] kr kr kr kr kr ?_
 refine dA 874 360 ?_
 refine tS ?_
 refine rA 2 ?_
 obtain ⟨r2,er2,H⟩ := bs H
 refine vA [.rd,.rd] (zGo n x0 x1 r2 er2) ?_
 refine lA 2 ?_
 refine sL 4195178 360 ⟨101,0,[sB 22 (!r2),sC 9 (cL 5 ([] : List Out) Out.row),sA 8 8 11 0,sA 6 6 11 0,sA 5 5 4 0,sA 3 3 11 0,sI 1 x1],[(8,(zA.row r1)),(6,[cI 0,cS (⟨#[]⟩ : ByteArray),cL 8 ([] : List Pt) Pt.row,cL 5 ([] : List zB) zB.row,cL 3 ([] : List zC) zC.row,cL 1 ([] : List Int) intRow,cI 0,cI 0,cI 0,cI 0,cI 0]),(5,(CV.frzRow (Frame.row x2))),(3,(CV.frzRow (zA.row x0)))]⟩ ?_
 cases h1 : (!r2)
 ·have H := zH h1 H
  refine lA 1 ?_
  obtain ⟨r3,er3,H⟩ := bs H
  refine vA [.rd] (zHT n x2 r3 er3) ?_
  refine uA 2 67109738 360 ?_
  obtain ⟨h2,H⟩ | ⟨h2,H⟩ := bC H
  ·refine nA h2 ?_
   refine tK ?_
   refine rA 4 ?_
   obtain ⟨r4,er4,H⟩ := bs H
   refine vA [.rd,.rd] (zIi n x0.Id x0.Ps r4 er4) ?_
   refine uA 1 1898 360 ?_
   refine rA 5 ?_
   obtain ⟨r5,er5,H⟩ := bs H
   refine vA [.rd,.rd,.rd] (zHQ n x0.V x1 x2.Tag r5 er5) ?_
   refine LAt.movT tOk (ty := 88) (t := 40) (d := 34) (g := none) [(false,[cI r5.1]),(false,[cB r5.2])] _ kr (.inl rfl) kr kr kr kr rfl ?_
   refine uA 4 8042 360 ?_
   refine tS ?_
   refine tS ?_
   refine Tr.at ?_
   refine lA 2 ?_
   obtain ⟨r6,er6,H⟩ := bs H
   refine vA [.rd,.rd] (zBd n r4 x1 r6 er6) ?_
   refine lA 2 ?_
   refine sL 0x800000001f6a 360 ⟨101,0,[sB 47 (!r6),sB 12 r5.2,sI 11 r5.1,sI 10 r4,sC 9 (cL 5 ([] : List Out) Out.row),sA 8 8 11 0,sA 6 6 11 0,sA 5 5 4 0,sA 3 3 11 0,sI 1 x1],[(8,(zA.row r1)),(6,[cI 0,cS (⟨#[]⟩ : ByteArray),cL 8 ([] : List Pt) Pt.row,cL 5 ([] : List zB) zB.row,cL 3 ([] : List zC) zC.row,cL 1 ([] : List Int) intRow,cI 0,cI 0,cI 0,cI 0,cI 0]),(5,(CV.frzRow (Frame.row x2))),(3,(CV.frzRow (zA.row x0)))]⟩ ?_
   cases h3 : (!r6)
   ·have H := zH h3 H
    refine uA 3 0x4000000000f6a 360 ?_
    obtain ⟨h4,H⟩ | ⟨h4,H⟩ := bC H
    ·refine nA h4 ?_
     refine tK ?_
     refine rA 6 ?_
     obtain ⟨r7,er7,H⟩ := bs H
     refine vA [.rd,.rd,.rd,.rd] (zFT n x0.F r5.1 x2.Src x1 r7 er7) ?_
     refine uA 2 3434 360 ?_
     refine rA 2 ?_
     obtain ⟨r8,er8,H⟩ := bs H
     refine vA [.rd] (zCR n x0.Ve r8 er8) ?_
     refine uA 2 3434 360 ?_
     refine rA 4 ?_
     obtain ⟨r9,er9,H⟩ := bs H
     refine vA [.rd,.rd] (zGl n x0.V r5.1 r9 er9) ?_
     refine lA 3 ?_
     obtain ⟨hg10,H⟩ := gs H
     refine LAt.binC tOk (op := .shl) (t := 3) (ty := 124) (ty' := 3) (x := (.const (.int .i64 1))) (y := (.tmp 76)) (d := 77) (g := none) (.int .i64 1) (.int .u64 (IntKind.wrap .u64 x1)) (.int .i64 (IntKind.wrap .i64 (1 * 2 ^ min (((IntKind.wrap .u64 x1) : Int)).toNat (IntKind.bits .i64)))) _ kr kr kr kr kr (φ := (0 : Int) ≤ (IntKind.wrap .u64 x1)) kr (of_decide_eq_true hg10) rfl ?_
     refine uA 2 10600 360 ?_
     refine gA 1 26984 360 ?_
     refine tS ?_
     refine Tr.mid (ι := Int) (fun v => ⟨101,0,[sI 14 v,sI 13 (IntKind.wrap .i64 (BitVec.ofInt (IntKind.bits .i64) (IntKind.wrap .i64 (BitVec.ofInt (IntKind.bits .i64) r4 &&& BitVec.ofInt (IntKind.bits .i64) r9).toNat) &&& ~~~BitVec.ofInt (IntKind.bits .i64) (IntKind.wrap .i64 (1 * 2 ^ min (((IntKind.wrap .u64 x1) : Int)).toNat (IntKind.bits .i64)))).toNat),sI 11 r5.1,sA 8 8 11 0,sA 6 6 11 0,sA 5 5 4 0,sA 3 3 11 0],[(8,[cI r1.Id,cS r1.Name,cL 8 r1.Ps Pt.row,cL 5 r7 zB.row,cL 3 r1.V.Rows zC.row,cL 1 r1.V.Pv intRow,cI r1.Tk,cI r1.Pa,cI r1.Wo,cI r1.Dr,cI r8]),(6,[cI 0,cS (⟨#[]⟩ : ByteArray),cL 8 ([] : List Pt) Pt.row,cL 5 ([] : List zB) zB.row,cL 3 ([] : List zC) zC.row,cL 1 ([] : List Int) intRow,cI 0,cI 0,cI 0,cI 0,cI 0]),(5,(CV.frzRow (Frame.row x2))),(3,(CV.frzRow (zA.row x0)))]⟩) (fun v => q4 n r1 r4 r5 r7 r8 r9 x0 x1 x2 v = some r) ?_ ?_
     ·refine gA 3 0x200000000000000006968 360 ?_
      refine sT ⟨101,0,[sB 81 (x2.Dst != 0),sI 14 (-1),sI 13 (IntKind.wrap .i64 (BitVec.ofInt (IntKind.bits .i64) (IntKind.wrap .i64 (BitVec.ofInt (IntKind.bits .i64) r4 &&& BitVec.ofInt (IntKind.bits .i64) r9).toNat) &&& ~~~BitVec.ofInt (IntKind.bits .i64) (IntKind.wrap .i64 (1 * 2 ^ min (((IntKind.wrap .u64 x1) : Int)).toNat (IntKind.bits .i64)))).toNat),sI 11 r5.1,sA 8 8 11 0,sA 6 6 11 0,sA 5 5 4 0,sA 3 3 11 0],[(8,[cI r1.Id,cS r1.Name,cL 8 r1.Ps Pt.row,cL 5 r7 zB.row,cL 3 r1.V.Rows zC.row,cL 1 r1.V.Pv intRow,cI r1.Tk,cI r1.Pa,cI r1.Wo,cI r1.Dr,cI r8]),(6,[cI 0,cS (⟨#[]⟩ : ByteArray),cL 8 ([] : List Pt) Pt.row,cL 5 ([] : List zB) zB.row,cL 3 ([] : List zC) zC.row,cL 1 ([] : List Int) intRow,cI 0,cI 0,cI 0,cI 0,cI 0]),(5,(CV.frzRow (Frame.row x2))),(3,(CV.frzRow (zA.row x0)))]⟩ ?_
      cases h6 : (x2.Dst != 0)
      ·have H := zH h6 H
       refine nB_ ?_
       refine tK ?_
       exact jA (-1) H [14,13,11,8,6,5,3] [8,6,5,3]
      have H := zI h6 H
      refine tB_ ?_
      refine Tr.at ?_
      refine lA 5 ?_
      obtain ⟨r15,er15,H⟩ := bs H
      refine vB [.rd,.rd,.rd] [.box 8] (zHs n r7 r5.1 x2.Dst r15 er15) (.inr (zO (zF zL zP) zb)) ?_
      refine uA 1 26984 360 ?_
      exact jA r15 H [14,13,11,8,6,5,3] [8,6,5,3]
     rintro y11 H
     have H : (q4 n r1 r4 r5 r7 r8 r9 x0 x1 x2 y11) = some r := H
     unfold q4 at H
     refine tS ?_
     refine gA 2 0x20000000000000000006968 360 ?_
     obtain ⟨h5,H⟩ | ⟨h5,H⟩ := bC H
     ·refine nA h5 ?_
      refine tK ?_
      obtain ⟨r12,er12,H⟩ := bs H
      refine Tr.draws mixed 8 kr ⟨101,0,[sC 7 (cL 5 r12 Out.row),sA 6 6 11 0],[(6,[cI r1.Id,cS r1.Name,cL 8 r1.Ps Pt.row,cL 5 r7 zB.row,cL 3 r1.V.Rows zC.row,cL 1 r1.V.Pv intRow,cI r1.Tk,cI r1.Pa,cI r1.Wo,cI r1.Dr,cI r8])]⟩ (fun cx => ?_) ?_
      ·refine aA [(0,[6]),(1,[5,6]),(2,[]),(3,[]),(4,[5,6])] 3 [⟨[5,6],46,5,99⟩,⟨[5,6],41,3,96⟩,⟨[6],41,8,95⟩] fun cx => ?_
       refine bA 5 ?_
       refine vA [.rd,.rd,.rd,.rd] (zDo n x0 r5.1 (IntKind.wrap .i64 (BitVec.ofInt (IntKind.bits .i64) (IntKind.wrap .i64 (BitVec.ofInt (IntKind.bits .i64) r4 &&& BitVec.ofInt (IntKind.bits .i64) r9).toNat) &&& ~~~BitVec.ofInt (IntKind.bits .i64) (IntKind.wrap .i64 (1 * 2 ^ min (((IntKind.wrap .u64 x1) : Int)).toNat (IntKind.bits .i64)))).toNat) x2 r12 er12) ?_
       refine fA ?_
       refine bA 6 ?_
       refine lA 1 ?_
       refine fA ?_
       refine bA 7 ?_
       refine LAt.moveU (T := lk tab) (ty := 42) (x := (.tmp 100)) (d := 7) (g := none) false [cL 5 r12 Out.row] kr kr kr kr kr ?_
       refine fA ?_
       exact eE [7,6] [6]
      exact te (fJ [(true,[cI r1.Id,cS r1.Name,cL 8 r1.Ps Pt.row,cL 5 r7 zB.row,cL 3 r1.V.Rows zC.row,cL 1 r1.V.Pv intRow,cI r1.Tk,cI r1.Pa,cI r1.Wo,cI r1.Dr,cI r8]),(false,[cL 5 r12 Out.row])] H)
     refine tA h5 ?_
     refine Tr.at ?_
     refine lA 3 ?_
     obtain ⟨hg13,H⟩ := gs H
     refine LAt.binC tOk (op := .shl) (t := 3) (ty := 124) (ty' := 3) (x := (.const (.int .i64 1))) (y := (.tmp 92)) (d := 93) (g := none) (.int .i64 1) (.int .u64 (IntKind.wrap .u64 y11)) (.int .i64 (IntKind.wrap .i64 (1 * 2 ^ min (((IntKind.wrap .u64 y11) : Int)).toNat (IntKind.bits .i64)))) _ kr kr kr kr kr (φ := (0 : Int) ≤ (IntKind.wrap .u64 y11)) kr (of_decide_eq_true hg13) rfl ?_
     refine uA 2 10600 360 ?_
     obtain ⟨r14,er14,H⟩ := bs H
     refine Tr.draws mixed 8 kr ⟨101,0,[sC 7 (cL 5 r14 Out.row),sA 6 6 11 0],[(6,[cI r1.Id,cS r1.Name,cL 8 r1.Ps Pt.row,cL 5 r7 zB.row,cL 3 r1.V.Rows zC.row,cL 1 r1.V.Pv intRow,cI r1.Tk,cI r1.Pa,cI r1.Wo,cI r1.Dr,cI r8])]⟩ (fun cx => ?_) ?_
     ·refine aA [(0,[6]),(1,[5,6]),(2,[]),(3,[]),(4,[5,6])] 3 [⟨[5,6],46,5,99⟩,⟨[5,6],41,3,96⟩,⟨[6],41,8,95⟩] fun cx => ?_
      refine bA 5 ?_
      refine vA [.rd,.rd,.rd,.rd] (zDo n x0 r5.1 (IntKind.wrap .i64 (BitVec.ofInt (IntKind.bits .i64) (IntKind.wrap .i64 (BitVec.ofInt (IntKind.bits .i64) (IntKind.wrap .i64 (BitVec.ofInt (IntKind.bits .i64) r4 &&& BitVec.ofInt (IntKind.bits .i64) r9).toNat) &&& ~~~BitVec.ofInt (IntKind.bits .i64) (IntKind.wrap .i64 (1 * 2 ^ min (((IntKind.wrap .u64 x1) : Int)).toNat (IntKind.bits .i64)))).toNat) &&& BitVec.ofInt (IntKind.bits .i64) (IntKind.wrap .i64 (1 * 2 ^ min (((IntKind.wrap .u64 y11) : Int)).toNat (IntKind.bits .i64)))).toNat) x2 r14 er14) ?_
      refine fA ?_
      refine bA 6 ?_
      refine lA 1 ?_
      refine fA ?_
      refine bA 7 ?_
      refine LAt.moveU (T := lk tab) (ty := 42) (x := (.tmp 100)) (d := 7) (g := none) false [cL 5 r14 Out.row] kr kr kr kr kr ?_
      refine fA ?_
      exact eE [7,6] [6]
     exact te (fJ [(true,[cI r1.Id,cS r1.Name,cL 8 r1.Ps Pt.row,cL 5 r7 zB.row,cL 3 r1.V.Rows zC.row,cL 1 r1.V.Pv intRow,cI r1.Tk,cI r1.Pa,cI r1.Wo,cI r1.Dr,cI r8]),(false,[cL 5 r14 Out.row])] H)
    refine tA h4 ?_
    refine rA 2 ?_
    obtain ⟨r16,er16,H⟩ := bs H
    refine vA [.rd] (zCR n x0.Dr r16 er16) ?_
    refine uA 2 832 320 ?_
    refine gA 4 704 64 ?_
    exact te (fJ [(true,[cI r1.Id,cS r1.Name,cL 8 r1.Ps Pt.row,cL 5 r1.F zB.row,cL 3 r1.V.Rows zC.row,cL 1 r1.V.Pv intRow,cI r1.Tk,cI r1.Pa,cI r1.Wo,cI r16,cI r1.Ve]),(false,[cL 5 ([] : List Out) Out.row])] H)
   have H := zI h3 H
   refine uA 3 0x4000000000f6a 360 ?_
   refine tB_ ?_
   refine rA 2 ?_
   obtain ⟨r17,er17,H⟩ := bs H
   refine vA [.rd] (zCR n x0.Dr r17 er17) ?_
   refine uA 2 832 320 ?_
   refine gA 4 704 64 ?_
   exact te (fJ [(true,[cI r1.Id,cS r1.Name,cL 8 r1.Ps Pt.row,cL 5 r1.F zB.row,cL 3 r1.V.Rows zC.row,cL 1 r1.V.Pv intRow,cI r1.Tk,cI r1.Pa,cI r1.Wo,cI r17,cI r1.Ve]),(false,[cL 5 ([] : List Out) Out.row])] H)
  refine tA h2 ?_
  refine gA 4 704 64 ?_
  exact te (fJ [(true,(zA.row r1)),(false,[cL 5 ([] : List Out) Out.row])] H)
 have H := zI h1 H
 refine uA 4 67109738 360 ?_
 refine tB_ ?_
 refine gA 4 704 64 ?_
 exact te (fJ [(true,(zA.row r1)),(false,[cL 5 ([] : List Out) Out.row])] H)
end Go.Proofs.YtcegokjpmppdbaaGreat.Tw
