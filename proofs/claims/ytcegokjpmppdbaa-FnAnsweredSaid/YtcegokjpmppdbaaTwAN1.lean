import Derived.Test.YtcegokjpmppdbaaProg
import Derived.Test.YtcegokjpmppdbaaTlRule
import Derived.Test.YtcegokjpmppdbaaTlU12
import Derived.Test.YtcegokjpmppdbaaTwAN0
import Derived.WalkKit
set_option linter.unusedVariables false
set_option linter.unusedSimpArgs false
set_option maxRecDepth 100000
set_option maxHeartbeats 1000000
namespace Go.Proofs.Ytcegokjpmppdbaa.Tw
open Go Go.TL Go.Proofs
def JT (n : Nat) (x0 : (List zA)) : Option (Bool) :=
  (some (decide ((x0.length : Int) ≤ 12)))
def ZL (n : Nat) : Nat → (List zA) → Int → Option ((Unit) ⊕ (Bool))
  | 0,_,_ => none
  | mo2 + 1,x0,y1 => (bif (decide (y1 < (x0.length : Int))) then ((idx x0 y1).bind fun v3 => ((Yl n v3).bind fun r4 => (bif (!r4) then (some (Sum.inr false)) else (bif (decide (y1 > 0)) then ((idx x0 (IntKind.wrap .i64 (y1 - 1))).bind fun v5 => ((idx x0 (IntKind.wrap .i64 (y1 - 1))).bind fun v6 => ((Qx n v3 v5.Tag v6.Mac).bind fun r7 => (bif (!r7) then (some (Sum.inr false)) else (ZL n mo2 x0 (IntKind.wrap .i64 (y1 + 1))))))) else (ZL n mo2 x0 (IntKind.wrap .i64 (y1 + 1))))))) else (some (Sum.inl ())))
def YO (n : Nat) (x0 : (List zA)) : Option (Bool) :=
  ((ZL n n x0 0).bind fun o => match o with | .inl _ => (JT n x0) | .inr r => some r)
def zJe : Tab := ⟨24,[0,1,2,6,8,24,40,64,64,64,576,1344,2112,4160,64,64,32832,81984,131136,262208,532672,1048640,2097224,4194312],[0,1,2,4,8,24,40,64,64,64,576,1344,2112,4160,64,64,32832,81984,131136,262208,532672,1048640,2097224,4194312],[0,1,3,7,15,31,63,127,127,127,639,1919,3967,8063,127,127,32895,114815,245887,508031,1048575,2097151,4194303,8388607]⟩
theorem Zb : z6 (rg Try.f68 4) zJe = true := kr
theorem zER (n : Nat) (x0 : (List zA)) (r : Bool) (H : YO n x0 = some r) : zG Try.prog 68 [.val false [.sl false 5 (CV.frzEs (x0.map zA.row))]] [.val false [.lit (.bool r)]] [] := by
 refine cW Try.func68 (fun g d => sl [g 0,sl [g 1] (.block 0 (.loop (sl [g 2,cn 8 .skip (.exit 0),.block 1 (sl [g 3,d 4] (cn 35 (sl [g 5] .ret) .skip))] (g 6)))),g 7] .ret) [.tmp 2] fun cx => ?_
 unfold YO at H
 refine gA 1 1 0 ?_
 refine tS ?_
 refine rA 1 ?_
 refine kF x0 zA.row ?_
 refine uA 1 225 0 ?_
 obtain ⟨o2,eo2,Ho2⟩ := bs H
 clear H
 refine Tr.mid (ι := Unit) (fun v => ⟨40,0,[sC 0 (cF 5 x0 zA.row)],[]⟩) (fun v => JT n x0 = some r) ?_ ?_
 ·refine tB ?_
  refine Tr.loop (ι := Nat × (Int)) (fun v => ⟨40,0,[sI 7 v.2,sI 6 (x0.length : Int),sC 5 (cF 5 x0 zA.row),sC 0 (cF 5 x0 zA.row)],[]⟩) (fun v => ZL n v.1 x0 v.2 = some o2) (fun v => v.1) (n,0) eo2 (St.sub_of [7,6,5,0] [] kr) ?_
  rintro ⟨mo2,y1⟩ H
  have H : ZL n mo2 x0 y1 = some o2 := H
  obtain _ | mo2 := mo2
  ·exact nN H
  rw [ZL] at H
  refine gA 1 481 0 ?_
  refine tS ?_
  obtain ⟨h1,H⟩ | ⟨h1,H⟩ := bC H
  ·refine nA h1 ?_
   refine Tr.exit ?_
   refine aJ ?_
   obtain rfl := si H
   have H := Ho2
   dsimp only at H
   exact jA () H [0] []
  refine tA h1 ?_
  refine tK ?_
  refine tS ?_
  refine tB ?_
  refine rA 1 ?_
  obtain ⟨v3,ev3,H⟩ := bs H
  refine iA zA.row ev3 ?_
  refine uA 4 249 16 ?_
  obtain ⟨r4,er4,H⟩ := bs H
  refine sT ⟨40,0,[sI 3 y1,sA 4 4 5 0,sI 7 y1,sI 6 (x0.length : Int),sC 5 (cF 5 x0 zA.row),sC 0 (cF 5 x0 zA.row)],[(4,(zA.row v3))]⟩ ?_
  cases h2 : (!r4)
  ·have H := zI h2 H
   refine sT ⟨40,0,[sI 3 y1,sA 4 4 5 0,sI 7 y1,sI 6 (x0.length : Int),sC 5 (cF 5 x0 zA.row),sC 0 (cF 5 x0 zA.row)],[(4,(zA.row v3))]⟩ ?_
   cases h3 : (decide (y1 > 0))
   ·have H := zI h3 H
    refine Tr.draws mixed 24 kr ⟨40,0,[sB 35 false,sI 7 y1,sI 6 (x0.length : Int),sC 5 (cF 5 x0 zA.row),sC 0 (cF 5 x0 zA.row)],[]⟩ (fun cx => ?_) ?_
    ·refine mA Zb [(0,[1])] 23 [⟨[1],49,4,12⟩] fun cx => ?_
     refine mC Zb 1 ?_
     refine vA [.rd] (zAK n v3 r4 er4) ?_
     refine fA ?_
     refine mA Zb [(2,[]),(3,[])] 20 [⟨[1],49,4,12⟩] fun cx => ?_
     refine sA_ 37113 16 ⟨40,0,[sB 15 (!r4),sV 12 (zA.row v3),sI 3 y1,sA 4 4 5 0,sI 7 y1,sI 6 (x0.length : Int),sC 5 (cF 5 x0 zA.row),sC 0 (cF 5 x0 zA.row)],[(4,(zA.row v3))]⟩ ?_
     rw [h2]
     refine mA Zb [(4,[]),(5,[]),(6,[])] 17 [⟨[1],49,4,12⟩] fun cx => ?_
     refine sA_ 299257 16 ⟨40,0,[sB 18 (decide (y1 > 0)),sB 15 false,sV 12 (zA.row v3),sI 3 y1,sA 4 4 5 0,sI 7 y1,sI 6 (x0.length : Int),sC 5 (cF 5 x0 zA.row),sC 0 (cF 5 x0 zA.row)],[(4,(zA.row v3))]⟩ ?_
     rw [h3]
     refine mA Zb [(7,[]),(8,[]),(9,[]),(10,[]),(11,[]),(12,[]),(13,[]),(14,[]),(15,[]),(16,[]),(17,[]),(18,[]),(19,[]),(20,[]),(21,[]),(22,[]),(23,[])] 0 [⟨[1],49,4,12⟩] fun cx => ?_
     exact mE Zb [35,7,6,5,0] []
    refine nB_ ?_
    refine tK ?_
    refine eA 2 225 0 ?_
    exact jB mo2 (IntKind.wrap .i64 (y1 + 1)) H [7,6,5,0] []
   have H := zJ h3 H
   obtain ⟨v5,ev5,H⟩ := bs H
   obtain ⟨v6,ev6,H⟩ := bs H
   obtain ⟨r7,er7,H⟩ := bs H
   refine Tr.draws mixed 24 kr ⟨40,0,[sB 35 (!r7),sI 7 y1,sI 6 (x0.length : Int),sC 5 (cF 5 x0 zA.row),sC 0 (cF 5 x0 zA.row)],[]⟩ (fun cx => ?_) ?_
   ·refine mA Zb [(0,[1,20])] 23 [⟨[1,20],49,4,12⟩] fun cx => ?_
    refine mC Zb 1 ?_
    refine vA [.rd] (zAK n v3 r4 er4) ?_
    refine fA ?_
    refine mA Zb [(2,[]),(3,[])] 20 [⟨[1,20],49,4,12⟩] fun cx => ?_
    refine sA_ 37113 16 ⟨40,0,[sB 15 (!r4),sV 12 (zA.row v3),sI 3 y1,sA 4 4 5 0,sI 7 y1,sI 6 (x0.length : Int),sC 5 (cF 5 x0 zA.row),sC 0 (cF 5 x0 zA.row)],[(4,(zA.row v3))]⟩ ?_
    rw [h2]
    refine mA Zb [(4,[]),(5,[]),(6,[])] 17 [⟨[1,20],49,4,12⟩] fun cx => ?_
    refine sA_ 299257 16 ⟨40,0,[sB 18 (decide (y1 > 0)),sB 15 false,sV 12 (zA.row v3),sI 3 y1,sA 4 4 5 0,sI 7 y1,sI 6 (x0.length : Int),sC 5 (cF 5 x0 zA.row),sC 0 (cF 5 x0 zA.row)],[(4,(zA.row v3))]⟩ ?_
    rw [h3]
    refine mA Zb [(7,[20]),(8,[]),(9,[]),(10,[])] 13 [⟨[20],49,4,19⟩,⟨[1,20],49,4,12⟩] fun cx => ?_
    refine iN Zb 11 zA.row ev5 fun cx => ?_
    refine mA Zb [(12,[]),(13,[]),(14,[]),(15,[]),(16,[])] 7 [⟨[20],49,4,19⟩,⟨[1,20],49,4,12⟩] fun cx => ?_
    refine iN Zb 17 zA.row ev6 fun cx => ?_
    refine mA Zb [(18,[]),(19,[])] 4 [⟨[20],49,4,19⟩,⟨[1,20],49,4,12⟩] fun cx => ?_
    refine mC Zb 20 ?_
    refine vA [.rd,.rd,.rd] (zDh n v3 v5.Tag v6.Mac r7 er7) ?_
    refine fA ?_
    refine mA Zb [(21,[]),(22,[]),(23,[])] 0 [⟨[20],49,4,19⟩,⟨[1,20],49,4,12⟩] fun cx => ?_
    exact mE Zb [35,7,6,5,0] []
   refine sT ⟨40,0,[sB 35 (!r7),sI 7 y1,sI 6 (x0.length : Int),sC 5 (cF 5 x0 zA.row),sC 0 (cF 5 x0 zA.row)],[]⟩ ?_
   cases h4 : (!r7)
   ·have H := zI h4 H
    refine nB_ ?_
    refine tK ?_
    refine eA 2 225 0 ?_
    exact jB mo2 (IntKind.wrap .i64 (y1 + 1)) H [7,6,5,0] []
   have H := zJ h4 H
   refine tB_ ?_
   refine gA 1 4 0 ?_
   refine te ?_
   obtain rfl := si H
   have H := Ho2
   dsimp only at H
   exact fF H
  have H := zJ h2 H
  refine Tr.draws mixed 24 kr ⟨40,0,[sB 35 true,sI 7 y1,sI 6 (x0.length : Int),sC 5 (cF 5 x0 zA.row),sC 0 (cF 5 x0 zA.row)],[]⟩ (fun cx => ?_) ?_
  ·refine mA Zb [(0,[1])] 23 [⟨[1],49,4,12⟩] fun cx => ?_
   refine mC Zb 1 ?_
   refine vA [.rd] (zAK n v3 r4 er4) ?_
   refine fA ?_
   refine mA Zb [(2,[]),(3,[])] 20 [⟨[1],49,4,12⟩] fun cx => ?_
   refine sA_ 37113 16 ⟨40,0,[sB 15 (!r4),sV 12 (zA.row v3),sI 3 y1,sA 4 4 5 0,sI 7 y1,sI 6 (x0.length : Int),sC 5 (cF 5 x0 zA.row),sC 0 (cF 5 x0 zA.row)],[(4,(zA.row v3))]⟩ ?_
   rw [h2]
   refine mA Zb [(4,[]),(5,[]),(6,[]),(7,[]),(8,[]),(9,[]),(10,[]),(11,[]),(12,[]),(13,[]),(14,[]),(15,[]),(16,[]),(17,[]),(18,[]),(19,[]),(20,[]),(21,[]),(22,[]),(23,[])] 0 [⟨[1],49,4,12⟩] fun cx => ?_
   exact mE Zb [35,7,6,5,0] []
  refine tB_ ?_
  refine gA 1 4 0 ?_
  refine te ?_
  obtain rfl := si H
  have H := Ho2
  dsimp only at H
  exact fF H
 rintro _ H
 have H : (JT n x0) = some r := H
 unfold JT at H
 refine rA 1 ?_
 refine kF x0 zA.row ?_
 refine uA 2 4 0 ?_
 exact te (fJ [(false,[cB (decide ((x0.length : Int) ≤ 12))])] H)
def ZV (n : Nat) (x0 : Int) : Option (Int) :=
  (bif (decide ((0 : Int) ≤ x0)) then (some (IntKind.wrap .i64 ((IntKind.wrap .i64 (1 * 2 ^ min ((x0 : Int)).toNat (IntKind.bits .i64))) - 1))) else none)
theorem JY (n : Nat) (x0 : Int) (r : Int) (H : ZV n x0 = some r) : zG Try.prog 100 [.val false [.lit (.int .i64 x0)]] [.val false [.lit (.int .i64 r)]] [] := by
 refine cW Try.func100 (fun g d => sl [g 0,g 1] .ret) [.tmp 2] fun cx => ?_
 unfold ZV at H
 refine gA 1 1 0 ?_
 refine rA 1 ?_
 obtain ⟨hg1,H⟩ := gs H
 refine LAt.binC tOk (op := .shl) (t := 3) (ty := 3) (ty' := 3) (x := (.const (.int .i64 1))) (y := (.tmp 3)) (d := 4) (g := none) (.int .i64 1) (.int .i64 x0) (.int .i64 (IntKind.wrap .i64 (1 * 2 ^ min ((x0 : Int)).toNat (IntKind.bits .i64)))) _ kr kr kr kr kr (φ := (0 : Int) ≤ x0) kr (of_decide_eq_true hg1) rfl ?_
 refine uA 2 4 0 ?_
 exact te (fJ [(false,[cI (IntKind.wrap .i64 ((IntKind.wrap .i64 (1 * 2 ^ min ((x0 : Int)).toNat (IntKind.bits .i64))) - 1))])] H)
def JV (n : Nat) : Option (Int) :=
  (some (-1))
def QE (n : Nat) : Nat → zC → Int → Int → Option ((Unit) ⊕ (Int))
  | 0,_,_,_ => none
  | mo2 + 1,x0,x1,y1 => (bif (decide (y1 < (x0.Rows.length : Int))) then ((idx x0.Rows y1).bind fun v3 => (bif (v3.Id == x1) then (some (Sum.inr y1)) else (QE n mo2 x0 x1 (IntKind.wrap .i64 (y1 + 1))))) else (some (Sum.inl ())))
def QP (n : Nat) (x0 : zC) (x1 : Int) : Option (Int) :=
  ((QE n n x0 x1 0).bind fun o => match o with | .inl _ => (JV n) | .inr r => some r)
theorem zAx (n : Nat) (x0 : zC) (x1 : Int) (r : Int) (H : QP n x0 x1 = some r) : zG Try.prog 89 [.val true (CV.frzRow (zC.row x0)),.val false [.lit (.int .i64 x1)]] [.val false [.lit (.int .i64 r)]] [] := by
 refine cW Try.func89 (fun g d => sl [g 0,sl [g 1] (.block 0 (.loop (sl [g 2,cn 11 .skip (.exit 0),.block 1 (sl [g 3,g 4] (cn 18 (sl [g 5] .ret) .skip))] (g 6)))),g 7] .ret) [.tmp 4] fun cx => ?_
 unfold QP at H
 refine gA 2 6 4 ?_
 refine tS ?_
 refine rA 2 ?_
 refine kF x0.Rows zB.row ?_
 refine uA 1 1794 0 ?_
 obtain ⟨o2,eo2,Ho2⟩ := bs H
 clear H
 refine Tr.mid (ι := Unit) (fun v => ⟨21,0,[],[]⟩) (fun v => JV n = some r) ?_ ?_
 ·refine tB ?_
  refine Tr.loop (ι := Nat × (Int)) (fun v => ⟨21,0,[sI 10 v.2,sI 9 (x0.Rows.length : Int),sC 8 (cF 3 x0.Rows zB.row),sI 1 x1],[]⟩) (fun v => QE n v.1 x0 x1 v.2 = some o2) (fun v => v.1) (n,0) eo2 (St.sub_of [10,9,8,1] [] kr) ?_
  rintro ⟨mo2,y1⟩ H
  have H : QE n mo2 x0 x1 y1 = some o2 := H
  obtain _ | mo2 := mo2
  ·exact nN H
  rw [QE] at H
  refine gA 1 3842 0 ?_
  refine tS ?_
  obtain ⟨h1,H⟩ | ⟨h1,H⟩ := bC H
  ·refine nA h1 ?_
   refine Tr.exit ?_
   refine aJ ?_
   obtain rfl := si H
   have H := Ho2
   dsimp only at H
   exact jA () H [] []
  refine tA h1 ?_
  refine tK ?_
  refine tS ?_
  refine tB ?_
  refine rA 1 ?_
  obtain ⟨v3,ev3,H⟩ := bs H
  refine iA zB.row ev3 ?_
  refine uA 4 1890 64 ?_
  refine gA 4 263970 0 ?_
  obtain ⟨h2,H⟩ | ⟨h2,H⟩ := bC H
  ·refine nA h2 ?_
   refine tK ?_
   refine eA 2 1794 0 ?_
   exact jB mo2 (IntKind.wrap .i64 (y1 + 1)) H [10,9,8,1] []
  refine tA h2 ?_
  refine gA 2 16 0 ?_
  refine te ?_
  obtain rfl := si H
  have H := Ho2
  dsimp only at H
  exact fJ [(false,[cI y1])] H
 rintro _ H
 have H : (JV n) = some r := H
 unfold JV at H
 refine gA 1 16 0 ?_
 exact te (fJ [(false,[cI (-1)])] H)
def Y5 (n : Nat) : Option (Bool) :=
  (some true)
def ZU (n : Nat) : Nat → zC → Int → Option ((Unit) ⊕ (Bool))
  | 0,_,_ => none
  | mo4 + 1,x0,y3 => (bif (decide (y3 < (x0.Pv.length : Int))) then ((idx x0.Pv y3).bind fun v5 => ((QP n x0 v5).bind fun r6 => (bif (decide (r6 < 0)) then (some (Sum.inr false)) else (ZU n mo4 x0 (IntKind.wrap .i64 (y3 + 1)))))) else (some (Sum.inl ())))
def Qw (n : Nat) (x0 : zC) : Option (Bool) :=
  ((ZU n n x0 0).bind fun o => match o with | .inl _ => (Y5 n) | .inr r => some r)
def qx (n : Nat) : Nat → zC → Int → Int → Option ((Unit) ⊕ (Bool))
  | 0,_,_,_ => none
  | mo7 + 1,x0,x1,y2 => (bif (decide (y2 < (x0.Rows.length : Int))) then ((idx x0.Rows y2).bind fun v8 => ((zt n v8.Id 1 99).bind fun r9 => (bif (!r9) then (some (Sum.inr false)) else (bif (decide (y2 > 0)) then ((idx x0.Rows (IntKind.wrap .i64 (y2 - 1))).bind fun v12 => (bif (decide (v12.Id ≥ v8.Id)) then (some (Sum.inr false)) else ((ZV n x1).bind fun r13 => ((zt n v8.Members 0 r13).bind fun r14 => (bif (!r14) then (some (Sum.inr false)) else (bif ((IntKind.wrap .i64 (BitVec.ofInt (IntKind.bits .i64) v8.Bare &&& ~~~BitVec.ofInt (IntKind.bits .i64) v8.Members).toNat) != 0) then (some (Sum.inr false)) else (qx n mo7 x0 x1 (IntKind.wrap .i64 (y2 + 1))))))))) else ((ZV n x1).bind fun r10 => ((zt n v8.Members 0 r10).bind fun r11 => (bif (!r11) then (some (Sum.inr false)) else (bif ((IntKind.wrap .i64 (BitVec.ofInt (IntKind.bits .i64) v8.Bare &&& ~~~BitVec.ofInt (IntKind.bits .i64) v8.Members).toNat) != 0) then (some (Sum.inr false)) else (qx n mo7 x0 x1 (IntKind.wrap .i64 (y2 + 1))))))))))) else (some (Sum.inl ())))
def Yk (n : Nat) (x0 : zC) (x1 : Int) : Option (Bool) :=
  ((zt n x1 1 6).bind fun r1 => (bif (!r1) then (some false) else (bif ((x0.Pv.length : Int) != x1) then (some false) else (bif (decide ((x0.Rows.length : Int) > 6)) then (some false) else ((qx n n x0 x1 0).bind fun o => match o with | .inl _ => (Qw n x0) | .inr r => some r)))))
def zJa : Tab := ⟨36,[0,1,2,4,12,16,48,80,128,384,128,1152,2688,4224,8320,128,32896,82048,131216,262160,524416,1048576,3145728,1048576,9437184,22020096,34603008,68157440,167772160,268435456,805306368,268435456,2415919104,5637144576,8858370048,17448304640],[0,1,2,4,8,16,48,80,128,384,128,1152,2688,4224,8320,128,32896,82048,131216,262160,524288,1048576,3145728,1048576,9437184,22020096,34603008,68157440,134217728,268435456,805306368,268435456,2415919104,5637144576,8858370048,17448304640],[0,1,3,7,15,31,63,127,255,511,255,1279,4095,8191,16383,255,33023,131071,262143,524287,1048575,2097151,4194303,2097151,10485759,33554431,67108863,134217727,268435455,536870911,1073741823,536870911,2684354559,8589934591,17179869183,34359738367]⟩
theorem za : z6 (rg Try.f40 6) zJa = true := kr
theorem zE0 (n : Nat) (x1 : Int) (r13 : Int) (v8 : zB) (r14 : Bool) (y2 : Int) (x0 : zC) (er13 : (ZV n x1) = some r13) (er14 : (zt n v8.Members 0 r13) = some r14) (h12 : (!r14) = false) (cx : Cx) : AT Try.prog cx (rg Try.f40 6) [⟨[24,25],3,48,49⟩,⟨[24,25],26,41,42⟩,⟨[2,24,25],3,33,34⟩] 15 [20,19,18,17,16,15,14,13,12,11,10,9,8,7,6,5,4,3,2,1,0] ⟨82,0,[sB 53 false,sI 49 v8.Id,sA 48 6 3 0,sR 42 2 2 0 1 false,sA 41 2 2 0,sI 34 v8.Id,sA 33 6 3 0,sA 6 6 3 0,sI 28 y2,sI 27 (x0.Rows.length : Int),sC 26 (cF 3 x0.Rows zB.row),sA 2 2 2 0,sI 1 x1],[(6,(zB.row v8)),(2,(CV.frzRow (zC.row x0)))]⟩ (fun s => s = ⟨82,0,[sB 68 ((IntKind.wrap .i64 (BitVec.ofInt (IntKind.bits .i64) v8.Bare &&& ~~~BitVec.ofInt (IntKind.bits .i64) v8.Members).toNat) != 0),sI 28 y2,sI 27 (x0.Rows.length : Int),sC 26 (cF 3 x0.Rows zB.row),sA 2 2 2 0,sI 1 x1],[(2,(CV.frzRow (zC.row x0)))]⟩) := by
 refine mA za [(21,[]),(22,[25]),(23,[])] 12 [⟨[25],3,54,55⟩,⟨[24,25],3,48,49⟩,⟨[24,25],26,41,42⟩,⟨[2,24,25],3,33,34⟩] fun cx => ?_
 refine mC za 24 ?_
 refine vA [.rd] (JY n x1 r13 er13) ?_
 refine fA ?_
 refine mC za 25 ?_
 refine vA [.rd,.rd,.rd] (zz n v8.Members 0 r13 r14 er14) ?_
 refine fA ?_
 refine mA za [(26,[]),(27,[]),(28,[])] 7 [⟨[25],3,54,55⟩,⟨[24,25],3,48,49⟩,⟨[24,25],26,41,42⟩,⟨[2,24,25],3,33,34⟩] fun cx => ?_
 refine sA_ 0x20c306061c000046 68 ⟨82,0,[sB 61 (!r14),sI 55 v8.Members,sA 54 6 3 1,sI 49 v8.Id,sA 48 6 3 0,sR 42 2 2 0 1 false,sA 41 2 2 0,sI 34 v8.Id,sA 33 6 3 0,sA 6 6 3 0,sI 28 y2,sI 27 (x0.Rows.length : Int),sC 26 (cF 3 x0.Rows zB.row),sA 2 2 2 0,sI 1 x1],[(6,(zB.row v8)),(2,(CV.frzRow (zC.row x0)))]⟩ ?_
 rw [h12]
 refine mA za [(29,[]),(30,[]),(31,[]),(32,[]),(33,[]),(34,[]),(35,[])] 0 [⟨[],3,64,65⟩,⟨[],3,62,63⟩,⟨[25],3,54,55⟩,⟨[24,25],3,48,49⟩,⟨[24,25],26,41,42⟩,⟨[2,24,25],3,33,34⟩] fun cx => ?_
 exact mE za [68,28,27,26,2,1] [2]
theorem zE1 (n : Nat) (x1 : Int) (r13 : Int) (v8 : zB) (r14 : Bool) (y2 : Int) (x0 : zC) (er13 : (ZV n x1) = some r13) (er14 : (zt n v8.Members 0 r13) = some r14) (h12 : (!r14) = true) (cx : Cx) : AT Try.prog cx (rg Try.f40 6) [⟨[24,25],3,48,49⟩,⟨[24,25],26,41,42⟩,⟨[2,24,25],3,33,34⟩] 15 [20,19,18,17,16,15,14,13,12,11,10,9,8,7,6,5,4,3,2,1,0] ⟨82,0,[sB 53 false,sI 49 v8.Id,sA 48 6 3 0,sR 42 2 2 0 1 false,sA 41 2 2 0,sI 34 v8.Id,sA 33 6 3 0,sA 6 6 3 0,sI 28 y2,sI 27 (x0.Rows.length : Int),sC 26 (cF 3 x0.Rows zB.row),sA 2 2 2 0,sI 1 x1],[(6,(zB.row v8)),(2,(CV.frzRow (zC.row x0)))]⟩ (fun s => s = ⟨82,0,[sB 68 true,sI 28 y2,sI 27 (x0.Rows.length : Int),sC 26 (cF 3 x0.Rows zB.row),sA 2 2 2 0,sI 1 x1],[(2,(CV.frzRow (zC.row x0)))]⟩) := by
 refine mA za [(21,[]),(22,[25]),(23,[])] 12 [⟨[25],3,54,55⟩,⟨[24,25],3,48,49⟩,⟨[24,25],26,41,42⟩,⟨[2,24,25],3,33,34⟩] fun cx => ?_
 refine mC za 24 ?_
 refine vA [.rd] (JY n x1 r13 er13) ?_
 refine fA ?_
 refine mC za 25 ?_
 refine vA [.rd,.rd,.rd] (zz n v8.Members 0 r13 r14 er14) ?_
 refine fA ?_
 refine mA za [(26,[]),(27,[]),(28,[])] 7 [⟨[25],3,54,55⟩,⟨[24,25],3,48,49⟩,⟨[24,25],26,41,42⟩,⟨[2,24,25],3,33,34⟩] fun cx => ?_
 refine sA_ 0x20c306061c000046 68 ⟨82,0,[sB 61 (!r14),sI 55 v8.Members,sA 54 6 3 1,sI 49 v8.Id,sA 48 6 3 0,sR 42 2 2 0 1 false,sA 41 2 2 0,sI 34 v8.Id,sA 33 6 3 0,sA 6 6 3 0,sI 28 y2,sI 27 (x0.Rows.length : Int),sC 26 (cF 3 x0.Rows zB.row),sA 2 2 2 0,sI 1 x1],[(6,(zB.row v8)),(2,(CV.frzRow (zC.row x0)))]⟩ ?_
 rw [h12]
 refine mA za [(29,[]),(30,[]),(31,[]),(32,[]),(33,[]),(34,[]),(35,[])] 0 [⟨[25],3,54,55⟩,⟨[24,25],3,48,49⟩,⟨[24,25],26,41,42⟩,⟨[2,24,25],3,33,34⟩] fun cx => ?_
 exact mE za [68,28,27,26,2,1] [2]
theorem zE2 (n : Nat) (v8 : zB) (y2 : Int) (x0 : zC) (x1 : Int) (cx : Cx) : AT Try.prog cx (rg Try.f40 6) [⟨[],3,48,49⟩,⟨[],26,41,42⟩,⟨[2],3,33,34⟩] 15 [20,19,18,17,16,15,14,13,12,11,10,9,8,7,6,5,4,3,2,1,0] ⟨82,0,[sB 53 true,sI 49 v8.Id,sA 48 6 3 0,sR 42 2 2 0 1 false,sA 41 2 2 0,sI 34 v8.Id,sA 33 6 3 0,sA 6 6 3 0,sI 28 y2,sI 27 (x0.Rows.length : Int),sC 26 (cF 3 x0.Rows zB.row),sA 2 2 2 0,sI 1 x1],[(6,(zB.row v8)),(2,(CV.frzRow (zC.row x0)))]⟩ (fun s => s = ⟨82,0,[sB 68 true,sI 28 y2,sI 27 (x0.Rows.length : Int),sC 26 (cF 3 x0.Rows zB.row),sA 2 2 2 0,sI 1 x1],[(2,(CV.frzRow (zC.row x0)))]⟩) := by
 refine mA za [(21,[]),(22,[]),(23,[]),(24,[]),(25,[]),(26,[]),(27,[]),(28,[]),(29,[]),(30,[]),(31,[]),(32,[]),(33,[]),(34,[]),(35,[])] 0 [⟨[],3,48,49⟩,⟨[],26,41,42⟩,⟨[2],3,33,34⟩] fun cx => ?_
 exact mE za [68,28,27,26,2,1] [2]
theorem zGj (n : Nat) (x0 : zC) (x1 : Int) (r : Bool) (H : Yk n x0 x1 = some r) : zG Try.prog 40 [.val true (CV.frzRow (zC.row x0)),.val false [.lit (.int .i64 x1)]] [.val false [.lit (.bool r)]] [] := by
 refine cW Try.func40 (fun g d => sl [g 0,sl [g 1] (cn 24 (sl [g 2] .ret) .skip),sl [g 3] (.block 0 (.loop (sl [g 4,cn 29 .skip (.exit 0),.block 1 (sl [g 5,d 6] (cn 68 (sl [g 7] .ret) .skip))] (g 8)))),sl [g 9] (.block 2 (.loop (sl [g 10,cn 74 .skip (.exit 2),.block 3 (sl [g 11,g 12] (cn 80 (sl [g 13] .ret) .skip))] (g 14)))),g 15] .ret) [.tmp 4] fun cx => ?_
 unfold Yk at H
 refine gA 2 6 4 ?_
 refine tS ?_
 refine rA 1 ?_
 obtain ⟨r1,er1,H⟩ := bs H
 refine vA [.rd,.rd,.rd] (zz n x1 1 6 r1 er1) ?_
 refine lA 2 ?_
 refine sL 4102 4 ⟨82,0,[sB 12 (!r1),sA 2 2 2 0,sI 1 x1],[(2,(CV.frzRow (zC.row x0)))]⟩ ?_
 cases h1 : (!r1)
 ·have H := zI h1 H
  refine lA 2 ?_
  refine kF x0.Pv intRow ?_
  refine lA 4 ?_
  refine sL 524294 4 ⟨82,0,[sB 19 ((x0.Pv.length : Int) != x1),sA 2 2 2 0,sI 1 x1],[(2,(CV.frzRow (zC.row x0)))]⟩ ?_
  cases h2 : ((x0.Pv.length : Int) != x1)
  ·have H := zI h2 H
   refine lA 2 ?_
   refine kF x0.Rows zB.row ?_
   refine uA 2 16777222 4 ?_
   obtain ⟨h3,H⟩ | ⟨h3,H⟩ := bC H
   ·refine nA h3 ?_
    refine tK ?_
    refine tS ?_
    refine rA 2 ?_
    refine kF x0.Rows zB.row ?_
    refine uA 1 469762054 4 ?_
    obtain ⟨o7,eo7,Ho7⟩ := bs H
    clear H
    refine Tr.mid (ι := Unit) (fun v => ⟨82,0,[sA 2 2 2 0],[(2,(CV.frzRow (zC.row x0)))]⟩) (fun v => Qw n x0 = some r) ?_ ?_
    ·refine tB ?_
     refine Tr.loop (ι := Nat × (Int)) (fun v => ⟨82,0,[sI 28 v.2,sI 27 (x0.Rows.length : Int),sC 26 (cF 3 x0.Rows zB.row),sA 2 2 2 0,sI 1 x1],[(2,(CV.frzRow (zC.row x0)))]⟩) (fun v => qx n v.1 x0 x1 v.2 = some o7) (fun v => v.1) (n,0) eo7 (St.sub_of [28,27,26,2,1] [2] kr) ?_
     rintro ⟨mo7,y2⟩ H
     have H : qx n mo7 x0 x1 y2 = some o7 := H
     obtain _ | mo7 := mo7
     ·exact nN H
     rw [qx] at H
     refine gA 1 1006632966 4 ?_
     refine tS ?_
     obtain ⟨h6,H⟩ | ⟨h6,H⟩ := bC H
     ·refine nA h6 ?_
      refine Tr.exit ?_
      refine aJ ?_
      obtain rfl := si H
      have H := Ho7
      dsimp only at H
      exact jA () H [2] [2]
     refine tA h6 ?_
     refine tK ?_
     refine tS ?_
     refine tB ?_
     refine rA 1 ?_
     obtain ⟨v8,ev8,H⟩ := bs H
     refine iA zB.row ev8 ?_
     refine uA 4 469762150 68 ?_
     obtain ⟨r9,er9,H⟩ := bs H
     refine sT ⟨82,0,[sI 5 y2,sA 6 6 3 0,sI 28 y2,sI 27 (x0.Rows.length : Int),sC 26 (cF 3 x0.Rows zB.row),sA 2 2 2 0,sI 1 x1],[(6,(zB.row v8)),(2,(CV.frzRow (zC.row x0)))]⟩ ?_
     cases h7 : (!r9)
     ·have H := zI h7 H
      refine sT ⟨82,0,[sI 5 y2,sA 6 6 3 0,sI 28 y2,sI 27 (x0.Rows.length : Int),sC 26 (cF 3 x0.Rows zB.row),sA 2 2 2 0,sI 1 x1],[(6,(zB.row v8)),(2,(CV.frzRow (zC.row x0)))]⟩ ?_
      cases h8 : (decide (y2 > 0))
      ·have H := zI h8 H
       obtain ⟨r10,er10,H⟩ := bs H
       obtain ⟨r11,er11,H⟩ := bs H
       refine sT ⟨82,0,[sI 5 y2,sA 6 6 3 0,sI 28 y2,sI 27 (x0.Rows.length : Int),sC 26 (cF 3 x0.Rows zB.row),sA 2 2 2 0,sI 1 x1],[(6,(zB.row v8)),(2,(CV.frzRow (zC.row x0)))]⟩ ?_
       cases h9 : (!r11)
       ·have H := zI h9 H
        refine Tr.draws mixed 36 kr ⟨82,0,[sB 68 ((IntKind.wrap .i64 (BitVec.ofInt (IntKind.bits .i64) v8.Bare &&& ~~~BitVec.ofInt (IntKind.bits .i64) v8.Members).toNat) != 0),sI 28 y2,sI 27 (x0.Rows.length : Int),sC 26 (cF 3 x0.Rows zB.row),sA 2 2 2 0,sI 1 x1],[(2,(CV.frzRow (zC.row x0)))]⟩ (fun cx => ?_) ?_
        ·refine mA za [(0,[]),(1,[2,24,25])] 34 [⟨[2,24,25],3,33,34⟩] fun cx => ?_
         refine mC za 2 ?_
         refine vA [.rd,.rd,.rd] (zz n v8.Id 1 99 r9 er9) ?_
         refine fA ?_
         refine mA za [(3,[]),(4,[])] 31 [⟨[2,24,25],3,33,34⟩] fun cx => ?_
         refine sA_ 163678519398 68 ⟨82,0,[sB 37 (!r9),sI 34 v8.Id,sA 33 6 3 0,sI 5 y2,sA 6 6 3 0,sI 28 y2,sI 27 (x0.Rows.length : Int),sC 26 (cF 3 x0.Rows zB.row),sA 2 2 2 0,sI 1 x1],[(6,(zB.row v8)),(2,(CV.frzRow (zC.row x0)))]⟩ ?_
         rw [h7]
         refine mA za [(5,[]),(6,[]),(7,[])] 28 [⟨[2,24,25],3,33,34⟩] fun cx => ?_
         refine sA_ 1263190147174 68 ⟨82,0,[sB 40 (decide (y2 > 0)),sB 37 false,sI 34 v8.Id,sA 33 6 3 0,sI 5 y2,sA 6 6 3 0,sI 28 y2,sI 27 (x0.Rows.length : Int),sC 26 (cF 3 x0.Rows zB.row),sA 2 2 2 0,sI 1 x1],[(6,(zB.row v8)),(2,(CV.frzRow (zC.row x0)))]⟩ ?_
         rw [h8]
         refine mA za [(8,[]),(9,[]),(10,[]),(11,[]),(12,[]),(13,[]),(14,[]),(15,[]),(16,[]),(17,[]),(18,[]),(19,[]),(20,[]),(21,[]),(22,[25]),(23,[])] 12 [⟨[25],3,54,55⟩,⟨[2,24,25],3,33,34⟩] fun cx => ?_
         refine mC za 24 ?_
         refine vA [.rd] (JY n x1 r10 er10) ?_
         refine fA ?_
         refine mC za 25 ?_
         refine vA [.rd,.rd,.rd] (zz n v8.Members 0 r10 r11 er11) ?_
         refine fA ?_
         refine mA za [(26,[]),(27,[]),(28,[])] 7 [⟨[25],3,54,55⟩,⟨[2,24,25],3,33,34⟩] fun cx => ?_
         refine sA_ 0x20c000061c000046 68 ⟨82,0,[sB 61 (!r11),sI 55 v8.Members,sA 54 6 3 1,sI 34 v8.Id,sA 33 6 3 0,sA 6 6 3 0,sI 28 y2,sI 27 (x0.Rows.length : Int),sC 26 (cF 3 x0.Rows zB.row),sA 2 2 2 0,sI 1 x1],[(6,(zB.row v8)),(2,(CV.frzRow (zC.row x0)))]⟩ ?_
         rw [h9]
         refine mA za [(29,[]),(30,[]),(31,[]),(32,[]),(33,[]),(34,[]),(35,[])] 0 [⟨[],3,64,65⟩,⟨[],3,62,63⟩,⟨[25],3,54,55⟩,⟨[2,24,25],3,33,34⟩] fun cx => ?_
         exact mE za [68,28,27,26,2,1] [2]
        refine sT ⟨82,0,[sB 68 ((IntKind.wrap .i64 (BitVec.ofInt (IntKind.bits .i64) v8.Bare &&& ~~~BitVec.ofInt (IntKind.bits .i64) v8.Members).toNat) != 0),sI 28 y2,sI 27 (x0.Rows.length : Int),sC 26 (cF 3 x0.Rows zB.row),sA 2 2 2 0,sI 1 x1],[(2,(CV.frzRow (zC.row x0)))]⟩ ?_
        cases h10 : ((IntKind.wrap .i64 (BitVec.ofInt (IntKind.bits .i64) v8.Bare &&& ~~~BitVec.ofInt (IntKind.bits .i64) v8.Members).toNat) != 0)
        ·have H := zI h10 H
         refine nB_ ?_
         refine tK ?_
         refine eA 2 469762054 4 ?_
         exact jB mo7 (IntKind.wrap .i64 (y2 + 1)) H [28,27,26,2,1] [2]
        have H := zJ h10 H
        refine tB_ ?_
        refine gA 1 16 0 ?_
        refine te ?_
        obtain rfl := si H
        have H := Ho7
        dsimp only at H
        exact fF H
       have H := zJ h9 H
       refine Tr.draws mixed 36 kr ⟨82,0,[sB 68 true,sI 28 y2,sI 27 (x0.Rows.length : Int),sC 26 (cF 3 x0.Rows zB.row),sA 2 2 2 0,sI 1 x1],[(2,(CV.frzRow (zC.row x0)))]⟩ (fun cx => ?_) ?_
       ·refine mA za [(0,[]),(1,[2,24,25])] 34 [⟨[2,24,25],3,33,34⟩] fun cx => ?_
        refine mC za 2 ?_
        refine vA [.rd,.rd,.rd] (zz n v8.Id 1 99 r9 er9) ?_
        refine fA ?_
        refine mA za [(3,[]),(4,[])] 31 [⟨[2,24,25],3,33,34⟩] fun cx => ?_
        refine sA_ 163678519398 68 ⟨82,0,[sB 37 (!r9),sI 34 v8.Id,sA 33 6 3 0,sI 5 y2,sA 6 6 3 0,sI 28 y2,sI 27 (x0.Rows.length : Int),sC 26 (cF 3 x0.Rows zB.row),sA 2 2 2 0,sI 1 x1],[(6,(zB.row v8)),(2,(CV.frzRow (zC.row x0)))]⟩ ?_
        rw [h7]
        refine mA za [(5,[]),(6,[]),(7,[])] 28 [⟨[2,24,25],3,33,34⟩] fun cx => ?_
        refine sA_ 1263190147174 68 ⟨82,0,[sB 40 (decide (y2 > 0)),sB 37 false,sI 34 v8.Id,sA 33 6 3 0,sI 5 y2,sA 6 6 3 0,sI 28 y2,sI 27 (x0.Rows.length : Int),sC 26 (cF 3 x0.Rows zB.row),sA 2 2 2 0,sI 1 x1],[(6,(zB.row v8)),(2,(CV.frzRow (zC.row x0)))]⟩ ?_
        rw [h8]
        refine mA za [(8,[]),(9,[]),(10,[]),(11,[]),(12,[]),(13,[]),(14,[]),(15,[]),(16,[]),(17,[]),(18,[]),(19,[]),(20,[]),(21,[]),(22,[25]),(23,[])] 12 [⟨[25],3,54,55⟩,⟨[2,24,25],3,33,34⟩] fun cx => ?_
        refine mC za 24 ?_
        refine vA [.rd] (JY n x1 r10 er10) ?_
        refine fA ?_
        refine mC za 25 ?_
        refine vA [.rd,.rd,.rd] (zz n v8.Members 0 r10 r11 er11) ?_
        refine fA ?_
        refine mA za [(26,[]),(27,[]),(28,[])] 7 [⟨[25],3,54,55⟩,⟨[2,24,25],3,33,34⟩] fun cx => ?_
        refine sA_ 0x20c000061c000046 68 ⟨82,0,[sB 61 (!r11),sI 55 v8.Members,sA 54 6 3 1,sI 34 v8.Id,sA 33 6 3 0,sA 6 6 3 0,sI 28 y2,sI 27 (x0.Rows.length : Int),sC 26 (cF 3 x0.Rows zB.row),sA 2 2 2 0,sI 1 x1],[(6,(zB.row v8)),(2,(CV.frzRow (zC.row x0)))]⟩ ?_
        rw [h9]
        refine mA za [(29,[]),(30,[]),(31,[]),(32,[]),(33,[]),(34,[]),(35,[])] 0 [⟨[25],3,54,55⟩,⟨[2,24,25],3,33,34⟩] fun cx => ?_
        exact mE za [68,28,27,26,2,1] [2]
       refine tB_ ?_
       refine gA 1 16 0 ?_
       refine te ?_
       obtain rfl := si H
       have H := Ho7
       dsimp only at H
       exact fF H
      have H := zJ h8 H
      obtain ⟨v12,ev12,H⟩ := bs H
      refine sT ⟨82,0,[sI 5 y2,sA 6 6 3 0,sI 28 y2,sI 27 (x0.Rows.length : Int),sC 26 (cF 3 x0.Rows zB.row),sA 2 2 2 0,sI 1 x1],[(6,(zB.row v8)),(2,(CV.frzRow (zC.row x0)))]⟩ ?_
      cases h11 : (decide (v12.Id ≥ v8.Id))
      ·have H := zI h11 H
       obtain ⟨r13,er13,H⟩ := bs H
       obtain ⟨r14,er14,H⟩ := bs H
       refine sT ⟨82,0,[sI 5 y2,sA 6 6 3 0,sI 28 y2,sI 27 (x0.Rows.length : Int),sC 26 (cF 3 x0.Rows zB.row),sA 2 2 2 0,sI 1 x1],[(6,(zB.row v8)),(2,(CV.frzRow (zC.row x0)))]⟩ ?_
       cases h12 : (!r14)
       ·have H := zI h12 H
        refine Tr.draws mixed 36 kr ⟨82,0,[sB 68 ((IntKind.wrap .i64 (BitVec.ofInt (IntKind.bits .i64) v8.Bare &&& ~~~BitVec.ofInt (IntKind.bits .i64) v8.Members).toNat) != 0),sI 28 y2,sI 27 (x0.Rows.length : Int),sC 26 (cF 3 x0.Rows zB.row),sA 2 2 2 0,sI 1 x1],[(2,(CV.frzRow (zC.row x0)))]⟩ (fun cx => ?_) ?_
        ·refine mA za [(0,[]),(1,[2,24,25])] 34 [⟨[2,24,25],3,33,34⟩] fun cx => ?_
         refine mC za 2 ?_
         refine vA [.rd,.rd,.rd] (zz n v8.Id 1 99 r9 er9) ?_
         refine fA ?_
         refine mA za [(3,[]),(4,[])] 31 [⟨[2,24,25],3,33,34⟩] fun cx => ?_
         refine sA_ 163678519398 68 ⟨82,0,[sB 37 (!r9),sI 34 v8.Id,sA 33 6 3 0,sI 5 y2,sA 6 6 3 0,sI 28 y2,sI 27 (x0.Rows.length : Int),sC 26 (cF 3 x0.Rows zB.row),sA 2 2 2 0,sI 1 x1],[(6,(zB.row v8)),(2,(CV.frzRow (zC.row x0)))]⟩ ?_
         rw [h7]
         refine mA za [(5,[]),(6,[]),(7,[])] 28 [⟨[2,24,25],3,33,34⟩] fun cx => ?_
         refine sA_ 1263190147174 68 ⟨82,0,[sB 40 (decide (y2 > 0)),sB 37 false,sI 34 v8.Id,sA 33 6 3 0,sI 5 y2,sA 6 6 3 0,sI 28 y2,sI 27 (x0.Rows.length : Int),sC 26 (cF 3 x0.Rows zB.row),sA 2 2 2 0,sI 1 x1],[(6,(zB.row v8)),(2,(CV.frzRow (zC.row x0)))]⟩ ?_
         rw [h8]
         refine mA za [(8,[]),(9,[24,25]),(10,[]),(11,[])] 24 [⟨[24,25],26,41,42⟩,⟨[2,24,25],3,33,34⟩] fun cx => ?_
         refine iN za 12 zB.row ev12 fun cx => ?_
         refine mA za [(13,[]),(14,[]),(15,[]),(16,[24,25]),(17,[]),(18,[]),(19,[]),(20,[])] 15 [⟨[24,25],3,48,49⟩,⟨[24,25],26,41,42⟩,⟨[2,24,25],3,33,34⟩] fun cx => ?_
         refine sA_ 9858247494205510 68 ⟨82,0,[sB 53 (decide (v12.Id ≥ v8.Id)),sI 49 v8.Id,sA 48 6 3 0,sR 42 2 2 0 1 false,sA 41 2 2 0,sI 34 v8.Id,sA 33 6 3 0,sA 6 6 3 0,sI 28 y2,sI 27 (x0.Rows.length : Int),sC 26 (cF 3 x0.Rows zB.row),sA 2 2 2 0,sI 1 x1],[(6,(zB.row v8)),(2,(CV.frzRow (zC.row x0)))]⟩ ?_
         rw [h11]
         exact zE0 n x1 r13 v8 r14 y2 x0 er13 er14 h12 cx
        refine sT ⟨82,0,[sB 68 ((IntKind.wrap .i64 (BitVec.ofInt (IntKind.bits .i64) v8.Bare &&& ~~~BitVec.ofInt (IntKind.bits .i64) v8.Members).toNat) != 0),sI 28 y2,sI 27 (x0.Rows.length : Int),sC 26 (cF 3 x0.Rows zB.row),sA 2 2 2 0,sI 1 x1],[(2,(CV.frzRow (zC.row x0)))]⟩ ?_
        cases h13 : ((IntKind.wrap .i64 (BitVec.ofInt (IntKind.bits .i64) v8.Bare &&& ~~~BitVec.ofInt (IntKind.bits .i64) v8.Members).toNat) != 0)
        ·have H := zI h13 H
         refine nB_ ?_
         refine tK ?_
         refine eA 2 469762054 4 ?_
         exact jB mo7 (IntKind.wrap .i64 (y2 + 1)) H [28,27,26,2,1] [2]
        have H := zJ h13 H
        refine tB_ ?_
        refine gA 1 16 0 ?_
        refine te ?_
        obtain rfl := si H
        have H := Ho7
        dsimp only at H
        exact fF H
       have H := zJ h12 H
       refine Tr.draws mixed 36 kr ⟨82,0,[sB 68 true,sI 28 y2,sI 27 (x0.Rows.length : Int),sC 26 (cF 3 x0.Rows zB.row),sA 2 2 2 0,sI 1 x1],[(2,(CV.frzRow (zC.row x0)))]⟩ (fun cx => ?_) ?_
       ·refine mA za [(0,[]),(1,[2,24,25])] 34 [⟨[2,24,25],3,33,34⟩] fun cx => ?_
        refine mC za 2 ?_
        refine vA [.rd,.rd,.rd] (zz n v8.Id 1 99 r9 er9) ?_
        refine fA ?_
        refine mA za [(3,[]),(4,[])] 31 [⟨[2,24,25],3,33,34⟩] fun cx => ?_
        refine sA_ 163678519398 68 ⟨82,0,[sB 37 (!r9),sI 34 v8.Id,sA 33 6 3 0,sI 5 y2,sA 6 6 3 0,sI 28 y2,sI 27 (x0.Rows.length : Int),sC 26 (cF 3 x0.Rows zB.row),sA 2 2 2 0,sI 1 x1],[(6,(zB.row v8)),(2,(CV.frzRow (zC.row x0)))]⟩ ?_
        rw [h7]
        refine mA za [(5,[]),(6,[]),(7,[])] 28 [⟨[2,24,25],3,33,34⟩] fun cx => ?_
        refine sA_ 1263190147174 68 ⟨82,0,[sB 40 (decide (y2 > 0)),sB 37 false,sI 34 v8.Id,sA 33 6 3 0,sI 5 y2,sA 6 6 3 0,sI 28 y2,sI 27 (x0.Rows.length : Int),sC 26 (cF 3 x0.Rows zB.row),sA 2 2 2 0,sI 1 x1],[(6,(zB.row v8)),(2,(CV.frzRow (zC.row x0)))]⟩ ?_
        rw [h8]
        refine mA za [(8,[]),(9,[24,25]),(10,[]),(11,[])] 24 [⟨[24,25],26,41,42⟩,⟨[2,24,25],3,33,34⟩] fun cx => ?_
        refine iN za 12 zB.row ev12 fun cx => ?_
        refine mA za [(13,[]),(14,[]),(15,[]),(16,[24,25]),(17,[]),(18,[]),(19,[]),(20,[])] 15 [⟨[24,25],3,48,49⟩,⟨[24,25],26,41,42⟩,⟨[2,24,25],3,33,34⟩] fun cx => ?_
        refine sA_ 9858247494205510 68 ⟨82,0,[sB 53 (decide (v12.Id ≥ v8.Id)),sI 49 v8.Id,sA 48 6 3 0,sR 42 2 2 0 1 false,sA 41 2 2 0,sI 34 v8.Id,sA 33 6 3 0,sA 6 6 3 0,sI 28 y2,sI 27 (x0.Rows.length : Int),sC 26 (cF 3 x0.Rows zB.row),sA 2 2 2 0,sI 1 x1],[(6,(zB.row v8)),(2,(CV.frzRow (zC.row x0)))]⟩ ?_
        rw [h11]
        exact zE1 n x1 r13 v8 r14 y2 x0 er13 er14 h12 cx
       refine tB_ ?_
       refine gA 1 16 0 ?_
       refine te ?_
       obtain rfl := si H
       have H := Ho7
       dsimp only at H
       exact fF H
      have H := zJ h11 H
      refine Tr.draws mixed 36 kr ⟨82,0,[sB 68 true,sI 28 y2,sI 27 (x0.Rows.length : Int),sC 26 (cF 3 x0.Rows zB.row),sA 2 2 2 0,sI 1 x1],[(2,(CV.frzRow (zC.row x0)))]⟩ (fun cx => ?_) ?_
      ·refine mA za [(0,[]),(1,[2])] 34 [⟨[2],3,33,34⟩] fun cx => ?_
       refine mC za 2 ?_
       refine vA [.rd,.rd,.rd] (zz n v8.Id 1 99 r9 er9) ?_
       refine fA ?_
       refine mA za [(3,[]),(4,[])] 31 [⟨[2],3,33,34⟩] fun cx => ?_
       refine sA_ 163678519398 68 ⟨82,0,[sB 37 (!r9),sI 34 v8.Id,sA 33 6 3 0,sI 5 y2,sA 6 6 3 0,sI 28 y2,sI 27 (x0.Rows.length : Int),sC 26 (cF 3 x0.Rows zB.row),sA 2 2 2 0,sI 1 x1],[(6,(zB.row v8)),(2,(CV.frzRow (zC.row x0)))]⟩ ?_
       rw [h7]
       refine mA za [(5,[]),(6,[]),(7,[])] 28 [⟨[2],3,33,34⟩] fun cx => ?_
       refine sA_ 1263190147174 68 ⟨82,0,[sB 40 (decide (y2 > 0)),sB 37 false,sI 34 v8.Id,sA 33 6 3 0,sI 5 y2,sA 6 6 3 0,sI 28 y2,sI 27 (x0.Rows.length : Int),sC 26 (cF 3 x0.Rows zB.row),sA 2 2 2 0,sI 1 x1],[(6,(zB.row v8)),(2,(CV.frzRow (zC.row x0)))]⟩ ?_
       rw [h8]
       refine mA za [(8,[]),(9,[]),(10,[]),(11,[])] 24 [⟨[],26,41,42⟩,⟨[2],3,33,34⟩] fun cx => ?_
       refine iN za 12 zB.row ev12 fun cx => ?_
       refine mA za [(13,[]),(14,[]),(15,[]),(16,[]),(17,[]),(18,[]),(19,[]),(20,[])] 15 [⟨[],3,48,49⟩,⟨[],26,41,42⟩,⟨[2],3,33,34⟩] fun cx => ?_
       refine sA_ 9858247494205510 68 ⟨82,0,[sB 53 (decide (v12.Id ≥ v8.Id)),sI 49 v8.Id,sA 48 6 3 0,sR 42 2 2 0 1 false,sA 41 2 2 0,sI 34 v8.Id,sA 33 6 3 0,sA 6 6 3 0,sI 28 y2,sI 27 (x0.Rows.length : Int),sC 26 (cF 3 x0.Rows zB.row),sA 2 2 2 0,sI 1 x1],[(6,(zB.row v8)),(2,(CV.frzRow (zC.row x0)))]⟩ ?_
       rw [h11]
       exact zE2 n v8 y2 x0 x1 cx
      refine tB_ ?_
      refine gA 1 16 0 ?_
      refine te ?_
      obtain rfl := si H
      have H := Ho7
      dsimp only at H
      exact fF H
     have H := zJ h7 H
     refine Tr.draws mixed 36 kr ⟨82,0,[sB 68 true,sI 28 y2,sI 27 (x0.Rows.length : Int),sC 26 (cF 3 x0.Rows zB.row),sA 2 2 2 0,sI 1 x1],[(2,(CV.frzRow (zC.row x0)))]⟩ (fun cx => ?_) ?_
     ·refine mA za [(0,[]),(1,[2])] 34 [⟨[2],3,33,34⟩] fun cx => ?_
      refine mC za 2 ?_
      refine vA [.rd,.rd,.rd] (zz n v8.Id 1 99 r9 er9) ?_
      refine fA ?_
      refine mA za [(3,[]),(4,[])] 31 [⟨[2],3,33,34⟩] fun cx => ?_
      refine sA_ 163678519398 68 ⟨82,0,[sB 37 (!r9),sI 34 v8.Id,sA 33 6 3 0,sI 5 y2,sA 6 6 3 0,sI 28 y2,sI 27 (x0.Rows.length : Int),sC 26 (cF 3 x0.Rows zB.row),sA 2 2 2 0,sI 1 x1],[(6,(zB.row v8)),(2,(CV.frzRow (zC.row x0)))]⟩ ?_
      rw [h7]
      refine mA za [(5,[]),(6,[]),(7,[]),(8,[]),(9,[]),(10,[]),(11,[]),(12,[]),(13,[]),(14,[]),(15,[]),(16,[]),(17,[]),(18,[]),(19,[]),(20,[]),(21,[]),(22,[]),(23,[]),(24,[]),(25,[]),(26,[]),(27,[]),(28,[]),(29,[]),(30,[]),(31,[]),(32,[]),(33,[]),(34,[]),(35,[])] 0 [⟨[2],3,33,34⟩] fun cx => ?_
      exact mE za [68,28,27,26,2,1] [2]
     refine tB_ ?_
     refine gA 1 16 0 ?_
     refine te ?_
     obtain rfl := si H
     have H := Ho7
     dsimp only at H
     exact fF H
    rintro _ H
    have H : (Qw n x0) = some r := H
    unfold Qw at H
    refine tS ?_
    refine rA 2 ?_
    refine kF x0.Pv intRow ?_
    refine uA 1 0x3800000000000000004 4 ?_
    obtain ⟨o4,eo4,Ho4⟩ := bs H
    clear H
    refine Tr.mid (ι := Unit) (fun v => ⟨82,0,[],[]⟩) (fun v => Y5 n = some r) ?_ ?_
    ·refine tB ?_
     refine Tr.loop (ι := Nat × (Int)) (fun v => ⟨82,0,[sI 73 v.2,sI 72 (x0.Pv.length : Int),sC 71 (cF 1 x0.Pv intRow),sA 2 2 2 0],[(2,(CV.frzRow (zC.row x0)))]⟩) (fun v => ZU n v.1 x0 v.2 = some o4) (fun v => v.1) (n,0) eo4 (St.sub_of [73,72,71,2] [2] kr) ?_
     rintro ⟨mo4,y3⟩ H
     have H : ZU n mo4 x0 y3 = some o4 := H
     obtain _ | mo4 := mo4
     ·exact nN H
     rw [ZU] at H
     refine gA 1 0x7800000000000000004 4 ?_
     refine tS ?_
     obtain ⟨h4,H⟩ | ⟨h4,H⟩ := bC H
     ·refine nA h4 ?_
      refine Tr.exit ?_
      refine aJ ?_
      obtain rfl := si H
      have H := Ho4
      dsimp only at H
      exact jA () H [] []
     refine tA h4 ?_
     refine tK ?_
     refine tS ?_
     refine tB ?_
     refine tR ?_
     obtain ⟨v5,ev5,H⟩ := bs H
     refine iA intRow ev5 ?_
     refine uA 2 0x3800000000000000104 4 ?_
     refine rA 2 ?_
     obtain ⟨r6,er6,H⟩ := bs H
     refine vA [.rd,.rd] (zAx n x0 v5 r6 er6) ?_
     refine uA 1 0x103800000000000000004 4 ?_
     obtain ⟨h5,H⟩ | ⟨h5,H⟩ := bC H
     ·refine nA h5 ?_
      refine tK ?_
      refine eA 2 0x3800000000000000004 4 ?_
      exact jB mo4 (IntKind.wrap .i64 (y3 + 1)) H [73,72,71,2] [2]
     refine tA h5 ?_
     refine gA 1 16 0 ?_
     refine te ?_
     obtain rfl := si H
     have H := Ho4
     dsimp only at H
     exact fF H
    rintro _ H
    have H : (Y5 n) = some r := H
    unfold Y5 at H
    refine gA 1 16 0 ?_
    exact te (fT H)
   refine tA h3 ?_
   refine gA 1 16 0 ?_
   exact te (fF H)
  have H := zJ h2 H
  refine uA 5 16777222 4 ?_
  refine tB_ ?_
  refine gA 1 16 0 ?_
  exact te (fF H)
 have H := zJ h1 H
 refine uA 12 16777222 4 ?_
 refine tB_ ?_
 refine gA 1 16 0 ?_
 exact te (fF H)
def Zp (n : Nat) (x0 : Int) : Option (Bool) :=
  ((zt n x0 0 1000000).bind fun r1 => (some r1))
theorem Ym (n : Nat) (x0 : Int) (r : Bool) (H : Zp n x0 = some r) : zG Try.prog 69 [.val false [.lit (.int .i64 x0)]] [.val false [.lit (.bool r)]] [] := by
 refine cW Try.func69 (fun g d => sl [g 0,g 1] .ret) [.tmp 2] fun cx => ?_
 unfold Zp at H
 refine gA 1 1 0 ?_
 refine rA 1 ?_
 obtain ⟨r1,er1,H⟩ := bs H
 refine vA [.rd,.rd,.rd] (zz n x0 0 1000000 r1 er1) ?_
 refine uA 1 4 0 ?_
 exact te (fJ [(false,[cB r1])] H)
def QX (n : Nat) (x0 : zD) : Option (Bool) :=
  ((zt n x0.Id 1 99).bind fun r2 => (bif (!r2) then (some false) else (bif (decide ((x0.Name.size : Int) > 10)) then (some false) else ((zt n (x0.Ps.length : Int) 1 6).bind fun r3 => (bif (!r3) then (some false) else ((YO n x0.F).bind fun r4 => (bif (!r4) then (some false) else ((Yk n x0.V (x0.Ps.length : Int)).bind fun r5 => (bif (!r5) then (some false) else ((Zp n x0.Tk).bind fun r6 => (bif r6 then ((Zp n x0.Pa).bind fun r7 => (bif r7 then ((Zp n x0.Wo).bind fun r8 => (bif r8 then ((Zp n x0.Dr).bind fun r9 => (bif r9 then ((Zp n x0.Ve).bind fun r10 => (some r10)) else (some false))) else (some false))) else (some false))) else (some false))))))))))))
def ZP (n : Nat) : Nat → zD → Int → Option ((Unit) ⊕ (Bool))
  | 0,_,_ => none
  | mo11 + 1,x0,y1 => (bif (decide (y1 < (x0.Ps.length : Int))) then ((idx x0.Ps y1).bind fun v12 => ((Js n v12).bind fun r13 => (bif (!r13) then (some (Sum.inr false)) else (ZP n mo11 x0 (IntKind.wrap .i64 (y1 + 1)))))) else (some (Sum.inl ())))
def QS (n : Nat) (x0 : zD) : Option (Bool) :=
  ((ZP n n x0 0).bind fun o => match o with | .inl _ => (QX n x0) | .inr r => some r)
theorem zFg (n : Nat) (x0 : zD) (r : Bool) (H : QS n x0 = some r) : zG Try.prog 20 [.val true (CV.frzRow (zD.row x0))] [.val false [.lit (.bool r)]] [] := by
 refine cW Try.func20 (fun g d => sl [g 0,sl [g 1] (.block 0 (.loop (sl [g 2,cn 9 .skip (.exit 0),.block 1 (sl [g 3,g 4] (cn 14 (sl [g 5] .ret) .skip))] (g 6)))),sl [g 7] (cn 47 (sl [g 8] .ret) .skip),g 9] .ret) [.tmp 2] fun cx => ?_
 unfold QS at H
 refine gA 2 2 2 ?_
 refine tS ?_
 refine rA 2 ?_
 refine kF x0.Ps Pt.row ?_
 refine uA 1 450 2 ?_
 obtain ⟨o11,eo11,Ho11⟩ := bs H
 clear H
 refine Tr.mid (ι := Unit) (fun v => ⟨71,0,[sA 1 1 11 0],[(1,(CV.frzRow (zD.row x0)))]⟩) (fun v => QX n x0 = some r) ?_ ?_
 ·refine tB ?_
  refine Tr.loop (ι := Nat × (Int)) (fun v => ⟨71,0,[sI 8 v.2,sI 7 (x0.Ps.length : Int),sC 6 (cF 8 x0.Ps Pt.row),sA 1 1 11 0],[(1,(CV.frzRow (zD.row x0)))]⟩) (fun v => ZP n v.1 x0 v.2 = some o11) (fun v => v.1) (n,0) eo11 (St.sub_of [8,7,6,1] [1] kr) ?_
  rintro ⟨mo11,y1⟩ H
  have H : ZP n mo11 x0 y1 = some o11 := H
  obtain _ | mo11 := mo11
  ·exact nN H
  rw [ZP] at H
  refine gA 1 962 2 ?_
  refine tS ?_
  obtain ⟨h10,H⟩ | ⟨h10,H⟩ := bC H
  ·refine nA h10 ?_
   refine Tr.exit ?_
   refine aJ ?_
   obtain rfl := si H
   have H := Ho11
   dsimp only at H
   exact jA () H [1] [1]
  refine tA h10 ?_
  refine tK ?_
  refine tS ?_
  refine tB ?_
  refine tR ?_
  obtain ⟨v12,ev12,H⟩ := bs H
  refine iA Pt.row ev12 ?_
  refine uA 3 466 18 ?_
  refine rA 1 ?_
  obtain ⟨r13,er13,H⟩ := bs H
  refine vA [.rd] (zH2 n v12 r13 er13) ?_
  refine uA 1 16834 2 ?_
  obtain ⟨h11,H⟩ | ⟨h11,H⟩ := bC H
  ·refine nA h11 ?_
   refine tK ?_
   refine eA 2 450 2 ?_
   exact jB mo11 (IntKind.wrap .i64 (y1 + 1)) H [8,7,6,1] [1]
  refine tA h11 ?_
  refine gA 1 4 0 ?_
  refine te ?_
  obtain rfl := si H
  have H := Ho11
  dsimp only at H
  exact fF H
 rintro _ H
 have H : (QX n x0) = some r := H
 unfold QX at H
 refine tS ?_
 refine rA 2 ?_
 obtain ⟨r2,er2,H⟩ := bs H
 refine vA [.rd,.rd,.rd] (zz n x0.Id 1 99 r2 er2) ?_
 refine lA 2 ?_
 refine sL 1048578 2 ⟨71,0,[sB 20 (!r2),sA 1 1 11 0],[(1,(CV.frzRow (zD.row x0)))]⟩ ?_
 cases h1 : (!r2)
 ·have H := zI h1 H
  refine lA 6 ?_
  refine sL 67108866 2 ⟨71,0,[sB 26 (decide ((x0.Name.size : Int) > 10)),sA 1 1 11 0],[(1,(CV.frzRow (zD.row x0)))]⟩ ?_
  cases h2 : (decide ((x0.Name.size : Int) > 10))
  ·have H := zI h2 H
   refine lA 2 ?_
   refine kF x0.Ps Pt.row ?_
   obtain ⟨r3,er3,H⟩ := bs H
   refine vA [.rd,.rd,.rd] (zz n (x0.Ps.length : Int) 1 6 r3 er3) ?_
   refine lA 3 ?_
   refine sL 8589934594 2 ⟨71,0,[sB 33 (!r3),sA 1 1 11 0],[(1,(CV.frzRow (zD.row x0)))]⟩ ?_
   cases h3 : (!r3)
   ·have H := zI h3 H
    refine lA 2 ?_
    obtain ⟨r4,er4,H⟩ := bs H
    refine vA [.rd] (zER n x0.F r4 er4) ?_
    refine lA 3 ?_
    refine sL 549755813890 2 ⟨71,0,[sB 39 (!r4),sA 1 1 11 0],[(1,(CV.frzRow (zD.row x0)))]⟩ ?_
    cases h4 : (!r4)
    ·have H := zI h4 H
     refine lA 4 ?_
     refine kF x0.Ps Pt.row ?_
     obtain ⟨r5,er5,H⟩ := bs H
     refine vA [.rd,.rd] (zGj n x0.V (x0.Ps.length : Int) r5 er5) ?_
     refine uA 2 0x800000000002 2 ?_
     obtain ⟨h5,H⟩ | ⟨h5,H⟩ := bC H
     ·refine nA h5 ?_
      refine tK ?_
      refine rA 2 ?_
      obtain ⟨r6,er6,H⟩ := bs H
      refine vA [.rd] (Ym n x0.Tk r6 er6) ?_
      refine lA 1 ?_
      refine sL 0x8000000000002 2 ⟨71,0,[sB 51 r6,sA 1 1 11 0],[(1,(CV.frzRow (zD.row x0)))]⟩ ?_
      cases h6 : r6
      ·have H := zI h6 H
       refine uA 20 4 0 ?_
       exact te (fF H)
      have H := zJ h6 H
      refine lA 2 ?_
      obtain ⟨r7,er7,H⟩ := bs H
      refine vA [.rd] (Ym n x0.Pa r7 er7) ?_
      refine lA 2 ?_
      refine sL 72057594037927938 2 ⟨71,0,[sB 56 r7,sA 1 1 11 0],[(1,(CV.frzRow (zD.row x0)))]⟩ ?_
      cases h7 : r7
      ·have H := zI h7 H
       refine uA 15 4 0 ?_
       exact te (fF H)
      have H := zJ h7 H
      refine lA 2 ?_
      obtain ⟨r8,er8,H⟩ := bs H
      refine vA [.rd] (Ym n x0.Wo r8 er8) ?_
      refine lA 2 ?_
      refine sL 0x2000000000000002 2 ⟨71,0,[sB 61 r8,sA 1 1 11 0],[(1,(CV.frzRow (zD.row x0)))]⟩ ?_
      cases h8 : r8
      ·have H := zI h8 H
       refine uA 10 4 0 ?_
       exact te (fF H)
      have H := zJ h8 H
      refine lA 2 ?_
      obtain ⟨r9,er9,H⟩ := bs H
      refine vA [.rd] (Ym n x0.Dr r9 er9) ?_
      refine lA 2 ?_
      refine sL 0x40000000000000002 2 ⟨71,0,[sB 66 r9,sA 1 1 11 0],[(1,(CV.frzRow (zD.row x0)))]⟩ ?_
      cases h9 : r9
      ·have H := zI h9 H
       refine uA 5 4 0 ?_
       exact te (fF H)
      have H := zJ h9 H
      refine lA 2 ?_
      obtain ⟨r10,er10,H⟩ := bs H
      refine vA [.rd] (Ym n x0.Ve r10 er10) ?_
      refine uA 2 4 0 ?_
      exact te (fJ [(false,[cB r10])] H)
     refine tA h5 ?_
     refine gA 1 4 0 ?_
     exact te (fF H)
    have H := zJ h4 H
    refine uA 8 0x800000000002 2 ?_
    refine tB_ ?_
    refine gA 1 4 0 ?_
    exact te (fF H)
   have H := zJ h3 H
   refine uA 14 0x800000000002 2 ?_
   refine tB_ ?_
   refine gA 1 4 0 ?_
   exact te (fF H)
  have H := zJ h2 H
  refine uA 21 0x800000000002 2 ?_
  refine tB_ ?_
  refine gA 1 4 0 ?_
  exact te (fF H)
 have H := zJ h1 H
 refine uA 27 0x800000000002 2 ?_
 refine tB_ ?_
 refine gA 1 4 0 ?_
 exact te (fF H)
def Yn (n : Nat) (x0 : zD) (x1 : Int) : Option (Bool) :=
  ((QS n x0).bind fun r1 => (bif r1 then ((zt n x1 0 (IntKind.wrap .i64 ((x0.Ps.length : Int) - 1))).bind fun r2 => (some r2)) else (some false)))
theorem zGk (n : Nat) (x0 : zD) (x1 : Int) (r : Bool) (H : Yn n x0 x1 = some r) : zG Try.prog 59 [.val true (CV.frzRow (zD.row x0)),.val false [.lit (.int .i64 x1)]] [.val false [.lit (.bool r)]] [] := by
 refine cW Try.func59 (fun g d => sl [g 0,g 1] .ret) [.tmp 4] fun cx => ?_
 unfold Yn at H
 refine gA 2 6 4 ?_
 refine rA 1 ?_
 obtain ⟨r1,er1,H⟩ := bs H
 refine vA [.rd] (zFg n x0 r1 er1) ?_
 refine lA 1 ?_
 refine sL 134 4 ⟨15,0,[sB 7 r1,sA 2 2 11 0,sI 1 x1],[(2,(CV.frzRow (zD.row x0)))]⟩ ?_
 cases h1 : r1
 ·have H := zI h1 H
  refine uA 8 16 0 ?_
  exact te (fF H)
 have H := zJ h1 H
 refine lA 3 ?_
 refine kF x0.Ps Pt.row ?_
 refine lA 1 ?_
 obtain ⟨r2,er2,H⟩ := bs H
 refine vA [.rd,.rd,.rd] (zz n x1 0 (IntKind.wrap .i64 ((x0.Ps.length : Int) - 1)) r2 er2) ?_
 refine uA 2 16 0 ?_
 exact te (fJ [(false,[cB r2])] H)
def JU (n : Nat) (x0 : Frame) : Option (Bool) :=
  ((zt n x0.Dst 0 9999).bind fun r1 => (bif r1 then ((zt n x0.Src 1 9999).bind fun r2 => (bif r2 then ((zt n x0.Tag 0 99).bind fun r3 => (bif r3 then (some (decide ((x0.Data.length : Int) ≤ 20))) else (some false))) else (some false))) else (some false)))
theorem zGB (n : Nat) (x0 : Frame) (r : Bool) (H : JU n x0 = some r) : zG Try.prog 71 [.val true (CV.frzRow (Frame.row x0))] [.val false [.lit (.bool r)]] [] := by
 refine cW Try.func71 (fun g d => sl [g 0,g 1] .ret) [.tmp 2] fun cx => ?_
 unfold JU at H
 refine gA 2 2 2 ?_
 refine rA 2 ?_
 obtain ⟨r1,er1,H⟩ := bs H
 refine vA [.rd,.rd,.rd] (zz n x0.Dst 0 9999 r1 er1) ?_
 refine lA 1 ?_
 refine sL 66 2 ⟨22,0,[sB 6 r1,sA 1 1 4 0],[(1,(CV.frzRow (Frame.row x0)))]⟩ ?_
 cases h1 : r1
 ·have H := zI h1 H
  refine uA 16 4 0 ?_
  exact te (fF H)
 have H := zJ h1 H
 refine lA 2 ?_
 obtain ⟨r2,er2,H⟩ := bs H
 refine vA [.rd,.rd,.rd] (zz n x0.Src 1 9999 r2 er2) ?_
 refine lA 2 ?_
 refine sL 2050 2 ⟨22,0,[sB 11 r2,sA 1 1 4 0],[(1,(CV.frzRow (Frame.row x0)))]⟩ ?_
 cases h2 : r2
 ·have H := zI h2 H
  refine uA 11 4 0 ?_
  exact te (fF H)
 have H := zJ h2 H
 refine lA 2 ?_
 obtain ⟨r3,er3,H⟩ := bs H
 refine vA [.rd,.rd,.rd] (zz n x0.Tag 0 99 r3 er3) ?_
 refine lA 2 ?_
 refine sL 65538 2 ⟨22,0,[sB 16 r3,sA 1 1 4 0],[(1,(CV.frzRow (Frame.row x0)))]⟩ ?_
 cases h3 : r3
 ·have H := zI h3 H
  refine uA 6 4 0 ?_
  exact te (fF H)
 have H := zJ h3 H
 refine lA 2 ?_
 refine kF x0.Data zN ?_
 refine uA 3 4 0 ?_
 exact te (fJ [(false,[cB (decide ((x0.Data.length : Int) ≤ 20))])] H)
def JX (n : Nat) (x0 : Vec) (x1 : Int) : Option (Vec × Bool) :=
  ((YQ n x0).bind fun r1 => (bif (!r1) then (some (x0,false)) else ((zt n x1 1 1000).bind fun r2 => (bif (!r2) then (some (x0,false)) else ((YQ n (⟨x0.Root,(IntKind.wrap .i64 (x0.Co + x1)),(IntKind.wrap .i64 (x0.Hops + 1)),x0.Bridge,x0.Port⟩ : Vec)).bind fun r3 => (bif (!r3) then (some (x0,false)) else (some ((⟨x0.Root,(IntKind.wrap .i64 (x0.Co + x1)),(IntKind.wrap .i64 (x0.Hops + 1)),x0.Bridge,x0.Port⟩ : Vec),true))))))))
theorem zGC (n : Nat) (x0 : Vec) (x1 : Int) (r : Vec × Bool) (H : JX n x0 x1 = some r) : zG Try.prog 160 [.val true (CV.frzRow (Vec.row x0)),.val false [.lit (.int .i64 x1)]] [.val true (Vec.row r.1),.val false [.lit (.bool r.2)]] [] := by
 refine cW Try.func160 (fun g d => sl [g 0,sl [g 1] (cn 14 (sl [g 2] .ret) .skip),g 3,g 4,g 5,sl [g 6] (cn 28 (sl [g 7] .ret) .skip),g 8] .ret) [.cell 4 35,.tmp 5] fun cx => ?_
 unfold JX at H
 refine gA 3 22 20 ?_
 refine tS ?_
 refine rA 1 ?_
 obtain ⟨r1,er1,H⟩ := bs H
 refine vA [.rd] (zCN n x0 r1 er1) ?_
 refine lA 2 ?_
 refine sL 1046 20 ⟨31,0,[sB 10 (!r1),sA 4 4 5 0,sA 2 2 5 0,sI 1 x1],[(4,[cI 0,cI 0,cI 0,cI 0,cI 0]),(2,(Vec.row x0))]⟩ ?_
 cases h1 : (!r1)
 ·have H := zI h1 H
  refine lA 1 ?_
  obtain ⟨r2,er2,H⟩ := bs H
  refine vA [.rd,.rd,.rd] (zz n x1 1 1000 r2 er2) ?_
  refine uA 2 16406 20 ?_
  obtain ⟨h2,H⟩ | ⟨h2,H⟩ := bC H
  ·refine nA h2 ?_
   refine tK ?_
   refine gA 3 86 84 ?_
   refine gA 6 84 84 ?_
   refine gA 5 84 84 ?_
   refine tS ?_
   refine rA 1 ?_
   obtain ⟨r3,er3,H⟩ := bs H
   refine vA [.rd] (zCN n (⟨x0.Root,(IntKind.wrap .i64 (x0.Co + x1)),(IntKind.wrap .i64 (x0.Hops + 1)),x0.Bridge,x0.Port⟩ : Vec) r3 er3) ?_
   refine uA 1 268435540 84 ?_
   obtain ⟨h3,H⟩ | ⟨h3,H⟩ := bC H
   ·refine nA h3 ?_
    refine tK ?_
    refine gA 3 48 16 ?_
    exact te (fJ [(true,[cI x0.Root,cI (IntKind.wrap .i64 (x0.Co + x1)),cI (IntKind.wrap .i64 (x0.Hops + 1)),cI x0.Bridge,cI x0.Port]),(false,[cB true])] H)
   refine tA h3 ?_
   refine gA 3 48 16 ?_
   exact te (fJ [(true,(Vec.row x0)),(false,[cB false])] H)
  refine tA h2 ?_
  refine gA 3 48 16 ?_
  exact te (fJ [(true,(Vec.row x0)),(false,[cB false])] H)
 have H := zJ h1 H
 refine uA 4 16406 20 ?_
 refine tB_ ?_
 refine gA 3 48 16 ?_
 exact te (fJ [(true,(Vec.row x0)),(false,[cB false])] H)
def YF (n : Nat) (x0 : Vec) (x1 : Vec) : Option (Bool) :=
  (bif (x0.Root != x1.Root) then (some (decide (x0.Root < x1.Root))) else (bif (x0.Co != x1.Co) then (some (decide (x0.Co < x1.Co))) else (bif (x0.Bridge != x1.Bridge) then (some (decide (x0.Bridge < x1.Bridge))) else (some (decide (x0.Port < x1.Port))))))
theorem zCu (n : Nat) (x0 : Vec) (x1 : Vec) (r : Bool) (H : YF n x0 x1 = some r) : zG Try.prog 131 [.val true (CV.frzRow (Vec.row x0)),.val true (CV.frzRow (Vec.row x1))] [.val false [.lit (.bool r)]] [] := by
 refine cW Try.func131 (fun g d => sl [g 0,.block 0 (sl [g 1] (cn 5 (sl [g 2] .ret) (sl [g 3] (cn 16 (sl [g 4] .ret) (sl [g 5] (cn 27 (sl [g 6] .ret) .skip)))))),g 7] .ret) [.tmp 4] fun cx => ?_
 unfold YF at H
 refine gA 3 12 12 ?_
 refine tS ?_
 refine tB ?_
 refine gA 6 44 12 ?_
 obtain ⟨h1,H⟩ | ⟨h1,H⟩ := bC H
 ·refine nA h1 ?_
  refine gA 6 65548 12 ?_
  obtain ⟨h2,H⟩ | ⟨h2,H⟩ := bC H
  ·refine nA h2 ?_
   refine gA 6 134217740 12 ?_
   obtain ⟨h3,H⟩ | ⟨h3,H⟩ := bC H
   ·refine nA h3 ?_
    refine tK ?_
    refine gA 6 16 0 ?_
    exact te (fJ [(false,[cB (decide (x0.Port < x1.Port))])] H)
   refine tA h3 ?_
   refine gA 6 16 0 ?_
   exact te (fJ [(false,[cB (decide (x0.Bridge < x1.Bridge))])] H)
  refine tA h2 ?_
  refine gA 6 16 0 ?_
  exact te (fJ [(false,[cB (decide (x0.Co < x1.Co))])] H)
 refine tA h1 ?_
 refine gA 6 16 0 ?_
 exact te (fJ [(false,[cB (decide (x0.Root < x1.Root))])] H)
def YU (n : Nat) (x0 : Int) (y11 : Int) (y12 : Int) (y13 : Int) (y14 : Int) : Option (Vec × Int) :=
  (some ((⟨y12,y13,y14,x0,0⟩ : Vec),y11))
def ZA (n : Nat) (k : (Int × Int × Int × Int × Int × Int × Int × Int × Int × Int → Option ((Int × Int × Int × Int) ⊕ (Vec × Int)))) (r17 : Vec × Bool) (y1 : Int) (y10 : Int) (y2 : Int) (y3 : Int) (y4 : Int) (y5 : Int) (y6 : Int) (y7 : Int) (y8 : Int) (y9 : Int) (y18 : Bool) (y19 : Bool) (y20 : Bool) (y21 : Bool) (y22 : Bool) (y23 : Bool) (y24 : Bool) : Option ((Int × Int × Int × Int) ⊕ (Vec × Int)) :=
  (bif y18 then (k ((IntKind.wrap .i64 (y1 + 1)),y1,r17.1.Root,r17.1.Co,r17.1.Hops,r17.1.Bridge,r17.1.Port,r17.1.Root,r17.1.Co,r17.1.Hops)) else (k ((IntKind.wrap .i64 (y1 + 1)),y2,y3,y4,y5,y6,y7,y8,y9,y10)))
def qA (n : Nat) : Nat → Int → (List Pt) → Int → Int → Int → Int → Int → Int → Int → Int → Int → Int → Option ((Int × Int × Int × Int) ⊕ (Vec × Int))
  | 0,_,_,_,_,_,_,_,_,_,_,_,_ => none
  | mo15 + 1,x0,x1,y1,y2,y3,y4,y5,y6,y7,y8,y9,y10 => (bif (decide (y1 < (x1.length : Int))) then ((idx x1 y1).bind fun v16 => (bif (!v16.Up) then (qA n mo15 x0 x1 (IntKind.wrap .i64 (y1 + 1)) y2 y3 y4 y5 y6 y7 y8 y9 y10) else (bif (!v16.Has) then (qA n mo15 x0 x1 (IntKind.wrap .i64 (y1 + 1)) y2 y3 y4 y5 y6 y7 y8 y9 y10) else ((JX n v16.Hd v16.Co).bind fun r17 => (bif r17.2 then (bif (decide (r17.1.Root < x0)) then (bif (decide (y2 < 0)) then (ZA n (fun v => qA n mo15 x0 x1 v.1 v.2.1 v.2.2.1 v.2.2.2.1 v.2.2.2.2.1 v.2.2.2.2.2.1 v.2.2.2.2.2.2.1 v.2.2.2.2.2.2.2.1 v.2.2.2.2.2.2.2.2.1 v.2.2.2.2.2.2.2.2.2) r17 y1 y10 y2 y3 y4 y5 y6 y7 y8 y9 true true true true true true true) else ((YF n r17.1 (⟨y3,y4,y5,y6,y7⟩ : Vec)).bind fun r25 => (ZA n (fun v => qA n mo15 x0 x1 v.1 v.2.1 v.2.2.1 v.2.2.2.1 v.2.2.2.2.1 v.2.2.2.2.2.1 v.2.2.2.2.2.2.1 v.2.2.2.2.2.2.2.1 v.2.2.2.2.2.2.2.2.1 v.2.2.2.2.2.2.2.2.2) r17 y1 y10 y2 y3 y4 y5 y6 y7 y8 y9 r25 true true true true true true))) else (ZA n (fun v => qA n mo15 x0 x1 v.1 v.2.1 v.2.2.1 v.2.2.2.1 v.2.2.2.2.1 v.2.2.2.2.2.1 v.2.2.2.2.2.2.1 v.2.2.2.2.2.2.2.1 v.2.2.2.2.2.2.2.2.1 v.2.2.2.2.2.2.2.2.2) r17 y1 y10 y2 y3 y4 y5 y6 y7 y8 y9 false false false true true true true)) else (ZA n (fun v => qA n mo15 x0 x1 v.1 v.2.1 v.2.2.1 v.2.2.2.1 v.2.2.2.2.1 v.2.2.2.2.2.1 v.2.2.2.2.2.2.1 v.2.2.2.2.2.2.2.1 v.2.2.2.2.2.2.2.2.1 v.2.2.2.2.2.2.2.2.2) r17 y1 y10 y2 y3 y4 y5 y6 y7 y8 y9 false false false false false false false)))))) else (some (Sum.inl (y2,y8,y9,y10))))
def Qd (n : Nat) (x0 : Int) (x1 : (List Pt)) : Option (Vec × Int) :=
  ((qA n n x0 x1 0 (-1) 0 0 0 0 0 x0 0 0).bind fun o => match o with | .inl (y11,y12,y13,y14) => (YU n x0 y11 y12 y13 y14) | .inr r => some r)
theorem zCq (n : Nat) (x0 : Int) (x1 : (List Pt)) (r : Vec × Int) (H : Qd n x0 x1 = some r) : zG Try.prog 130 [.val false [.lit (.int .i64 x0)],.val false [.sl false 8 (CV.frzEs (x1.map Pt.row))]] [.val true (Vec.row r.1),.val false [.lit (.int .i64 r.2)]] [] := by
 refine cW Try.func130 (fun g d => sl [g 0,g 1,g 2,sl [g 3] (.block 0 (.loop (sl [g 4,cn 19 .skip (.exit 0),.block 1 (sl [g 5,sl [g 6] (cn 30 (.exit 1) .skip),g 7,g 8] (cn 54 (sl [g 9] (g 10)) .skip))] (g 11)))),g 12] .ret) [.cell 4 35,.tmp 5] fun cx => ?_
 unfold Qd at H
 refine gA 2 51 16 ?_
 refine gA 6 243 80 ?_
 refine gA 1 499 336 ?_
 refine tS ?_
 refine rA 1 ?_
 refine kF x1 Pt.row ?_
 refine uA 1 459249 336 ?_
 obtain ⟨o15,eo15,Ho15⟩ := bs H
 clear H
 refine Tr.mid (ι := Int × Int × Int × Int) (fun v => ⟨68,0,[sI 7 v.1,sA 6 6 5 0,sI 5 0,sA 4 4 5 0],[(6,[cI v.2.1,cI v.2.2.1,cI v.2.2.2,cI x0,cI 0]),(4,[cI 0,cI 0,cI 0,cI 0,cI 0])]⟩) (fun v => YU n x0 v.1 v.2.1 v.2.2.1 v.2.2.2 = some r) ?_ ?_
 ·refine tB ?_
  refine Tr.loop (ι := Nat × (Int × Int × Int × Int × Int × Int × Int × Int × Int × Int)) (fun v => ⟨68,0,[sI 18 v.2.1,sI 17 (x1.length : Int),sC 16 (cF 8 x1 Pt.row),sA 8 8 5 0,sI 7 v.2.2.1,sA 6 6 5 0,sI 5 0,sA 4 4 5 0,sI 0 x0],[(8,[cI v.2.2.2.1,cI v.2.2.2.2.1,cI v.2.2.2.2.2.1,cI v.2.2.2.2.2.2.1,cI v.2.2.2.2.2.2.2.1]),(6,[cI v.2.2.2.2.2.2.2.2.1,cI v.2.2.2.2.2.2.2.2.2.1,cI v.2.2.2.2.2.2.2.2.2.2,cI x0,cI 0]),(4,[cI 0,cI 0,cI 0,cI 0,cI 0])]⟩) (fun v => qA n v.1 x0 x1 v.2.1 v.2.2.1 v.2.2.2.1 v.2.2.2.2.1 v.2.2.2.2.2.1 v.2.2.2.2.2.2.1 v.2.2.2.2.2.2.2.1 v.2.2.2.2.2.2.2.2.1 v.2.2.2.2.2.2.2.2.2.1 v.2.2.2.2.2.2.2.2.2.2 = some o15) (fun v => v.1) (n,(0,(-1),0,0,0,0,0,x0,0,0)) eo15 (St.sub_of [18,17,16,8,7,6,5,4,0] [8,6,4] kr) ?_
  rintro ⟨mo15,y1,y2,y3,y4,y5,y6,y7,y8,y9,y10⟩ H
  have H : qA n mo15 x0 x1 y1 y2 y3 y4 y5 y6 y7 y8 y9 y10 = some o15 := H
  obtain _ | mo15 := mo15
  ·exact nN H
  rw [qA] at H
  refine gA 1 983537 336 ?_
  refine tS ?_
  obtain ⟨h1,H⟩ | ⟨h1,H⟩ := bC H
  ·refine nA h1 ?_
   refine Tr.exit ?_
   refine aJ ?_
   obtain rfl := si H
   have H := Ho15
   dsimp only at H
   exact jA (y2,y8,y9,y10) H [7,6,5,4] [6,4]
  refine tA h1 ?_
  refine tK ?_
  refine tS ?_
  refine tB ?_
  refine rA 1 ?_
  obtain ⟨v16,ev16,H⟩ := bs H
  refine iA Pt.row ev16 ?_
  refine uA 4 8325105 1360 ?_
  refine tS ?_
  refine rA 4 ?_
  refine sL 134154225 1360 ⟨68,0,[sB 26 (!v16.Up),sB 25 (!v16.Up),sB 24 v16.Up,sA 23 10 8 0,sI 9 y1,sA 10 10 8 0,sV 22 (Pt.row v16),(21,.fad ((Pt.row v16))),sI 20 y1,sB 19 (decide (y1 < (x1.length : Int))),sI 18 y1,sI 17 (x1.length : Int),sC 16 (cF 8 x1 Pt.row),sA 8 8 5 0,sI 7 y2,sA 6 6 5 0,sI 5 0,sA 4 4 5 0,sI 0 x0],[(10,(Pt.row v16)),(8,[cI y3,cI y4,cI y5,cI y6,cI y7]),(6,[cI y8,cI y9,cI y10,cI x0,cI 0]),(4,[cI 0,cI 0,cI 0,cI 0,cI 0])]⟩ ?_
  cases h2 : (!v16.Up)
  ·have H := zI h2 H
   refine uA 4 2147420145 1360 ?_
   obtain ⟨h3,H⟩ | ⟨h3,H⟩ := bC H
   ·refine nA h3 ?_
    refine tK ?_
    refine rA 4 ?_
    obtain ⟨r17,er17,H⟩ := bs H
    refine vA [.rd,.rd] (zGC n v16.Hd v16.Co r17 er17) ?_
    refine LAt.movT tOk (ty := 177) (t := 36) (d := 31) (g := none) [(true,(Vec.row r17.1)),(false,[cB r17.2])] _ kr (.inl rfl) kr kr kr kr rfl ?_
    refine uA 5 481036279793 3408 ?_
    refine tS ?_
    refine Tr.mid (ι := Bool × Bool × Bool × Bool × Bool × Bool × Bool) (fun v => ⟨68,0,[sB 54 v.1,sB 46 v.2.1,sB 45 v.2.2.1,sB 40 v.2.2.2.1,sB 39 v.2.2.2.2.1,sB 12 v.2.2.2.2.2.1,sA 11 11 5 0,sB 38 v.2.2.2.2.2.2,(31,.tup [(true,[.dead,.dead,.dead,.dead,.dead]),(false,[.dead])]),sV 37 (Vec.row r17.1),sI 35 v16.Co,sA 34 10 8 1,sV 33 ((Pt.row v16).drop 3),sA 32 10 8 3,sB 30 false,sB 29 false,sB 28 v16.Has,sA 27 10 8 2,sB 26 false,sB 25 false,sB 24 v16.Up,sA 23 10 8 0,sI 9 y1,sA 10 10 8 0,sV 22 (Pt.row v16),(21,.fad ((Pt.row v16))),sI 20 y1,sB 19 true,sI 18 y1,sI 17 (x1.length : Int),sC 16 (cF 8 x1 Pt.row),sA 8 8 5 0,sI 7 y2,sA 6 6 5 0,sI 5 0,sA 4 4 5 0,sI 0 x0],[(11,(Vec.row r17.1)),(10,(Pt.row v16)),(8,[cI y3,cI y4,cI y5,cI y6,cI y7]),(6,[cI y8,cI y9,cI y10,cI x0,cI 0]),(4,[cI 0,cI 0,cI 0,cI 0,cI 0])]⟩) (fun v => ZA n (fun v => qA n mo15 x0 x1 v.1 v.2.1 v.2.2.1 v.2.2.2.1 v.2.2.2.2.1 v.2.2.2.2.2.1 v.2.2.2.2.2.2.1 v.2.2.2.2.2.2.2.1 v.2.2.2.2.2.2.2.2.1 v.2.2.2.2.2.2.2.2.2) r17 y1 y10 y2 y3 y4 y5 y6 y7 y8 y9 v.1 v.2.1 v.2.2.1 v.2.2.2.1 v.2.2.2.2.1 v.2.2.2.2.2.1 v.2.2.2.2.2.2 = some o15) ?_ ?_
    ·refine Tr.at ?_
     refine lA 2 ?_
     refine sL 2130303721457 3408 ⟨68,0,[sB 40 r17.2,sB 39 r17.2,sB 12 r17.2,sA 11 11 5 0,sB 38 r17.2,(31,.tup [(true,[.dead,.dead,.dead,.dead,.dead]),(false,[.dead])]),sV 37 (Vec.row r17.1),sI 35 v16.Co,sA 34 10 8 1,sV 33 ((Pt.row v16).drop 3),sA 32 10 8 3,sB 30 (!v16.Has),sB 29 (!v16.Has),sB 28 v16.Has,sA 27 10 8 2,sB 26 false,sB 25 false,sB 24 v16.Up,sA 23 10 8 0,sI 9 y1,sA 10 10 8 0,sV 22 (Pt.row v16),(21,.fad ((Pt.row v16))),sI 20 y1,sB 19 (decide (y1 < (x1.length : Int))),sI 18 y1,sI 17 (x1.length : Int),sC 16 (cF 8 x1 Pt.row),sA 8 8 5 0,sI 7 y2,sA 6 6 5 0,sI 5 0,sA 4 4 5 0,sI 0 x0],[(11,(Vec.row r17.1)),(10,(Pt.row v16)),(8,[cI y3,cI y4,cI y5,cI y6,cI y7]),(6,[cI y8,cI y9,cI y10,cI x0,cI 0]),(4,[cI 0,cI 0,cI 0,cI 0,cI 0])]⟩ ?_
     cases h5 : r17.2
     ·have H := zI h5 H
      refine uA 14 0x7fffefffff1ff1 3408 ?_
      refine sB' 0x7fffefffff1ff1 3408 ⟨68,0,[sB 54 false,(53,.tup []),(52,.tup []),(51,.tup []),(50,.tup []),(49,.tup []),(48,.tup []),(47,.tup []),sB 46 false,sB 45 false,(44,.tup []),(43,.tup []),(42,.tup []),(41,.tup []),sB 40 false,sB 39 false,sB 12 false,sA 11 11 5 0,sB 38 false,(31,.tup [(true,[.dead,.dead,.dead,.dead,.dead]),(false,[.dead])]),sV 37 (Vec.row r17.1),sI 35 v16.Co,sA 34 10 8 1,sV 33 ((Pt.row v16).drop 3),sA 32 10 8 3,sB 30 (!v16.Has),sB 29 (!v16.Has),sB 28 v16.Has,sA 27 10 8 2,sB 26 false,sB 25 false,sB 24 v16.Up,sA 23 10 8 0,sI 9 y1,sA 10 10 8 0,sV 22 (Pt.row v16),(21,.fad ((Pt.row v16))),sI 20 y1,sB 19 (decide (y1 < (x1.length : Int))),sI 18 y1,sI 17 (x1.length : Int),sC 16 (cF 8 x1 Pt.row),sA 8 8 5 0,sI 7 y2,sA 6 6 5 0,sI 5 0,sA 4 4 5 0,sI 0 x0],[(11,(Vec.row r17.1)),(10,(Pt.row v16)),(8,[cI y3,cI y4,cI y5,cI y6,cI y7]),(6,[cI y8,cI y9,cI y10,cI x0,cI 0]),(4,[cI 0,cI 0,cI 0,cI 0,cI 0])]⟩ ?_
      rw [h1]
      rw [h3]
      exact jA (false,false,false,false,false,false,false) H [54,46,45,40,39,12,11,38,31,37,35,34,33,32,30,29,28,27,26,25,24,23,9,10,22,21,20,19,18,17,16,8,7,6,5,4,0] [11,10,8,6,4]
     have H := zJ h5 H
     refine lA 6 ?_
     refine sL 0x7fefffff1ff1 3408 ⟨68,0,[sB 46 (decide (r17.1.Root < x0)),sB 45 (decide (r17.1.Root < x0)),sB 44 (decide (r17.1.Root < x0)),sI 43 x0,sI 42 r17.1.Root,sA 41 11 5 0,sB 40 true,sB 39 true,sB 12 true,sA 11 11 5 0,sB 38 true,(31,.tup [(true,[.dead,.dead,.dead,.dead,.dead]),(false,[.dead])]),sV 37 (Vec.row r17.1),sI 35 v16.Co,sA 34 10 8 1,sV 33 ((Pt.row v16).drop 3),sA 32 10 8 3,sB 30 (!v16.Has),sB 29 (!v16.Has),sB 28 v16.Has,sA 27 10 8 2,sB 26 false,sB 25 false,sB 24 v16.Up,sA 23 10 8 0,sI 9 y1,sA 10 10 8 0,sV 22 (Pt.row v16),(21,.fad ((Pt.row v16))),sI 20 y1,sB 19 (decide (y1 < (x1.length : Int))),sI 18 y1,sI 17 (x1.length : Int),sC 16 (cF 8 x1 Pt.row),sA 8 8 5 0,sI 7 y2,sA 6 6 5 0,sI 5 0,sA 4 4 5 0,sI 0 x0],[(11,(Vec.row r17.1)),(10,(Pt.row v16)),(8,[cI y3,cI y4,cI y5,cI y6,cI y7]),(6,[cI y8,cI y9,cI y10,cI x0,cI 0]),(4,[cI 0,cI 0,cI 0,cI 0,cI 0])]⟩ ?_
     cases h6 : (decide (r17.1.Root < x0))
     ·have H := zI h6 H
      refine uA 8 0x7fffefffff1ff1 3408 ?_
      refine sB' 0x7fffefffff1ff1 3408 ⟨68,0,[sB 54 false,(53,.tup []),(52,.tup []),(51,.tup []),(50,.tup []),(49,.tup []),(48,.tup []),(47,.tup []),sB 46 false,sB 45 false,sB 44 false,sI 43 x0,sI 42 r17.1.Root,sA 41 11 5 0,sB 40 true,sB 39 true,sB 12 true,sA 11 11 5 0,sB 38 true,(31,.tup [(true,[.dead,.dead,.dead,.dead,.dead]),(false,[.dead])]),sV 37 (Vec.row r17.1),sI 35 v16.Co,sA 34 10 8 1,sV 33 ((Pt.row v16).drop 3),sA 32 10 8 3,sB 30 (!v16.Has),sB 29 (!v16.Has),sB 28 v16.Has,sA 27 10 8 2,sB 26 false,sB 25 false,sB 24 v16.Up,sA 23 10 8 0,sI 9 y1,sA 10 10 8 0,sV 22 (Pt.row v16),(21,.fad ((Pt.row v16))),sI 20 y1,sB 19 (decide (y1 < (x1.length : Int))),sI 18 y1,sI 17 (x1.length : Int),sC 16 (cF 8 x1 Pt.row),sA 8 8 5 0,sI 7 y2,sA 6 6 5 0,sI 5 0,sA 4 4 5 0,sI 0 x0],[(11,(Vec.row r17.1)),(10,(Pt.row v16)),(8,[cI y3,cI y4,cI y5,cI y6,cI y7]),(6,[cI y8,cI y9,cI y10,cI x0,cI 0]),(4,[cI 0,cI 0,cI 0,cI 0,cI 0])]⟩ ?_
      rw [h1]
      rw [h3]
      exact jA (false,false,false,true,true,true,true) H [54,46,45,40,39,12,11,38,31,37,35,34,33,32,30,29,28,27,26,25,24,23,9,10,22,21,20,19,18,17,16,8,7,6,5,4,0] [11,10,8,6,4]
     have H := zJ h6 H
     refine lA 3 ?_
     refine sL 0x3ffefffff1ff1 3408 ⟨68,0,[sB 49 (decide (y2 < 0)),sB 48 (decide (y2 < 0)),sI 47 y2,sB 46 true,sB 45 true,sB 44 true,sI 43 x0,sI 42 r17.1.Root,sA 41 11 5 0,sB 40 true,sB 39 true,sB 12 true,sA 11 11 5 0,sB 38 true,(31,.tup [(true,[.dead,.dead,.dead,.dead,.dead]),(false,[.dead])]),sV 37 (Vec.row r17.1),sI 35 v16.Co,sA 34 10 8 1,sV 33 ((Pt.row v16).drop 3),sA 32 10 8 3,sB 30 (!v16.Has),sB 29 (!v16.Has),sB 28 v16.Has,sA 27 10 8 2,sB 26 false,sB 25 false,sB 24 v16.Up,sA 23 10 8 0,sI 9 y1,sA 10 10 8 0,sV 22 (Pt.row v16),(21,.fad ((Pt.row v16))),sI 20 y1,sB 19 (decide (y1 < (x1.length : Int))),sI 18 y1,sI 17 (x1.length : Int),sC 16 (cF 8 x1 Pt.row),sA 8 8 5 0,sI 7 y2,sA 6 6 5 0,sI 5 0,sA 4 4 5 0,sI 0 x0],[(11,(Vec.row r17.1)),(10,(Pt.row v16)),(8,[cI y3,cI y4,cI y5,cI y6,cI y7]),(6,[cI y8,cI y9,cI y10,cI x0,cI 0]),(4,[cI 0,cI 0,cI 0,cI 0,cI 0])]⟩ ?_
     cases h7 : (decide (y2 < 0))
     ·have H := zI h7 H
      refine lA 2 ?_
      obtain ⟨r25,er25,H⟩ := bs H
      refine vA [.rd,.rd] (zCu n r17.1 (⟨y3,y4,y5,y6,y7⟩ : Vec) r25 er25) ?_
      refine uA 2 0x7fffefffff1ff1 3408 ?_
      refine sB' 0x7fffefffff1ff1 3408 ⟨68,0,[sB 54 r25,sB 53 r25,sB 52 r25,sV 51 [cI y3,cI y4,cI y5,cI y6,cI y7],sV 50 (Vec.row r17.1),sB 49 false,sB 48 false,sI 47 y2,sB 46 true,sB 45 true,sB 44 true,sI 43 x0,sI 42 r17.1.Root,sA 41 11 5 0,sB 40 true,sB 39 true,sB 12 true,sA 11 11 5 0,sB 38 true,(31,.tup [(true,[.dead,.dead,.dead,.dead,.dead]),(false,[.dead])]),sV 37 (Vec.row r17.1),sI 35 v16.Co,sA 34 10 8 1,sV 33 ((Pt.row v16).drop 3),sA 32 10 8 3,sB 30 (!v16.Has),sB 29 (!v16.Has),sB 28 v16.Has,sA 27 10 8 2,sB 26 false,sB 25 false,sB 24 v16.Up,sA 23 10 8 0,sI 9 y1,sA 10 10 8 0,sV 22 (Pt.row v16),(21,.fad ((Pt.row v16))),sI 20 y1,sB 19 (decide (y1 < (x1.length : Int))),sI 18 y1,sI 17 (x1.length : Int),sC 16 (cF 8 x1 Pt.row),sA 8 8 5 0,sI 7 y2,sA 6 6 5 0,sI 5 0,sA 4 4 5 0,sI 0 x0],[(11,(Vec.row r17.1)),(10,(Pt.row v16)),(8,[cI y3,cI y4,cI y5,cI y6,cI y7]),(6,[cI y8,cI y9,cI y10,cI x0,cI 0]),(4,[cI 0,cI 0,cI 0,cI 0,cI 0])]⟩ ?_
      rw [h1]
      rw [h3]
      exact jA (r25,true,true,true,true,true,true) H [54,46,45,40,39,12,11,38,31,37,35,34,33,32,30,29,28,27,26,25,24,23,9,10,22,21,20,19,18,17,16,8,7,6,5,4,0] [11,10,8,6,4]
     have H := zJ h7 H
     refine uA 5 0x7fffefffff1ff1 3408 ?_
     refine sB' 0x7fffefffff1ff1 3408 ⟨68,0,[sB 54 true,sB 53 true,(52,.tup []),(51,.tup []),(50,.tup []),sB 49 true,sB 48 true,sI 47 y2,sB 46 true,sB 45 true,sB 44 true,sI 43 x0,sI 42 r17.1.Root,sA 41 11 5 0,sB 40 true,sB 39 true,sB 12 true,sA 11 11 5 0,sB 38 true,(31,.tup [(true,[.dead,.dead,.dead,.dead,.dead]),(false,[.dead])]),sV 37 (Vec.row r17.1),sI 35 v16.Co,sA 34 10 8 1,sV 33 ((Pt.row v16).drop 3),sA 32 10 8 3,sB 30 (!v16.Has),sB 29 (!v16.Has),sB 28 v16.Has,sA 27 10 8 2,sB 26 false,sB 25 false,sB 24 v16.Up,sA 23 10 8 0,sI 9 y1,sA 10 10 8 0,sV 22 (Pt.row v16),(21,.fad ((Pt.row v16))),sI 20 y1,sB 19 (decide (y1 < (x1.length : Int))),sI 18 y1,sI 17 (x1.length : Int),sC 16 (cF 8 x1 Pt.row),sA 8 8 5 0,sI 7 y2,sA 6 6 5 0,sI 5 0,sA 4 4 5 0,sI 0 x0],[(11,(Vec.row r17.1)),(10,(Pt.row v16)),(8,[cI y3,cI y4,cI y5,cI y6,cI y7]),(6,[cI y8,cI y9,cI y10,cI x0,cI 0]),(4,[cI 0,cI 0,cI 0,cI 0,cI 0])]⟩ ?_
     rw [h1]
     rw [h3]
     exact jA (true,true,true,true,true,true,true) H [54,46,45,40,39,12,11,38,31,37,35,34,33,32,30,29,28,27,26,25,24,23,9,10,22,21,20,19,18,17,16,8,7,6,5,4,0] [11,10,8,6,4]
    rintro ⟨y18,y19,y20,y21,y22,y23,y24⟩ H
    have H : (ZA n (fun v => qA n mo15 x0 x1 v.1 v.2.1 v.2.2.1 v.2.2.2.1 v.2.2.2.2.1 v.2.2.2.2.2.1 v.2.2.2.2.2.2.1 v.2.2.2.2.2.2.2.1 v.2.2.2.2.2.2.2.2.1 v.2.2.2.2.2.2.2.2.2) r17 y1 y10 y2 y3 y4 y5 y6 y7 y8 y9 y18 y19 y20 y21 y22 y23 y24) = some o15 := H
    unfold ZA at H
    cases h4 : y18
    ·have H := zI h4 H
     refine nB_ ?_
     refine tK ?_
     refine eA 2 0x2004061efffff1ff1 3408 ?_
     exact jB mo15 ((IntKind.wrap .i64 (y1 + 1)),y2,y3,y4,y5,y6,y7,y8,y9,y10) H [18,17,16,8,7,6,5,4,0] [8,6,4]
    have H := zJ h4 H
    refine tB_ ?_
    refine gA 4 0x1c061efffff1ff1 3408 ?_
    refine eA 9 0x1ffc061efffff1ff1 3408 ?_
    refine eA 2 0x3ffc061efffff1ff1 3408 ?_
    exact jB mo15 ((IntKind.wrap .i64 (y1 + 1)),y1,r17.1.Root,r17.1.Co,r17.1.Hops,r17.1.Bridge,r17.1.Port,r17.1.Root,r17.1.Co,r17.1.Hops) H [18,17,16,8,7,6,5,4,0] [8,6,4]
   refine tA h3 ?_
   refine Tr.exit ?_
   refine aJ ?_
   refine eA 2 0x2000000007fff07f1 1360 ?_
   exact jB mo15 ((IntKind.wrap .i64 (y1 + 1)),y2,y3,y4,y5,y6,y7,y8,y9,y10) H [18,17,16,8,7,6,5,4,0] [8,6,4]
  have H := zJ h2 H
  refine uA 4 2147420145 1360 ?_
  refine tB_ ?_
  refine Tr.exit ?_
  refine aJ ?_
  refine eA 2 0x2000000007fff07f1 1360 ?_
  exact jB mo15 ((IntKind.wrap .i64 (y1 + 1)),y2,y3,y4,y5,y6,y7,y8,y9,y10) H [18,17,16,8,7,6,5,4,0] [8,6,4]
 rintro ⟨y11,y12,y13,y14⟩ H
 have H : (YU n x0 y11 y12 y13 y14) = some r := H
 unfold YU at H
 refine gA 4 48 16 ?_
 exact te (fJ [(true,[cI y12,cI y13,cI y14,cI x0,cI 0]),(false,[cI y11])] H)
def Yi (n : Nat) (x0 : Int) (x1 : (List Pt)) (x2 : Int) : Option (Vec) :=
  ((Qd n x0 x1).bind fun r1 => (some (⟨r1.1.Root,r1.1.Co,r1.1.Hops,r1.1.Bridge,x2⟩ : Vec)))
theorem zGh (n : Nat) (x0 : Int) (x1 : (List Pt)) (x2 : Int) (r : Vec) (H : Yi n x0 x1 x2 = some r) : zG Try.prog 132 [.val false [.lit (.int .i64 x0)],.val false [.sl false 8 (CV.frzEs (x1.map Pt.row))],.val false [.lit (.int .i64 x2)]] [.val true (Vec.row r)] [] := by
 refine cW Try.func132 (fun g d => sl [g 0,g 1,g 2,g 3] .ret) [.cell 6 35] fun cx => ?_
 unfold Yi at H
 refine gA 1 71 64 ?_
 refine rA 2 ?_
 obtain ⟨r1,er1,H⟩ := bs H
 refine vA [.rd,.rd] (zCq n x0 x1 r1 er1) ?_
 refine LAt.movT tOk (ty := 156) (t := 12) (d := 9) (g := none) [(true,(Vec.row r1.1)),(false,[cI r1.2])] _ kr (.inl rfl) kr kr kr kr rfl ?_
 refine uA 5 196 192 ?_
 refine gA 3 192 192 ?_
 refine gA 2 64 64 ?_
 exact te (fJ [(true,[cI r1.1.Root,cI r1.1.Co,cI r1.1.Hops,cI r1.1.Bridge,cI x2])] H)
def Yh (n : Nat) (x0 : Int) (x1 : (List Pt)) (x2 : Int) : Option (Int) :=
  ((zt n x2 0 (IntKind.wrap .i64 ((x1.length : Int) - 1))).bind fun r1 => (bif (!r1) then (some 4) else ((idx x1 x2).bind fun v2 => (bif (!v2.Up) then (some 4) else ((Qd n x0 x1).bind fun r3 => (bif (r3.2 == x2) then (some 1) else ((idx x1 x2).bind fun v4 => (bif (!v4.Has) then (some 2) else ((Yi n x0 x1 x2).bind fun r5 => ((idx x1 x2).bind fun v6 => ((YF n r5 v6.Hd).bind fun r7 => (bif r7 then (some 2) else (some 3)))))))))))))
def zJd : Tab := ⟨19,[0,0,3,4,8,16,32,64,64,64,960,64,64,6208,8256,16448,33856,65600,196608],[0,0,3,4,8,16,32,64,64,64,960,64,64,6208,8256,16448,33856,65600,131072],[0,0,3,7,15,31,63,127,127,127,1023,127,127,6271,14463,30847,65535,131071,262143]⟩
theorem Q5 : z6 (rg Try.f66 6) zJd = true := kr
theorem zGg (n : Nat) (x0 : Int) (x1 : (List Pt)) (x2 : Int) (r : Int) (H : Yh n x0 x1 x2 = some r) : zG Try.prog 66 [.val false [.lit (.int .i64 x0)],.val false [.sl false 8 (CV.frzEs (x1.map Pt.row))],.val false [.lit (.int .i64 x2)]] [.val false [.lit (.int .i64 r)]] [] := by
 refine cW Try.func66 (fun g d => sl [g 0,sl [g 1] (cn 22 (sl [g 2] .ret) .skip),g 3,.block 0 (sl [g 4] (cn 29 (sl [g 5] .ret) (sl [d 6] (cn 33 (sl [g 7] .ret) .skip)))),g 8] .ret) [.tmp 6] fun cx => ?_
 unfold Yh at H
 refine gA 1 7 0 ?_
 refine tS ?_
 refine rA 2 ?_
 refine kF x1 Pt.row ?_
 refine lA 1 ?_
 obtain ⟨r1,er1,H⟩ := bs H
 refine vA [.rd,.rd,.rd] (zz n x2 0 (IntKind.wrap .i64 ((x1.length : Int) - 1)) r1 er1) ?_
 refine lA 2 ?_
 refine sL 32775 0 ⟨52,0,[sB 15 (!r1),sI 0 x0,sC 1 (cF 8 x1 Pt.row),sI 2 x2],[]⟩ ?_
 cases h1 : (!r1)
 ·have H := zI h1 H
  refine lA 2 ?_
  obtain ⟨v2,ev2,H⟩ := bs H
  refine iA Pt.row ev2 ?_
  refine uA 4 4194311 0 ?_
  obtain ⟨h2,H⟩ | ⟨h2,H⟩ := bC H
  ·refine nA h2 ?_
   refine tK ?_
   refine rA 2 ?_
   obtain ⟨r3,er3,H⟩ := bs H
   refine vA [.rd,.rd] (zCq n x0 x1 r3 er3) ?_
   refine LAt.movT tOk (ty := 156) (t := 26) (d := 23) (g := none) [(true,(Vec.row r3.1)),(false,[cI r3.2])] _ kr (.inl rfl) kr kr kr kr rfl ?_
   refine uA 5 263 0 ?_
   refine tS ?_
   refine tB ?_
   refine gA 4 536870919 0 ?_
   obtain ⟨h3,H⟩ | ⟨h3,H⟩ := bC H
   ·refine nA h3 ?_
    obtain ⟨v4,ev4,H⟩ := bs H
    refine sT ⟨52,0,[sB 29 (r3.2 == x2),sI 0 x0,sC 1 (cF 8 x1 Pt.row),sI 2 x2],[]⟩ ?_
    cases h4 : (!v4.Has)
    ·have H := zI h4 H
     obtain ⟨r5,er5,H⟩ := bs H
     obtain ⟨v6,ev6,H⟩ := bs H
     obtain ⟨r7,er7,H⟩ := bs H
     refine Tr.draws mixed 19 kr ⟨52,0,[sB 33 r7],[]⟩ (fun cx => ?_) ?_
     ·refine mA Q5 [(0,[]),(1,[])] 17 [] fun cx => ?_
      refine iN Q5 2 Pt.row ev4 fun cx => ?_
      refine mA Q5 [(3,[]),(4,[]),(5,[]),(6,[])] 12 [] fun cx => ?_
      refine sA_ 1099511627783 0 ⟨52,0,[sB 40 (!v4.Has),sI 0 x0,sC 1 (cF 8 x1 Pt.row),sI 2 x2],[]⟩ ?_
      rw [h4]
      refine mA Q5 [(7,[]),(8,[]),(9,[]),(11,[]),(12,[])] 7 [] fun cx => ?_
      refine iN Q5 13 Pt.row ev6 fun cx => ?_
      refine mA Q5 [(14,[]),(15,[])] 4 [] fun cx => ?_
      refine mC Q5 10 ?_
      refine vA [.rd,.rd,.rd] (zGh n x0 x1 x2 r5 er5) ?_
      refine fA ?_
      refine mC Q5 16 ?_
      refine vA [.rd,.rd] (zCu n r5 v6.Hd r7 er7) ?_
      refine fA ?_
      refine mA Q5 [(17,[]),(18,[])] 0 [] fun cx => ?_
      exact mE Q5 [33] []
     cases h5 : r7
     ·have H := zI h5 H
      refine nB_ ?_
      refine tK ?_
      refine gA 1 64 0 ?_
      exact te (fJ [(false,[cI 3])] H)
     have H := zJ h5 H
     refine tB_ ?_
     refine gA 1 64 0 ?_
     exact te (fJ [(false,[cI 2])] H)
    have H := zJ h4 H
    refine Tr.draws mixed 19 kr ⟨52,0,[sB 33 true],[]⟩ (fun cx => ?_) ?_
    ·refine mA Q5 [(0,[]),(1,[])] 17 [] fun cx => ?_
     refine iN Q5 2 Pt.row ev4 fun cx => ?_
     refine mA Q5 [(3,[]),(4,[]),(5,[]),(6,[])] 12 [] fun cx => ?_
     refine sA_ 1099511627783 0 ⟨52,0,[sB 40 (!v4.Has),sI 0 x0,sC 1 (cF 8 x1 Pt.row),sI 2 x2],[]⟩ ?_
     rw [h4]
     refine mA Q5 [(7,[]),(8,[]),(9,[]),(10,[]),(11,[]),(12,[]),(13,[]),(14,[]),(15,[]),(16,[]),(17,[]),(18,[])] 0 [] fun cx => ?_
     exact mE Q5 [33] []
    refine tB_ ?_
    refine gA 1 64 0 ?_
    exact te (fJ [(false,[cI 2])] H)
   refine tA h3 ?_
   refine gA 1 64 0 ?_
   exact te (fJ [(false,[cI 1])] H)
  refine tA h2 ?_
  refine gA 1 64 0 ?_
  exact te (fJ [(false,[cI 4])] H)
 have H := zJ h1 H
 refine uA 7 4194311 0 ?_
 refine tB_ ?_
 refine gA 1 64 0 ?_
 exact te (fJ [(false,[cI 4])] H)
def JW (n : Nat) (y3 : Int) : Option (Int) :=
  (some y3)
def qt (n : Nat) : Nat → Int → (List Pt) → Int → Int → Option ((Int) ⊕ (Int))
  | 0,_,_,_,_ => none
  | mo4 + 1,x0,x1,y1,y2 => (bif (decide (y1 < (x1.length : Int))) then (bif (decide (y1 < 6)) then ((Yh n x0 x1 y1).bind fun r5 => (bif (r5 == 1) then (bif (decide ((0 : Int) ≤ y1)) then (qt n mo4 x0 x1 (IntKind.wrap .i64 (y1 + 1)) (IntKind.wrap .i64 (BitVec.ofInt (IntKind.bits .i64) y2 ||| BitVec.ofInt (IntKind.bits .i64) (IntKind.wrap .i64 (1 * 2 ^ min ((y1 : Int)).toNat (IntKind.bits .i64)))).toNat)) else none) else (bif (r5 == 2) then (bif (decide ((0 : Int) ≤ y1)) then (qt n mo4 x0 x1 (IntKind.wrap .i64 (y1 + 1)) (IntKind.wrap .i64 (BitVec.ofInt (IntKind.bits .i64) y2 ||| BitVec.ofInt (IntKind.bits .i64) (IntKind.wrap .i64 (1 * 2 ^ min ((y1 : Int)).toNat (IntKind.bits .i64)))).toNat)) else none) else (qt n mo4 x0 x1 (IntKind.wrap .i64 (y1 + 1)) y2)))) else (some (Sum.inl y2))) else (some (Sum.inl y2)))
def YP (n : Nat) (x0 : Int) (x1 : (List Pt)) : Option (Int) :=
  ((qt n n x0 x1 0 0).bind fun o => match o with | .inl y3 => (JW n y3) | .inr r => some r)
theorem zHV (n : Nat) (x0 : Int) (x1 : (List Pt)) (r : Int) (H : YP n x0 x1 = some r) : zG Try.prog 18 [.val false [.lit (.int .i64 x0)],.val false [.sl false 8 (CV.frzEs (x1.map Pt.row))]] [.val false [.lit (.int .i64 r)]] [] := by
 refine cW Try.func18 (fun g d => sl [g 0,g 1,sl [g 2] (.block 0 (.loop (sl [sl [g 3] (cn 15 .skip (.exit 0)),.block 1 (sl [g 5,g 6] (cn 27 (g 7) .skip))] (g 4)))),g 8] .ret) [.tmp 4] fun cx => ?_
 unfold YP at H
 refine gA 1 3 0 ?_
 refine gA 1 35 0 ?_
 refine tS ?_
 refine gA 1 99 0 ?_
 obtain ⟨o4,eo4,Ho4⟩ := bs H
 clear H
 refine Tr.mid (ι := Int) (fun v => ⟨33,0,[sI 5 v],[]⟩) (fun v => JW n v = some r) ?_ ?_
 ·refine tB ?_
  refine Tr.loop (ι := Nat × (Int × Int)) (fun v => ⟨33,0,[sI 6 v.2.1,sI 5 v.2.2,sI 0 x0,sC 1 (cF 8 x1 Pt.row)],[]⟩) (fun v => qt n v.1 x0 x1 v.2.1 v.2.2 = some o4) (fun v => v.1) (n,(0,0)) eo4 (St.sub_of [6,5,0,1] [] kr) ?_
  rintro ⟨mo4,y1,y2⟩ H
  have H : qt n mo4 x0 x1 y1 y2 = some o4 := H
  obtain _ | mo4 := mo4
  ·exact nN H
  rw [qt] at H
  refine tS ?_
  refine rA 2 ?_
  refine kF x1 Pt.row ?_
  refine lA 2 ?_
  refine sL 4195 0 ⟨33,0,[sB 12 (decide (y1 < (x1.length : Int))),sI 6 y1,sI 5 y2,sI 0 x0,sC 1 (cF 8 x1 Pt.row)],[]⟩ ?_
  cases h1 : (decide (y1 < (x1.length : Int)))
  ·have H := zI h1 H
   refine uA 3 32867 0 ?_
   refine nB_ ?_
   refine Tr.exit ?_
   refine aJ ?_
   obtain rfl := si H
   have H := Ho4
   dsimp only at H
   exact jA y2 H [5] []
  have H := zJ h1 H
  refine uA 3 32867 0 ?_
  obtain ⟨h2,H⟩ | ⟨h2,H⟩ := bC H
  ·refine nA h2 ?_
   refine Tr.exit ?_
   refine aJ ?_
   obtain rfl := si H
   have H := Ho4
   dsimp only at H
   exact jA y2 H [5] []
  refine tA h2 ?_
  refine tK ?_
  refine tS ?_
  refine tB ?_
  refine rA 3 ?_
  obtain ⟨r5,er5,H⟩ := bs H
  refine vA [.rd,.rd,.rd] (zGg n x0 x1 y1 r5 er5) ?_
  refine uA 1 227 0 ?_
  refine rA 3 ?_
  refine sL 16777443 0 ⟨33,0,[sB 24 (r5 == 1),sI 7 r5,sI 6 y1,sI 5 y2,sI 0 x0,sC 1 (cF 8 x1 Pt.row)],[]⟩ ?_
  cases h3 : (r5 == 1)
  ·have H := zI h3 H
   refine uA 3 134217827 0 ?_
   obtain ⟨h4,H⟩ | ⟨h4,H⟩ := bC H
   ·refine nA h4 ?_
    refine tK ?_
    refine eA 3 99 0 ?_
    exact jB mo4 ((IntKind.wrap .i64 (y1 + 1)),y2) H [6,5,0,1] []
   refine tA h4 ?_
   refine Tr.at ?_
   refine lA 2 ?_
   obtain ⟨hg6,H⟩ := gs H
   refine LAt.binC tOk (op := .shl) (t := 3) (ty := 3) (ty' := 3) (x := (.const (.int .i64 1))) (y := (.tmp 29)) (d := 30) (g := none) (.int .i64 1) (.int .i64 y1) (.int .i64 (IntKind.wrap .i64 (1 * 2 ^ min ((y1 : Int)).toNat (IntKind.bits .i64)))) _ kr kr kr kr kr (φ := (0 : Int) ≤ y1) kr (of_decide_eq_true hg6) rfl ?_
   refine uA 2 99 0 ?_
   refine eA 3 99 0 ?_
   exact jB mo4 ((IntKind.wrap .i64 (y1 + 1)),(IntKind.wrap .i64 (BitVec.ofInt (IntKind.bits .i64) y2 ||| BitVec.ofInt (IntKind.bits .i64) (IntKind.wrap .i64 (1 * 2 ^ min ((y1 : Int)).toNat (IntKind.bits .i64)))).toNat)) H [6,5,0,1] []
  have H := zJ h3 H
  refine uA 3 134217827 0 ?_
  refine tB_ ?_
  refine Tr.at ?_
  refine lA 2 ?_
  obtain ⟨hg7,H⟩ := gs H
  refine LAt.binC tOk (op := .shl) (t := 3) (ty := 3) (ty' := 3) (x := (.const (.int .i64 1))) (y := (.tmp 29)) (d := 30) (g := none) (.int .i64 1) (.int .i64 y1) (.int .i64 (IntKind.wrap .i64 (1 * 2 ^ min ((y1 : Int)).toNat (IntKind.bits .i64)))) _ kr kr kr kr kr (φ := (0 : Int) ≤ y1) kr (of_decide_eq_true hg7) rfl ?_
  refine uA 2 99 0 ?_
  refine eA 3 99 0 ?_
  exact jB mo4 ((IntKind.wrap .i64 (y1 + 1)),(IntKind.wrap .i64 (BitVec.ofInt (IntKind.bits .i64) y2 ||| BitVec.ofInt (IntKind.bits .i64) (IntKind.wrap .i64 (1 * 2 ^ min ((y1 : Int)).toNat (IntKind.bits .i64)))).toNat)) H [6,5,0,1] []
 rintro y3 H
 have H : (JW n y3) = some r := H
 unfold JW at H
 refine gA 2 16 0 ?_
 exact te (fJ [(false,[cI y3])] H)
def qY (n : Nat) (x0 : Int) (x1 : Int) : Option (Bool) :=
  ((zt n x1 0 62).bind fun r1 => (bif r1 then (bif (decide ((0 : Int) ≤ x1)) then (some ((IntKind.wrap .i64 (BitVec.ofInt (IntKind.bits .i64) (Int.fdiv x0 (2 ^ min ((x1 : Int)).toNat (IntKind.bits .i64))) &&& BitVec.ofInt (IntKind.bits .i64) 1).toNat) == 1)) else none) else (some false)))
theorem Jt (n : Nat) (x0 : Int) (x1 : Int) (r : Bool) (H : qY n x0 x1 = some r) : zG Try.prog 72 [.val false [.lit (.int .i64 x0)],.val false [.lit (.int .i64 x1)]] [.val false [.lit (.bool r)]] [] := by
 refine cW Try.func72 (fun g d => sl [g 0,g 1] .ret) [.tmp 4] fun cx => ?_
 unfold qY at H
 refine gA 1 3 0 ?_
 refine rA 1 ?_
 obtain ⟨r1,er1,H⟩ := bs H
 refine vA [.rd,.rd,.rd] (zz n x1 0 62 r1 er1) ?_
 refine lA 1 ?_
 refine sL 131 0 ⟨14,0,[sB 7 r1,sI 0 x0,sI 1 x1],[]⟩ ?_
 cases h1 : r1
 ·have H := zI h1 H
  refine uA 7 16 0 ?_
  exact te (fF H)
 have H := zJ h1 H
 refine lA 2 ?_
 obtain ⟨hg2,H⟩ := gs H
 refine LAt.binC tOk (op := .shr) (t := 3) (ty := 3) (ty' := 3) (x := (.tmp 8)) (y := (.tmp 9)) (d := 10) (g := (some (2,true))) (.int .i64 x0) (.int .i64 x1) (.int .i64 (Int.fdiv x0 (2 ^ min ((x1 : Int)).toNat (IntKind.bits .i64)))) _ kr kr kr kr kr (φ := (0 : Int) ≤ x1) kr (of_decide_eq_true hg2) rfl ?_
 refine uA 4 16 0 ?_
 exact te (fJ [(false,[cB ((IntKind.wrap .i64 (BitVec.ofInt (IntKind.bits .i64) (Int.fdiv x0 (2 ^ min ((x1 : Int)).toNat (IntKind.bits .i64))) &&& BitVec.ofInt (IntKind.bits .i64) 1).toNat) == 1)])] H)
def Zd (n : Nat) (x0 : zC) (x1 : Int) (y2 : Int) : Option (Int × Bool) :=
  ((QP n x0 y2).bind fun r3 => (bif (decide (r3 < 0)) then (some (0,false)) else ((idx x0.Rows r3).bind fun v4 => ((qY n v4.Members x1).bind fun r5 => (bif (!r5) then (some (0,false)) else (some (y2,true)))))))
def QC (n : Nat) (x0 : zC) (x1 : Int) (x2 : Int) : Option (Int × Bool) :=
  ((zt n x1 0 (IntKind.wrap .i64 ((x0.Pv.length : Int) - 1))).bind fun r1 => (bif (!r1) then (some (0,false)) else (bif (x2 == 0) then ((idx x0.Pv x1).bind fun v6 => (Zd n x0 x1 v6)) else (Zd n x0 x1 x2))))
theorem zCs (n : Nat) (x0 : zC) (x1 : Int) (x2 : Int) (r : Int × Bool) (H : QC n x0 x1 x2 = some r) : zG Try.prog 26 [.val true (CV.frzRow (zC.row x0)),.val false [.lit (.int .i64 x1)],.val false [.lit (.int .i64 x2)]] [.val false [.lit (.int .i64 r.1)],.val false [.lit (.bool r.2)]] [] := by
 refine cW Try.func26 (fun g d => sl [g 0,sl [g 1] (cn 16 (sl [g 2] .ret) .skip),g 3,sl [g 4] (cn 19 (g 5) .skip),sl [g 6,g 7] (cn 40 (sl [g 8] .ret) .skip),g 9] .ret) [.tmp 6,.tmp 7] fun cx => ?_
 unfold QC at H
 refine gA 3 14 8 ?_
 refine tS ?_
 refine rA 3 ?_
 refine kF x0.Pv intRow ?_
 refine lA 1 ?_
 obtain ⟨r1,er1,H⟩ := bs H
 refine vA [.rd,.rd,.rd] (zz n x1 0 (IntKind.wrap .i64 ((x0.Pv.length : Int) - 1)) r1 er1) ?_
 refine uA 1 65550 8 ?_
 obtain ⟨h1,H⟩ | ⟨h1,H⟩ := bC H
 ·refine nA h1 ?_
  refine tK ?_
  refine gA 2 270 8 ?_
  refine tS ?_
  refine Tr.mid (ι := Int) (fun v => ⟨42,0,[sI 8 v,sA 3 3 2 0,sI 1 x1],[(3,(CV.frzRow (zC.row x0)))]⟩) (fun v => Zd n x0 x1 v = some r) ?_ ?_
  ·refine gA 2 524554 8 ?_
   obtain ⟨h4,H⟩ | ⟨h4,H⟩ := bC H
   ·refine nA h4 ?_
    refine tK ?_
    exact jA x2 H [8,3,1] [3]
   refine tA h4 ?_
   refine Tr.at ?_
   refine lA 3 ?_
   obtain ⟨v6,ev6,H⟩ := bs H
   refine iA intRow ev6 ?_
   refine uA 2 266 8 ?_
   exact jA v6 H [8,3,1] [3]
  rintro y2 H
  have H : (Zd n x0 x1 y2) = some r := H
  unfold Zd at H
  refine tS ?_
  refine rA 2 ?_
  obtain ⟨r3,er3,H⟩ := bs H
  refine vA [.rd,.rd] (zAx n x0 y2 r3 er3) ?_
  refine uA 1 778 8 ?_
  refine rA 3 ?_
  refine sL 1073742602 8 ⟨42,0,[sB 30 (decide (r3 < 0)),sI 9 r3,sI 8 y2,sA 3 3 2 0,sI 1 x1],[(3,(CV.frzRow (zC.row x0)))]⟩ ?_
  cases h2 : (decide (r3 < 0))
  ·have H := zI h2 H
   refine lA 3 ?_
   obtain ⟨v4,ev4,H⟩ := bs H
   refine iA zB.row ev4 ?_
   refine lA 3 ?_
   obtain ⟨r5,er5,H⟩ := bs H
   refine vA [.rd,.rd] (Jt n v4.Members x1 r5 er5) ?_
   refine uA 2 1099511628032 0 ?_
   obtain ⟨h3,H⟩ | ⟨h3,H⟩ := bC H
   ·refine nA h3 ?_
    refine tK ?_
    refine gA 3 192 0 ?_
    exact te (fJ [(false,[cI y2]),(false,[cB true])] H)
   refine tA h3 ?_
   refine gA 2 192 0 ?_
   exact te (fJ [(false,[cI 0]),(false,[cB false])] H)
  have H := zJ h2 H
  refine uA 10 1099511628032 0 ?_
  refine tB_ ?_
  refine gA 2 192 0 ?_
  exact te (fJ [(false,[cI 0]),(false,[cB false])] H)
 refine tA h1 ?_
 refine gA 2 192 0 ?_
 exact te (fJ [(false,[cI 0]),(false,[cB false])] H)
def Q8 (n : Nat) (x0 : Int) : Option (Int) :=
  (some (if 1000000 < (IntKind.wrap .i64 (x0 + 1)) then 1000000 else (IntKind.wrap .i64 (x0 + 1))))
theorem zCv (n : Nat) (x0 : Int) (r : Int) (H : Q8 n x0 = some r) : zG Try.prog 61 [.val false [.lit (.int .i64 x0)]] [.val false [.lit (.int .i64 r)]] [] := by
 refine cW Try.func61 (fun g d => sl [g 0,g 1] .ret) [.tmp 2] fun cx => ?_
 unfold Q8 at H
 refine gA 1 1 0 ?_
 refine gA 4 4 0 ?_
 exact te (fJ [(false,[cI (if 1000000 < (IntKind.wrap .i64 (x0 + 1)) then 1000000 else (IntKind.wrap .i64 (x0 + 1)))])] H)
def JZ (n : Nat) : Option (Int) :=
  (some (-1))
def Zo (n : Nat) : Nat → (List zA) → Int → Int → Int → Option ((Unit) ⊕ (Int))
  | 0,_,_,_,_ => none
  | mo2 + 1,x0,x1,x2,y1 => (bif (decide (y1 < (x0.length : Int))) then ((idx x0 y1).bind fun v3 => (bif (v3.Tag == x1) then (bif (v3.Mac == x2) then (some (Sum.inr y1)) else (Zo n mo2 x0 x1 x2 (IntKind.wrap .i64 (y1 + 1)))) else (Zo n mo2 x0 x1 x2 (IntKind.wrap .i64 (y1 + 1))))) else (some (Sum.inl ())))
def Qp (n : Nat) (x0 : (List zA)) (x1 : Int) (x2 : Int) : Option (Int) :=
  ((Zo n n x0 x1 x2 0).bind fun o => match o with | .inl _ => (JZ n) | .inr r => some r)
theorem zCO (n : Nat) (x0 : (List zA)) (x1 : Int) (x2 : Int) (r : Int) (H : Qp n x0 x1 x2 = some r) : zG Try.prog 90 [.val false [.sl false 5 (CV.frzEs (x0.map zA.row))],.val false [.lit (.int .i64 x1)],.val false [.lit (.int .i64 x2)]] [.val false [.lit (.int .i64 r)]] [] := by
 refine cW Try.func90 (fun g d => sl [g 0,sl [g 1] (.block 0 (.loop (sl [g 2,cn 12 .skip (.exit 0),.block 1 (sl [g 3,g 4] (cn 25 (sl [g 5] .ret) .skip))] (g 6)))),g 7] .ret) [.tmp 6] fun cx => ?_
 unfold Qp at H
 refine gA 1 7 0 ?_
 refine tS ?_
 refine rA 1 ?_
 refine kF x0 zA.row ?_
 refine uA 1 3590 0 ?_
 obtain ⟨o2,eo2,Ho2⟩ := bs H
 clear H
 refine Tr.mid (ι := Unit) (fun v => ⟨28,0,[],[]⟩) (fun v => JZ n = some r) ?_ ?_
 ·refine tB ?_
  refine Tr.loop (ι := Nat × (Int)) (fun v => ⟨28,0,[sI 11 v.2,sI 10 (x0.length : Int),sC 9 (cF 5 x0 zA.row),sI 1 x1,sI 2 x2],[]⟩) (fun v => Zo n v.1 x0 x1 x2 v.2 = some o2) (fun v => v.1) (n,0) eo2 (St.sub_of [11,10,9,1,2] [] kr) ?_
  rintro ⟨mo2,y1⟩ H
  have H : Zo n mo2 x0 x1 x2 y1 = some o2 := H
  obtain _ | mo2 := mo2
  ·exact nN H
  rw [Zo] at H
  refine gA 1 7686 0 ?_
  refine tS ?_
  obtain ⟨h1,H⟩ | ⟨h1,H⟩ := bC H
  ·refine nA h1 ?_
   refine Tr.exit ?_
   refine aJ ?_
   obtain rfl := si H
   have H := Ho2
   dsimp only at H
   exact jA () H [] []
  refine tA h1 ?_
  refine tK ?_
  refine tS ?_
  refine tB ?_
  refine rA 1 ?_
  obtain ⟨v3,ev3,H⟩ := bs H
  refine iA zA.row ev3 ?_
  refine uA 4 3974 256 ?_
  refine rA 5 ?_
  refine sL 1052550 256 ⟨28,0,[sB 20 (v3.Tag == x1),sI 7 y1,sA 8 8 5 0,sI 11 y1,sI 10 (x0.length : Int),sC 9 (cF 5 x0 zA.row),sI 1 x1,sI 2 x2],[(8,(zA.row v3))]⟩ ?_
  cases h2 : (v3.Tag == x1)
  ·have H := zI h2 H
   refine uA 5 33558150 0 ?_
   refine nB_ ?_
   refine tK ?_
   refine eA 2 3590 0 ?_
   exact jB mo2 (IntKind.wrap .i64 (y1 + 1)) H [11,10,9,1,2] []
  have H := zJ h2 H
  refine uA 5 33558150 0 ?_
  obtain ⟨h3,H⟩ | ⟨h3,H⟩ := bC H
  ·refine nA h3 ?_
   refine tK ?_
   refine eA 2 3590 0 ?_
   exact jB mo2 (IntKind.wrap .i64 (y1 + 1)) H [11,10,9,1,2] []
  refine tA h3 ?_
  refine gA 2 64 0 ?_
  refine te ?_
  obtain rfl := si H
  have H := Ho2
  dsimp only at H
  exact fJ [(false,[cI y1])] H
 rintro _ H
 have H : (JZ n) = some r := H
 unfold JZ at H
 refine gA 1 64 0 ?_
 exact te (fJ [(false,[cI (-1)])] H)
def JJ (n : Nat) (x0 : (List zA)) (x1 : zA) (y4 : Int) : Option ((List zA) × Bool) :=
  (bif (decide ((0 : Int) ≤ 0) && (decide ((0 : Int) ≤ y4) && decide ((y4 : Int) ≤ (x0.length : Int)))) then ((qC n ((x0.drop ((0 : Int)).toNat).take (((y4 : Int)).toNat - ((0 : Int)).toNat))).bind fun r6 => (bif (decide (r6.length + [x1].length ≤ 268435456)) then (bif (decide ((0 : Int) ≤ y4) && (decide ((y4 : Int) ≤ (x0.length : Int)) && decide (((x0.length : Int) : Int) ≤ (x0.length : Int)))) then (bif (decide ((r6 ++ [x1]).length + ((x0.drop ((y4 : Int)).toNat).take ((((x0.length : Int) : Int)).toNat - ((y4 : Int)).toNat)).length ≤ 268435456)) then (some (((r6 ++ [x1]) ++ ((x0.drop ((y4 : Int)).toNat).take ((((x0.length : Int) : Int)).toNat - ((y4 : Int)).toNat))),true)) else none) else none) else none)) else none)
def QQ (n : Nat) : Nat → (List zA) → zA → Int → Option ((Int) ⊕ ((List zA) × Bool))
  | 0,_,_,_ => none
  | mo10 + 1,x0,x1,y3 => (bif (decide (y3 < (x0.length : Int))) then ((idx x0 y3).bind fun v11 => ((Qx n v11 x1.Tag x1.Mac).bind fun r12 => (bif (!r12) then (QQ n mo10 x0 x1 (IntKind.wrap .i64 (y3 + 1))) else (some (Sum.inl y3))))) else (some (Sum.inl y3)))
def Ji (n : Nat) (x0 : (List zA)) (x1 : zA) : Option ((List zA) × Bool) :=
  ((qC n x0).bind fun r1 => ((Qp n x0 x1.Tag x1.Mac).bind fun r2 => (bif (decide (r2 ≥ 0)) then ((idx r1 r2).bind fun v13 => (some ((r1.set (r2.toNat) x1),true))) else (bif (decide ((x0.length : Int) ≥ 12)) then (some (r1,false)) else ((QQ n n x0 x1 0).bind fun o => match o with | .inl y4 => (JJ n x0 x1 y4) | .inr r => some r)))))
def zJB : Tab := ⟨16,[0,0,2,5,8,16,16,112,144,16,528,16,2064,5392,8208,16400],[0,0,2,5,8,16,16,112,144,16,528,16,2064,5392,8208,16400],[0,0,2,7,15,31,31,127,255,31,543,31,2079,8191,16383,32767]⟩
theorem Qh : z6 (rg Try.f136 9) zJB = true := kr
def zIj : Tab := ⟨13,[0,0,3,4,0,16,40,0,0,384,576,2047,4095],[0,0,3,4,0,16,40,0,0,384,576,1024,0],[0,0,3,7,0,16,63,0,0,384,1023,2047,4095]⟩
theorem zF : z6 (rg Try.f136 11) zIj = true := kr
theorem zGl (n : Nat) (x0 : (List zA)) (y4 : Int) (r6 : (List zA)) (x1 : zA) (hg5 : (decide ((0 : Int) ≤ 0) && (decide ((0 : Int) ≤ y4) && decide ((y4 : Int) ≤ (x0.length : Int)))) = true) (er6 : (qC n ((x0.drop ((0 : Int)).toNat).take (((y4 : Int)).toNat - ((0 : Int)).toNat))) = some r6) (hg7 : (decide (r6.length + [x1].length ≤ 268435456)) = true) (hg8 : (decide ((0 : Int) ≤ y4) && (decide ((y4 : Int) ≤ (x0.length : Int)) && decide (((x0.length : Int) : Int) ≤ (x0.length : Int)))) = true) (hg9 : (decide ((r6 ++ [x1]).length + ((x0.drop ((y4 : Int)).toNat).take ((((x0.length : Int) : Int)).toNat - ((y4 : Int)).toNat)).length ≤ 268435456)) = true) (cx : Cx) : AT Try.prog cx (rg Try.f136 11) [] 13 [] ⟨57,0,[sI 8 y4,sA 3 3 5 0,sC 0 (cF 5 x0 zA.row)],[(3,(zA.row x1))]⟩ (fun s => s = ⟨57,0,[sB 5 true,sC 4 (cL 5 ((r6 ++ [x1]) ++ ((x0.drop ((y4 : Int)).toNat).take ((((x0.length : Int) : Int)).toNat - ((y4 : Int)).toNat))) zA.row)],[]⟩) := by
 refine mA zF [(0,[]),(1,[]),(4,[5,6,10]),(7,[]),(8,[])] 8 [⟨[5,6,10],49,3,50⟩] fun cx => ?_
 refine mB3 tOk zF 2 5 9 kr (And.intro kr ?_) (And.intro kr ?_) (And.intro kr ?_)
 ·refine LAt.cutG tOk (t := 25) (ty := 25) (e := 49) (x := (.tmp 46)) (lo := none) (hi := (some (.tmp 47))) (d := 48) (g := none) (tI 49) zA.row x0 ⟨(.slot 46),[],0,false,5,(CV.frzEs (x0.map zA.row))⟩ 0 y4 kr kr kr kr kr kr rfl kr rfl kr kr hg5 ?_
  refine fA ?_
  refine mB3 tOk zF 3 5 9 kr (And.intro kr ?_) (And.intro kr ?_) (And.intro kr ?_)
  ·refine vA [.rd] (qI n ((x0.drop ((0 : Int)).toNat).take (((y4 : Int)).toNat - ((0 : Int)).toNat)) r6 er6) ?_
   refine fA ?_
   refine mB2 tOk zF 5 9 kr (And.intro kr ?_) (And.intro kr ?_)
   ·refine lA 1 ?_
    refine fA ?_
    refine mB2 tOk zF 6 9 kr (And.intro kr ?_) (And.intro kr ?_)
    ·refine LAt.appMU tOk (t := 25) (ty := 25) (e := 49) (x := (.tmp 49)) (y := (.tmp 51)) (d := 52) (g := none) (tI 49) zA.row r6 [x1] kr kr kr kr kr kr kr kr kr kr hg7 ?_
     refine fA ?_
     refine mC zF 9 ?_
     refine LAt.cutG tOk (t := 25) (ty := 25) (e := 49) (x := (.tmp 53)) (lo := (some (.tmp 54))) (hi := none) (d := 55) (g := none) (tI 49) zA.row x0 ⟨(.slot 53),[],0,false,5,(CV.frzEs (x0.map zA.row))⟩ y4 (x0.length : Int) kr kr kr kr kr kr rfl kr rfl kr kr hg8 ?_
     refine fA ?_
     refine mC zF 10 ?_
     refine pD zA.row hg9 ?_
     refine fA ?_
     refine mC zF 11 ?_
     refine LAt.moveU (T := lk tab) (ty := 25) (x := (.tmp 56)) (d := 4) (g := none) false [cL 5 ((r6 ++ [x1]) ++ ((x0.drop ((y4 : Int)).toNat).take ((((x0.length : Int) : Int)).toNat - ((y4 : Int)).toNat))) zA.row] kr kr kr kr kr ?_
     refine fA ?_
     refine mA zF [(12,[])] 0 [⟨[5,6,10],49,3,50⟩] fun cx => ?_
     exact mE zF [5,4] []
    ·refine LAt.cutG tOk (t := 25) (ty := 25) (e := 49) (x := (.tmp 53)) (lo := (some (.tmp 54))) (hi := none) (d := 55) (g := none) (tI 49) zA.row x0 ⟨(.slot 53),[],0,false,5,(CV.frzEs (x0.map zA.row))⟩ y4 (x0.length : Int) kr kr kr kr kr kr rfl kr rfl kr kr hg8 ?_
     refine fA ?_
     refine mC zF 6 ?_
     refine LAt.appMU tOk (t := 25) (ty := 25) (e := 49) (x := (.tmp 49)) (y := (.tmp 51)) (d := 52) (g := none) (tI 49) zA.row r6 [x1] kr kr kr kr kr kr kr kr kr kr hg7 ?_
     refine fA ?_
     refine mC zF 10 ?_
     refine pD zA.row hg9 ?_
     refine fA ?_
     refine mC zF 11 ?_
     refine LAt.moveU (T := lk tab) (ty := 25) (x := (.tmp 56)) (d := 4) (g := none) false [cL 5 ((r6 ++ [x1]) ++ ((x0.drop ((y4 : Int)).toNat).take ((((x0.length : Int) : Int)).toNat - ((y4 : Int)).toNat))) zA.row] kr kr kr kr kr ?_
     refine fA ?_
     refine mA zF [(12,[])] 0 [⟨[5,6,10],49,3,50⟩] fun cx => ?_
     exact mE zF [5,4] []
   ·refine LAt.cutG tOk (t := 25) (ty := 25) (e := 49) (x := (.tmp 53)) (lo := (some (.tmp 54))) (hi := none) (d := 55) (g := none) (tI 49) zA.row x0 ⟨(.slot 53),[],0,false,5,(CV.frzEs (x0.map zA.row))⟩ y4 (x0.length : Int) kr kr kr kr kr kr rfl kr rfl kr kr hg8 ?_
    refine fA ?_
    refine mC zF 5 ?_
    refine lA 1 ?_
    refine fA ?_
    refine mC zF 6 ?_
    refine LAt.appMU tOk (t := 25) (ty := 25) (e := 49) (x := (.tmp 49)) (y := (.tmp 51)) (d := 52) (g := none) (tI 49) zA.row r6 [x1] kr kr kr kr kr kr kr kr kr kr hg7 ?_
    refine fA ?_
    refine mC zF 10 ?_
    refine pD zA.row hg9 ?_
    refine fA ?_
    refine mC zF 11 ?_
    refine LAt.moveU (T := lk tab) (ty := 25) (x := (.tmp 56)) (d := 4) (g := none) false [cL 5 ((r6 ++ [x1]) ++ ((x0.drop ((y4 : Int)).toNat).take ((((x0.length : Int) : Int)).toNat - ((y4 : Int)).toNat))) zA.row] kr kr kr kr kr ?_
    refine fA ?_
    refine mA zF [(12,[])] 0 [⟨[5,6,10],49,3,50⟩] fun cx => ?_
    exact mE zF [5,4] []
  ·refine lA 1 ?_
   refine fA ?_
   refine mB2 tOk zF 3 9 kr (And.intro kr ?_) (And.intro kr ?_)
   ·refine vA [.rd] (qI n ((x0.drop ((0 : Int)).toNat).take (((y4 : Int)).toNat - ((0 : Int)).toNat)) r6 er6) ?_
    refine fA ?_
    refine mB2 tOk zF 6 9 kr (And.intro kr ?_) (And.intro kr ?_)
    ·refine LAt.appMU tOk (t := 25) (ty := 25) (e := 49) (x := (.tmp 49)) (y := (.tmp 51)) (d := 52) (g := none) (tI 49) zA.row r6 [x1] kr kr kr kr kr kr kr kr kr kr hg7 ?_
     refine fA ?_
     refine mC zF 9 ?_
     refine LAt.cutG tOk (t := 25) (ty := 25) (e := 49) (x := (.tmp 53)) (lo := (some (.tmp 54))) (hi := none) (d := 55) (g := none) (tI 49) zA.row x0 ⟨(.slot 53),[],0,false,5,(CV.frzEs (x0.map zA.row))⟩ y4 (x0.length : Int) kr kr kr kr kr kr rfl kr rfl kr kr hg8 ?_
     refine fA ?_
     refine mC zF 10 ?_
     refine pD zA.row hg9 ?_
     refine fA ?_
     refine mC zF 11 ?_
     refine LAt.moveU (T := lk tab) (ty := 25) (x := (.tmp 56)) (d := 4) (g := none) false [cL 5 ((r6 ++ [x1]) ++ ((x0.drop ((y4 : Int)).toNat).take ((((x0.length : Int) : Int)).toNat - ((y4 : Int)).toNat))) zA.row] kr kr kr kr kr ?_
     refine fA ?_
     refine mA zF [(12,[])] 0 [⟨[5,6,10],49,3,50⟩] fun cx => ?_
     exact mE zF [5,4] []
    ·refine LAt.cutG tOk (t := 25) (ty := 25) (e := 49) (x := (.tmp 53)) (lo := (some (.tmp 54))) (hi := none) (d := 55) (g := none) (tI 49) zA.row x0 ⟨(.slot 53),[],0,false,5,(CV.frzEs (x0.map zA.row))⟩ y4 (x0.length : Int) kr kr kr kr kr kr rfl kr rfl kr kr hg8 ?_
     refine fA ?_
     refine mC zF 6 ?_
     refine LAt.appMU tOk (t := 25) (ty := 25) (e := 49) (x := (.tmp 49)) (y := (.tmp 51)) (d := 52) (g := none) (tI 49) zA.row r6 [x1] kr kr kr kr kr kr kr kr kr kr hg7 ?_
     refine fA ?_
     refine mC zF 10 ?_
     refine pD zA.row hg9 ?_
     refine fA ?_
     refine mC zF 11 ?_
     refine LAt.moveU (T := lk tab) (ty := 25) (x := (.tmp 56)) (d := 4) (g := none) false [cL 5 ((r6 ++ [x1]) ++ ((x0.drop ((y4 : Int)).toNat).take ((((x0.length : Int) : Int)).toNat - ((y4 : Int)).toNat))) zA.row] kr kr kr kr kr ?_
     refine fA ?_
     refine mA zF [(12,[])] 0 [⟨[5,6,10],49,3,50⟩] fun cx => ?_
     exact mE zF [5,4] []
   ·refine LAt.cutG tOk (t := 25) (ty := 25) (e := 49) (x := (.tmp 53)) (lo := (some (.tmp 54))) (hi := none) (d := 55) (g := none) (tI 49) zA.row x0 ⟨(.slot 53),[],0,false,5,(CV.frzEs (x0.map zA.row))⟩ y4 (x0.length : Int) kr kr kr kr kr kr rfl kr rfl kr kr hg8 ?_
    refine fA ?_
    refine mC zF 3 ?_
    refine vA [.rd] (qI n ((x0.drop ((0 : Int)).toNat).take (((y4 : Int)).toNat - ((0 : Int)).toNat)) r6 er6) ?_
    refine fA ?_
    refine mC zF 6 ?_
    refine LAt.appMU tOk (t := 25) (ty := 25) (e := 49) (x := (.tmp 49)) (y := (.tmp 51)) (d := 52) (g := none) (tI 49) zA.row r6 [x1] kr kr kr kr kr kr kr kr kr kr hg7 ?_
    refine fA ?_
    refine mC zF 10 ?_
    refine pD zA.row hg9 ?_
    refine fA ?_
    refine mC zF 11 ?_
    refine LAt.moveU (T := lk tab) (ty := 25) (x := (.tmp 56)) (d := 4) (g := none) false [cL 5 ((r6 ++ [x1]) ++ ((x0.drop ((y4 : Int)).toNat).take ((((x0.length : Int) : Int)).toNat - ((y4 : Int)).toNat))) zA.row] kr kr kr kr kr ?_
    refine fA ?_
    refine mA zF [(12,[])] 0 [⟨[5,6,10],49,3,50⟩] fun cx => ?_
    exact mE zF [5,4] []
  ·refine LAt.cutG tOk (t := 25) (ty := 25) (e := 49) (x := (.tmp 53)) (lo := (some (.tmp 54))) (hi := none) (d := 55) (g := none) (tI 49) zA.row x0 ⟨(.slot 53),[],0,false,5,(CV.frzEs (x0.map zA.row))⟩ y4 (x0.length : Int) kr kr kr kr kr kr rfl kr rfl kr kr hg8 ?_
   refine fA ?_
   refine mB2 tOk zF 3 5 kr (And.intro kr ?_) (And.intro kr ?_)
   ·refine vA [.rd] (qI n ((x0.drop ((0 : Int)).toNat).take (((y4 : Int)).toNat - ((0 : Int)).toNat)) r6 er6) ?_
    refine fA ?_
    refine mC zF 5 ?_
    refine lA 1 ?_
    refine fA ?_
    refine mC zF 6 ?_
    refine LAt.appMU tOk (t := 25) (ty := 25) (e := 49) (x := (.tmp 49)) (y := (.tmp 51)) (d := 52) (g := none) (tI 49) zA.row r6 [x1] kr kr kr kr kr kr kr kr kr kr hg7 ?_
    refine fA ?_
    refine mC zF 10 ?_
    refine pD zA.row hg9 ?_
    refine fA ?_
    refine mC zF 11 ?_
    refine LAt.moveU (T := lk tab) (ty := 25) (x := (.tmp 56)) (d := 4) (g := none) false [cL 5 ((r6 ++ [x1]) ++ ((x0.drop ((y4 : Int)).toNat).take ((((x0.length : Int) : Int)).toNat - ((y4 : Int)).toNat))) zA.row] kr kr kr kr kr ?_
    refine fA ?_
    refine mA zF [(12,[])] 0 [⟨[5,6,10],49,3,50⟩] fun cx => ?_
    exact mE zF [5,4] []
   ·refine lA 1 ?_
    refine fA ?_
    refine mC zF 3 ?_
    refine vA [.rd] (qI n ((x0.drop ((0 : Int)).toNat).take (((y4 : Int)).toNat - ((0 : Int)).toNat)) r6 er6) ?_
    refine fA ?_
    refine mC zF 6 ?_
    refine LAt.appMU tOk (t := 25) (ty := 25) (e := 49) (x := (.tmp 49)) (y := (.tmp 51)) (d := 52) (g := none) (tI 49) zA.row r6 [x1] kr kr kr kr kr kr kr kr kr kr hg7 ?_
    refine fA ?_
    refine mC zF 10 ?_
    refine pD zA.row hg9 ?_
    refine fA ?_
    refine mC zF 11 ?_
    refine LAt.moveU (T := lk tab) (ty := 25) (x := (.tmp 56)) (d := 4) (g := none) false [cL 5 ((r6 ++ [x1]) ++ ((x0.drop ((y4 : Int)).toNat).take ((((x0.length : Int) : Int)).toNat - ((y4 : Int)).toNat))) zA.row] kr kr kr kr kr ?_
    refine fA ?_
    refine mA zF [(12,[])] 0 [⟨[5,6,10],49,3,50⟩] fun cx => ?_
    exact mE zF [5,4] []
 ·refine lA 1 ?_
  refine fA ?_
  refine mB2 tOk zF 2 9 kr (And.intro kr ?_) (And.intro kr ?_)
  ·refine LAt.cutG tOk (t := 25) (ty := 25) (e := 49) (x := (.tmp 46)) (lo := none) (hi := (some (.tmp 47))) (d := 48) (g := none) (tI 49) zA.row x0 ⟨(.slot 46),[],0,false,5,(CV.frzEs (x0.map zA.row))⟩ 0 y4 kr kr kr kr kr kr rfl kr rfl kr kr hg5 ?_
   refine fA ?_
   refine mB2 tOk zF 3 9 kr (And.intro kr ?_) (And.intro kr ?_)
   ·refine vA [.rd] (qI n ((x0.drop ((0 : Int)).toNat).take (((y4 : Int)).toNat - ((0 : Int)).toNat)) r6 er6) ?_
    refine fA ?_
    refine mB2 tOk zF 6 9 kr (And.intro kr ?_) (And.intro kr ?_)
    ·refine LAt.appMU tOk (t := 25) (ty := 25) (e := 49) (x := (.tmp 49)) (y := (.tmp 51)) (d := 52) (g := none) (tI 49) zA.row r6 [x1] kr kr kr kr kr kr kr kr kr kr hg7 ?_
     refine fA ?_
     refine mC zF 9 ?_
     refine LAt.cutG tOk (t := 25) (ty := 25) (e := 49) (x := (.tmp 53)) (lo := (some (.tmp 54))) (hi := none) (d := 55) (g := none) (tI 49) zA.row x0 ⟨(.slot 53),[],0,false,5,(CV.frzEs (x0.map zA.row))⟩ y4 (x0.length : Int) kr kr kr kr kr kr rfl kr rfl kr kr hg8 ?_
     refine fA ?_
     refine mC zF 10 ?_
     refine pD zA.row hg9 ?_
     refine fA ?_
     refine mC zF 11 ?_
     refine LAt.moveU (T := lk tab) (ty := 25) (x := (.tmp 56)) (d := 4) (g := none) false [cL 5 ((r6 ++ [x1]) ++ ((x0.drop ((y4 : Int)).toNat).take ((((x0.length : Int) : Int)).toNat - ((y4 : Int)).toNat))) zA.row] kr kr kr kr kr ?_
     refine fA ?_
     refine mA zF [(12,[])] 0 [⟨[5,6,10],49,3,50⟩] fun cx => ?_
     exact mE zF [5,4] []
    ·refine LAt.cutG tOk (t := 25) (ty := 25) (e := 49) (x := (.tmp 53)) (lo := (some (.tmp 54))) (hi := none) (d := 55) (g := none) (tI 49) zA.row x0 ⟨(.slot 53),[],0,false,5,(CV.frzEs (x0.map zA.row))⟩ y4 (x0.length : Int) kr kr kr kr kr kr rfl kr rfl kr kr hg8 ?_
     refine fA ?_
     refine mC zF 6 ?_
     refine LAt.appMU tOk (t := 25) (ty := 25) (e := 49) (x := (.tmp 49)) (y := (.tmp 51)) (d := 52) (g := none) (tI 49) zA.row r6 [x1] kr kr kr kr kr kr kr kr kr kr hg7 ?_
     refine fA ?_
     refine mC zF 10 ?_
     refine pD zA.row hg9 ?_
     refine fA ?_
     refine mC zF 11 ?_
     refine LAt.moveU (T := lk tab) (ty := 25) (x := (.tmp 56)) (d := 4) (g := none) false [cL 5 ((r6 ++ [x1]) ++ ((x0.drop ((y4 : Int)).toNat).take ((((x0.length : Int) : Int)).toNat - ((y4 : Int)).toNat))) zA.row] kr kr kr kr kr ?_
     refine fA ?_
     refine mA zF [(12,[])] 0 [⟨[5,6,10],49,3,50⟩] fun cx => ?_
     exact mE zF [5,4] []
   ·refine LAt.cutG tOk (t := 25) (ty := 25) (e := 49) (x := (.tmp 53)) (lo := (some (.tmp 54))) (hi := none) (d := 55) (g := none) (tI 49) zA.row x0 ⟨(.slot 53),[],0,false,5,(CV.frzEs (x0.map zA.row))⟩ y4 (x0.length : Int) kr kr kr kr kr kr rfl kr rfl kr kr hg8 ?_
    refine fA ?_
    refine mC zF 3 ?_
    refine vA [.rd] (qI n ((x0.drop ((0 : Int)).toNat).take (((y4 : Int)).toNat - ((0 : Int)).toNat)) r6 er6) ?_
    refine fA ?_
    refine mC zF 6 ?_
    refine LAt.appMU tOk (t := 25) (ty := 25) (e := 49) (x := (.tmp 49)) (y := (.tmp 51)) (d := 52) (g := none) (tI 49) zA.row r6 [x1] kr kr kr kr kr kr kr kr kr kr hg7 ?_
    refine fA ?_
    refine mC zF 10 ?_
    refine pD zA.row hg9 ?_
    refine fA ?_
    refine mC zF 11 ?_
    refine LAt.moveU (T := lk tab) (ty := 25) (x := (.tmp 56)) (d := 4) (g := none) false [cL 5 ((r6 ++ [x1]) ++ ((x0.drop ((y4 : Int)).toNat).take ((((x0.length : Int) : Int)).toNat - ((y4 : Int)).toNat))) zA.row] kr kr kr kr kr ?_
    refine fA ?_
    refine mA zF [(12,[])] 0 [⟨[5,6,10],49,3,50⟩] fun cx => ?_
    exact mE zF [5,4] []
  ·refine LAt.cutG tOk (t := 25) (ty := 25) (e := 49) (x := (.tmp 53)) (lo := (some (.tmp 54))) (hi := none) (d := 55) (g := none) (tI 49) zA.row x0 ⟨(.slot 53),[],0,false,5,(CV.frzEs (x0.map zA.row))⟩ y4 (x0.length : Int) kr kr kr kr kr kr rfl kr rfl kr kr hg8 ?_
   refine fA ?_
   refine mC zF 2 ?_
   refine LAt.cutG tOk (t := 25) (ty := 25) (e := 49) (x := (.tmp 46)) (lo := none) (hi := (some (.tmp 47))) (d := 48) (g := none) (tI 49) zA.row x0 ⟨(.slot 46),[],0,false,5,(CV.frzEs (x0.map zA.row))⟩ 0 y4 kr kr kr kr kr kr rfl kr rfl kr kr hg5 ?_
   refine fA ?_
   refine mC zF 3 ?_
   refine vA [.rd] (qI n ((x0.drop ((0 : Int)).toNat).take (((y4 : Int)).toNat - ((0 : Int)).toNat)) r6 er6) ?_
   refine fA ?_
   refine mC zF 6 ?_
   refine LAt.appMU tOk (t := 25) (ty := 25) (e := 49) (x := (.tmp 49)) (y := (.tmp 51)) (d := 52) (g := none) (tI 49) zA.row r6 [x1] kr kr kr kr kr kr kr kr kr kr hg7 ?_
   refine fA ?_
   refine mC zF 10 ?_
   refine pD zA.row hg9 ?_
   refine fA ?_
   refine mC zF 11 ?_
   refine LAt.moveU (T := lk tab) (ty := 25) (x := (.tmp 56)) (d := 4) (g := none) false [cL 5 ((r6 ++ [x1]) ++ ((x0.drop ((y4 : Int)).toNat).take ((((x0.length : Int) : Int)).toNat - ((y4 : Int)).toNat))) zA.row] kr kr kr kr kr ?_
   refine fA ?_
   refine mA zF [(12,[])] 0 [⟨[5,6,10],49,3,50⟩] fun cx => ?_
   exact mE zF [5,4] []
 ·refine LAt.cutG tOk (t := 25) (ty := 25) (e := 49) (x := (.tmp 53)) (lo := (some (.tmp 54))) (hi := none) (d := 55) (g := none) (tI 49) zA.row x0 ⟨(.slot 53),[],0,false,5,(CV.frzEs (x0.map zA.row))⟩ y4 (x0.length : Int) kr kr kr kr kr kr rfl kr rfl kr kr hg8 ?_
  refine fA ?_
  refine mB2 tOk zF 2 5 kr (And.intro kr ?_) (And.intro kr ?_)
  ·refine LAt.cutG tOk (t := 25) (ty := 25) (e := 49) (x := (.tmp 46)) (lo := none) (hi := (some (.tmp 47))) (d := 48) (g := none) (tI 49) zA.row x0 ⟨(.slot 46),[],0,false,5,(CV.frzEs (x0.map zA.row))⟩ 0 y4 kr kr kr kr kr kr rfl kr rfl kr kr hg5 ?_
   refine fA ?_
   refine mB2 tOk zF 3 5 kr (And.intro kr ?_) (And.intro kr ?_)
   ·refine vA [.rd] (qI n ((x0.drop ((0 : Int)).toNat).take (((y4 : Int)).toNat - ((0 : Int)).toNat)) r6 er6) ?_
    refine fA ?_
    refine mC zF 5 ?_
    refine lA 1 ?_
    refine fA ?_
    refine mC zF 6 ?_
    refine LAt.appMU tOk (t := 25) (ty := 25) (e := 49) (x := (.tmp 49)) (y := (.tmp 51)) (d := 52) (g := none) (tI 49) zA.row r6 [x1] kr kr kr kr kr kr kr kr kr kr hg7 ?_
    refine fA ?_
    refine mC zF 10 ?_
    refine pD zA.row hg9 ?_
    refine fA ?_
    refine mC zF 11 ?_
    refine LAt.moveU (T := lk tab) (ty := 25) (x := (.tmp 56)) (d := 4) (g := none) false [cL 5 ((r6 ++ [x1]) ++ ((x0.drop ((y4 : Int)).toNat).take ((((x0.length : Int) : Int)).toNat - ((y4 : Int)).toNat))) zA.row] kr kr kr kr kr ?_
    refine fA ?_
    refine mA zF [(12,[])] 0 [⟨[5,6,10],49,3,50⟩] fun cx => ?_
    exact mE zF [5,4] []
   ·refine lA 1 ?_
    refine fA ?_
    refine mC zF 3 ?_
    refine vA [.rd] (qI n ((x0.drop ((0 : Int)).toNat).take (((y4 : Int)).toNat - ((0 : Int)).toNat)) r6 er6) ?_
    refine fA ?_
    refine mC zF 6 ?_
    refine LAt.appMU tOk (t := 25) (ty := 25) (e := 49) (x := (.tmp 49)) (y := (.tmp 51)) (d := 52) (g := none) (tI 49) zA.row r6 [x1] kr kr kr kr kr kr kr kr kr kr hg7 ?_
    refine fA ?_
    refine mC zF 10 ?_
    refine pD zA.row hg9 ?_
    refine fA ?_
    refine mC zF 11 ?_
    refine LAt.moveU (T := lk tab) (ty := 25) (x := (.tmp 56)) (d := 4) (g := none) false [cL 5 ((r6 ++ [x1]) ++ ((x0.drop ((y4 : Int)).toNat).take ((((x0.length : Int) : Int)).toNat - ((y4 : Int)).toNat))) zA.row] kr kr kr kr kr ?_
    refine fA ?_
    refine mA zF [(12,[])] 0 [⟨[5,6,10],49,3,50⟩] fun cx => ?_
    exact mE zF [5,4] []
  ·refine lA 1 ?_
   refine fA ?_
   refine mC zF 2 ?_
   refine LAt.cutG tOk (t := 25) (ty := 25) (e := 49) (x := (.tmp 46)) (lo := none) (hi := (some (.tmp 47))) (d := 48) (g := none) (tI 49) zA.row x0 ⟨(.slot 46),[],0,false,5,(CV.frzEs (x0.map zA.row))⟩ 0 y4 kr kr kr kr kr kr rfl kr rfl kr kr hg5 ?_
   refine fA ?_
   refine mC zF 3 ?_
   refine vA [.rd] (qI n ((x0.drop ((0 : Int)).toNat).take (((y4 : Int)).toNat - ((0 : Int)).toNat)) r6 er6) ?_
   refine fA ?_
   refine mC zF 6 ?_
   refine LAt.appMU tOk (t := 25) (ty := 25) (e := 49) (x := (.tmp 49)) (y := (.tmp 51)) (d := 52) (g := none) (tI 49) zA.row r6 [x1] kr kr kr kr kr kr kr kr kr kr hg7 ?_
   refine fA ?_
   refine mC zF 10 ?_
   refine pD zA.row hg9 ?_
   refine fA ?_
   refine mC zF 11 ?_
   refine LAt.moveU (T := lk tab) (ty := 25) (x := (.tmp 56)) (d := 4) (g := none) false [cL 5 ((r6 ++ [x1]) ++ ((x0.drop ((y4 : Int)).toNat).take ((((x0.length : Int) : Int)).toNat - ((y4 : Int)).toNat))) zA.row] kr kr kr kr kr ?_
   refine fA ?_
   refine mA zF [(12,[])] 0 [⟨[5,6,10],49,3,50⟩] fun cx => ?_
   exact mE zF [5,4] []
theorem zGD (n : Nat) (x0 : (List zA)) (x1 : zA) (r : (List zA) × Bool) (H : Ji n x0 x1 = some r) : zG Try.prog 136 [.val false [.sl false 5 (CV.frzEs (x0.map zA.row))],.val true (CV.frzRow (zA.row x1))] [.val false [.sl true 5 (r.1.map zA.row)],.val false [.lit (.bool r.2)]] [] := by
 refine cW Try.func136 (fun g d => sl [g 0,g 1,sl [g 2,g 3] (cn 18 (sl [g 4,g 5] .ret) .skip),sl [g 6] (cn 26 (sl [g 7] .ret) .skip),g 8,.block 0 (.loop (sl [sl [d 9] (cn 43 .skip (.exit 0))] (.block 1 (g 10)))),d 11] .ret) [.tmp 4,.tmp 5] fun cx => ?_
 unfold Ji at H
 refine gA 3 9 8 ?_
 refine rA 1 ?_
 obtain ⟨r1,er1,H⟩ := bs H
 refine vA [.rd] (qI n x0 r1 er1) ?_
 refine LAt.moveU (T := lk tab) (ty := 25) (x := (.tmp 10)) (d := 6) (g := none) false [cL 5 r1 zA.row] kr kr kr kr kr ?_
 refine dA 73 8 ?_
 refine tS ?_
 refine rA 5 ?_
 obtain ⟨r2,er2,H⟩ := bs H
 refine vA [.rd,.rd,.rd] (zCO n x0 x1.Tag x1.Mac r2 er2) ?_
 refine uA 1 201 8 ?_
 refine gA 2 262345 8 ?_
 obtain ⟨h1,H⟩ | ⟨h1,H⟩ := bC H
 ·refine nA h1 ?_
  refine tK ?_
  refine tS ?_
  refine rA 1 ?_
  refine kF x0 zA.row ?_
  refine uA 1 67108937 8 ?_
  obtain ⟨h2,H⟩ | ⟨h2,H⟩ := bC H
  ·refine nA h2 ?_
   refine tK ?_
   refine gA 1 265 8 ?_
   refine tS ?_
   obtain ⟨o10,eo10,Ho10⟩ := bs H
   clear H
   refine Tr.mid (ι := Int) (fun v => ⟨57,0,[sI 8 v,sA 3 3 5 0,sC 0 (cF 5 x0 zA.row)],[(3,(zA.row x1))]⟩) (fun v => JJ n x0 x1 v = some r) ?_ ?_
   ·refine tB ?_
    refine Tr.loop (ι := Nat × (Int)) (fun v => ⟨57,0,[sI 8 v.2,sA 3 3 5 0,sC 0 (cF 5 x0 zA.row)],[(3,(zA.row x1))]⟩) (fun v => QQ n v.1 x0 x1 v.2 = some o10) (fun v => v.1) (n,0) eo10 (St.sub_of [8,3,0] [3] kr) ?_
    rintro ⟨mo10,y3⟩ H
    have H : QQ n mo10 x0 x1 y3 = some o10 := H
    obtain _ | mo10 := mo10
    ·exact nN H
    rw [QQ] at H
    refine tS ?_
    refine sT ⟨57,0,[sI 8 y3,sA 3 3 5 0,sC 0 (cF 5 x0 zA.row)],[(3,(zA.row x1))]⟩ ?_
    cases h3 : (decide (y3 < (x0.length : Int)))
    ·have H := zI h3 H
     refine Tr.draws mixed 16 kr ⟨57,0,[sB 43 false,sI 8 y3,sA 3 3 5 0,sC 0 (cF 5 x0 zA.row)],[(3,(zA.row x1))]⟩ (fun cx => ?_) ?_
     ·refine mA Qh [(0,[]),(1,[])] 14 [] fun cx => ?_
      refine kFN Qh 2 x0 zA.row fun cx => ?_
      refine mA Qh [(3,[]),(4,[])] 11 [] fun cx => ?_
      refine sA_ 4294967561 8 ⟨57,0,[sB 32 (decide (y3 < (x0.length : Int))),sI 8 y3,sA 3 3 5 0,sC 0 (cF 5 x0 zA.row)],[(3,(zA.row x1))]⟩ ?_
      rw [h3]
      refine mA Qh [(5,[]),(6,[]),(7,[]),(8,[]),(9,[]),(10,[]),(11,[]),(12,[]),(13,[]),(14,[]),(15,[])] 0 [] fun cx => ?_
      exact mE Qh [43,8,3,0] [3]
     refine nB_ ?_
     refine Tr.exit ?_
     refine aJ ?_
     obtain rfl := si H
     have H := Ho10
     dsimp only at H
     exact jA y3 H [8,3,0] [3]
    have H := zJ h3 H
    obtain ⟨v11,ev11,H⟩ := bs H
    obtain ⟨r12,er12,H⟩ := bs H
    refine Tr.draws mixed 16 kr ⟨57,0,[sB 43 (!r12),sI 8 y3,sA 3 3 5 0,sC 0 (cF 5 x0 zA.row)],[(3,(zA.row x1))]⟩ (fun cx => ?_) ?_
    ·refine mA Qh [(0,[]),(1,[])] 14 [] fun cx => ?_
     refine kFN Qh 2 x0 zA.row fun cx => ?_
     refine mA Qh [(3,[]),(4,[])] 11 [] fun cx => ?_
     refine sA_ 4294967561 8 ⟨57,0,[sB 32 (decide (y3 < (x0.length : Int))),sI 8 y3,sA 3 3 5 0,sC 0 (cF 5 x0 zA.row)],[(3,(zA.row x1))]⟩ ?_
     rw [h3]
     refine mA Qh [(5,[]),(6,[])] 9 [] fun cx => ?_
     refine iN Qh 7 zA.row ev11 fun cx => ?_
     refine mA Qh [(8,[]),(9,[]),(10,[13]),(11,[]),(12,[13])] 3 [⟨[13],3,39,40⟩,⟨[13],3,37,38⟩] fun cx => ?_
     refine mC Qh 13 ?_
     refine vA [.rd,.rd,.rd] (zDh n v11 x1.Tag x1.Mac r12 er12) ?_
     refine fA ?_
     refine mA Qh [(14,[]),(15,[])] 0 [⟨[13],3,39,40⟩,⟨[13],3,37,38⟩] fun cx => ?_
     exact mE Qh [43,8,3,0] [3]
    refine sT ⟨57,0,[sB 43 (!r12),sI 8 y3,sA 3 3 5 0,sC 0 (cF 5 x0 zA.row)],[(3,(zA.row x1))]⟩ ?_
    cases h4 : (!r12)
    ·have H := zI h4 H
     refine nB_ ?_
     refine Tr.exit ?_
     refine aJ ?_
     obtain rfl := si H
     have H := Ho10
     dsimp only at H
     exact jA y3 H [8,3,0] [3]
    have H := zJ h4 H
    refine tB_ ?_
    refine tK ?_
    refine tB ?_
    refine eA 3 265 8 ?_
    exact jB mo10 (IntKind.wrap .i64 (y3 + 1)) H [8,3,0] [3]
   rintro y4 H
   have H : (JJ n x0 x1 y4) = some r := H
   unfold JJ at H
   obtain ⟨hg5,H⟩ := gs H
   obtain ⟨r6,er6,H⟩ := bs H
   obtain ⟨hg7,H⟩ := gs H
   obtain ⟨hg8,H⟩ := gs H
   obtain ⟨hg9,H⟩ := gs H
   refine sT ⟨57,0,[sI 8 y4,sA 3 3 5 0,sC 0 (cF 5 x0 zA.row)],[(3,(zA.row x1))]⟩ ?_
   refine Tr.draws mixed 13 kr ⟨57,0,[sB 5 true,sC 4 (cL 5 ((r6 ++ [x1]) ++ ((x0.drop ((y4 : Int)).toNat).take ((((x0.length : Int) : Int)).toNat - ((y4 : Int)).toNat))) zA.row)],[]⟩ (zGl n x0 y4 r6 x1 hg5 er6 hg7 hg8 hg9) ?_
   exact te (fJ [(false,[cL 5 ((r6 ++ [x1]) ++ ((x0.drop ((y4 : Int)).toNat).take ((((x0.length : Int) : Int)).toNat - ((y4 : Int)).toNat))) zA.row]),(false,[cB true])] H)
  refine tA h2 ?_
  refine gA 3 112 0 ?_
  exact te (fJ [(false,[cL 5 r1 zA.row]),(false,[cB false])] H)
 refine tA h1 ?_
 refine rA 3 ?_
 obtain ⟨v13,ev13,H⟩ := bs H
 refine oA zA.row ev13 ?_
 refine sS (tI 49) true (zA.row x1) 6 0 (r2.toNat) 5 0 5 zA.row x1 (Y3 ev13).2 ?_
 refine dA 64 0 ?_
 refine gA 3 112 0 ?_
 exact te (fJ [(false,[cL 5 (r1.set (r2.toNat) x1) zA.row]),(false,[cB true])] H)
def JI (n : Nat) (x0 : (List zA)) (x1 : Int) (x2 : Int) (x3 : Int) : Option ((List zA)) :=
  ((Qp n x0 x1 x2).bind fun r1 => ((YO n x0).bind fun r2 => (bif (!r2) then ((qC n x0).bind fun r9 => (some r9)) else ((Yl n (⟨x1,x2,x3,0,false⟩ : zA)).bind fun r3 => (bif (!r3) then ((qC n x0).bind fun r8 => (some r8)) else (bif (decide (r1 ≥ 0)) then ((idx x0 r1).bind fun v5 => (bif v5.Sc then ((qC n x0).bind fun r7 => (some r7)) else ((Ji n x0 (⟨x1,x2,x3,0,false⟩ : zA)).bind fun r6 => (some r6.1)))) else ((Ji n x0 (⟨x1,x2,x3,0,false⟩ : zA)).bind fun r4 => (some r4.1))))))))
theorem zHU (n : Nat) (x0 : (List zA)) (x1 : Int) (x2 : Int) (x3 : Int) (r : (List zA)) (H : JI n x0 x1 x2 x3 = some r) : zG Try.prog 73 [.val false [.sl false 5 (CV.frzEs (x0.map zA.row))],.val false [.lit (.int .i64 x1)],.val false [.lit (.int .i64 x2)],.val false [.lit (.int .i64 x3)]] [.val false [.sl true 5 (r.map zA.row)]] [] := by
 refine cW Try.func73 (fun g d => sl [g 0,g 1,g 2,sl [g 3] (cn 39 (sl [g 4] .ret) .skip),g 5,g 6] .ret) [.tmp 8] fun cx => ?_
 unfold JI at H
 refine gA 1 15 0 ?_
 refine gA 6 519 512 ?_
 refine rA 3 ?_
 obtain ⟨r1,er1,H⟩ := bs H
 refine vA [.rd,.rd,.rd] (zCO n x0 x1 x2 r1 er1) ?_
 refine uA 1 1537 512 ?_
 refine tS ?_
 refine rA 1 ?_
 obtain ⟨r2,er2,H⟩ := bs H
 refine vA [.rd] (zER n x0 r2 er2) ?_
 refine lA 2 ?_
 refine sL 16778753 512 ⟨49,0,[sB 24 (!r2),sI 10 r1,sA 9 9 5 0,sC 0 (cF 5 x0 zA.row)],[(9,[cI x1,cI x2,cI x3,cI 0,cB false])]⟩ ?_
 cases h1 : (!r2)
 ·have H := zI h1 H
  refine lA 1 ?_
  obtain ⟨r3,er3,H⟩ := bs H
  refine vA [.rd] (zAK n (⟨x1,x2,x3,0,false⟩ : zA) r3 er3) ?_
  refine lA 3 ?_
  refine sL 536872449 512 ⟨49,0,[sB 29 (!r3),sI 10 r1,sA 9 9 5 0,sC 0 (cF 5 x0 zA.row)],[(9,[cI x1,cI x2,cI x3,cI 0,cB false])]⟩ ?_
  cases h2 : (!r3)
  ·have H := zI h2 H
   refine lA 3 ?_
   refine sL 4831839745 512 ⟨49,0,[sB 32 (decide (r1 ≥ 0)),sB 29 false,sI 10 r1,sA 9 9 5 0,sC 0 (cF 5 x0 zA.row)],[(9,[cI x1,cI x2,cI x3,cI 0,cB false])]⟩ ?_
   cases h3 : (decide (r1 ≥ 0))
   ·have H := zI h3 H
    refine uA 7 549755814401 512 ?_
    refine nB_ ?_
    refine tK ?_
    refine rA 2 ?_
    obtain ⟨r4,er4,H⟩ := bs H
    refine vA [.rd,.rd] (zGD n x0 (⟨x1,x2,x3,0,false⟩ : zA) r4 er4) ?_
    refine LAt.movT tOk (ty := 150) (t := 45) (d := 42) (g := none) [(false,[cL 5 r4.1 zA.row]),(false,[cB r4.2])] _ kr (.inl rfl) kr kr kr kr rfl ?_
    refine lA 2 ?_
    refine LAt.moveU (T := lk tab) (ty := 25) (x := (.tmp 46)) (d := 11) (g := none) false [cL 5 r4.1 zA.row] kr kr kr kr kr ?_
    refine uA 1 2048 0 ?_
    refine gA 2 2304 0 ?_
    exact te (fJ [(false,[cL 5 r4.1 zA.row])] H)
   have H := zJ h3 H
   refine lA 2 ?_
   obtain ⟨v5,ev5,H⟩ := bs H
   refine iA zA.row ev5 ?_
   refine uA 4 549755814401 512 ?_
   obtain ⟨h4,H⟩ | ⟨h4,H⟩ := bC H
   ·refine nA h4 ?_
    refine tK ?_
    refine rA 2 ?_
    obtain ⟨r6,er6,H⟩ := bs H
    refine vA [.rd,.rd] (zGD n x0 (⟨x1,x2,x3,0,false⟩ : zA) r6 er6) ?_
    refine LAt.movT tOk (ty := 150) (t := 45) (d := 42) (g := none) [(false,[cL 5 r6.1 zA.row]),(false,[cB r6.2])] _ kr (.inl rfl) kr kr kr kr rfl ?_
    refine lA 2 ?_
    refine LAt.moveU (T := lk tab) (ty := 25) (x := (.tmp 46)) (d := 11) (g := none) false [cL 5 r6.1 zA.row] kr kr kr kr kr ?_
    refine uA 1 2048 0 ?_
    refine gA 2 2304 0 ?_
    exact te (fJ [(false,[cL 5 r6.1 zA.row])] H)
   refine tA h4 ?_
   refine rA 1 ?_
   obtain ⟨r7,er7,H⟩ := bs H
   refine vA [.rd] (qI n x0 r7 er7) ?_
   refine LAt.moveU (T := lk tab) (ty := 25) (x := (.tmp 41)) (d := 8) (g := none) false [cL 5 r7 zA.row] kr kr kr kr kr ?_
   refine dA 256 0 ?_
   exact te (fJ [(false,[cL 5 r7 zA.row])] H)
  have H := zJ h2 H
  refine uA 10 549755814401 512 ?_
  refine tB_ ?_
  refine rA 1 ?_
  obtain ⟨r8,er8,H⟩ := bs H
  refine vA [.rd] (qI n x0 r8 er8) ?_
  refine LAt.moveU (T := lk tab) (ty := 25) (x := (.tmp 41)) (d := 8) (g := none) false [cL 5 r8 zA.row] kr kr kr kr kr ?_
  refine dA 256 0 ?_
  exact te (fJ [(false,[cL 5 r8 zA.row])] H)
 have H := zJ h1 H
 refine uA 15 549755814401 512 ?_
 refine tB_ ?_
 refine rA 1 ?_
 obtain ⟨r9,er9,H⟩ := bs H
 refine vA [.rd] (qI n x0 r9 er9) ?_
 refine LAt.moveU (T := lk tab) (ty := 25) (x := (.tmp 41)) (d := 8) (g := none) false [cL 5 r9 zA.row] kr kr kr kr kr ?_
 refine dA 256 0 ?_
 exact te (fJ [(false,[cL 5 r9 zA.row])] H)
def QY (n : Nat) (x0 : (List zA)) (x1 : Int) (x2 : Int) : Option (Int) :=
  ((Qp n x0 x1 x2).bind fun r1 => (bif (decide (r1 < 0)) then (some (-1)) else ((idx x0 r1).bind fun v2 => (some v2.Port))))
theorem zBo (n : Nat) (x0 : (List zA)) (x1 : Int) (x2 : Int) (r : Int) (H : QY n x0 x1 x2 = some r) : zG Try.prog 27 [.val false [.sl false 5 (CV.frzEs (x0.map zA.row))],.val false [.lit (.int .i64 x1)],.val false [.lit (.int .i64 x2)]] [.val false [.lit (.int .i64 r)]] [] := by
 refine cW Try.func27 (fun g d => sl [g 0,g 1,sl [g 2] (cn 13 (sl [g 3] .ret) .skip),g 4] .ret) [.tmp 6] fun cx => ?_
 unfold QY at H
 refine gA 1 7 0 ?_
 refine rA 3 ?_
 obtain ⟨r1,er1,H⟩ := bs H
 refine vA [.rd,.rd,.rd] (zCO n x0 x1 x2 r1 er1) ?_
 refine uA 1 129 0 ?_
 refine tS ?_
 refine gA 2 8321 0 ?_
 obtain ⟨h1,H⟩ | ⟨h1,H⟩ := bC H
 ·refine nA h1 ?_
  refine tK ?_
  refine rA 2 ?_
  obtain ⟨v2,ev2,H⟩ := bs H
  refine iA zA.row ev2 ?_
  refine uA 3 64 0 ?_
  exact te (fJ [(false,[cI v2.Port])] H)
 refine tA h1 ?_
 refine gA 1 64 0 ?_
 exact te (fJ [(false,[cI (-1)])] H)
def Zy (n : Nat) (x0 : zC) (x1 : Int) : Option (Int) :=
  ((QP n x0 x1).bind fun r1 => (bif (decide (r1 < 0)) then (some 0) else ((idx x0.Rows r1).bind fun v2 => (some v2.Members))))
theorem zFh (n : Nat) (x0 : zC) (x1 : Int) (r : Int) (H : Zy n x0 x1 = some r) : zG Try.prog 74 [.val true (CV.frzRow (zC.row x0)),.val false [.lit (.int .i64 x1)]] [.val false [.lit (.int .i64 r)]] [] := by
 refine cW Try.func74 (fun g d => sl [g 0,g 1,sl [g 2] (cn 10 (sl [g 3] .ret) .skip),g 4] .ret) [.tmp 4] fun cx => ?_
 unfold Zy at H
 refine gA 2 6 4 ?_
 refine rA 2 ?_
 obtain ⟨r1,er1,H⟩ := bs H
 refine vA [.rd,.rd] (zAx n x0 x1 r1 er1) ?_
 refine uA 1 36 4 ?_
 refine tS ?_
 refine gA 2 1060 4 ?_
 obtain ⟨h1,H⟩ | ⟨h1,H⟩ := bC H
 ·refine nA h1 ?_
  refine tK ?_
  refine rA 3 ?_
  obtain ⟨v2,ev2,H⟩ := bs H
  refine iA zB.row ev2 ?_
  refine uA 3 16 0 ?_
  exact te (fJ [(false,[cI v2.Members])] H)
 refine tA h1 ?_
 refine gA 1 16 0 ?_
 exact te (fJ [(false,[cI 0])] H)
def Qv (n : Nat) (x0 : zC) (x1 : Int) (x2 : Int) : Option (Int) :=
  ((QP n x0 x1).bind fun r1 => (bif (decide (r1 < 0)) then (some 0) else ((idx x0.Rows r1).bind fun v2 => ((qY n v2.Bare x2).bind fun r3 => (bif r3 then (some 0) else (some x1))))))
theorem zFj (n : Nat) (x0 : zC) (x1 : Int) (x2 : Int) (r : Int) (H : Qv n x0 x1 x2 = some r) : zG Try.prog 76 [.val true (CV.frzRow (zC.row x0)),.val false [.lit (.int .i64 x1)],.val false [.lit (.int .i64 x2)]] [.val false [.lit (.int .i64 r)]] [] := by
 refine cW Try.func76 (fun g d => sl [g 0,g 1,sl [g 2] (cn 22 (sl [g 3] .ret) .skip),g 4] .ret) [.tmp 6] fun cx => ?_
 unfold Qv at H
 refine gA 2 14 8 ?_
 refine rA 2 ?_
 obtain ⟨r1,er1,H⟩ := bs H
 refine vA [.rd,.rd] (zAx n x0 x1 r1 er1) ?_
 refine uA 1 142 8 ?_
 refine tS ?_
 refine rA 3 ?_
 refine sL 8334 8 ⟨24,0,[sB 13 (decide (r1 < 0)),sI 7 r1,sA 3 3 2 0,sI 1 x1,sI 2 x2],[(3,(CV.frzRow (zC.row x0)))]⟩ ?_
 cases h1 : (decide (r1 < 0))
 ·have H := zI h1 H
  refine lA 3 ?_
  obtain ⟨v2,ev2,H⟩ := bs H
  refine iA zB.row ev2 ?_
  refine lA 3 ?_
  obtain ⟨r3,er3,H⟩ := bs H
  refine vA [.rd,.rd] (Jt n v2.Bare x2 r3 er3) ?_
  refine uA 1 4194306 0 ?_
  cases h2 : r3
  ·have H := zI h2 H
   refine nB_ ?_
   refine tK ?_
   refine gA 2 64 0 ?_
   exact te (fJ [(false,[cI x1])] H)
  have H := zJ h2 H
  refine tB_ ?_
  refine gA 1 64 0 ?_
  exact te (fJ [(false,[cI 0])] H)
 have H := zJ h1 H
 refine uA 9 4194306 0 ?_
 refine tB_ ?_
 refine gA 1 64 0 ?_
 exact te (fJ [(false,[cI 0])] H)
def YX (n : Nat) (x0 : (List Int)) : Option ((List Int)) :=
  (bif (decide (([] : List Int).length + x0.length ≤ 268435456)) then (some (([] : List Int) ++ x0)) else none)
theorem zE3 (n : Nat) (x0 : (List Int)) (r : (List Int)) (H : YX n x0 = some r) : zG Try.prog 137 [.val false [.sl false 1 (CV.frzEs (x0.map zN))]] [.val false [.sl true 1 (r.map zN)]] [] := by
 refine cW Try.func137 (fun g d => sl [g 0,g 1] .ret) [.tmp 2] fun cx => ?_
 unfold YX at H
 refine gA 1 1 0 ?_
 refine rA 1 ?_
 obtain ⟨hg1,H⟩ := gs H
 refine LAt.appCU tOk (t := 22) (ty := 22) (e := 5) (x := (.const (.slice none 0 0))) (y := (.tmp 3)) (d := 4) (g := none) (tI 5) zN ([] : List Int) x0 ⟨(.slot 3),[],0,false,1,(CV.frzEs (x0.map zN))⟩ kr kr kr kr kr kr kr kr kr kr kr (.inr rfl) (fun _ => rfl) (fun _ => rfl) hg1 ?_
 refine LAt.moveU (T := lk tab) (ty := 22) (x := (.tmp 4)) (d := 2) (g := none) false [cL 1 (([] : List Int) ++ x0) zN] kr kr kr kr kr ?_
 refine dA 4 0 ?_
 exact te (fJ [(false,[cL 1 (([] : List Int) ++ x0) zN])] H)
def Yj (n : Nat) (x0 : Frame) (x1 : Int) : Option (Frame) :=
  ((YX n x0.Data).bind fun r1 => (some (⟨x0.Dst,x0.Src,x1,r1⟩ : Frame)))
theorem zGi (n : Nat) (x0 : Frame) (x1 : Int) (r : Frame) (H : Yj n x0 x1 = some r) : zG Try.prog 75 [.val true (CV.frzRow (Frame.row x0)),.val false [.lit (.int .i64 x1)]] [.val true (Frame.row r)] [] := by
 refine cW Try.func75 (fun g d => sl [g 0,g 1,g 2,g 3] .ret) [.cell 4 53] fun cx => ?_
 unfold Yj at H
 refine gA 2 22 20 ?_
 refine rA 2 ?_
 obtain ⟨r1,er1,H⟩ := bs H
 refine vA [.rd] (zE3 n x0.Data r1 er1) ?_
 refine uA 2 22 20 ?_
 refine gA 3 20 20 ?_
 refine gA 2 16 16 ?_
 exact te (fJ [(true,[cI x0.Dst,cI x0.Src,cI x1,cL 1 r1 zN])] H)
def YV (n : Nat) (r1 : zD) (r7 : (List zA)) (r8 : Int) (y12 : (List Out)) : Option (zD × (List Out)) :=
  (some ((⟨r1.Id,r1.Name,r1.Ps,r7,r1.V,r1.Tk,r1.Pa,r1.Wo,r1.Dr,r8⟩ : zD),y12))
def ZB (n : Nat) (k : (Int × (List Out) → Option (((List Out)) ⊕ (zD × (List Out))))) (r5 : Int × Bool) (x0 : zD) (x2 : Frame) (y10 : Int) (y11 : (List Out)) (y14 : Bool) : Option (((List Out)) ⊕ (zD × (List Out))) :=
  (bif y14 then ((Qv n x0.V r5.1 y10).bind fun r15 => ((Yj n x2 r15).bind fun r16 => (bif (decide (y11.length + [(⟨y10,r16⟩ : Out)].length ≤ 268435456)) then (k ((IntKind.wrap .i64 (y10 + 1)),(y11 ++ [(⟨y10,r16⟩ : Out)]))) else none))) else (k ((IntKind.wrap .i64 (y10 + 1)),y11)))
def qB (n : Nat) : Nat → Int → Int × Bool → zD → Int → Frame → Int → Int → (List Out) → Option (((List Out)) ⊕ (zD × (List Out)))
  | 0,_,_,_,_,_,_,_,_ => none
  | mo13 + 1,r4,r5,x0,x1,x2,y9,y10,y11 => (bif (decide (y10 < (x0.Ps.length : Int))) then (bif (y10 != x1) then ((Zy n x0.V r5.1).bind fun r18 => ((qY n (IntKind.wrap .i64 (BitVec.ofInt (IntKind.bits .i64) r4 &&& BitVec.ofInt (IntKind.bits .i64) r18).toNat) y10).bind fun r19 => (bif r19 then (bif (decide (y9 < 0)) then (ZB n (fun v => qB n mo13 r4 r5 x0 x1 x2 y9 v.1 v.2) r5 x0 x2 y10 y11 true) else (ZB n (fun v => qB n mo13 r4 r5 x0 x1 x2 y9 v.1 v.2) r5 x0 x2 y10 y11 (y9 == y10))) else (ZB n (fun v => qB n mo13 r4 r5 x0 x1 x2 y9 v.1 v.2) r5 x0 x2 y10 y11 false)))) else (ZB n (fun v => qB n mo13 r4 r5 x0 x1 x2 y9 v.1 v.2) r5 x0 x2 y10 y11 false)) else (some (Sum.inl y11)))
def Ze (n : Nat) (r1 : zD) (r4 : Int) (r5 : Int × Bool) (r7 : (List zA)) (r8 : Int) (x0 : zD) (x1 : Int) (x2 : Frame) (y9 : Int) : Option (zD × (List Out)) :=
  ((qB n n r4 r5 x0 x1 x2 y9 0 ([] : List Out)).bind fun o => match o with | .inl y12 => (YV n r1 r7 r8 y12) | .inr r => some r)
def Qe (n : Nat) (x0 : zD) (x1 : Int) (x2 : Frame) : Option (zD × (List Out)) :=
  ((QZ n x0).bind fun r1 => ((Yn n x0 x1).bind fun r2 => (bif (!r2) then (some (r1,([] : List Out))) else ((JU n x2).bind fun r3 => (bif (!r3) then (some (r1,([] : List Out))) else ((YP n x0.Id x0.Ps).bind fun r4 => ((QC n x0.V x1 x2.Tag).bind fun r5 => ((qY n r4 x1).bind fun r6 => (bif (!r6) then ((Q8 n x0.Dr).bind fun r22 => (some ((⟨r1.Id,r1.Name,r1.Ps,r1.F,r1.V,r1.Tk,r1.Pa,r1.Wo,r22,r1.Ve⟩ : zD),([] : List Out)))) else (bif (!r5.2) then ((Q8 n x0.Dr).bind fun r21 => (some ((⟨r1.Id,r1.Name,r1.Ps,r1.F,r1.V,r1.Tk,r1.Pa,r1.Wo,r21,r1.Ve⟩ : zD),([] : List Out)))) else ((JI n x0.F r5.1 x2.Src x1).bind fun r7 => ((Q8 n x0.Ve).bind fun r8 => (bif (x2.Dst != 0) then ((QY n r7 r5.1 x2.Dst).bind fun r20 => (Ze n r1 r4 r5 r7 r8 x0 x1 x2 r20)) else (Ze n r1 r4 r5 r7 r8 x0 x1 x2 (-1)))))))))))))))
def zJI : Tab := ⟨13,[0,0,0,0,8,0,0,112,132,258,512,1281,4095],[0,0,0,0,8,0,0,112,132,258,512,1025,2049],[0,0,0,0,8,0,0,120,252,510,1022,2047,4095]⟩
theorem zAP : z6 (rg Try.f22 19) zJI = true := kr
theorem zCt (n : Nat) (x0 : zD) (x1 : Int) (x2 : Frame) (r : zD × (List Out)) (H : Qe n x0 x1 x2 = some r) : zG Try.prog 22 [.val true (CV.frzRow (zD.row x0)),.val false [.lit (.int .i64 x1)],.val true (CV.frzRow (Frame.row x2))] [.val true (zD.row r.1),.val false [.sl true 5 (r.2.map Out.row)]] [] := by
 refine cW Try.func22 (fun g d => sl [g 0,g 1,sl [g 2] (cn 25 (sl [g 3] .ret) .skip),g 4,g 5,sl [g 6] (cn 48 (sl [g 7,g 8] .ret) .skip),g 9,g 10,g 11,sl [g 12] (cn 68 (g 13) .skip),g 14,sl [g 15] (.block 0 (.loop (sl [g 16,cn 79 .skip (.exit 0),.block 1 (sl [g 17,g 18] (cn 102 (d 19) .skip))] (g 20)))),g 21] .ret) [.cell 6 31,.tmp 7] fun cx => ?_
 unfold Qe at H
 refine gA 4 106 104 ?_
 refine rA 1 ?_
 obtain ⟨r1,er1,H⟩ := bs H
 refine vA [.rd] (zEU n x0 r1 er1) ?_
 refine uA 2 362 360 ?_
 refine tS ?_
 refine rA 2 ?_
 obtain ⟨r2,er2,H⟩ := bs H
 refine vA [.rd,.rd] (zGk n x0 x1 r2 er2) ?_
 refine lA 2 ?_
 refine sL 2097514 360 ⟨118,0,[sB 21 (!r2),sA 8 8 11 0,sA 6 6 11 0,sA 5 5 4 0,sA 3 3 11 0,sI 1 x1],[(8,(zD.row r1)),(6,[cI 0,cS (⟨#[]⟩ : ByteArray),cL 8 ([] : List Pt) Pt.row,cL 5 ([] : List zA) zA.row,cL 3 ([] : List zB) zB.row,cL 1 ([] : List Int) intRow,cI 0,cI 0,cI 0,cI 0,cI 0]),(5,(CV.frzRow (Frame.row x2))),(3,(CV.frzRow (zD.row x0)))]⟩ ?_
 cases h1 : (!r2)
 ·have H := zI h1 H
  refine lA 1 ?_
  obtain ⟨r3,er3,H⟩ := bs H
  refine vA [.rd] (zGB n x2 r3 er3) ?_
  refine uA 2 33554794 360 ?_
  obtain ⟨h2,H⟩ | ⟨h2,H⟩ := bC H
  ·refine nA h2 ?_
   refine tK ?_
   refine rA 4 ?_
   obtain ⟨r4,er4,H⟩ := bs H
   refine vA [.rd,.rd] (zHV n x0.Id x0.Ps r4 er4) ?_
   refine uA 1 874 360 ?_
   refine rA 5 ?_
   obtain ⟨r5,er5,H⟩ := bs H
   refine vA [.rd,.rd,.rd] (zCs n x0.V x1 x2.Tag r5 er5) ?_
   refine LAt.movT tOk (ty := 60) (t := 38) (d := 32) (g := none) [(false,[cI r5.1]),(false,[cB r5.2])] _ kr (.inl rfl) kr kr kr kr rfl ?_
   refine uA 4 3946 360 ?_
   refine tS ?_
   refine tS ?_
   refine Tr.at ?_
   refine lA 2 ?_
   obtain ⟨r6,er6,H⟩ := bs H
   refine vA [.rd,.rd] (Jt n r4 x1 r6 er6) ?_
   refine lA 2 ?_
   refine sL 35184372092778 360 ⟨118,0,[sB 45 (!r6),sB 11 r5.2,sI 10 r5.1,sI 9 r4,sA 8 8 11 0,sA 6 6 11 0,sA 5 5 4 0,sA 3 3 11 0,sI 1 x1],[(8,(zD.row r1)),(6,[cI 0,cS (⟨#[]⟩ : ByteArray),cL 8 ([] : List Pt) Pt.row,cL 5 ([] : List zA) zA.row,cL 3 ([] : List zB) zB.row,cL 1 ([] : List Int) intRow,cI 0,cI 0,cI 0,cI 0,cI 0]),(5,(CV.frzRow (Frame.row x2))),(3,(CV.frzRow (zD.row x0)))]⟩ ?_
   cases h3 : (!r6)
   ·have H := zI h3 H
    refine uA 3 281474976712554 360 ?_
    obtain ⟨h4,H⟩ | ⟨h4,H⟩ := bC H
    ·refine nA h4 ?_
     refine tK ?_
     refine rA 6 ?_
     obtain ⟨r7,er7,H⟩ := bs H
     refine vA [.rd,.rd,.rd,.rd] (zHU n x0.F r5.1 x2.Src x1 r7 er7) ?_
     refine uA 2 1898 360 ?_
     refine rA 2 ?_
     obtain ⟨r8,er8,H⟩ := bs H
     refine vA [.rd] (zCv n x0.Ve r8 er8) ?_
     refine uA 2 1898 360 ?_
     refine gA 1 5994 360 ?_
     refine tS ?_
     refine Tr.mid (ι := Int) (fun v => ⟨118,0,[sI 12 v,sI 10 r5.1,sI 9 r4,sA 8 8 11 0,sA 6 6 11 0,sA 5 5 4 0,sA 3 3 11 0,sI 1 x1],[(8,[cI r1.Id,cS r1.Name,cL 8 r1.Ps Pt.row,cL 5 r7 zA.row,cL 3 r1.V.Rows zB.row,cL 1 r1.V.Pv intRow,cI r1.Tk,cI r1.Pa,cI r1.Wo,cI r1.Dr,cI r8]),(6,[cI 0,cS (⟨#[]⟩ : ByteArray),cL 8 ([] : List Pt) Pt.row,cL 5 ([] : List zA) zA.row,cL 3 ([] : List zB) zB.row,cL 1 ([] : List Int) intRow,cI 0,cI 0,cI 0,cI 0,cI 0]),(5,(CV.frzRow (Frame.row x2))),(3,(CV.frzRow (zD.row x0)))]⟩) (fun v => Ze n r1 r4 r5 r7 r8 x0 x1 x2 v = some r) ?_ ?_
     ·refine gA 3 0x10000000000000176a 360 ?_
      obtain ⟨h10,H⟩ | ⟨h10,H⟩ := bC H
      ·refine nA h10 ?_
       refine tK ?_
       exact jA (-1) H [12,10,9,8,6,5,3,1] [8,6,5,3]
      refine tA h10 ?_
      refine Tr.at ?_
      refine lA 5 ?_
      obtain ⟨r20,er20,H⟩ := bs H
      refine vB [.rd,.rd,.rd] [.box 8] (zBo n r7 r5.1 x2.Dst r20 er20) (.inr (zn (zH zM zj) qa)) ?_
      refine uA 1 5994 360 ?_
      exact jA r20 H [12,10,9,8,6,5,3,1] [8,6,5,3]
     rintro y9 H
     have H : (Ze n r1 r4 r5 r7 r8 x0 x1 x2 y9) = some r := H
     unfold Ze at H
     refine gA 1 14186 360 ?_
     refine tS ?_
     refine rA 2 ?_
     refine kF x0.Ps Pt.row ?_
     refine uA 1 0x6000000000000000376a 360 ?_
     obtain ⟨o13,eo13,Ho13⟩ := bs H
     clear H
     refine Tr.mid (ι := (List Out)) (fun v => ⟨118,0,[sC 13 (cL 5 v Out.row),sA 8 8 11 0,sA 6 6 11 0],[(8,[cI r1.Id,cS r1.Name,cL 8 r1.Ps Pt.row,cL 5 r7 zA.row,cL 3 r1.V.Rows zB.row,cL 1 r1.V.Pv intRow,cI r1.Tk,cI r1.Pa,cI r1.Wo,cI r1.Dr,cI r8]),(6,[cI 0,cS (⟨#[]⟩ : ByteArray),cL 8 ([] : List Pt) Pt.row,cL 5 ([] : List zA) zA.row,cL 3 ([] : List zB) zB.row,cL 1 ([] : List Int) intRow,cI 0,cI 0,cI 0,cI 0,cI 0])]⟩) (fun v => YV n r1 r7 r8 v = some r) ?_ ?_
     ·refine tB ?_
      refine Tr.loop (ι := Nat × (Int × (List Out))) (fun v => ⟨118,0,[sI 78 v.2.1,sI 77 (x0.Ps.length : Int),sC 13 (cL 5 v.2.2 Out.row),sI 12 y9,sI 10 r5.1,sI 9 r4,sA 8 8 11 0,sA 6 6 11 0,sA 5 5 4 0,sA 3 3 11 0,sI 1 x1],[(8,[cI r1.Id,cS r1.Name,cL 8 r1.Ps Pt.row,cL 5 r7 zA.row,cL 3 r1.V.Rows zB.row,cL 1 r1.V.Pv intRow,cI r1.Tk,cI r1.Pa,cI r1.Wo,cI r1.Dr,cI r8]),(6,[cI 0,cS (⟨#[]⟩ : ByteArray),cL 8 ([] : List Pt) Pt.row,cL 5 ([] : List zA) zA.row,cL 3 ([] : List zB) zB.row,cL 1 ([] : List Int) intRow,cI 0,cI 0,cI 0,cI 0,cI 0]),(5,(CV.frzRow (Frame.row x2))),(3,(CV.frzRow (zD.row x0)))]⟩) (fun v => qB n v.1 r4 r5 x0 x1 x2 y9 v.2.1 v.2.2 = some o13) (fun v => v.1) (n,(0,([] : List Out))) eo13 (St.sub_of [78,77,13,12,10,9,8,6,5,3,1] [8,6,5,3] kr) ?_
      rintro ⟨mo13,y10,y11⟩ H
      have H : qB n mo13 r4 r5 x0 x1 x2 y9 y10 y11 = some o13 := H
      obtain _ | mo13 := mo13
      ·exact nN H
      rw [qB] at H
      refine gA 1 0xe000000000000000376a 360 ?_
      refine tS ?_
      obtain ⟨h5,H⟩ | ⟨h5,H⟩ := bC H
      ·refine nA h5 ?_
       refine Tr.exit ?_
       refine aJ ?_
       obtain rfl := si H
       have H := Ho13
       dsimp only at H
       exact jA y11 H [13,8,6] [8,6]
      refine tA h5 ?_
      refine tK ?_
      refine tS ?_
      refine tB ?_
      refine gA 2 0x6000000000000000776a 360 ?_
      refine tS ?_
      refine Tr.mid (ι := Bool) (fun v => ⟨118,0,[sB 102 v,sI 14 y10,sI 78 y10,sI 77 (x0.Ps.length : Int),sC 13 (cL 5 y11 Out.row),sI 12 y9,sI 10 r5.1,sI 9 r4,sA 8 8 11 0,sA 6 6 11 0,sA 5 5 4 0,sA 3 3 11 0,sI 1 x1],[(8,[cI r1.Id,cS r1.Name,cL 8 r1.Ps Pt.row,cL 5 r7 zA.row,cL 3 r1.V.Rows zB.row,cL 1 r1.V.Pv intRow,cI r1.Tk,cI r1.Pa,cI r1.Wo,cI r1.Dr,cI r8]),(6,[cI 0,cS (⟨#[]⟩ : ByteArray),cL 8 ([] : List Pt) Pt.row,cL 5 ([] : List zA) zA.row,cL 3 ([] : List zB) zB.row,cL 1 ([] : List Int) intRow,cI 0,cI 0,cI 0,cI 0,cI 0]),(5,(CV.frzRow (Frame.row x2))),(3,(CV.frzRow (zD.row x0)))]⟩) (fun v => ZB n (fun v => qB n mo13 r4 r5 x0 x1 x2 y9 v.1 v.2) r5 x0 x2 y10 y11 v = some o13) ?_ ?_
      ·refine Tr.at ?_
       refine lA 4 ?_
       refine sL 0x106000000000000000776a 360 ⟨118,0,[sB 84 (y10 != x1),sI 14 y10,sI 78 y10,sI 77 (x0.Ps.length : Int),sC 13 (cL 5 y11 Out.row),sI 12 y9,sI 10 r5.1,sI 9 r4,sA 8 8 11 0,sA 6 6 11 0,sA 5 5 4 0,sA 3 3 11 0,sI 1 x1],[(8,[cI r1.Id,cS r1.Name,cL 8 r1.Ps Pt.row,cL 5 r7 zA.row,cL 3 r1.V.Rows zB.row,cL 1 r1.V.Pv intRow,cI r1.Tk,cI r1.Pa,cI r1.Wo,cI r1.Dr,cI r8]),(6,[cI 0,cS (⟨#[]⟩ : ByteArray),cL 8 ([] : List Pt) Pt.row,cL 5 ([] : List zA) zA.row,cL 3 ([] : List zB) zB.row,cL 1 ([] : List Int) intRow,cI 0,cI 0,cI 0,cI 0,cI 0]),(5,(CV.frzRow (Frame.row x2))),(3,(CV.frzRow (zD.row x0)))]⟩ ?_
       cases h7 : (y10 != x1)
       ·have H := zI h7 H
        refine uA 18 0x4000006000000000000000776a 360 ?_
        exact jA false H [102,14,78,77,13,12,10,9,8,6,5,3,1] [8,6,5,3]
       have H := zJ h7 H
       refine lA 4 ?_
       obtain ⟨r18,er18,H⟩ := bs H
       refine vA [.rd,.rd] (zFh n x0.V r5.1 r18 er18) ?_
       refine lA 2 ?_
       obtain ⟨r19,er19,H⟩ := bs H
       refine vA [.rd,.rd] (Jt n (IntKind.wrap .i64 (BitVec.ofInt (IntKind.bits .i64) r4 &&& BitVec.ofInt (IntKind.bits .i64) r18).toNat) y10 r19 er19) ?_
       refine lA 2 ?_
       refine sL 0x40006000000000000000776a 360 ⟨118,0,[sB 94 r19,sI 14 y10,sI 78 y10,sI 77 (x0.Ps.length : Int),sC 13 (cL 5 y11 Out.row),sI 12 y9,sI 10 r5.1,sI 9 r4,sA 8 8 11 0,sA 6 6 11 0,sA 5 5 4 0,sA 3 3 11 0,sI 1 x1],[(8,[cI r1.Id,cS r1.Name,cL 8 r1.Ps Pt.row,cL 5 r7 zA.row,cL 3 r1.V.Rows zB.row,cL 1 r1.V.Pv intRow,cI r1.Tk,cI r1.Pa,cI r1.Wo,cI r1.Dr,cI r8]),(6,[cI 0,cS (⟨#[]⟩ : ByteArray),cL 8 ([] : List Pt) Pt.row,cL 5 ([] : List zA) zA.row,cL 3 ([] : List zB) zB.row,cL 1 ([] : List Int) intRow,cI 0,cI 0,cI 0,cI 0,cI 0]),(5,(CV.frzRow (Frame.row x2))),(3,(CV.frzRow (zD.row x0)))]⟩ ?_
       cases h8 : r19
       ·have H := zI h8 H
        refine uA 8 0x4000006000000000000000776a 360 ?_
        exact jA false H [102,14,78,77,13,12,10,9,8,6,5,3,1] [8,6,5,3]
       have H := zJ h8 H
       refine lA 3 ?_
       refine sL 0x240006000000000000000776a 360 ⟨118,0,[sB 97 (decide (y9 < 0)),sB 94 true,sI 14 y10,sI 78 y10,sI 77 (x0.Ps.length : Int),sC 13 (cL 5 y11 Out.row),sI 12 y9,sI 10 r5.1,sI 9 r4,sA 8 8 11 0,sA 6 6 11 0,sA 5 5 4 0,sA 3 3 11 0,sI 1 x1],[(8,[cI r1.Id,cS r1.Name,cL 8 r1.Ps Pt.row,cL 5 r7 zA.row,cL 3 r1.V.Rows zB.row,cL 1 r1.V.Pv intRow,cI r1.Tk,cI r1.Pa,cI r1.Wo,cI r1.Dr,cI r8]),(6,[cI 0,cS (⟨#[]⟩ : ByteArray),cL 8 ([] : List Pt) Pt.row,cL 5 ([] : List zA) zA.row,cL 3 ([] : List zB) zB.row,cL 1 ([] : List Int) intRow,cI 0,cI 0,cI 0,cI 0,cI 0]),(5,(CV.frzRow (Frame.row x2))),(3,(CV.frzRow (zD.row x0)))]⟩ ?_
       cases h9 : (decide (y9 < 0))
       ·have H := zI h9 H
        refine uA 5 0x4000006000000000000000776a 360 ?_
        exact jA (y9 == y10) H [102,14,78,77,13,12,10,9,8,6,5,3,1] [8,6,5,3]
       have H := zJ h9 H
       refine uA 5 0x4000006000000000000000776a 360 ?_
       exact jA true H [102,14,78,77,13,12,10,9,8,6,5,3,1] [8,6,5,3]
      rintro y14 H
      have H : (ZB n (fun v => qB n mo13 r4 r5 x0 x1 x2 y9 v.1 v.2) r5 x0 x2 y10 y11 y14) = some o13 := H
      unfold ZB at H
      cases h6 : y14
      ·have H := zI h6 H
       refine nB_ ?_
       refine tK ?_
       refine eA 2 0x6000000000000000376a 360 ?_
       exact jB mo13 ((IntKind.wrap .i64 (y10 + 1)),y11) H [78,77,13,12,10,9,8,6,5,3,1] [8,6,5,3]
      have H := zJ h6 H
      refine tB_ ?_
      obtain ⟨r15,er15,H⟩ := bs H
      obtain ⟨r16,er16,H⟩ := bs H
      obtain ⟨hg17,H⟩ := gs H
      refine Tr.draw mixed 13 kr ⟨118,0,[sC 13 (cL 5 (y11 ++ [(⟨y10,r16⟩ : Out)]) Out.row),sI 78 y10,sI 77 (x0.Ps.length : Int),sI 12 y9,sI 10 r5.1,sI 9 r4,sA 8 8 11 0,sA 6 6 11 0,sA 5 5 4 0,sA 3 3 11 0,sI 1 x1],[(8,[cI r1.Id,cS r1.Name,cL 8 r1.Ps Pt.row,cL 5 r7 zA.row,cL 3 r1.V.Rows zB.row,cL 1 r1.V.Pv intRow,cI r1.Tk,cI r1.Pa,cI r1.Wo,cI r1.Dr,cI r8]),(6,[cI 0,cS (⟨#[]⟩ : ByteArray),cL 8 ([] : List Pt) Pt.row,cL 5 ([] : List zA) zA.row,cL 3 ([] : List zB) zB.row,cL 1 ([] : List Int) intRow,cI 0,cI 0,cI 0,cI 0,cI 0]),(5,(CV.frzRow (Frame.row x2))),(3,(CV.frzRow (zD.row x0)))]⟩ (fun cx => ?_) ?_
      ·refine mA zAP [(0,[]),(1,[]),(2,[8,9,10,11]),(3,[]),(4,[7,8,9,10,11]),(5,[]),(6,[])] 6 [⟨[7,8,9,10,11],29,106,107⟩,⟨[8,9,10,11],53,5,105⟩] fun cx => ?_
       refine mC zAP 7 ?_
       refine vA [.rd,.rd,.rd] (zFj n x0.V r5.1 y10 r15 er15) ?_
       refine fA ?_
       refine mC zAP 8 ?_
       refine vA [.rd,.rd] (zGi n x2 r15 r16 er16) ?_
       refine fA ?_
       refine mC zAP 9 ?_
       refine lA 1 ?_
       refine fA ?_
       refine mC zAP 10 ?_
       refine lA 1 ?_
       refine fA ?_
       refine mC zAP 11 ?_
       refine LAt.appMU tOk (t := 56) (ty := 56) (e := 64) (x := (.tmp 103)) (y := (.tmp 113)) (d := 114) (g := none) (tI 64) Out.row y11 [(⟨y10,r16⟩ : Out)] kr kr kr kr kr kr kr kr kr kr hg17 ?_
       refine fA ?_
       refine mC zAP 12 ?_
       refine LAt.moveU (T := lk tab) (ty := 56) (x := (.tmp 114)) (d := 13) (g := none) false [cL 5 (y11 ++ [(⟨y10,r16⟩ : Out)]) Out.row] kr kr kr kr kr ?_
       refine fA ?_
       exact mE zAP [13,78,77,12,10,9,8,6,5,3,1] [8,6,5,3]
      refine eA 2 0x6000000000000000376a 360 ?_
      exact jB mo13 ((IntKind.wrap .i64 (y10 + 1)),(y11 ++ [(⟨y10,r16⟩ : Out)])) H [78,77,13,12,10,9,8,6,5,3,1] [8,6,5,3]
     rintro y12 H
     have H : (YV n r1 r7 r8 y12) = some r := H
     unfold YV at H
     refine gA 4 8384 64 ?_
     exact te (fJ [(true,[cI r1.Id,cS r1.Name,cL 8 r1.Ps Pt.row,cL 5 r7 zA.row,cL 3 r1.V.Rows zB.row,cL 1 r1.V.Pv intRow,cI r1.Tk,cI r1.Pa,cI r1.Wo,cI r1.Dr,cI r8]),(false,[cL 5 y12 Out.row])] H)
    refine tA h4 ?_
    refine rA 2 ?_
    obtain ⟨r21,er21,H⟩ := bs H
    refine vA [.rd] (zCv n x0.Dr r21 er21) ?_
    refine uA 2 320 320 ?_
    refine gA 3 192 64 ?_
    exact te (fJ [(true,[cI r1.Id,cS r1.Name,cL 8 r1.Ps Pt.row,cL 5 r1.F zA.row,cL 3 r1.V.Rows zB.row,cL 1 r1.V.Pv intRow,cI r1.Tk,cI r1.Pa,cI r1.Wo,cI r21,cI r1.Ve]),(false,[cL 5 ([] : List Out) Out.row])] H)
   have H := zJ h3 H
   refine uA 3 281474976712554 360 ?_
   refine tB_ ?_
   refine rA 2 ?_
   obtain ⟨r22,er22,H⟩ := bs H
   refine vA [.rd] (zCv n x0.Dr r22 er22) ?_
   refine uA 2 320 320 ?_
   refine gA 3 192 64 ?_
   exact te (fJ [(true,[cI r1.Id,cS r1.Name,cL 8 r1.Ps Pt.row,cL 5 r1.F zA.row,cL 3 r1.V.Rows zB.row,cL 1 r1.V.Pv intRow,cI r1.Tk,cI r1.Pa,cI r1.Wo,cI r22,cI r1.Ve]),(false,[cL 5 ([] : List Out) Out.row])] H)
  refine tA h2 ?_
  refine gA 3 192 64 ?_
  exact te (fJ [(true,(zD.row r1)),(false,[cL 5 ([] : List Out) Out.row])] H)
 have H := zJ h1 H
 refine uA 4 33554794 360 ?_
 refine tB_ ?_
 refine gA 3 192 64 ?_
 exact te (fJ [(true,(zD.row r1)),(false,[cL 5 ([] : List Out) Out.row])] H)
def YJ (n : Nat) (x0 : zD) : Option (zD) :=
  (bif (decide (([] : List Pt).length + x0.Ps.length ≤ 268435456)) then ((z8 n x0.F).bind fun r2 => ((qd n x0.V).bind fun r3 => (some (⟨x0.Id,x0.Name,(([] : List Pt) ++ x0.Ps),r2,r3,x0.Tk,x0.Pa,x0.Wo,x0.Dr,x0.Ve⟩ : zD)))) else none)
theorem zGY (n : Nat) (x0 : zD) (r : zD) (H : YJ n x0 = some r) : zG Try.prog 77 [.val true (CV.frzRow (zD.row x0))] [.val true (zD.row r)] [] := by
 refine cW Try.func77 (fun g d => sl [g 0,g 1,g 2,g 3,g 4,g 5] .ret) [.cell 2 31] fun cx => ?_
 unfold YJ at H
 refine gA 2 6 6 ?_
 refine gA 3 14 14 ?_
 refine rA 3 ?_
 obtain ⟨hg1,H⟩ := gs H
 refine pD Pt.row hg1 ?_
 refine uA 2 14 14 ?_
 refine rA 2 ?_
 obtain ⟨r2,er2,H⟩ := bs H
 refine vA [.rd] (Z4 n x0.F r2 er2) ?_
 refine uA 2 14 14 ?_
 refine rA 2 ?_
 obtain ⟨r3,er3,H⟩ := bs H
 refine vA [.rd] (Z5 n x0.V r3 er3) ?_
 refine uA 2 12 12 ?_
 refine gA 2 4 4 ?_
 exact te (fJ [(true,[cI x0.Id,cS x0.Name,cL 8 (([] : List Pt) ++ x0.Ps) Pt.row,cL 5 r2 zA.row,cL 3 r3.Rows zB.row,cL 1 r3.Pv intRow,cI x0.Tk,cI x0.Pa,cI x0.Wo,cI x0.Dr,cI x0.Ve])] H)
def qf (n : Nat) (x0 : Vec) : Option (Bool) :=
  ((zQ n x0.Root 1 99).bind fun r1 => (bif r1 then ((zQ n x0.Co 0 100000).bind fun r2 => (bif r2 then ((zQ n x0.Hops 0 10).bind fun r3 => (bif r3 then ((zQ n x0.Bridge 1 99).bind fun r4 => (bif r4 then ((zQ n x0.Port 0 7).bind fun r5 => (some r5)) else (some false))) else (some false))) else (some false))) else (some false)))
theorem zCc (n : Nat) (x0 : Vec) (r : Bool) (H : qf n x0 = some r) : zG Try.prog 178 [.val true (CV.frzRow (Vec.row x0))] [.val false [.lit (.bool r)]] [] := by
 refine cW Try.func178 (fun g d => sl [g 0,g 1] .ret) [.tmp 2] fun cx => ?_
 unfold qf at H
 refine gA 2 2 2 ?_
 refine rA 2 ?_
 obtain ⟨r1,er1,H⟩ := bs H
 refine vA [.rd,.rd,.rd] (zP n x0.Root 1 99 r1 er1) ?_
 refine lA 1 ?_
 refine sL 66 2 ⟨26,0,[sB 6 r1,sA 1 1 5 0],[(1,(Vec.row x0))]⟩ ?_
 cases h1 : r1
 ·have H := zI h1 H
  refine uA 20 4 0 ?_
  exact te (fF H)
 have H := zJ h1 H
 refine lA 2 ?_
 obtain ⟨r2,er2,H⟩ := bs H
 refine vA [.rd,.rd,.rd] (zP n x0.Co 0 100000 r2 er2) ?_
 refine lA 2 ?_
 refine sL 2050 2 ⟨26,0,[sB 11 r2,sA 1 1 5 0],[(1,(Vec.row x0))]⟩ ?_
 cases h2 : r2
 ·have H := zI h2 H
  refine uA 15 4 0 ?_
  exact te (fF H)
 have H := zJ h2 H
 refine lA 2 ?_
 obtain ⟨r3,er3,H⟩ := bs H
 refine vA [.rd,.rd,.rd] (zP n x0.Hops 0 10 r3 er3) ?_
 refine lA 2 ?_
 refine sL 65538 2 ⟨26,0,[sB 16 r3,sA 1 1 5 0],[(1,(Vec.row x0))]⟩ ?_
 cases h3 : r3
 ·have H := zI h3 H
  refine uA 10 4 0 ?_
  exact te (fF H)
 have H := zJ h3 H
 refine lA 2 ?_
 obtain ⟨r4,er4,H⟩ := bs H
 refine vA [.rd,.rd,.rd] (zP n x0.Bridge 1 99 r4 er4) ?_
 refine lA 2 ?_
 refine sL 2097154 2 ⟨26,0,[sB 21 r4,sA 1 1 5 0],[(1,(Vec.row x0))]⟩ ?_
 cases h4 : r4
 ·have H := zI h4 H
  refine uA 5 4 0 ?_
  exact te (fF H)
 have H := zJ h4 H
 refine lA 2 ?_
 obtain ⟨r5,er5,H⟩ := bs H
 refine vA [.rd,.rd,.rd] (zP n x0.Port 0 7 r5 er5) ?_
 refine uA 2 4 0 ?_
 exact te (fJ [(false,[cB r5])] H)
def qG (n : Nat) (x0 : Pt) : Option (Bool) :=
  ((zQ n x0.Co 1 1000).bind fun r1 => (bif (!r1) then (some false) else (bif (!x0.Up) then (bif x0.Has then (some false) else (some ((x0.Hd.Root == 0) && ((x0.Hd.Co == 0) && ((x0.Hd.Hops == 0) && ((x0.Hd.Bridge == 0) && ((x0.Hd.Port == 0) && true))))))) else (bif (!x0.Has) then (some ((x0.Hd.Root == 0) && ((x0.Hd.Co == 0) && ((x0.Hd.Hops == 0) && ((x0.Hd.Bridge == 0) && ((x0.Hd.Port == 0) && true)))))) else ((qf n x0.Hd).bind fun r2 => (some r2))))))
theorem zIE (n : Nat) (x0 : Pt) (r : Bool) (H : qG n x0 = some r) : zG Try.prog 162 [.val true (CV.frzRow (Pt.row x0))] [.val false [.lit (.bool r)]] [] := by
 refine cW Try.func162 (fun g d => sl [g 0,sl [g 1] (cn 15 (sl [g 2] .ret) .skip),sl [g 3] (cn 18 (sl [g 4] .ret) .skip),g 5] .ret) [.tmp 2] fun cx => ?_
 unfold qG at H
 refine gA 2 2 2 ?_
 refine tS ?_
 refine rA 2 ?_
 obtain ⟨r1,er1,H⟩ := bs H
 refine vA [.rd,.rd,.rd] (zP n x0.Co 1 1000 r1 er1) ?_
 refine lA 2 ?_
 refine sL 130 2 ⟨26,0,[sB 7 (!r1),sA 1 1 8 0],[(1,(Pt.row x0))]⟩ ?_
 cases h1 : (!r1)
 ·have H := zI h1 H
  refine lA 4 ?_
  refine sL 2178 2 ⟨26,0,[sB 11 (!x0.Up),sB 7 false,sA 1 1 8 0],[(1,(Pt.row x0))]⟩ ?_
  cases h2 : (!x0.Up)
  ·have H := zI h2 H
   refine uA 4 32770 2 ?_
   refine nB_ ?_
   refine tK ?_
   refine tS ?_
   refine gA 3 262146 2 ?_
   obtain ⟨h3,H⟩ | ⟨h3,H⟩ := bC H
   ·refine nA h3 ?_
    refine tK ?_
    refine rA 2 ?_
    obtain ⟨r2,er2,H⟩ := bs H
    refine vA [.rd] (zCc n x0.Hd r2 er2) ?_
    refine uA 1 4 0 ?_
    exact te (fJ [(false,[cB r2])] H)
   refine tA h3 ?_
   refine rA 3 ?_
   refine LAt.eqSG false (t := 35) (ty := 35) (ty' := 4) (x := (.tmp 20)) (y := (.tmp 21)) (d := 22) (g := none) ((x0.Hd.Root == 0) && ((x0.Hd.Co == 0) && ((x0.Hd.Hops == 0) && ((x0.Hd.Bridge == 0) && ((x0.Hd.Port == 0) && true))))) _ kr kr kr kr rfl ?_
   refine uA 1 4 0 ?_
   exact te (fJ [(false,[cB ((x0.Hd.Root == 0) && ((x0.Hd.Co == 0) && ((x0.Hd.Hops == 0) && ((x0.Hd.Bridge == 0) && ((x0.Hd.Port == 0) && true)))))])] H)
  have H := zJ h2 H
  refine uA 4 32770 2 ?_
  refine sT ⟨26,0,[sB 15 x0.Has,sA 1 1 8 0],[(1,(Pt.row x0))]⟩ ?_
  cases h4 : x0.Has
  ·have H := zI h4 H
   refine nB_ ?_
   refine tK ?_
   refine tS ?_
   refine gA 3 262146 2 ?_
   refine sT ⟨26,0,[sB 18 (!x0.Has),sA 1 1 8 0],[(1,(Pt.row x0))]⟩ ?_
   rw [h4]
   refine tB_ ?_
   refine rA 3 ?_
   refine LAt.eqSG false (t := 35) (ty := 35) (ty' := 4) (x := (.tmp 20)) (y := (.tmp 21)) (d := 22) (g := none) ((x0.Hd.Root == 0) && ((x0.Hd.Co == 0) && ((x0.Hd.Hops == 0) && ((x0.Hd.Bridge == 0) && ((x0.Hd.Port == 0) && true))))) _ kr kr kr kr rfl ?_
   refine uA 1 4 0 ?_
   exact te (fJ [(false,[cB ((x0.Hd.Root == 0) && ((x0.Hd.Co == 0) && ((x0.Hd.Hops == 0) && ((x0.Hd.Bridge == 0) && ((x0.Hd.Port == 0) && true)))))])] H)
  have H := zJ h4 H
  refine tB_ ?_
  refine gA 1 4 0 ?_
  exact te (fF H)
 have H := zJ h1 H
 refine uA 8 32770 2 ?_
 refine tB_ ?_
 refine gA 1 4 0 ?_
 exact te (fF H)
def QA (n : Nat) (x0 : zD) : Option (Bool) :=
  ((zQ n x0.Tk 0 1000000).bind fun r1 => (bif r1 then ((zQ n x0.Pa 0 1000000).bind fun r2 => (bif r2 then ((zQ n x0.Wo 0 1000000).bind fun r3 => (bif r3 then ((zQ n x0.Dr 0 1000000).bind fun r4 => (bif r4 then ((zQ n x0.Ve 0 1000000).bind fun r5 => (some r5)) else (some false))) else (some false))) else (some false))) else (some false)))
theorem zFH (n : Nat) (x0 : zD) (r : Bool) (H : QA n x0 = some r) : zG Try.prog 163 [.val true (CV.frzRow (zD.row x0))] [.val false [.lit (.bool r)]] [] := by
 refine cW Try.func163 (fun g d => sl [g 0,g 1] .ret) [.tmp 2] fun cx => ?_
 unfold QA at H
 refine gA 2 2 2 ?_
 refine rA 2 ?_
 obtain ⟨r1,er1,H⟩ := bs H
 refine vA [.rd,.rd,.rd] (zP n x0.Tk 0 1000000 r1 er1) ?_
 refine lA 1 ?_
 refine sL 66 2 ⟨26,0,[sB 6 r1,sA 1 1 11 0],[(1,(CV.frzRow (zD.row x0)))]⟩ ?_
 cases h1 : r1
 ·have H := zI h1 H
  refine uA 20 4 0 ?_
  exact te (fF H)
 have H := zJ h1 H
 refine lA 2 ?_
 obtain ⟨r2,er2,H⟩ := bs H
 refine vA [.rd,.rd,.rd] (zP n x0.Pa 0 1000000 r2 er2) ?_
 refine lA 2 ?_
 refine sL 2050 2 ⟨26,0,[sB 11 r2,sA 1 1 11 0],[(1,(CV.frzRow (zD.row x0)))]⟩ ?_
 cases h2 : r2
 ·have H := zI h2 H
  refine uA 15 4 0 ?_
  exact te (fF H)
 have H := zJ h2 H
 refine lA 2 ?_
 obtain ⟨r3,er3,H⟩ := bs H
 refine vA [.rd,.rd,.rd] (zP n x0.Wo 0 1000000 r3 er3) ?_
 refine lA 2 ?_
 refine sL 65538 2 ⟨26,0,[sB 16 r3,sA 1 1 11 0],[(1,(CV.frzRow (zD.row x0)))]⟩ ?_
 cases h3 : r3
 ·have H := zI h3 H
  refine uA 10 4 0 ?_
  exact te (fF H)
 have H := zJ h3 H
 refine lA 2 ?_
 obtain ⟨r4,er4,H⟩ := bs H
 refine vA [.rd,.rd,.rd] (zP n x0.Dr 0 1000000 r4 er4) ?_
 refine lA 2 ?_
 refine sL 2097154 2 ⟨26,0,[sB 21 r4,sA 1 1 11 0],[(1,(CV.frzRow (zD.row x0)))]⟩ ?_
 cases h4 : r4
 ·have H := zI h4 H
  refine uA 5 4 0 ?_
  exact te (fF H)
 have H := zJ h4 H
 refine lA 2 ?_
 obtain ⟨r5,er5,H⟩ := bs H
 refine vA [.rd,.rd,.rd] (zP n x0.Ve 0 1000000 r5 er5) ?_
 refine uA 2 4 0 ?_
 exact te (fJ [(false,[cB r5])] H)
def ZS (n : Nat) (x0 : zD) : Option (Bool) :=
  ((zQ n x0.Id 1 99).bind fun r2 => (bif r2 then (bif (decide ((x0.Name.size : Int) ≤ 10)) then ((zQ n (x0.Ps.length : Int) 1 6).bind fun r3 => (bif r3 then ((qX n x0.F).bind fun r4 => (bif r4 then ((zh n x0.V (x0.Ps.length : Int)).bind fun r5 => (bif r5 then ((QA n x0).bind fun r6 => (some r6)) else (some false))) else (some false))) else (some false))) else (some false)) else (some false)))
def zd (n : Nat) : Nat → zD → Int → Option ((Unit) ⊕ (Bool))
  | 0,_,_ => none
  | mo7 + 1,x0,y1 => (bif (decide (y1 < (x0.Ps.length : Int))) then ((idx x0.Ps y1).bind fun v8 => ((qG n v8).bind fun r9 => (bif (!r9) then (some (Sum.inr false)) else (zd n mo7 x0 (IntKind.wrap .i64 (y1 + 1)))))) else (some (Sum.inl ())))
def qL (n : Nat) (x0 : zD) : Option (Bool) :=
  ((zd n n x0 0).bind fun o => match o with | .inl _ => (ZS n x0) | .inr r => some r)
theorem zFp (n : Nat) (x0 : zD) (r : Bool) (H : qL n x0 = some r) : zG Try.prog 139 [.val true (CV.frzRow (zD.row x0))] [.val false [.lit (.bool r)]] [] := by
 refine cW Try.func139 (fun g d => sl [g 0,sl [g 1] (.block 0 (.loop (sl [sl [g 2] (cn 8 .skip (.exit 0)),.block 1 (sl [g 4] (cn 17 (sl [g 5] .ret) .skip))] (g 3)))),g 6] .ret) [.tmp 2] fun cx => ?_
 unfold qL at H
 refine gA 2 2 2 ?_
 refine tS ?_
 refine gA 1 10 2 ?_
 obtain ⟨o7,eo7,Ho7⟩ := bs H
 clear H
 refine Tr.mid (ι := Unit) (fun v => ⟨50,0,[sA 1 1 11 0],[(1,(CV.frzRow (zD.row x0)))]⟩) (fun v => ZS n x0 = some r) ?_ ?_
 ·refine tB ?_
  refine Tr.loop (ι := Nat × (Int)) (fun v => ⟨50,0,[sI 3 v.2,sA 1 1 11 0],[(1,(CV.frzRow (zD.row x0)))]⟩) (fun v => zd n v.1 x0 v.2 = some o7) (fun v => v.1) (n,0) eo7 (St.sub_of [3,1] [1] kr) ?_
  rintro ⟨mo7,y1⟩ H
  have H : zd n mo7 x0 y1 = some o7 := H
  obtain _ | mo7 := mo7
  ·exact nN H
  rw [zd] at H
  refine tS ?_
  refine rA 3 ?_
  refine kF x0.Ps Pt.row ?_
  refine uA 1 266 2 ?_
  obtain ⟨h6,H⟩ | ⟨h6,H⟩ := bC H
  ·refine nA h6 ?_
   refine Tr.exit ?_
   refine aJ ?_
   obtain rfl := si H
   have H := Ho7
   dsimp only at H
   exact jA () H [1] [1]
  refine tA h6 ?_
  refine tK ?_
  refine tS ?_
  refine tB ?_
  refine rA 3 ?_
  obtain ⟨v8,ev8,H⟩ := bs H
  refine iA Pt.row ev8 ?_
  refine lA 1 ?_
  obtain ⟨r9,er9,H⟩ := bs H
  refine vA [.rd] (zIE n v8 r9 er9) ?_
  refine uA 1 131082 2 ?_
  obtain ⟨h7,H⟩ | ⟨h7,H⟩ := bC H
  ·refine nA h7 ?_
   refine tK ?_
   refine eA 3 10 2 ?_
   exact jB mo7 (IntKind.wrap .i64 (y1 + 1)) H [3,1] [1]
  refine tA h7 ?_
  refine gA 1 4 0 ?_
  refine te ?_
  obtain rfl := si H
  have H := Ho7
  dsimp only at H
  exact fF H
 rintro _ H
 have H : (ZS n x0) = some r := H
 unfold ZS at H
 refine rA 2 ?_
 obtain ⟨r2,er2,H⟩ := bs H
 refine vA [.rd,.rd,.rd] (zP n x0.Id 1 99 r2 er2) ?_
 refine lA 1 ?_
 refine sL 2097154 2 ⟨50,0,[sB 21 r2,sA 1 1 11 0],[(1,(CV.frzRow (zD.row x0)))]⟩ ?_
 cases h1 : r2
 ·have H := zI h1 H
  refine uA 29 4 0 ?_
  exact te (fF H)
 have H := zJ h1 H
 refine lA 6 ?_
 refine sL 134217730 2 ⟨50,0,[sB 27 (decide ((x0.Name.size : Int) ≤ 10)),sA 1 1 11 0],[(1,(CV.frzRow (zD.row x0)))]⟩ ?_
 cases h2 : (decide ((x0.Name.size : Int) ≤ 10))
 ·have H := zI h2 H
  refine uA 23 4 0 ?_
  exact te (fF H)
 have H := zJ h2 H
 refine lA 2 ?_
 refine kF x0.Ps Pt.row ?_
 obtain ⟨r3,er3,H⟩ := bs H
 refine vA [.rd,.rd,.rd] (zP n (x0.Ps.length : Int) 1 6 r3 er3) ?_
 refine lA 2 ?_
 refine sL 8589934594 2 ⟨50,0,[sB 33 r3,sA 1 1 11 0],[(1,(CV.frzRow (zD.row x0)))]⟩ ?_
 cases h3 : r3
 ·have H := zI h3 H
  refine uA 17 4 0 ?_
  exact te (fF H)
 have H := zJ h3 H
 refine lA 2 ?_
 obtain ⟨r4,er4,H⟩ := bs H
 refine vA [.rd] (zCb n x0.F r4 er4) ?_
 refine lA 2 ?_
 refine sL 274877906946 2 ⟨50,0,[sB 38 r4,sA 1 1 11 0],[(1,(CV.frzRow (zD.row x0)))]⟩ ?_
 cases h4 : r4
 ·have H := zI h4 H
  refine uA 12 4 0 ?_
  exact te (fF H)
 have H := zJ h4 H
 refine lA 4 ?_
 refine kF x0.Ps Pt.row ?_
 obtain ⟨r5,er5,H⟩ := bs H
 refine vA [.rd,.rd] (JL n x0.V (x0.Ps.length : Int) r5 er5) ?_
 refine lA 2 ?_
 refine sL 70368744177666 2 ⟨50,0,[sB 46 r5,sA 1 1 11 0],[(1,(CV.frzRow (zD.row x0)))]⟩ ?_
 cases h5 : r5
 ·have H := zI h5 H
  refine uA 4 4 0 ?_
  exact te (fF H)
 have H := zJ h5 H
 refine lA 1 ?_
 obtain ⟨r6,er6,H⟩ := bs H
 refine vA [.rd] (zFH n x0 r6 er6) ?_
 refine uA 2 4 0 ?_
 exact te (fJ [(false,[cB r6])] H)
def Q1 (n : Nat) (x0 : zD) (x1 : Int) : Option (Bool) :=
  ((qL n x0).bind fun r1 => (bif r1 then ((zQ n x1 0 (IntKind.wrap .i64 ((x0.Ps.length : Int) - 1))).bind fun r2 => (some r2)) else (some false)))
theorem zFu (n : Nat) (x0 : zD) (x1 : Int) (r : Bool) (H : Q1 n x0 x1 = some r) : zG Try.prog 78 [.val true (CV.frzRow (zD.row x0)),.val false [.lit (.int .i64 x1)]] [.val false [.lit (.bool r)]] [] := by
 refine cW Try.func78 (fun g d => sl [g 0,g 1] .ret) [.tmp 4] fun cx => ?_
 unfold Q1 at H
 refine gA 2 6 4 ?_
 refine rA 1 ?_
 obtain ⟨r1,er1,H⟩ := bs H
 refine vA [.rd] (zFp n x0 r1 er1) ?_
 refine lA 1 ?_
 refine sL 134 4 ⟨15,0,[sB 7 r1,sA 2 2 11 0,sI 1 x1],[(2,(CV.frzRow (zD.row x0)))]⟩ ?_
 cases h1 : r1
 ·have H := zI h1 H
  refine uA 8 16 0 ?_
  exact te (fF H)
 have H := zJ h1 H
 refine lA 3 ?_
 refine kF x0.Ps Pt.row ?_
 refine lA 1 ?_
 obtain ⟨r2,er2,H⟩ := bs H
 refine vA [.rd,.rd,.rd] (zP n x1 0 (IntKind.wrap .i64 ((x0.Ps.length : Int) - 1)) r2 er2) ?_
 refine uA 2 16 0 ?_
 exact te (fJ [(false,[cB r2])] H)
def qj (n : Nat) (x0 : Frame) : Option (Bool) :=
  ((zQ n x0.Dst 0 9999).bind fun r1 => (bif r1 then ((zQ n x0.Src 1 9999).bind fun r2 => (bif r2 then ((zQ n x0.Tag 0 99).bind fun r3 => (bif r3 then (some (decide ((x0.Data.length : Int) ≤ 20))) else (some false))) else (some false))) else (some false)))
theorem zGV (n : Nat) (x0 : Frame) (r : Bool) (H : qj n x0 = some r) : zG Try.prog 79 [.val true (CV.frzRow (Frame.row x0))] [.val false [.lit (.bool r)]] [] := by
 refine cW Try.func79 (fun g d => sl [g 0,g 1] .ret) [.tmp 2] fun cx => ?_
 unfold qj at H
 refine gA 2 2 2 ?_
 refine rA 2 ?_
 obtain ⟨r1,er1,H⟩ := bs H
 refine vA [.rd,.rd,.rd] (zP n x0.Dst 0 9999 r1 er1) ?_
 refine lA 1 ?_
 refine sL 66 2 ⟨22,0,[sB 6 r1,sA 1 1 4 0],[(1,(CV.frzRow (Frame.row x0)))]⟩ ?_
 cases h1 : r1
 ·have H := zI h1 H
  refine uA 16 4 0 ?_
  exact te (fF H)
 have H := zJ h1 H
 refine lA 2 ?_
 obtain ⟨r2,er2,H⟩ := bs H
 refine vA [.rd,.rd,.rd] (zP n x0.Src 1 9999 r2 er2) ?_
 refine lA 2 ?_
 refine sL 2050 2 ⟨22,0,[sB 11 r2,sA 1 1 4 0],[(1,(CV.frzRow (Frame.row x0)))]⟩ ?_
 cases h2 : r2
 ·have H := zI h2 H
  refine uA 11 4 0 ?_
  exact te (fF H)
 have H := zJ h2 H
 refine lA 2 ?_
 obtain ⟨r3,er3,H⟩ := bs H
 refine vA [.rd,.rd,.rd] (zP n x0.Tag 0 99 r3 er3) ?_
 refine lA 2 ?_
 refine sL 65538 2 ⟨22,0,[sB 16 r3,sA 1 1 4 0],[(1,(CV.frzRow (Frame.row x0)))]⟩ ?_
 cases h3 : r3
 ·have H := zI h3 H
  refine uA 6 4 0 ?_
  exact te (fF H)
 have H := zJ h3 H
 refine lA 2 ?_
 refine kF x0.Data zN ?_
 refine uA 3 4 0 ?_
 exact te (fJ [(false,[cB (decide ((x0.Data.length : Int) ≤ 20))])] H)
def Qg (n : Nat) (x0 : Vec) (x1 : Int) : Option (Vec × Bool) :=
  ((qf n x0).bind fun r1 => (bif (!r1) then (some (x0,false)) else ((zQ n x1 1 1000).bind fun r2 => (bif (!r2) then (some (x0,false)) else ((qf n (⟨x0.Root,(IntKind.wrap .i64 (x0.Co + x1)),(IntKind.wrap .i64 (x0.Hops + 1)),x0.Bridge,x0.Port⟩ : Vec)).bind fun r3 => (bif (!r3) then (some (x0,false)) else (some ((⟨x0.Root,(IntKind.wrap .i64 (x0.Co + x1)),(IntKind.wrap .i64 (x0.Hops + 1)),x0.Bridge,x0.Port⟩ : Vec),true))))))))
theorem zDC (n : Nat) (x0 : Vec) (x1 : Int) (r : Vec × Bool) (H : Qg n x0 x1 = some r) : zG Try.prog 179 [.val true (CV.frzRow (Vec.row x0)),.val false [.lit (.int .i64 x1)]] [.val true (Vec.row r.1),.val false [.lit (.bool r.2)]] [] := by
 refine cW Try.func179 (fun g d => sl [g 0,sl [g 1] (cn 14 (sl [g 2] .ret) .skip),g 3,g 4,g 5,sl [g 6] (cn 28 (sl [g 7] .ret) .skip),g 8] .ret) [.cell 4 35,.tmp 5] fun cx => ?_
 unfold Qg at H
 refine gA 3 22 20 ?_
 refine tS ?_
 refine rA 1 ?_
 obtain ⟨r1,er1,H⟩ := bs H
 refine vA [.rd] (zCc n x0 r1 er1) ?_
 refine lA 2 ?_
 refine sL 1046 20 ⟨31,0,[sB 10 (!r1),sA 4 4 5 0,sA 2 2 5 0,sI 1 x1],[(4,[cI 0,cI 0,cI 0,cI 0,cI 0]),(2,(Vec.row x0))]⟩ ?_
 cases h1 : (!r1)
 ·have H := zI h1 H
  refine lA 1 ?_
  obtain ⟨r2,er2,H⟩ := bs H
  refine vA [.rd,.rd,.rd] (zP n x1 1 1000 r2 er2) ?_
  refine uA 2 16406 20 ?_
  obtain ⟨h2,H⟩ | ⟨h2,H⟩ := bC H
  ·refine nA h2 ?_
   refine tK ?_
   refine gA 3 86 84 ?_
   refine gA 6 84 84 ?_
   refine gA 5 84 84 ?_
   refine tS ?_
   refine rA 1 ?_
   obtain ⟨r3,er3,H⟩ := bs H
   refine vA [.rd] (zCc n (⟨x0.Root,(IntKind.wrap .i64 (x0.Co + x1)),(IntKind.wrap .i64 (x0.Hops + 1)),x0.Bridge,x0.Port⟩ : Vec) r3 er3) ?_
   refine uA 1 268435540 84 ?_
   obtain ⟨h3,H⟩ | ⟨h3,H⟩ := bC H
   ·refine nA h3 ?_
    refine tK ?_
    refine gA 3 48 16 ?_
    exact te (fJ [(true,[cI x0.Root,cI (IntKind.wrap .i64 (x0.Co + x1)),cI (IntKind.wrap .i64 (x0.Hops + 1)),cI x0.Bridge,cI x0.Port]),(false,[cB true])] H)
   refine tA h3 ?_
   refine gA 3 48 16 ?_
   exact te (fJ [(true,(Vec.row x0)),(false,[cB false])] H)
  refine tA h2 ?_
  refine gA 3 48 16 ?_
  exact te (fJ [(true,(Vec.row x0)),(false,[cB false])] H)
 have H := zJ h1 H
 refine uA 4 16406 20 ?_
 refine tB_ ?_
 refine gA 3 48 16 ?_
 exact te (fJ [(true,(Vec.row x0)),(false,[cB false])] H)
def QF (n : Nat) (x0 : Vec) (x1 : Vec) : Option (Bool) :=
  (bif (x0.Root != x1.Root) then (some (decide (x0.Root < x1.Root))) else (bif (x0.Co != x1.Co) then (some (decide (x0.Co < x1.Co))) else (bif (x0.Bridge != x1.Bridge) then (some (decide (x0.Bridge < x1.Bridge))) else (some (decide (x0.Port < x1.Port))))))
theorem zDA (n : Nat) (x0 : Vec) (x1 : Vec) (r : Bool) (H : QF n x0 x1 = some r) : zG Try.prog 165 [.val true (CV.frzRow (Vec.row x0)),.val true (CV.frzRow (Vec.row x1))] [.val false [.lit (.bool r)]] [] := by
 refine cW Try.func165 (fun g d => sl [g 0,.block 0 (sl [g 1] (cn 5 (sl [g 2] .ret) (sl [g 3] (cn 16 (sl [g 4] .ret) (sl [g 5] (cn 27 (sl [g 6] .ret) .skip)))))),g 7] .ret) [.tmp 4] fun cx => ?_
 unfold QF at H
 refine gA 3 12 12 ?_
 refine tS ?_
 refine tB ?_
 refine gA 6 44 12 ?_
 obtain ⟨h1,H⟩ | ⟨h1,H⟩ := bC H
 ·refine nA h1 ?_
  refine gA 6 65548 12 ?_
  obtain ⟨h2,H⟩ | ⟨h2,H⟩ := bC H
  ·refine nA h2 ?_
   refine gA 6 134217740 12 ?_
   obtain ⟨h3,H⟩ | ⟨h3,H⟩ := bC H
   ·refine nA h3 ?_
    refine tK ?_
    refine gA 6 16 0 ?_
    exact te (fJ [(false,[cB (decide (x0.Port < x1.Port))])] H)
   refine tA h3 ?_
   refine gA 6 16 0 ?_
   exact te (fJ [(false,[cB (decide (x0.Bridge < x1.Bridge))])] H)
  refine tA h2 ?_
  refine gA 6 16 0 ?_
  exact te (fJ [(false,[cB (decide (x0.Co < x1.Co))])] H)
 refine tA h1 ?_
 refine gA 6 16 0 ?_
 exact te (fJ [(false,[cB (decide (x0.Root < x1.Root))])] H)
def YZ (n : Nat) (x0 : Int) (y11 : Int) (y12 : Int) (y13 : Int) (y14 : Int) : Option (Vec × Int) :=
  (some ((⟨y12,y13,y14,x0,0⟩ : Vec),y11))
def qp (n : Nat) (k : (Int × Int × Int × Int × Int × Int × Int × Int × Int × Int → Option ((Int × Int × Int × Int) ⊕ (Vec × Int)))) (r20 : Vec × Bool) (y1 : Int) (y10 : Int) (y2 : Int) (y3 : Int) (y4 : Int) (y5 : Int) (y6 : Int) (y7 : Int) (y8 : Int) (y9 : Int) (y21 : Bool) (y22 : Bool) (y23 : Bool) (y24 : Bool) (y25 : Bool) (y26 : Bool) (y27 : Bool) : Option ((Int × Int × Int × Int) ⊕ (Vec × Int)) :=
  (bif y21 then (k ((IntKind.wrap .i64 (y1 + 1)),y1,r20.1.Root,r20.1.Co,r20.1.Hops,r20.1.Bridge,r20.1.Port,r20.1.Root,r20.1.Co,r20.1.Hops)) else (k ((IntKind.wrap .i64 (y1 + 1)),y2,y3,y4,y5,y6,y7,y8,y9,y10)))
def zw (n : Nat) : Nat → Int → (List Pt) → Int → Int → Int → Int → Int → Int → Int → Int → Int → Int → Option ((Int × Int × Int × Int) ⊕ (Vec × Int))
  | 0,_,_,_,_,_,_,_,_,_,_,_,_ => none
  | mo15 + 1,x0,x1,y1,y2,y3,y4,y5,y6,y7,y8,y9,y10 => (bif (decide (y1 < (x1.length : Int))) then ((idx x1 y1).bind fun v16 => (bif (!v16.Up) then (zw n mo15 x0 x1 (IntKind.wrap .i64 (y1 + 1)) y2 y3 y4 y5 y6 y7 y8 y9 y10) else ((idx x1 y1).bind fun v17 => (bif (!v17.Has) then (zw n mo15 x0 x1 (IntKind.wrap .i64 (y1 + 1)) y2 y3 y4 y5 y6 y7 y8 y9 y10) else ((idx x1 y1).bind fun v18 => ((idx x1 y1).bind fun v19 => ((Qg n v18.Hd v19.Co).bind fun r20 => (bif r20.2 then (bif (decide (r20.1.Root < x0)) then (bif (decide (y2 < 0)) then (qp n (fun v => zw n mo15 x0 x1 v.1 v.2.1 v.2.2.1 v.2.2.2.1 v.2.2.2.2.1 v.2.2.2.2.2.1 v.2.2.2.2.2.2.1 v.2.2.2.2.2.2.2.1 v.2.2.2.2.2.2.2.2.1 v.2.2.2.2.2.2.2.2.2) r20 y1 y10 y2 y3 y4 y5 y6 y7 y8 y9 true true true true true true true) else ((QF n r20.1 (⟨y3,y4,y5,y6,y7⟩ : Vec)).bind fun r28 => (qp n (fun v => zw n mo15 x0 x1 v.1 v.2.1 v.2.2.1 v.2.2.2.1 v.2.2.2.2.1 v.2.2.2.2.2.1 v.2.2.2.2.2.2.1 v.2.2.2.2.2.2.2.1 v.2.2.2.2.2.2.2.2.1 v.2.2.2.2.2.2.2.2.2) r20 y1 y10 y2 y3 y4 y5 y6 y7 y8 y9 r28 true true true true true true))) else (qp n (fun v => zw n mo15 x0 x1 v.1 v.2.1 v.2.2.1 v.2.2.2.1 v.2.2.2.2.1 v.2.2.2.2.2.1 v.2.2.2.2.2.2.1 v.2.2.2.2.2.2.2.1 v.2.2.2.2.2.2.2.2.1 v.2.2.2.2.2.2.2.2.2) r20 y1 y10 y2 y3 y4 y5 y6 y7 y8 y9 false false false true true true true)) else (qp n (fun v => zw n mo15 x0 x1 v.1 v.2.1 v.2.2.1 v.2.2.2.1 v.2.2.2.2.1 v.2.2.2.2.2.1 v.2.2.2.2.2.2.1 v.2.2.2.2.2.2.2.1 v.2.2.2.2.2.2.2.2.1 v.2.2.2.2.2.2.2.2.2) r20 y1 y10 y2 y3 y4 y5 y6 y7 y8 y9 false false false false false false false))))))))) else (some (Sum.inl (y2,y8,y9,y10))))
def Zq (n : Nat) (x0 : Int) (x1 : (List Pt)) : Option (Vec × Int) :=
  ((zw n n x0 x1 0 (-1) 0 0 0 0 0 x0 0 0).bind fun o => match o with | .inl (y11,y12,y13,y14) => (YZ n x0 y11 y12 y13 y14) | .inr r => some r)
def zJH : Tab := ⟨17,[0,0,3,4,8,0,0,96,128,256,528,1024,2048,2048,0,24575,65535],[0,0,3,4,8,0,0,96,128,256,528,1024,2048,2048,0,20480,8192],[0,0,3,7,15,0,0,96,224,480,1023,2047,4095,4095,0,24575,65535]⟩
theorem ZT : z6 (rg Try.f164 8) zJH = true := kr
theorem zC9 (n : Nat) (x0 : Int) (x1 : (List Pt)) (r : Vec × Int) (H : Zq n x0 x1 = some r) : zG Try.prog 164 [.val false [.lit (.int .i64 x0)],.val false [.sl false 8 (CV.frzEs (x1.map Pt.row))]] [.val true (Vec.row r.1),.val false [.lit (.int .i64 r.2)]] [] := by
 refine cW Try.func164 (fun g d => sl [g 0,g 1,g 2,g 3,sl [g 4] (.block 0 (.loop (sl [sl [g 5] (cn 19 .skip (.exit 0)),.block 1 (sl [sl [g 7] (cn 35 (.exit 1) .skip),d 8,g 9] (cn 65 (sl [g 10,g 11] (g 12)) .skip))] (g 6)))),g 13] .ret) [.cell 4 35,.tmp 5] fun cx => ?_
 unfold Zq at H
 refine gA 2 51 16 ?_
 refine gA 5 115 80 ?_
 refine gA 3 243 208 ?_
 refine gA 1 499 208 ?_
 refine tS ?_
 refine gA 1 1011 208 ?_
 obtain ⟨o15,eo15,Ho15⟩ := bs H
 clear H
 refine Tr.mid (ι := Int × Int × Int × Int) (fun v => ⟨78,0,[sI 8 v.1,sA 6 6 5 0,sI 5 0,sA 4 4 5 0],[(6,[cI v.2.1,cI v.2.2.1,cI v.2.2.2,cI x0,cI 0]),(4,[cI 0,cI 0,cI 0,cI 0,cI 0])]⟩) (fun v => YZ n x0 v.1 v.2.1 v.2.2.1 v.2.2.2 = some r) ?_ ?_
 ·refine tB ?_
  refine Tr.loop (ι := Nat × (Int × Int × Int × Int × Int × Int × Int × Int × Int × Int)) (fun v => ⟨78,0,[sI 9 v.2.1,sI 8 v.2.2.1,sA 7 7 5 0,sA 6 6 5 0,sI 5 0,sA 4 4 5 0,sI 0 x0,sC 1 (cF 8 x1 Pt.row)],[(7,[cI v.2.2.2.1,cI v.2.2.2.2.1,cI v.2.2.2.2.2.1,cI v.2.2.2.2.2.2.1,cI v.2.2.2.2.2.2.2.1]),(6,[cI v.2.2.2.2.2.2.2.2.1,cI v.2.2.2.2.2.2.2.2.2.1,cI v.2.2.2.2.2.2.2.2.2.2,cI x0,cI 0]),(4,[cI 0,cI 0,cI 0,cI 0,cI 0])]⟩) (fun v => zw n v.1 x0 x1 v.2.1 v.2.2.1 v.2.2.2.1 v.2.2.2.2.1 v.2.2.2.2.2.1 v.2.2.2.2.2.2.1 v.2.2.2.2.2.2.2.1 v.2.2.2.2.2.2.2.2.1 v.2.2.2.2.2.2.2.2.2.1 v.2.2.2.2.2.2.2.2.2.2 = some o15) (fun v => v.1) (n,(0,(-1),0,0,0,0,0,x0,0,0)) eo15 (St.sub_of [9,8,7,6,5,4,0,1] [7,6,4] kr) ?_
  rintro ⟨mo15,y1,y2,y3,y4,y5,y6,y7,y8,y9,y10⟩ H
  have H : zw n mo15 x0 x1 y1 y2 y3 y4 y5 y6 y7 y8 y9 y10 = some o15 := H
  obtain _ | mo15 := mo15
  ·exact nN H
  rw [zw] at H
  refine tS ?_
  refine rA 2 ?_
  refine kF x1 Pt.row ?_
  refine uA 1 984051 208 ?_
  obtain ⟨h1,H⟩ | ⟨h1,H⟩ := bC H
  ·refine nA h1 ?_
   refine Tr.exit ?_
   refine aJ ?_
   obtain rfl := si H
   have H := Ho15
   dsimp only at H
   exact jA (y2,y8,y9,y10) H [8,6,5,4] [6,4]
  refine tA h1 ?_
  refine tK ?_
  refine tS ?_
  refine tB ?_
  refine tS ?_
  refine rA 2 ?_
  obtain ⟨v16,ev16,H⟩ := bs H
  refine iA Pt.row ev16 ?_
  refine lA 4 ?_
  refine sL 533660659 208 ⟨78,0,[sB 28 (!v16.Up),sB 27 (!v16.Up),sB 26 v16.Up,(25,.fad ((Pt.row v16))),(24,.fad ((Pt.row v16))),sI 23 y1,sC 22 (cF 8 x1 Pt.row),sB 19 (decide (y1 < (x1.length : Int))),sI 18 (x1.length : Int),sC 17 (cF 8 x1 Pt.row),sI 16 y1,sI 9 y1,sI 8 y2,sA 7 7 5 0,sA 6 6 5 0,sI 5 0,sA 4 4 5 0,sI 0 x0,sC 1 (cF 8 x1 Pt.row)],[(7,[cI y3,cI y4,cI y5,cI y6,cI y7]),(6,[cI y8,cI y9,cI y10,cI x0,cI 0]),(4,[cI 0,cI 0,cI 0,cI 0,cI 0])]⟩ ?_
  cases h2 : (!v16.Up)
  ·have H := zI h2 H
   refine lA 2 ?_
   obtain ⟨v17,ev17,H⟩ := bs H
   refine iA Pt.row ev17 ?_
   refine uA 4 68716266483 208 ?_
   obtain ⟨h3,H⟩ | ⟨h3,H⟩ := bC H
   ·refine nA h3 ?_
    refine tK ?_
    obtain ⟨v18,ev18,H⟩ := bs H
    obtain ⟨v19,ev19,H⟩ := bs H
    obtain ⟨r20,er20,H⟩ := bs H
    refine Tr.draws mixed 17 kr ⟨78,0,[sB 11 r20.2,sA 10 10 5 0,sB 49 r20.2,(36,.tup [(true,[.dead,.dead,.dead,.dead,.dead]),(false,[.dead])]),sV 48 (Vec.row r20.1),sI 46 v19.Co,(45,.fad (((Pt.row v19).drop 1))),(44,.fad ((Pt.row v19))),sI 43 y1,sC 42 (cF 8 x1 Pt.row),sV 41 ((Pt.row v18).drop 3),(40,.fad (((Pt.row v18).drop 3))),(39,.fad ((Pt.row v18))),sI 38 y1,sC 37 (cF 8 x1 Pt.row),sB 35 (!v17.Has),sB 34 (!v17.Has),sB 33 v17.Has,(32,.fad (((Pt.row v17).drop 2))),(31,.fad ((Pt.row v17))),sI 30 y1,sC 29 (cF 8 x1 Pt.row),sB 28 false,sB 27 false,sB 26 v16.Up,(25,.fad ((Pt.row v16))),(24,.fad ((Pt.row v16))),sI 23 y1,sC 22 (cF 8 x1 Pt.row),sB 19 (decide (y1 < (x1.length : Int))),sI 18 (x1.length : Int),sC 17 (cF 8 x1 Pt.row),sI 16 y1,sI 9 y1,sI 8 y2,sA 7 7 5 0,sA 6 6 5 0,sI 5 0,sA 4 4 5 0,sI 0 x0,sC 1 (cF 8 x1 Pt.row)],[(10,(Vec.row r20.1)),(7,[cI y3,cI y4,cI y5,cI y6,cI y7]),(6,[cI y8,cI y9,cI y10,cI x0,cI 0]),(4,[cI 0,cI 0,cI 0,cI 0,cI 0])]⟩ (fun cx => ?_) ?_
    ·refine mA ZT [(0,[]),(1,[])] 15 [] fun cx => ?_
     refine iN ZT 2 Pt.row ev18 fun cx => ?_
     refine mA ZT [(3,[]),(4,[]),(5,[]),(6,[])] 10 [] fun cx => ?_
     refine iN ZT 7 Pt.row ev19 fun cx => ?_
     refine mA ZT [(8,[]),(9,[])] 7 [] fun cx => ?_
     refine mB2 tOk ZT 10 14 kr (And.intro kr ?_) (And.intro kr ?_)
     ·refine vA [.rd,.rd] (zDC n v18.Hd v19.Co r20 er20) ?_
      refine fA ?_
      refine AT.movT tOk 11 (ty := 177) (t := 47) (d := 36) (g := none) [(true,(Vec.row r20.1)),(false,[cB r20.2])] _ kr (oM ZT kr) (dM ZT kr) (.inl rfl) kr kr kr kr rfl (fun cx => ?_)
      refine mA ZT [(12,[]),(13,[])] 3 [] fun cx => ?_
      refine mC ZT 14 ?_
      refine lA 1 ?_
      refine fA ?_
      refine mC ZT 15 ?_
      refine lA 1 ?_
      refine fA ?_
      refine mA ZT [(16,[])] 0 [] fun cx => ?_
      exact mE ZT [11,10,49,36,48,46,45,44,43,42,41,40,39,38,37,35,34,33,32,31,30,29,28,27,26,25,24,23,22,19,18,17,16,9,8,7,6,5,4,0,1] [10,7,6,4]
     ·refine lA 1 ?_
      refine fA ?_
      refine mC ZT 10 ?_
      refine vA [.rd,.rd] (zDC n v18.Hd v19.Co r20 er20) ?_
      refine fA ?_
      refine AT.movT tOk 11 (ty := 177) (t := 47) (d := 36) (g := none) [(true,(Vec.row r20.1)),(false,[cB r20.2])] _ kr (oM ZT kr) (dM ZT kr) (.inl rfl) kr kr kr kr rfl (fun cx => ?_)
      refine mA ZT [(12,[]),(13,[])] 2 [] fun cx => ?_
      refine mC ZT 15 ?_
      refine lA 1 ?_
      refine fA ?_
      refine mA ZT [(16,[])] 0 [] fun cx => ?_
      exact mE ZT [11,10,49,36,48,46,45,44,43,42,41,40,39,38,37,35,34,33,32,31,30,29,28,27,26,25,24,23,22,19,18,17,16,9,8,7,6,5,4,0,1] [10,7,6,4]
    refine tS ?_
    refine Tr.mid (ι := Bool × Bool × Bool × Bool × Bool × Bool × Bool) (fun v => ⟨78,0,[sB 65 v.1,sB 57 v.2.1,sB 56 v.2.2.1,sB 51 v.2.2.2.1,sB 50 v.2.2.2.2.1,sB 11 v.2.2.2.2.2.1,sA 10 10 5 0,sB 49 v.2.2.2.2.2.2,(36,.tup [(true,[.dead,.dead,.dead,.dead,.dead]),(false,[.dead])]),sV 48 (Vec.row r20.1),sI 46 v19.Co,(45,.fad (((Pt.row v19).drop 1))),(44,.fad ((Pt.row v19))),sI 43 y1,sC 42 (cF 8 x1 Pt.row),sV 41 ((Pt.row v18).drop 3),(40,.fad (((Pt.row v18).drop 3))),(39,.fad ((Pt.row v18))),sI 38 y1,sC 37 (cF 8 x1 Pt.row),sB 35 false,sB 34 false,sB 33 v17.Has,(32,.fad (((Pt.row v17).drop 2))),(31,.fad ((Pt.row v17))),sI 30 y1,sC 29 (cF 8 x1 Pt.row),sB 28 false,sB 27 false,sB 26 v16.Up,(25,.fad ((Pt.row v16))),(24,.fad ((Pt.row v16))),sI 23 y1,sC 22 (cF 8 x1 Pt.row),sB 19 true,sI 18 (x1.length : Int),sC 17 (cF 8 x1 Pt.row),sI 16 y1,sI 9 y1,sI 8 y2,sA 7 7 5 0,sA 6 6 5 0,sI 5 0,sA 4 4 5 0,sI 0 x0,sC 1 (cF 8 x1 Pt.row)],[(10,(Vec.row r20.1)),(7,[cI y3,cI y4,cI y5,cI y6,cI y7]),(6,[cI y8,cI y9,cI y10,cI x0,cI 0]),(4,[cI 0,cI 0,cI 0,cI 0,cI 0])]⟩) (fun v => qp n (fun v => zw n mo15 x0 x1 v.1 v.2.1 v.2.2.1 v.2.2.2.1 v.2.2.2.2.1 v.2.2.2.2.2.1 v.2.2.2.2.2.2.1 v.2.2.2.2.2.2.2.1 v.2.2.2.2.2.2.2.2.1 v.2.2.2.2.2.2.2.2.2) r20 y1 y10 y2 y3 y4 y5 y6 y7 y8 y9 v.1 v.2.1 v.2.2.1 v.2.2.2.1 v.2.2.2.2.1 v.2.2.2.2.2.1 v.2.2.2.2.2.2 = some o15) ?_ ?_
    ·refine Tr.at ?_
     refine lA 2 ?_
     refine sL 0xf7fffffcf0ff3 1232 ⟨78,0,[sB 51 r20.2,sB 50 r20.2,sB 11 r20.2,sA 10 10 5 0,sB 49 r20.2,(36,.tup [(true,[.dead,.dead,.dead,.dead,.dead]),(false,[.dead])]),sV 48 (Vec.row r20.1),sI 46 v19.Co,(45,.fad (((Pt.row v19).drop 1))),(44,.fad ((Pt.row v19))),sI 43 y1,sC 42 (cF 8 x1 Pt.row),sV 41 ((Pt.row v18).drop 3),(40,.fad (((Pt.row v18).drop 3))),(39,.fad ((Pt.row v18))),sI 38 y1,sC 37 (cF 8 x1 Pt.row),sB 35 (!v17.Has),sB 34 (!v17.Has),sB 33 v17.Has,(32,.fad (((Pt.row v17).drop 2))),(31,.fad ((Pt.row v17))),sI 30 y1,sC 29 (cF 8 x1 Pt.row),sB 28 false,sB 27 false,sB 26 v16.Up,(25,.fad ((Pt.row v16))),(24,.fad ((Pt.row v16))),sI 23 y1,sC 22 (cF 8 x1 Pt.row),sB 19 (decide (y1 < (x1.length : Int))),sI 18 (x1.length : Int),sC 17 (cF 8 x1 Pt.row),sI 16 y1,sI 9 y1,sI 8 y2,sA 7 7 5 0,sA 6 6 5 0,sI 5 0,sA 4 4 5 0,sI 0 x0,sC 1 (cF 8 x1 Pt.row)],[(10,(Vec.row r20.1)),(7,[cI y3,cI y4,cI y5,cI y6,cI y7]),(6,[cI y8,cI y9,cI y10,cI x0,cI 0]),(4,[cI 0,cI 0,cI 0,cI 0,cI 0])]⟩ ?_
     cases h5 : r20.2
     ·have H := zI h5 H
      refine uA 14 0x3ffff7fffffcf0ff3 1232 ?_
      refine sB' 0x3ffff7fffffcf0ff3 1232 ⟨78,0,[sB 65 false,(64,.tup []),(63,.tup []),(62,.tup []),(61,.tup []),(60,.tup []),(59,.tup []),(58,.tup []),sB 57 false,sB 56 false,(55,.tup []),(54,.tup []),(53,.tup []),(52,.tup []),sB 51 false,sB 50 false,sB 11 false,sA 10 10 5 0,sB 49 false,(36,.tup [(true,[.dead,.dead,.dead,.dead,.dead]),(false,[.dead])]),sV 48 (Vec.row r20.1),sI 46 v19.Co,(45,.fad (((Pt.row v19).drop 1))),(44,.fad ((Pt.row v19))),sI 43 y1,sC 42 (cF 8 x1 Pt.row),sV 41 ((Pt.row v18).drop 3),(40,.fad (((Pt.row v18).drop 3))),(39,.fad ((Pt.row v18))),sI 38 y1,sC 37 (cF 8 x1 Pt.row),sB 35 (!v17.Has),sB 34 (!v17.Has),sB 33 v17.Has,(32,.fad (((Pt.row v17).drop 2))),(31,.fad ((Pt.row v17))),sI 30 y1,sC 29 (cF 8 x1 Pt.row),sB 28 false,sB 27 false,sB 26 v16.Up,(25,.fad ((Pt.row v16))),(24,.fad ((Pt.row v16))),sI 23 y1,sC 22 (cF 8 x1 Pt.row),sB 19 (decide (y1 < (x1.length : Int))),sI 18 (x1.length : Int),sC 17 (cF 8 x1 Pt.row),sI 16 y1,sI 9 y1,sI 8 y2,sA 7 7 5 0,sA 6 6 5 0,sI 5 0,sA 4 4 5 0,sI 0 x0,sC 1 (cF 8 x1 Pt.row)],[(10,(Vec.row r20.1)),(7,[cI y3,cI y4,cI y5,cI y6,cI y7]),(6,[cI y8,cI y9,cI y10,cI x0,cI 0]),(4,[cI 0,cI 0,cI 0,cI 0,cI 0])]⟩ ?_
      rw [h1]
      rw [h3]
      exact jA (false,false,false,false,false,false,false) H [65,57,56,51,50,11,10,49,36,48,46,45,44,43,42,41,40,39,38,37,35,34,33,32,31,30,29,28,27,26,25,24,23,22,19,18,17,16,9,8,7,6,5,4,0,1] [10,7,6,4]
     have H := zJ h5 H
     refine lA 6 ?_
     refine sL 0x3ff7fffffcf0ff3 1232 ⟨78,0,[sB 57 (decide (r20.1.Root < x0)),sB 56 (decide (r20.1.Root < x0)),sB 55 (decide (r20.1.Root < x0)),sI 54 x0,sI 53 r20.1.Root,sA 52 10 5 0,sB 51 true,sB 50 true,sB 11 true,sA 10 10 5 0,sB 49 true,(36,.tup [(true,[.dead,.dead,.dead,.dead,.dead]),(false,[.dead])]),sV 48 (Vec.row r20.1),sI 46 v19.Co,(45,.fad (((Pt.row v19).drop 1))),(44,.fad ((Pt.row v19))),sI 43 y1,sC 42 (cF 8 x1 Pt.row),sV 41 ((Pt.row v18).drop 3),(40,.fad (((Pt.row v18).drop 3))),(39,.fad ((Pt.row v18))),sI 38 y1,sC 37 (cF 8 x1 Pt.row),sB 35 (!v17.Has),sB 34 (!v17.Has),sB 33 v17.Has,(32,.fad (((Pt.row v17).drop 2))),(31,.fad ((Pt.row v17))),sI 30 y1,sC 29 (cF 8 x1 Pt.row),sB 28 false,sB 27 false,sB 26 v16.Up,(25,.fad ((Pt.row v16))),(24,.fad ((Pt.row v16))),sI 23 y1,sC 22 (cF 8 x1 Pt.row),sB 19 (decide (y1 < (x1.length : Int))),sI 18 (x1.length : Int),sC 17 (cF 8 x1 Pt.row),sI 16 y1,sI 9 y1,sI 8 y2,sA 7 7 5 0,sA 6 6 5 0,sI 5 0,sA 4 4 5 0,sI 0 x0,sC 1 (cF 8 x1 Pt.row)],[(10,(Vec.row r20.1)),(7,[cI y3,cI y4,cI y5,cI y6,cI y7]),(6,[cI y8,cI y9,cI y10,cI x0,cI 0]),(4,[cI 0,cI 0,cI 0,cI 0,cI 0])]⟩ ?_
     cases h6 : (decide (r20.1.Root < x0))
     ·have H := zI h6 H
      refine uA 8 0x3ffff7fffffcf0ff3 1232 ?_
      refine sB' 0x3ffff7fffffcf0ff3 1232 ⟨78,0,[sB 65 false,(64,.tup []),(63,.tup []),(62,.tup []),(61,.tup []),(60,.tup []),(59,.tup []),(58,.tup []),sB 57 false,sB 56 false,sB 55 false,sI 54 x0,sI 53 r20.1.Root,sA 52 10 5 0,sB 51 true,sB 50 true,sB 11 true,sA 10 10 5 0,sB 49 true,(36,.tup [(true,[.dead,.dead,.dead,.dead,.dead]),(false,[.dead])]),sV 48 (Vec.row r20.1),sI 46 v19.Co,(45,.fad (((Pt.row v19).drop 1))),(44,.fad ((Pt.row v19))),sI 43 y1,sC 42 (cF 8 x1 Pt.row),sV 41 ((Pt.row v18).drop 3),(40,.fad (((Pt.row v18).drop 3))),(39,.fad ((Pt.row v18))),sI 38 y1,sC 37 (cF 8 x1 Pt.row),sB 35 (!v17.Has),sB 34 (!v17.Has),sB 33 v17.Has,(32,.fad (((Pt.row v17).drop 2))),(31,.fad ((Pt.row v17))),sI 30 y1,sC 29 (cF 8 x1 Pt.row),sB 28 false,sB 27 false,sB 26 v16.Up,(25,.fad ((Pt.row v16))),(24,.fad ((Pt.row v16))),sI 23 y1,sC 22 (cF 8 x1 Pt.row),sB 19 (decide (y1 < (x1.length : Int))),sI 18 (x1.length : Int),sC 17 (cF 8 x1 Pt.row),sI 16 y1,sI 9 y1,sI 8 y2,sA 7 7 5 0,sA 6 6 5 0,sI 5 0,sA 4 4 5 0,sI 0 x0,sC 1 (cF 8 x1 Pt.row)],[(10,(Vec.row r20.1)),(7,[cI y3,cI y4,cI y5,cI y6,cI y7]),(6,[cI y8,cI y9,cI y10,cI x0,cI 0]),(4,[cI 0,cI 0,cI 0,cI 0,cI 0])]⟩ ?_
      rw [h1]
      rw [h3]
      exact jA (false,false,false,true,true,true,true) H [65,57,56,51,50,11,10,49,36,48,46,45,44,43,42,41,40,39,38,37,35,34,33,32,31,30,29,28,27,26,25,24,23,22,19,18,17,16,9,8,7,6,5,4,0,1] [10,7,6,4]
     have H := zJ h6 H
     refine lA 3 ?_
     refine sL 0x1fff7fffffcf0ff3 1232 ⟨78,0,[sB 60 (decide (y2 < 0)),sB 59 (decide (y2 < 0)),sI 58 y2,sB 57 true,sB 56 true,sB 55 true,sI 54 x0,sI 53 r20.1.Root,sA 52 10 5 0,sB 51 true,sB 50 true,sB 11 true,sA 10 10 5 0,sB 49 true,(36,.tup [(true,[.dead,.dead,.dead,.dead,.dead]),(false,[.dead])]),sV 48 (Vec.row r20.1),sI 46 v19.Co,(45,.fad (((Pt.row v19).drop 1))),(44,.fad ((Pt.row v19))),sI 43 y1,sC 42 (cF 8 x1 Pt.row),sV 41 ((Pt.row v18).drop 3),(40,.fad (((Pt.row v18).drop 3))),(39,.fad ((Pt.row v18))),sI 38 y1,sC 37 (cF 8 x1 Pt.row),sB 35 (!v17.Has),sB 34 (!v17.Has),sB 33 v17.Has,(32,.fad (((Pt.row v17).drop 2))),(31,.fad ((Pt.row v17))),sI 30 y1,sC 29 (cF 8 x1 Pt.row),sB 28 false,sB 27 false,sB 26 v16.Up,(25,.fad ((Pt.row v16))),(24,.fad ((Pt.row v16))),sI 23 y1,sC 22 (cF 8 x1 Pt.row),sB 19 (decide (y1 < (x1.length : Int))),sI 18 (x1.length : Int),sC 17 (cF 8 x1 Pt.row),sI 16 y1,sI 9 y1,sI 8 y2,sA 7 7 5 0,sA 6 6 5 0,sI 5 0,sA 4 4 5 0,sI 0 x0,sC 1 (cF 8 x1 Pt.row)],[(10,(Vec.row r20.1)),(7,[cI y3,cI y4,cI y5,cI y6,cI y7]),(6,[cI y8,cI y9,cI y10,cI x0,cI 0]),(4,[cI 0,cI 0,cI 0,cI 0,cI 0])]⟩ ?_
     cases h7 : (decide (y2 < 0))
     ·have H := zI h7 H
      refine lA 2 ?_
      obtain ⟨r28,er28,H⟩ := bs H
      refine vA [.rd,.rd] (zDA n r20.1 (⟨y3,y4,y5,y6,y7⟩ : Vec) r28 er28) ?_
      refine uA 2 0x3ffff7fffffcf0ff3 1232 ?_
      refine sB' 0x3ffff7fffffcf0ff3 1232 ⟨78,0,[sB 65 r28,sB 64 r28,sB 63 r28,sV 62 [cI y3,cI y4,cI y5,cI y6,cI y7],sV 61 (Vec.row r20.1),sB 60 false,sB 59 false,sI 58 y2,sB 57 true,sB 56 true,sB 55 true,sI 54 x0,sI 53 r20.1.Root,sA 52 10 5 0,sB 51 true,sB 50 true,sB 11 true,sA 10 10 5 0,sB 49 true,(36,.tup [(true,[.dead,.dead,.dead,.dead,.dead]),(false,[.dead])]),sV 48 (Vec.row r20.1),sI 46 v19.Co,(45,.fad (((Pt.row v19).drop 1))),(44,.fad ((Pt.row v19))),sI 43 y1,sC 42 (cF 8 x1 Pt.row),sV 41 ((Pt.row v18).drop 3),(40,.fad (((Pt.row v18).drop 3))),(39,.fad ((Pt.row v18))),sI 38 y1,sC 37 (cF 8 x1 Pt.row),sB 35 (!v17.Has),sB 34 (!v17.Has),sB 33 v17.Has,(32,.fad (((Pt.row v17).drop 2))),(31,.fad ((Pt.row v17))),sI 30 y1,sC 29 (cF 8 x1 Pt.row),sB 28 false,sB 27 false,sB 26 v16.Up,(25,.fad ((Pt.row v16))),(24,.fad ((Pt.row v16))),sI 23 y1,sC 22 (cF 8 x1 Pt.row),sB 19 (decide (y1 < (x1.length : Int))),sI 18 (x1.length : Int),sC 17 (cF 8 x1 Pt.row),sI 16 y1,sI 9 y1,sI 8 y2,sA 7 7 5 0,sA 6 6 5 0,sI 5 0,sA 4 4 5 0,sI 0 x0,sC 1 (cF 8 x1 Pt.row)],[(10,(Vec.row r20.1)),(7,[cI y3,cI y4,cI y5,cI y6,cI y7]),(6,[cI y8,cI y9,cI y10,cI x0,cI 0]),(4,[cI 0,cI 0,cI 0,cI 0,cI 0])]⟩ ?_
      rw [h1]
      rw [h3]
      exact jA (r28,true,true,true,true,true,true) H [65,57,56,51,50,11,10,49,36,48,46,45,44,43,42,41,40,39,38,37,35,34,33,32,31,30,29,28,27,26,25,24,23,22,19,18,17,16,9,8,7,6,5,4,0,1] [10,7,6,4]
     have H := zJ h7 H
     refine uA 5 0x3ffff7fffffcf0ff3 1232 ?_
     refine sB' 0x3ffff7fffffcf0ff3 1232 ⟨78,0,[sB 65 true,sB 64 true,(63,.tup []),(62,.tup []),(61,.tup []),sB 60 true,sB 59 true,sI 58 y2,sB 57 true,sB 56 true,sB 55 true,sI 54 x0,sI 53 r20.1.Root,sA 52 10 5 0,sB 51 true,sB 50 true,sB 11 true,sA 10 10 5 0,sB 49 true,(36,.tup [(true,[.dead,.dead,.dead,.dead,.dead]),(false,[.dead])]),sV 48 (Vec.row r20.1),sI 46 v19.Co,(45,.fad (((Pt.row v19).drop 1))),(44,.fad ((Pt.row v19))),sI 43 y1,sC 42 (cF 8 x1 Pt.row),sV 41 ((Pt.row v18).drop 3),(40,.fad (((Pt.row v18).drop 3))),(39,.fad ((Pt.row v18))),sI 38 y1,sC 37 (cF 8 x1 Pt.row),sB 35 (!v17.Has),sB 34 (!v17.Has),sB 33 v17.Has,(32,.fad (((Pt.row v17).drop 2))),(31,.fad ((Pt.row v17))),sI 30 y1,sC 29 (cF 8 x1 Pt.row),sB 28 false,sB 27 false,sB 26 v16.Up,(25,.fad ((Pt.row v16))),(24,.fad ((Pt.row v16))),sI 23 y1,sC 22 (cF 8 x1 Pt.row),sB 19 (decide (y1 < (x1.length : Int))),sI 18 (x1.length : Int),sC 17 (cF 8 x1 Pt.row),sI 16 y1,sI 9 y1,sI 8 y2,sA 7 7 5 0,sA 6 6 5 0,sI 5 0,sA 4 4 5 0,sI 0 x0,sC 1 (cF 8 x1 Pt.row)],[(10,(Vec.row r20.1)),(7,[cI y3,cI y4,cI y5,cI y6,cI y7]),(6,[cI y8,cI y9,cI y10,cI x0,cI 0]),(4,[cI 0,cI 0,cI 0,cI 0,cI 0])]⟩ ?_
     rw [h1]
     rw [h3]
     exact jA (true,true,true,true,true,true,true) H [65,57,56,51,50,11,10,49,36,48,46,45,44,43,42,41,40,39,38,37,35,34,33,32,31,30,29,28,27,26,25,24,23,22,19,18,17,16,9,8,7,6,5,4,0,1] [10,7,6,4]
    rintro ⟨y21,y22,y23,y24,y25,y26,y27⟩ H
    have H : (qp n (fun v => zw n mo15 x0 x1 v.1 v.2.1 v.2.2.1 v.2.2.2.1 v.2.2.2.2.1 v.2.2.2.2.2.1 v.2.2.2.2.2.2.1 v.2.2.2.2.2.2.2.1 v.2.2.2.2.2.2.2.2.1 v.2.2.2.2.2.2.2.2.2) r20 y1 y10 y2 y3 y4 y5 y6 y7 y8 y9 y21 y22 y23 y24 y25 y26 y27) = some o15 := H
    unfold qp at H
    cases h4 : y21
    ·have H := zI h4 H
     refine nB_ ?_
     refine tK ?_
     refine eA 3 0x2030f7fffffff0ff3 1232 ?_
     exact jB mo15 ((IntKind.wrap .i64 (y1 + 1)),y2,y3,y4,y5,y6,y7,y8,y9,y10) H [9,8,7,6,5,4,0,1] [7,6,4]
    have H := zJ h4 H
    refine tB_ ?_
    refine gA 2 0x6030f7fffffcf0ff3 1232 ?_
    refine gA 2 0xe030f7fffffcf0ff3 1232 ?_
    refine eA 9 0xffe030f7fffffcf0ff3 1232 ?_
    refine eA 3 0xffe030f7fffffff0ff3 1232 ?_
    exact jB mo15 ((IntKind.wrap .i64 (y1 + 1)),y1,r20.1.Root,r20.1.Co,r20.1.Hops,r20.1.Bridge,r20.1.Port,r20.1.Root,r20.1.Co,r20.1.Hops) H [9,8,7,6,5,4,0,1] [7,6,4]
   refine tA h3 ?_
   refine Tr.exit ?_
   refine aJ ?_
   refine eA 3 68719412211 208 ?_
   exact jB mo15 ((IntKind.wrap .i64 (y1 + 1)),y2,y3,y4,y5,y6,y7,y8,y9,y10) H [9,8,7,6,5,4,0,1] [7,6,4]
  have H := zJ h2 H
  refine uA 7 68716266483 208 ?_
  refine tB_ ?_
  refine Tr.exit ?_
  refine aJ ?_
  refine eA 3 68719412211 208 ?_
  exact jB mo15 ((IntKind.wrap .i64 (y1 + 1)),y2,y3,y4,y5,y6,y7,y8,y9,y10) H [9,8,7,6,5,4,0,1] [7,6,4]
 rintro ⟨y11,y12,y13,y14⟩ H
 have H : (YZ n x0 y11 y12 y13 y14) = some r := H
 unfold YZ at H
 refine gA 4 48 16 ?_
 exact te (fJ [(true,[cI y12,cI y13,cI y14,cI x0,cI 0]),(false,[cI y11])] H)
def Q0 (n : Nat) (x0 : Int) (x1 : (List Pt)) (x2 : Int) : Option (Vec) :=
  ((Zq n x0 x1).bind fun r1 => (some (⟨r1.1.Root,r1.1.Co,r1.1.Hops,r1.1.Bridge,x2⟩ : Vec)))
theorem zGv (n : Nat) (x0 : Int) (x1 : (List Pt)) (x2 : Int) (r : Vec) (H : Q0 n x0 x1 x2 = some r) : zG Try.prog 166 [.val false [.lit (.int .i64 x0)],.val false [.sl false 8 (CV.frzEs (x1.map Pt.row))],.val false [.lit (.int .i64 x2)]] [.val true (Vec.row r)] [] := by
 refine cW Try.func166 (fun g d => sl [g 0,g 1,g 2,g 3] .ret) [.cell 6 35] fun cx => ?_
 unfold Q0 at H
 refine gA 1 71 64 ?_
 refine rA 2 ?_
 obtain ⟨r1,er1,H⟩ := bs H
 refine vA [.rd,.rd] (zC9 n x0 x1 r1 er1) ?_
 refine LAt.movT tOk (ty := 156) (t := 12) (d := 9) (g := none) [(true,(Vec.row r1.1)),(false,[cI r1.2])] _ kr (.inl rfl) kr kr kr kr rfl ?_
 refine uA 5 196 192 ?_
 refine gA 3 192 192 ?_
 refine gA 2 64 64 ?_
 exact te (fJ [(true,[cI r1.1.Root,cI r1.1.Co,cI r1.1.Hops,cI r1.1.Bridge,cI x2])] H)
def Qa (n : Nat) (x0 : Int) (x1 : (List Pt)) (x2 : Int) : Option (Int) :=
  ((zQ n x2 0 (IntKind.wrap .i64 ((x1.length : Int) - 1))).bind fun r1 => (bif (!r1) then (some 4) else ((idx x1 x2).bind fun v2 => (bif (!v2.Up) then (some 4) else ((Zq n x0 x1).bind fun r3 => (bif (r3.2 == x2) then (some 1) else ((idx x1 x2).bind fun v4 => (bif (!v4.Has) then (some 2) else ((Q0 n x0 x1 x2).bind fun r5 => ((idx x1 x2).bind fun v6 => ((QF n r5 v6.Hd).bind fun r7 => (bif r7 then (some 2) else (some 3)))))))))))))
def zJC : Tab := ⟨19,[0,0,3,4,8,16,32,64,64,64,960,64,64,6208,8256,16448,33856,65600,196608],[0,0,3,4,8,16,32,64,64,64,960,64,64,6208,8256,16448,33856,65600,131072],[0,0,3,7,15,31,63,127,127,127,1023,127,127,6271,14463,30847,65535,131071,262143]⟩
theorem QW : z6 (rg Try.f140 6) zJC = true := kr
theorem zGu (n : Nat) (x0 : Int) (x1 : (List Pt)) (x2 : Int) (r : Int) (H : Qa n x0 x1 x2 = some r) : zG Try.prog 140 [.val false [.lit (.int .i64 x0)],.val false [.sl false 8 (CV.frzEs (x1.map Pt.row))],.val false [.lit (.int .i64 x2)]] [.val false [.lit (.int .i64 r)]] [] := by
 refine cW Try.func140 (fun g d => sl [g 0,sl [g 1] (cn 22 (sl [g 2] .ret) .skip),g 3,.block 0 (sl [g 4] (cn 29 (sl [g 5] .ret) (sl [d 6] (cn 33 (sl [g 7] .ret) .skip)))),g 8] .ret) [.tmp 6] fun cx => ?_
 unfold Qa at H
 refine gA 1 7 0 ?_
 refine tS ?_
 refine rA 2 ?_
 refine kF x1 Pt.row ?_
 refine lA 1 ?_
 obtain ⟨r1,er1,H⟩ := bs H
 refine vA [.rd,.rd,.rd] (zP n x2 0 (IntKind.wrap .i64 ((x1.length : Int) - 1)) r1 er1) ?_
 refine lA 2 ?_
 refine sL 32775 0 ⟨52,0,[sB 15 (!r1),sI 0 x0,sC 1 (cF 8 x1 Pt.row),sI 2 x2],[]⟩ ?_
 cases h1 : (!r1)
 ·have H := zI h1 H
  refine lA 2 ?_
  obtain ⟨v2,ev2,H⟩ := bs H
  refine iA Pt.row ev2 ?_
  refine uA 4 4194311 0 ?_
  obtain ⟨h2,H⟩ | ⟨h2,H⟩ := bC H
  ·refine nA h2 ?_
   refine tK ?_
   refine rA 2 ?_
   obtain ⟨r3,er3,H⟩ := bs H
   refine vA [.rd,.rd] (zC9 n x0 x1 r3 er3) ?_
   refine LAt.movT tOk (ty := 156) (t := 26) (d := 23) (g := none) [(true,(Vec.row r3.1)),(false,[cI r3.2])] _ kr (.inl rfl) kr kr kr kr rfl ?_
   refine uA 5 263 0 ?_
   refine tS ?_
   refine tB ?_
   refine gA 4 536870919 0 ?_
   obtain ⟨h3,H⟩ | ⟨h3,H⟩ := bC H
   ·refine nA h3 ?_
    obtain ⟨v4,ev4,H⟩ := bs H
    refine sT ⟨52,0,[sB 29 (r3.2 == x2),sI 0 x0,sC 1 (cF 8 x1 Pt.row),sI 2 x2],[]⟩ ?_
    cases h4 : (!v4.Has)
    ·have H := zI h4 H
     obtain ⟨r5,er5,H⟩ := bs H
     obtain ⟨v6,ev6,H⟩ := bs H
     obtain ⟨r7,er7,H⟩ := bs H
     refine Tr.draws mixed 19 kr ⟨52,0,[sB 33 r7],[]⟩ (fun cx => ?_) ?_
     ·refine mA QW [(0,[]),(1,[])] 17 [] fun cx => ?_
      refine iN QW 2 Pt.row ev4 fun cx => ?_
      refine mA QW [(3,[]),(4,[]),(5,[]),(6,[])] 12 [] fun cx => ?_
      refine sA_ 1099511627783 0 ⟨52,0,[sB 40 (!v4.Has),sI 0 x0,sC 1 (cF 8 x1 Pt.row),sI 2 x2],[]⟩ ?_
      rw [h4]
      refine mA QW [(7,[]),(8,[]),(9,[]),(11,[]),(12,[])] 7 [] fun cx => ?_
      refine iN QW 13 Pt.row ev6 fun cx => ?_
      refine mA QW [(14,[]),(15,[])] 4 [] fun cx => ?_
      refine mC QW 10 ?_
      refine vA [.rd,.rd,.rd] (zGv n x0 x1 x2 r5 er5) ?_
      refine fA ?_
      refine mC QW 16 ?_
      refine vA [.rd,.rd] (zDA n r5 v6.Hd r7 er7) ?_
      refine fA ?_
      refine mA QW [(17,[]),(18,[])] 0 [] fun cx => ?_
      exact mE QW [33] []
     cases h5 : r7
     ·have H := zI h5 H
      refine nB_ ?_
      refine tK ?_
      refine gA 1 64 0 ?_
      exact te (fJ [(false,[cI 3])] H)
     have H := zJ h5 H
     refine tB_ ?_
     refine gA 1 64 0 ?_
     exact te (fJ [(false,[cI 2])] H)
    have H := zJ h4 H
    refine Tr.draws mixed 19 kr ⟨52,0,[sB 33 true],[]⟩ (fun cx => ?_) ?_
    ·refine mA QW [(0,[]),(1,[])] 17 [] fun cx => ?_
     refine iN QW 2 Pt.row ev4 fun cx => ?_
     refine mA QW [(3,[]),(4,[]),(5,[]),(6,[])] 12 [] fun cx => ?_
     refine sA_ 1099511627783 0 ⟨52,0,[sB 40 (!v4.Has),sI 0 x0,sC 1 (cF 8 x1 Pt.row),sI 2 x2],[]⟩ ?_
     rw [h4]
     refine mA QW [(7,[]),(8,[]),(9,[]),(10,[]),(11,[]),(12,[]),(13,[]),(14,[]),(15,[]),(16,[]),(17,[]),(18,[])] 0 [] fun cx => ?_
     exact mE QW [33] []
    refine tB_ ?_
    refine gA 1 64 0 ?_
    exact te (fJ [(false,[cI 2])] H)
   refine tA h3 ?_
   refine gA 1 64 0 ?_
   exact te (fJ [(false,[cI 1])] H)
  refine tA h2 ?_
  refine gA 1 64 0 ?_
  exact te (fJ [(false,[cI 4])] H)
 have H := zJ h1 H
 refine uA 7 4194311 0 ?_
 refine tB_ ?_
 refine gA 1 64 0 ?_
 exact te (fJ [(false,[cI 4])] H)
def Jb (n : Nat) (y3 : Int) : Option (Int) :=
  (some y3)
def qZ (n : Nat) : Nat → Int → (List Pt) → Int → Int → Option ((Int) ⊕ (Int))
  | 0,_,_,_,_ => none
  | mo4 + 1,x0,x1,y1,y2 => (bif (decide (y1 < (x1.length : Int))) then (bif (decide (y1 < 6)) then ((Qa n x0 x1 y1).bind fun r5 => (bif (decide (r5 ≤ 2)) then (bif (decide ((0 : Int) ≤ (IntKind.wrap .u64 y1))) then (qZ n mo4 x0 x1 (IntKind.wrap .i64 (y1 + 1)) (IntKind.wrap .i64 (BitVec.ofInt (IntKind.bits .i64) y2 ||| BitVec.ofInt (IntKind.bits .i64) (IntKind.wrap .i64 (1 * 2 ^ min (((IntKind.wrap .u64 y1) : Int)).toNat (IntKind.bits .i64)))).toNat)) else none) else (qZ n mo4 x0 x1 (IntKind.wrap .i64 (y1 + 1)) y2))) else (some (Sum.inl y2))) else (some (Sum.inl y2)))
def Z3 (n : Nat) (x0 : Int) (x1 : (List Pt)) : Option (Int) :=
  ((qZ n n x0 x1 0 0).bind fun o => match o with | .inl y3 => (Jb n y3) | .inr r => some r)
theorem zHg (n : Nat) (x0 : Int) (x1 : (List Pt)) (r : Int) (H : Z3 n x0 x1 = some r) : zG Try.prog 80 [.val false [.lit (.int .i64 x0)],.val false [.sl false 8 (CV.frzEs (x1.map Pt.row))]] [.val false [.lit (.int .i64 r)]] [] := by
 refine cW Try.func80 (fun g d => sl [g 0,g 1,sl [g 2] (.block 0 (.loop (sl [sl [g 3] (cn 14 .skip (.exit 0)),.block 1 (sl [g 5] (cn 21 (g 6) .skip))] (g 4)))),g 7] .ret) [.tmp 4] fun cx => ?_
 unfold Z3 at H
 refine gA 1 3 0 ?_
 refine gA 1 35 0 ?_
 refine tS ?_
 refine gA 1 99 0 ?_
 obtain ⟨o4,eo4,Ho4⟩ := bs H
 clear H
 refine Tr.mid (ι := Int) (fun v => ⟨28,0,[sI 5 v],[]⟩) (fun v => Jb n v = some r) ?_ ?_
 ·refine tB ?_
  refine Tr.loop (ι := Nat × (Int × Int)) (fun v => ⟨28,0,[sI 6 v.2.1,sI 5 v.2.2,sI 0 x0,sC 1 (cF 8 x1 Pt.row)],[]⟩) (fun v => qZ n v.1 x0 x1 v.2.1 v.2.2 = some o4) (fun v => v.1) (n,(0,0)) eo4 (St.sub_of [6,5,0,1] [] kr) ?_
  rintro ⟨mo4,y1,y2⟩ H
  have H : qZ n mo4 x0 x1 y1 y2 = some o4 := H
  obtain _ | mo4 := mo4
  ·exact nN H
  rw [qZ] at H
  refine tS ?_
  refine rA 2 ?_
  refine kF x1 Pt.row ?_
  refine lA 2 ?_
  refine sL 2147 0 ⟨28,0,[sB 11 (decide (y1 < (x1.length : Int))),sI 6 y1,sI 5 y2,sI 0 x0,sC 1 (cF 8 x1 Pt.row)],[]⟩ ?_
  cases h1 : (decide (y1 < (x1.length : Int)))
  ·have H := zI h1 H
   refine uA 3 16483 0 ?_
   refine nB_ ?_
   refine Tr.exit ?_
   refine aJ ?_
   obtain rfl := si H
   have H := Ho4
   dsimp only at H
   exact jA y2 H [5] []
  have H := zJ h1 H
  refine uA 3 16483 0 ?_
  obtain ⟨h2,H⟩ | ⟨h2,H⟩ := bC H
  ·refine nA h2 ?_
   refine Tr.exit ?_
   refine aJ ?_
   obtain rfl := si H
   have H := Ho4
   dsimp only at H
   exact jA y2 H [5] []
  refine tA h2 ?_
  refine tK ?_
  refine tS ?_
  refine tB ?_
  refine rA 3 ?_
  obtain ⟨r5,er5,H⟩ := bs H
  refine vA [.rd,.rd,.rd] (zGu n x0 x1 y1 r5 er5) ?_
  refine uA 1 2097251 0 ?_
  obtain ⟨h3,H⟩ | ⟨h3,H⟩ := bC H
  ·refine nA h3 ?_
   refine tK ?_
   refine eA 3 99 0 ?_
   exact jB mo4 ((IntKind.wrap .i64 (y1 + 1)),y2) H [6,5,0,1] []
  refine tA h3 ?_
  refine Tr.at ?_
  refine lA 3 ?_
  obtain ⟨hg6,H⟩ := gs H
  refine LAt.binC tOk (op := .shl) (t := 3) (ty := 112) (ty' := 3) (x := (.const (.int .i64 1))) (y := (.tmp 24)) (d := 25) (g := none) (.int .i64 1) (.int .u64 (IntKind.wrap .u64 y1)) (.int .i64 (IntKind.wrap .i64 (1 * 2 ^ min (((IntKind.wrap .u64 y1) : Int)).toNat (IntKind.bits .i64)))) _ kr kr kr kr kr (φ := (0 : Int) ≤ (IntKind.wrap .u64 y1)) kr (of_decide_eq_true hg6) rfl ?_
  refine uA 2 99 0 ?_
  refine eA 3 99 0 ?_
  exact jB mo4 ((IntKind.wrap .i64 (y1 + 1)),(IntKind.wrap .i64 (BitVec.ofInt (IntKind.bits .i64) y2 ||| BitVec.ofInt (IntKind.bits .i64) (IntKind.wrap .i64 (1 * 2 ^ min (((IntKind.wrap .u64 y1) : Int)).toNat (IntKind.bits .i64)))).toNat)) H [6,5,0,1] []
 rintro y3 H
 have H : (Jb n y3) = some r := H
 unfold Jb at H
 refine gA 2 16 0 ?_
 exact te (fJ [(false,[cI y3])] H)
def ZK (n : Nat) (x0 : Int) (x1 : Int) : Option (Bool) :=
  ((zQ n x1 0 7).bind fun r1 => (bif r1 then (bif (decide ((0 : Int) ≤ (IntKind.wrap .u64 x1))) then (some ((IntKind.wrap .i64 (BitVec.ofInt (IntKind.bits .i64) (Int.fdiv x0 (2 ^ min (((IntKind.wrap .u64 x1) : Int)).toNat (IntKind.bits .i64))) &&& BitVec.ofInt (IntKind.bits .i64) 1).toNat) == 1)) else none) else (some false)))
theorem zA2 (n : Nat) (x0 : Int) (x1 : Int) (r : Bool) (H : ZK n x0 x1 = some r) : zG Try.prog 82 [.val false [.lit (.int .i64 x0)],.val false [.lit (.int .i64 x1)]] [.val false [.lit (.bool r)]] [] := by
 refine cW Try.func82 (fun g d => sl [g 0,g 1] .ret) [.tmp 4] fun cx => ?_
 unfold ZK at H
 refine gA 1 3 0 ?_
 refine rA 1 ?_
 obtain ⟨r1,er1,H⟩ := bs H
 refine vA [.rd,.rd,.rd] (zP n x1 0 7 r1 er1) ?_
 refine lA 1 ?_
 refine sL 131 0 ⟨15,0,[sB 7 r1,sI 0 x0,sI 1 x1],[]⟩ ?_
 cases h1 : r1
 ·have H := zI h1 H
  refine uA 8 16 0 ?_
  exact te (fF H)
 have H := zJ h1 H
 refine lA 3 ?_
 obtain ⟨hg2,H⟩ := gs H
 refine LAt.binC tOk (op := .shr) (t := 3) (ty := 112) (ty' := 3) (x := (.tmp 8)) (y := (.tmp 10)) (d := 11) (g := (some (2,true))) (.int .i64 x0) (.int .u64 (IntKind.wrap .u64 x1)) (.int .i64 (Int.fdiv x0 (2 ^ min (((IntKind.wrap .u64 x1) : Int)).toNat (IntKind.bits .i64)))) _ kr kr kr kr kr (φ := (0 : Int) ≤ (IntKind.wrap .u64 x1)) kr (of_decide_eq_true hg2) rfl ?_
 refine uA 4 16 0 ?_
 exact te (fJ [(false,[cB ((IntKind.wrap .i64 (BitVec.ofInt (IntKind.bits .i64) (Int.fdiv x0 (2 ^ min (((IntKind.wrap .u64 x1) : Int)).toNat (IntKind.bits .i64))) &&& BitVec.ofInt (IntKind.bits .i64) 1).toNat) == 1)])] H)
def ZC (n : Nat) (x0 : zC) (x1 : Int) (y2 : Int) : Option (Int × Bool) :=
  ((ZI n x0 y2).bind fun r3 => (bif (decide (r3 < 0)) then (some (0,false)) else ((idx x0.Rows r3).bind fun v4 => ((ZK n v4.Members x1).bind fun r5 => (bif (!r5) then (some (0,false)) else (some (y2,true)))))))
def ZM (n : Nat) (x0 : zC) (x1 : Int) (x2 : Int) : Option (Int × Bool) :=
  ((zQ n x1 0 (IntKind.wrap .i64 ((x0.Pv.length : Int) - 1))).bind fun r1 => (bif (!r1) then (some (0,false)) else (bif (x2 == 0) then ((idx x0.Pv x1).bind fun v6 => (ZC n x0 x1 v6)) else (ZC n x0 x1 x2))))
theorem zGS (n : Nat) (x0 : zC) (x1 : Int) (x2 : Int) (r : Int × Bool) (H : ZM n x0 x1 x2 = some r) : zG Try.prog 81 [.val true (CV.frzRow (zC.row x0)),.val false [.lit (.int .i64 x1)],.val false [.lit (.int .i64 x2)]] [.val false [.lit (.int .i64 r.1)],.val false [.lit (.bool r.2)]] [] := by
 refine cW Try.func81 (fun g d => sl [g 0,sl [g 1] (cn 15 (sl [g 2] .ret) .skip),sl [g 3] (cn 17 (g 4) .skip),g 5,sl [g 6] (cn 38 (sl [g 7] .ret) .skip),g 8] .ret) [.tmp 6,.tmp 7] fun cx => ?_
 unfold ZM at H
 refine gA 3 14 8 ?_
 refine tS ?_
 refine rA 3 ?_
 refine kF x0.Pv intRow ?_
 refine lA 1 ?_
 obtain ⟨r1,er1,H⟩ := bs H
 refine vA [.rd,.rd,.rd] (zP n x1 0 (IntKind.wrap .i64 ((x0.Pv.length : Int) - 1)) r1 er1) ?_
 refine uA 1 32782 8 ?_
 obtain ⟨h1,H⟩ | ⟨h1,H⟩ := bC H
 ·refine nA h1 ?_
  refine tK ?_
  refine tS ?_
  refine Tr.mid (ι := Int) (fun v => ⟨40,0,[sA 3 3 2 0,sI 1 x1,sI 2 v],[(3,(CV.frzRow (zC.row x0)))]⟩) (fun v => ZC n x0 x1 v = some r) ?_ ?_
  ·refine gA 2 131086 8 ?_
   obtain ⟨h4,H⟩ | ⟨h4,H⟩ := bC H
   ·refine nA h4 ?_
    refine tK ?_
    exact jA x2 H [3,1,2] [3]
   refine tA h4 ?_
   refine Tr.at ?_
   refine lA 3 ?_
   obtain ⟨v6,ev6,H⟩ := bs H
   refine iA intRow ev6 ?_
   refine uA 2 14 8 ?_
   exact jA v6 H [3,1,2] [3]
  rintro y2 H
  have H : (ZC n x0 x1 y2) = some r := H
  unfold ZC at H
  refine rA 2 ?_
  obtain ⟨r3,er3,H⟩ := bs H
  refine vA [.rd,.rd] (J0 n x0 y2 r3 er3) ?_
  refine uA 1 270 8 ?_
  refine tS ?_
  refine rA 3 ?_
  refine sL 268435726 8 ⟨40,0,[sB 28 (decide (r3 < 0)),sI 8 r3,sA 3 3 2 0,sI 1 x1,sI 2 y2],[(3,(CV.frzRow (zC.row x0)))]⟩ ?_
  cases h2 : (decide (r3 < 0))
  ·have H := zI h2 H
   refine lA 3 ?_
   obtain ⟨v4,ev4,H⟩ := bs H
   refine iA zB.row ev4 ?_
   refine lA 3 ?_
   obtain ⟨r5,er5,H⟩ := bs H
   refine vA [.rd,.rd] (zA2 n v4.Members x1 r5 er5) ?_
   refine uA 2 274877906948 0 ?_
   obtain ⟨h3,H⟩ | ⟨h3,H⟩ := bC H
   ·refine nA h3 ?_
    refine tK ?_
    refine gA 3 192 0 ?_
    exact te (fJ [(false,[cI y2]),(false,[cB true])] H)
   refine tA h3 ?_
   refine gA 2 192 0 ?_
   exact te (fJ [(false,[cI 0]),(false,[cB false])] H)
  have H := zJ h2 H
  refine uA 10 274877906948 0 ?_
  refine tB_ ?_
  refine gA 2 192 0 ?_
  exact te (fJ [(false,[cI 0]),(false,[cB false])] H)
 refine tA h1 ?_
 refine gA 2 192 0 ?_
 exact te (fJ [(false,[cI 0]),(false,[cB false])] H)
def Zi (n : Nat) (x0 : Int) : Option (Int) :=
  (bif (decide (x0 ≥ 1000000)) then (some x0) else (some (IntKind.wrap .i64 (x0 + 1))))
theorem zBt (n : Nat) (x0 : Int) (r : Int) (H : Zi n x0 = some r) : zG Try.prog 83 [.val false [.lit (.int .i64 x0)]] [.val false [.lit (.int .i64 r)]] [] := by
 refine cW Try.func83 (fun g d => sl [g 0,sl [g 1] (cn 4 (sl [g 2] .ret) .skip),g 3] .ret) [.tmp 2] fun cx => ?_
 unfold Zi at H
 refine gA 1 1 0 ?_
 refine tS ?_
 refine gA 2 17 0 ?_
 obtain ⟨h1,H⟩ | ⟨h1,H⟩ := bC H
 ·refine nA h1 ?_
  refine tK ?_
  refine gA 3 4 0 ?_
  exact te (fJ [(false,[cI (IntKind.wrap .i64 (x0 + 1))])] H)
 refine tA h1 ?_
 refine gA 2 4 0 ?_
 exact te (fJ [(false,[cI x0])] H)
def qS (n : Nat) (x0 : zC) (x1 : Int) : Option (Int) :=
  ((ZI n x0 x1).bind fun r1 => (bif (decide (r1 < 0)) then (some 0) else ((idx x0.Rows r1).bind fun v2 => (some v2.Members))))
theorem zFr (n : Nat) (x0 : zC) (x1 : Int) (r : Int) (H : qS n x0 x1 = some r) : zG Try.prog 85 [.val true (CV.frzRow (zC.row x0)),.val false [.lit (.int .i64 x1)]] [.val false [.lit (.int .i64 r)]] [] := by
 refine cW Try.func85 (fun g d => sl [g 0,g 1,sl [g 2] (cn 10 (sl [g 3] .ret) .skip),g 4] .ret) [.tmp 4] fun cx => ?_
 unfold qS at H
 refine gA 2 6 4 ?_
 refine rA 2 ?_
 obtain ⟨r1,er1,H⟩ := bs H
 refine vA [.rd,.rd] (J0 n x0 x1 r1 er1) ?_
 refine uA 1 36 4 ?_
 refine tS ?_
 refine gA 2 1060 4 ?_
 obtain ⟨h1,H⟩ | ⟨h1,H⟩ := bC H
 ·refine nA h1 ?_
  refine tK ?_
  refine rA 3 ?_
  obtain ⟨v2,ev2,H⟩ := bs H
  refine iA zB.row ev2 ?_
  refine uA 3 16 0 ?_
  exact te (fJ [(false,[cI v2.Members])] H)
 refine tA h1 ?_
 refine gA 1 16 0 ?_
 exact te (fJ [(false,[cI 0])] H)
def qb (n : Nat) (x0 : (List zA)) (x1 : Int) (x2 : Int) : Option (Int) :=
  ((Zk n x0 x1 x2).bind fun r1 => (bif (decide (r1 < 0)) then (some (-1)) else ((idx x0 r1).bind fun v2 => (some v2.Port))))
theorem zGs (n : Nat) (x0 : (List zA)) (x1 : Int) (x2 : Int) (r : Int) (H : qb n x0 x1 x2 = some r) : zG Try.prog 86 [.val false [.sl false 5 (CV.frzEs (x0.map zA.row))],.val false [.lit (.int .i64 x1)],.val false [.lit (.int .i64 x2)]] [.val false [.lit (.int .i64 r)]] [] := by
 refine cW Try.func86 (fun g d => sl [g 0,g 1,sl [g 2] (cn 13 (sl [g 3] .ret) .skip),g 4] .ret) [.tmp 6] fun cx => ?_
 unfold qb at H
 refine gA 1 7 0 ?_
 refine rA 3 ?_
 obtain ⟨r1,er1,H⟩ := bs H
 refine vA [.rd,.rd,.rd] (zDG n x0 x1 x2 r1 er1) ?_
 refine uA 1 129 0 ?_
 refine tS ?_
 refine gA 2 8321 0 ?_
 obtain ⟨h1,H⟩ | ⟨h1,H⟩ := bC H
 ·refine nA h1 ?_
  refine tK ?_
  refine rA 2 ?_
  obtain ⟨v2,ev2,H⟩ := bs H
  refine iA zA.row ev2 ?_
  refine uA 3 64 0 ?_
  exact te (fJ [(false,[cI v2.Port])] H)
 refine tA h1 ?_
 refine gA 1 64 0 ?_
 exact te (fJ [(false,[cI (-1)])] H)
def QU (n : Nat) (x0 : zC) (x1 : Int) (x2 : Int) : Option (Int) :=
  ((ZI n x0 x1).bind fun r1 => (bif (decide (r1 < 0)) then (some 0) else ((idx x0.Rows r1).bind fun v2 => ((ZK n v2.Bare x2).bind fun r3 => (bif r3 then (some 0) else (some x1))))))
theorem zFt (n : Nat) (x0 : zC) (x1 : Int) (x2 : Int) (r : Int) (H : QU n x0 x1 x2 = some r) : zG Try.prog 146 [.val true (CV.frzRow (zC.row x0)),.val false [.lit (.int .i64 x1)],.val false [.lit (.int .i64 x2)]] [.val false [.lit (.int .i64 r)]] [] := by
 refine cW Try.func146 (fun g d => sl [g 0,g 1,sl [g 2] (cn 22 (sl [g 3] .ret) .skip),g 4] .ret) [.tmp 6] fun cx => ?_
 unfold QU at H
 refine gA 2 14 8 ?_
 refine rA 2 ?_
 obtain ⟨r1,er1,H⟩ := bs H
 refine vA [.rd,.rd] (J0 n x0 x1 r1 er1) ?_
 refine uA 1 142 8 ?_
 refine tS ?_
 refine rA 3 ?_
 refine sL 8334 8 ⟨24,0,[sB 13 (decide (r1 < 0)),sI 7 r1,sA 3 3 2 0,sI 1 x1,sI 2 x2],[(3,(CV.frzRow (zC.row x0)))]⟩ ?_
 cases h1 : (decide (r1 < 0))
 ·have H := zI h1 H
  refine lA 3 ?_
  obtain ⟨v2,ev2,H⟩ := bs H
  refine iA zB.row ev2 ?_
  refine lA 3 ?_
  obtain ⟨r3,er3,H⟩ := bs H
  refine vA [.rd,.rd] (zA2 n v2.Bare x2 r3 er3) ?_
  refine uA 1 4194306 0 ?_
  cases h2 : r3
  ·have H := zI h2 H
   refine nB_ ?_
   refine tK ?_
   refine gA 2 64 0 ?_
   exact te (fJ [(false,[cI x1])] H)
  have H := zJ h2 H
  refine tB_ ?_
  refine gA 1 64 0 ?_
  exact te (fJ [(false,[cI 0])] H)
 have H := zJ h1 H
 refine uA 9 4194306 0 ?_
 refine tB_ ?_
 refine gA 1 64 0 ?_
 exact te (fJ [(false,[cI 0])] H)
def J4 (n : Nat) (x0 : Frame) : Option (Frame) :=
  (bif (decide (([] : List Int).length + x0.Data.length ≤ 268435456)) then (some (⟨x0.Dst,x0.Src,x0.Tag,(([] : List Int) ++ x0.Data)⟩ : Frame)) else none)
theorem zGy (n : Nat) (x0 : Frame) (r : Frame) (H : J4 n x0 = some r) : zG Try.prog 168 [.val true (CV.frzRow (Frame.row x0))] [.val true (Frame.row r)] [] := by
 refine cW Try.func168 (fun g d => sl [g 0,g 1,g 2,g 3] .ret) [.cell 2 53] fun cx => ?_
 unfold J4 at H
 refine gA 2 6 6 ?_
 refine gA 3 14 14 ?_
 refine rA 3 ?_
 obtain ⟨hg1,H⟩ := gs H
 refine pD zN hg1 ?_
 refine uA 2 12 12 ?_
 refine gA 2 4 4 ?_
 exact te (fJ [(true,[cI x0.Dst,cI x0.Src,cI x0.Tag,cL 1 (([] : List Int) ++ x0.Data) zN])] H)
def Yw (n : Nat) (x0 : Frame) (x1 : Int) : Option (Frame) :=
  ((J4 n x0).bind fun r1 => (some (⟨r1.Dst,r1.Src,x1,r1.Data⟩ : Frame)))
theorem zGw (n : Nat) (x0 : Frame) (x1 : Int) (r : Frame) (H : Yw n x0 x1 = some r) : zG Try.prog 145 [.val true (CV.frzRow (Frame.row x0)),.val false [.lit (.int .i64 x1)]] [.val true (Frame.row r)] [] := by
 refine cW Try.func145 (fun g d => sl [g 0,g 1,g 2,g 3] .ret) [.cell 4 53] fun cx => ?_
 unfold Yw at H
 refine gA 2 22 20 ?_
 refine rA 1 ?_
 obtain ⟨r1,er1,H⟩ := bs H
 refine vA [.rd] (zGy n x0 r1 er1) ?_
 refine uA 2 50 48 ?_
 refine gA 3 48 48 ?_
 refine gA 2 16 16 ?_
 exact te (fJ [(true,[cI r1.Dst,cI r1.Src,cI x1,cL 1 r1.Data zN])] H)
def Yd (n : Nat) (y3 : (List Out)) : Option ((List Out)) :=
  (some y3)
def qH (n : Nat) : Nat → zD → Int → Int → Frame → Int → (List Out) → Option (((List Out)) ⊕ ((List Out)))
  | 0,_,_,_,_,_,_ => none
  | mo4 + 1,x0,x1,x2,x3,y1,y2 => (bif (decide (y1 < (x0.Ps.length : Int))) then ((ZK n x2 y1).bind fun r5 => (bif r5 then ((QU n x0.V x1 y1).bind fun r6 => ((Yw n x3 r6).bind fun r7 => (bif (decide (y2.length + [(⟨y1,r7⟩ : Out)].length ≤ 268435456)) then (qH n mo4 x0 x1 x2 x3 (IntKind.wrap .i64 (y1 + 1)) (y2 ++ [(⟨y1,r7⟩ : Out)])) else none))) else (qH n mo4 x0 x1 x2 x3 (IntKind.wrap .i64 (y1 + 1)) y2))) else (some (Sum.inl y2)))
def qw (n : Nat) (x0 : zD) (x1 : Int) (x2 : Int) (x3 : Frame) : Option ((List Out)) :=
  ((qH n n x0 x1 x2 x3 0 ([] : List Out)).bind fun o => match o with | .inl y3 => (Yd n y3) | .inr r => some r)
def zJf : Tab := ⟨13,[0,0,0,0,8,0,0,112,132,258,512,1281,4095],[0,0,0,0,8,0,0,112,132,258,512,1025,2049],[0,0,0,0,8,0,0,120,252,510,1022,2047,4095]⟩
theorem zBT : z6 (rg Try.f87 6) zJf = true := kr
theorem zDE (n : Nat) (x0 : zD) (x1 : Int) (x2 : Int) (x3 : Frame) (r : (List Out)) (H : qw n x0 x1 x2 x3 = some r) : zG Try.prog 87 [.val true (CV.frzRow (zD.row x0)),.val false [.lit (.int .i64 x1)],.val false [.lit (.int .i64 x2)],.val true (CV.frzRow (Frame.row x3))] [.val false [.sl true 5 (r.map Out.row)]] [] := by
 refine cW Try.func87 (fun g d => sl [g 0,g 1,sl [g 2] (.block 0 (.loop (sl [sl [g 3] (cn 16 .skip (.exit 0)),.block 1 (sl [g 5] (cn 21 (d 6) .skip))] (g 4)))),g 7] .ret) [.tmp 8] fun cx => ?_
 unfold qw at H
 refine gA 3 150 144 ?_
 refine rA 1 ?_
 refine LAt.moveU (T := lk tab) (ty := 56) (x := (.tmp 11)) (d := 9) (g := none) false [cL 5 ([] : List Out) Out.row] kr kr kr kr kr ?_
 refine dA 662 144 ?_
 refine tS ?_
 refine gA 1 1686 144 ?_
 obtain ⟨o4,eo4,Ho4⟩ := bs H
 clear H
 refine Tr.mid (ι := (List Out)) (fun v => ⟨35,0,[sC 9 (cL 5 v Out.row)],[]⟩) (fun v => Yd n v = some r) ?_ ?_
 ·refine tB ?_
  refine Tr.loop (ι := Nat × (Int × (List Out))) (fun v => ⟨35,0,[sI 10 v.2.1,sC 9 (cL 5 v.2.2 Out.row),sA 7 7 4 0,sA 4 4 11 0,sI 1 x1,sI 2 x2],[(7,(CV.frzRow (Frame.row x3))),(4,(CV.frzRow (zD.row x0)))]⟩) (fun v => qH n v.1 x0 x1 x2 x3 v.2.1 v.2.2 = some o4) (fun v => v.1) (n,(0,([] : List Out))) eo4 (St.sub_of [10,9,7,4,1,2] [7,4] kr) ?_
  rintro ⟨mo4,y1,y2⟩ H
  have H : qH n mo4 x0 x1 x2 x3 y1 y2 = some o4 := H
  obtain _ | mo4 := mo4
  ·exact nN H
  rw [qH] at H
  refine tS ?_
  refine rA 3 ?_
  refine kF x0.Ps Pt.row ?_
  refine uA 1 67222 144 ?_
  obtain ⟨h1,H⟩ | ⟨h1,H⟩ := bC H
  ·refine nA h1 ?_
   refine Tr.exit ?_
   refine aJ ?_
   obtain rfl := si H
   have H := Ho4
   dsimp only at H
   exact jA y2 H [9] []
  refine tA h1 ?_
  refine tK ?_
  refine tS ?_
  refine tB ?_
  refine rA 2 ?_
  obtain ⟨r5,er5,H⟩ := bs H
  refine vA [.rd,.rd] (zA2 n x2 y1 r5 er5) ?_
  refine dA 2098838 144 ?_
  cases h2 : r5
  ·have H := zI h2 H
   refine nB_ ?_
   refine tK ?_
   refine eA 3 1686 144 ?_
   exact jB mo4 ((IntKind.wrap .i64 (y1 + 1)),y2) H [10,9,7,4,1,2] [7,4]
  have H := zJ h2 H
  refine tB_ ?_
  obtain ⟨r6,er6,H⟩ := bs H
  obtain ⟨r7,er7,H⟩ := bs H
  obtain ⟨hg8,H⟩ := gs H
  refine Tr.draw mixed 13 kr ⟨35,0,[sC 9 (cL 5 (y2 ++ [(⟨y1,r7⟩ : Out)]) Out.row),sI 10 y1,sA 7 7 4 0,sA 4 4 11 0,sI 1 x1,sI 2 x2],[(7,(CV.frzRow (Frame.row x3))),(4,(CV.frzRow (zD.row x0)))]⟩ (fun cx => ?_) ?_
  ·refine mA zBT [(0,[]),(1,[]),(2,[8,9,10,11]),(3,[]),(4,[7,8,9,10,11]),(5,[]),(6,[])] 6 [⟨[7,8,9,10,11],29,25,26⟩,⟨[8,9,10,11],53,7,24⟩] fun cx => ?_
   refine mC zBT 7 ?_
   refine vA [.rd,.rd,.rd] (zFt n x0.V x1 y1 r6 er6) ?_
   refine fA ?_
   refine mC zBT 8 ?_
   refine vA [.rd,.rd] (zGw n x3 r6 r7 er7) ?_
   refine fA ?_
   refine mC zBT 9 ?_
   refine lA 1 ?_
   refine fA ?_
   refine mC zBT 10 ?_
   refine lA 1 ?_
   refine fA ?_
   refine mC zBT 11 ?_
   refine LAt.appMU tOk (t := 56) (ty := 56) (e := 64) (x := (.tmp 22)) (y := (.tmp 32)) (d := 33) (g := none) (tI 64) Out.row y2 [(⟨y1,r7⟩ : Out)] kr kr kr kr kr kr kr kr kr kr hg8 ?_
   refine fA ?_
   refine mC zBT 12 ?_
   refine LAt.moveU (T := lk tab) (ty := 56) (x := (.tmp 33)) (d := 9) (g := none) false [cL 5 (y2 ++ [(⟨y1,r7⟩ : Out)]) Out.row] kr kr kr kr kr ?_
   refine fA ?_
   exact mE zBT [9,10,7,4,1,2] [7,4]
  refine eA 3 1686 144 ?_
  exact jB mo4 ((IntKind.wrap .i64 (y1 + 1)),(y2 ++ [(⟨y1,r7⟩ : Out)])) H [10,9,7,4,1,2] [7,4]
 rintro y3 H
 have H : (Yd n y3) = some r := H
 unfold Yd at H
 refine gA 2 768 0 ?_
 exact te (fJ [(false,[cL 5 y3 Out.row])] H)
def qq (n : Nat) (r1 : zD) (r4 : Int) (r5 : Int × Bool) (r7 : (List zA)) (r8 : Int) (r9 : Int) (x0 : zD) (x1 : Int) (x2 : Frame) (y11 : Int) : Option (zD × (List Out)) :=
  (bif (decide (y11 ≥ 0)) then (bif (decide ((0 : Int) ≤ (IntKind.wrap .u64 y11))) then ((qw n x0 r5.1 (IntKind.wrap .i64 (BitVec.ofInt (IntKind.bits .i64) (IntKind.wrap .i64 (BitVec.ofInt (IntKind.bits .i64) (IntKind.wrap .i64 (BitVec.ofInt (IntKind.bits .i64) r4 &&& BitVec.ofInt (IntKind.bits .i64) r9).toNat) &&& ~~~BitVec.ofInt (IntKind.bits .i64) (IntKind.wrap .i64 (1 * 2 ^ min (((IntKind.wrap .u64 x1) : Int)).toNat (IntKind.bits .i64)))).toNat) &&& BitVec.ofInt (IntKind.bits .i64) (IntKind.wrap .i64 (1 * 2 ^ min (((IntKind.wrap .u64 y11) : Int)).toNat (IntKind.bits .i64)))).toNat) x2).bind fun r14 => (some ((⟨r1.Id,r1.Name,r1.Ps,r7,r1.V,r1.Tk,r1.Pa,r1.Wo,r1.Dr,r8⟩ : zD),r14))) else none) else ((qw n x0 r5.1 (IntKind.wrap .i64 (BitVec.ofInt (IntKind.bits .i64) (IntKind.wrap .i64 (BitVec.ofInt (IntKind.bits .i64) r4 &&& BitVec.ofInt (IntKind.bits .i64) r9).toNat) &&& ~~~BitVec.ofInt (IntKind.bits .i64) (IntKind.wrap .i64 (1 * 2 ^ min (((IntKind.wrap .u64 x1) : Int)).toNat (IntKind.bits .i64)))).toNat) x2).bind fun r12 => (some ((⟨r1.Id,r1.Name,r1.Ps,r7,r1.V,r1.Tk,r1.Pa,r1.Wo,r1.Dr,r8⟩ : zD),r12))))
def qu (n : Nat) (x0 : zD) (x1 : Int) (x2 : Frame) : Option (zD × (List Out)) :=
  ((YJ n x0).bind fun r1 => ((Q1 n x0 x1).bind fun r2 => (bif (!r2) then (some (r1,([] : List Out))) else ((qj n x2).bind fun r3 => (bif (!r3) then (some (r1,([] : List Out))) else ((Z3 n x0.Id x0.Ps).bind fun r4 => ((ZM n x0.V x1 x2.Tag).bind fun r5 => ((ZK n r4 x1).bind fun r6 => (bif (!r6) then ((Zi n x0.Dr).bind fun r17 => (some ((⟨r1.Id,r1.Name,r1.Ps,r1.F,r1.V,r1.Tk,r1.Pa,r1.Wo,r17,r1.Ve⟩ : zD),([] : List Out)))) else (bif (!r5.2) then ((Zi n x0.Dr).bind fun r16 => (some ((⟨r1.Id,r1.Name,r1.Ps,r1.F,r1.V,r1.Tk,r1.Pa,r1.Wo,r16,r1.Ve⟩ : zD),([] : List Out)))) else ((Zz n x0.F r5.1 x2.Src x1).bind fun r7 => ((Zi n x0.Ve).bind fun r8 => ((qS n x0.V r5.1).bind fun r9 => (bif (decide ((0 : Int) ≤ (IntKind.wrap .u64 x1))) then (bif (x2.Dst != 0) then ((qb n r7 r5.1 x2.Dst).bind fun r15 => (qq n r1 r4 r5 r7 r8 r9 x0 x1 x2 r15)) else (qq n r1 r4 r5 r7 r8 r9 x0 x1 x2 (-1))) else none))))))))))))))
theorem zGU (n : Nat) (x0 : zD) (x1 : Int) (x2 : Frame) (r : zD × (List Out)) (H : qu n x0 x1 x2 = some r) : zG Try.prog 23 [.val true (CV.frzRow (zD.row x0)),.val false [.lit (.int .i64 x1)],.val true (CV.frzRow (Frame.row x2))] [.val true (zD.row r.1),.val false [.sl true 5 (r.2.map Out.row)]] [] := by
 refine cW Try.func23 (fun g d => sl [g 0,g 1,g 2,sl [g 3] (cn 26 (sl [g 4] .ret) .skip),g 5,g 6,sl [g 7] (cn 50 (sl [g 8,g 9] .ret) .skip),g 10,g 11,g 12,g 13,sl [g 14] (cn 81 (g 15) .skip),sl [g 16] (cn 89 (g 17) .skip),d 18] .ret) [.cell 6 31,.tmp 7] fun cx => ?_
 unfold qu at H
 refine gA 4 106 104 ?_
 refine rA 1 ?_
 obtain ⟨r1,er1,H⟩ := bs H
 refine vA [.rd] (zGY n x0 r1 er1) ?_
 refine uA 2 362 360 ?_
 refine rA 1 ?_
 refine LAt.moveU (T := lk tab) (ty := 56) (x := (.tmp 17)) (d := 9) (g := none) false [cL 5 ([] : List Out) Out.row] kr kr kr kr kr ?_
 refine dA 874 360 ?_
 refine tS ?_
 refine rA 2 ?_
 obtain ⟨r2,er2,H⟩ := bs H
 refine vA [.rd,.rd] (zFu n x0 x1 r2 er2) ?_
 refine lA 2 ?_
 refine sL 4195178 360 ⟨101,0,[sB 22 (!r2),sC 9 (cL 5 ([] : List Out) Out.row),sA 8 8 11 0,sA 6 6 11 0,sA 5 5 4 0,sA 3 3 11 0,sI 1 x1],[(8,(zD.row r1)),(6,[cI 0,cS (⟨#[]⟩ : ByteArray),cL 8 ([] : List Pt) Pt.row,cL 5 ([] : List zA) zA.row,cL 3 ([] : List zB) zB.row,cL 1 ([] : List Int) intRow,cI 0,cI 0,cI 0,cI 0,cI 0]),(5,(CV.frzRow (Frame.row x2))),(3,(CV.frzRow (zD.row x0)))]⟩ ?_
 cases h1 : (!r2)
 ·have H := zI h1 H
  refine lA 1 ?_
  obtain ⟨r3,er3,H⟩ := bs H
  refine vA [.rd] (zGV n x2 r3 er3) ?_
  refine uA 2 67109738 360 ?_
  obtain ⟨h2,H⟩ | ⟨h2,H⟩ := bC H
  ·refine nA h2 ?_
   refine tK ?_
   refine rA 4 ?_
   obtain ⟨r4,er4,H⟩ := bs H
   refine vA [.rd,.rd] (zHg n x0.Id x0.Ps r4 er4) ?_
   refine uA 1 1898 360 ?_
   refine rA 5 ?_
   obtain ⟨r5,er5,H⟩ := bs H
   refine vA [.rd,.rd,.rd] (zGS n x0.V x1 x2.Tag r5 er5) ?_
   refine LAt.movT tOk (ty := 60) (t := 40) (d := 34) (g := none) [(false,[cI r5.1]),(false,[cB r5.2])] _ kr (.inl rfl) kr kr kr kr rfl ?_
   refine uA 4 8042 360 ?_
   refine tS ?_
   refine tS ?_
   refine Tr.at ?_
   refine lA 2 ?_
   obtain ⟨r6,er6,H⟩ := bs H
   refine vA [.rd,.rd] (zA2 n r4 x1 r6 er6) ?_
   refine lA 2 ?_
   refine sL 0x800000001f6a 360 ⟨101,0,[sB 47 (!r6),sB 12 r5.2,sI 11 r5.1,sI 10 r4,sC 9 (cL 5 ([] : List Out) Out.row),sA 8 8 11 0,sA 6 6 11 0,sA 5 5 4 0,sA 3 3 11 0,sI 1 x1],[(8,(zD.row r1)),(6,[cI 0,cS (⟨#[]⟩ : ByteArray),cL 8 ([] : List Pt) Pt.row,cL 5 ([] : List zA) zA.row,cL 3 ([] : List zB) zB.row,cL 1 ([] : List Int) intRow,cI 0,cI 0,cI 0,cI 0,cI 0]),(5,(CV.frzRow (Frame.row x2))),(3,(CV.frzRow (zD.row x0)))]⟩ ?_
   cases h3 : (!r6)
   ·have H := zI h3 H
    refine uA 3 0x4000000000f6a 360 ?_
    obtain ⟨h4,H⟩ | ⟨h4,H⟩ := bC H
    ·refine nA h4 ?_
     refine tK ?_
     refine rA 6 ?_
     obtain ⟨r7,er7,H⟩ := bs H
     refine vA [.rd,.rd,.rd,.rd] (zEj n x0.F r5.1 x2.Src x1 r7 er7) ?_
     refine uA 2 3434 360 ?_
     refine rA 2 ?_
     obtain ⟨r8,er8,H⟩ := bs H
     refine vA [.rd] (zBt n x0.Ve r8 er8) ?_
     refine uA 2 3434 360 ?_
     refine rA 4 ?_
     obtain ⟨r9,er9,H⟩ := bs H
     refine vA [.rd,.rd] (zFr n x0.V r5.1 r9 er9) ?_
     refine lA 3 ?_
     obtain ⟨hg10,H⟩ := gs H
     refine LAt.binC tOk (op := .shl) (t := 3) (ty := 112) (ty' := 3) (x := (.const (.int .i64 1))) (y := (.tmp 76)) (d := 77) (g := none) (.int .i64 1) (.int .u64 (IntKind.wrap .u64 x1)) (.int .i64 (IntKind.wrap .i64 (1 * 2 ^ min (((IntKind.wrap .u64 x1) : Int)).toNat (IntKind.bits .i64)))) _ kr kr kr kr kr (φ := (0 : Int) ≤ (IntKind.wrap .u64 x1)) kr (of_decide_eq_true hg10) rfl ?_
     refine uA 2 10600 360 ?_
     refine gA 1 26984 360 ?_
     refine tS ?_
     refine Tr.mid (ι := Int) (fun v => ⟨101,0,[sI 14 v,sI 13 (IntKind.wrap .i64 (BitVec.ofInt (IntKind.bits .i64) (IntKind.wrap .i64 (BitVec.ofInt (IntKind.bits .i64) r4 &&& BitVec.ofInt (IntKind.bits .i64) r9).toNat) &&& ~~~BitVec.ofInt (IntKind.bits .i64) (IntKind.wrap .i64 (1 * 2 ^ min (((IntKind.wrap .u64 x1) : Int)).toNat (IntKind.bits .i64)))).toNat),sI 11 r5.1,sA 8 8 11 0,sA 6 6 11 0,sA 5 5 4 0,sA 3 3 11 0],[(8,[cI r1.Id,cS r1.Name,cL 8 r1.Ps Pt.row,cL 5 r7 zA.row,cL 3 r1.V.Rows zB.row,cL 1 r1.V.Pv intRow,cI r1.Tk,cI r1.Pa,cI r1.Wo,cI r1.Dr,cI r8]),(6,[cI 0,cS (⟨#[]⟩ : ByteArray),cL 8 ([] : List Pt) Pt.row,cL 5 ([] : List zA) zA.row,cL 3 ([] : List zB) zB.row,cL 1 ([] : List Int) intRow,cI 0,cI 0,cI 0,cI 0,cI 0]),(5,(CV.frzRow (Frame.row x2))),(3,(CV.frzRow (zD.row x0)))]⟩) (fun v => qq n r1 r4 r5 r7 r8 r9 x0 x1 x2 v = some r) ?_ ?_
     ·refine gA 3 0x200000000000000006968 360 ?_
      refine sT ⟨101,0,[sB 81 (x2.Dst != 0),sI 14 (-1),sI 13 (IntKind.wrap .i64 (BitVec.ofInt (IntKind.bits .i64) (IntKind.wrap .i64 (BitVec.ofInt (IntKind.bits .i64) r4 &&& BitVec.ofInt (IntKind.bits .i64) r9).toNat) &&& ~~~BitVec.ofInt (IntKind.bits .i64) (IntKind.wrap .i64 (1 * 2 ^ min (((IntKind.wrap .u64 x1) : Int)).toNat (IntKind.bits .i64)))).toNat),sI 11 r5.1,sA 8 8 11 0,sA 6 6 11 0,sA 5 5 4 0,sA 3 3 11 0],[(8,[cI r1.Id,cS r1.Name,cL 8 r1.Ps Pt.row,cL 5 r7 zA.row,cL 3 r1.V.Rows zB.row,cL 1 r1.V.Pv intRow,cI r1.Tk,cI r1.Pa,cI r1.Wo,cI r1.Dr,cI r8]),(6,[cI 0,cS (⟨#[]⟩ : ByteArray),cL 8 ([] : List Pt) Pt.row,cL 5 ([] : List zA) zA.row,cL 3 ([] : List zB) zB.row,cL 1 ([] : List Int) intRow,cI 0,cI 0,cI 0,cI 0,cI 0]),(5,(CV.frzRow (Frame.row x2))),(3,(CV.frzRow (zD.row x0)))]⟩ ?_
      cases h6 : (x2.Dst != 0)
      ·have H := zI h6 H
       refine nB_ ?_
       refine tK ?_
       exact jA (-1) H [14,13,11,8,6,5,3] [8,6,5,3]
      have H := zJ h6 H
      refine tB_ ?_
      refine Tr.at ?_
      refine lA 5 ?_
      obtain ⟨r15,er15,H⟩ := bs H
      refine vB [.rd,.rd,.rd] [.box 8] (zGs n r7 r5.1 x2.Dst r15 er15) (.inr (zn (zH zM zj) qa)) ?_
      refine uA 1 26984 360 ?_
      exact jA r15 H [14,13,11,8,6,5,3] [8,6,5,3]
     rintro y11 H
     have H : (qq n r1 r4 r5 r7 r8 r9 x0 x1 x2 y11) = some r := H
     unfold qq at H
     refine tS ?_
     refine gA 2 0x20000000000000000006968 360 ?_
     obtain ⟨h5,H⟩ | ⟨h5,H⟩ := bC H
     ·refine nA h5 ?_
      refine tK ?_
      obtain ⟨r12,er12,H⟩ := bs H
      refine Tr.draws mixed 8 kr ⟨101,0,[sC 7 (cL 5 r12 Out.row),sA 6 6 11 0],[(6,[cI r1.Id,cS r1.Name,cL 8 r1.Ps Pt.row,cL 5 r7 zA.row,cL 3 r1.V.Rows zB.row,cL 1 r1.V.Pv intRow,cI r1.Tk,cI r1.Pa,cI r1.Wo,cI r1.Dr,cI r8])]⟩ (fun cx => ?_) ?_
      ·refine aA [(0,[6]),(1,[5,6]),(2,[]),(3,[]),(4,[5,6])] 3 [⟨[5,6],53,5,99⟩,⟨[5,6],31,3,96⟩,⟨[6],31,8,95⟩] fun cx => ?_
       refine bA 5 ?_
       refine vA [.rd,.rd,.rd,.rd] (zDE n x0 r5.1 (IntKind.wrap .i64 (BitVec.ofInt (IntKind.bits .i64) (IntKind.wrap .i64 (BitVec.ofInt (IntKind.bits .i64) r4 &&& BitVec.ofInt (IntKind.bits .i64) r9).toNat) &&& ~~~BitVec.ofInt (IntKind.bits .i64) (IntKind.wrap .i64 (1 * 2 ^ min (((IntKind.wrap .u64 x1) : Int)).toNat (IntKind.bits .i64)))).toNat) x2 r12 er12) ?_
       refine fA ?_
       refine bA 6 ?_
       refine lA 1 ?_
       refine fA ?_
       refine bA 7 ?_
       refine LAt.moveU (T := lk tab) (ty := 56) (x := (.tmp 100)) (d := 7) (g := none) false [cL 5 r12 Out.row] kr kr kr kr kr ?_
       refine fA ?_
       exact eE [7,6] [6]
      exact te (fJ [(true,[cI r1.Id,cS r1.Name,cL 8 r1.Ps Pt.row,cL 5 r7 zA.row,cL 3 r1.V.Rows zB.row,cL 1 r1.V.Pv intRow,cI r1.Tk,cI r1.Pa,cI r1.Wo,cI r1.Dr,cI r8]),(false,[cL 5 r12 Out.row])] H)
     refine tA h5 ?_
     refine Tr.at ?_
     refine lA 3 ?_
     obtain ⟨hg13,H⟩ := gs H
     refine LAt.binC tOk (op := .shl) (t := 3) (ty := 112) (ty' := 3) (x := (.const (.int .i64 1))) (y := (.tmp 92)) (d := 93) (g := none) (.int .i64 1) (.int .u64 (IntKind.wrap .u64 y11)) (.int .i64 (IntKind.wrap .i64 (1 * 2 ^ min (((IntKind.wrap .u64 y11) : Int)).toNat (IntKind.bits .i64)))) _ kr kr kr kr kr (φ := (0 : Int) ≤ (IntKind.wrap .u64 y11)) kr (of_decide_eq_true hg13) rfl ?_
     refine uA 2 10600 360 ?_
     obtain ⟨r14,er14,H⟩ := bs H
     refine Tr.draws mixed 8 kr ⟨101,0,[sC 7 (cL 5 r14 Out.row),sA 6 6 11 0],[(6,[cI r1.Id,cS r1.Name,cL 8 r1.Ps Pt.row,cL 5 r7 zA.row,cL 3 r1.V.Rows zB.row,cL 1 r1.V.Pv intRow,cI r1.Tk,cI r1.Pa,cI r1.Wo,cI r1.Dr,cI r8])]⟩ (fun cx => ?_) ?_
     ·refine aA [(0,[6]),(1,[5,6]),(2,[]),(3,[]),(4,[5,6])] 3 [⟨[5,6],53,5,99⟩,⟨[5,6],31,3,96⟩,⟨[6],31,8,95⟩] fun cx => ?_
      refine bA 5 ?_
      refine vA [.rd,.rd,.rd,.rd] (zDE n x0 r5.1 (IntKind.wrap .i64 (BitVec.ofInt (IntKind.bits .i64) (IntKind.wrap .i64 (BitVec.ofInt (IntKind.bits .i64) (IntKind.wrap .i64 (BitVec.ofInt (IntKind.bits .i64) r4 &&& BitVec.ofInt (IntKind.bits .i64) r9).toNat) &&& ~~~BitVec.ofInt (IntKind.bits .i64) (IntKind.wrap .i64 (1 * 2 ^ min (((IntKind.wrap .u64 x1) : Int)).toNat (IntKind.bits .i64)))).toNat) &&& BitVec.ofInt (IntKind.bits .i64) (IntKind.wrap .i64 (1 * 2 ^ min (((IntKind.wrap .u64 y11) : Int)).toNat (IntKind.bits .i64)))).toNat) x2 r14 er14) ?_
      refine fA ?_
      refine bA 6 ?_
      refine lA 1 ?_
      refine fA ?_
      refine bA 7 ?_
      refine LAt.moveU (T := lk tab) (ty := 56) (x := (.tmp 100)) (d := 7) (g := none) false [cL 5 r14 Out.row] kr kr kr kr kr ?_
      refine fA ?_
      exact eE [7,6] [6]
     exact te (fJ [(true,[cI r1.Id,cS r1.Name,cL 8 r1.Ps Pt.row,cL 5 r7 zA.row,cL 3 r1.V.Rows zB.row,cL 1 r1.V.Pv intRow,cI r1.Tk,cI r1.Pa,cI r1.Wo,cI r1.Dr,cI r8]),(false,[cL 5 r14 Out.row])] H)
    refine tA h4 ?_
    refine rA 2 ?_
    obtain ⟨r16,er16,H⟩ := bs H
    refine vA [.rd] (zBt n x0.Dr r16 er16) ?_
    refine uA 2 832 320 ?_
    refine gA 4 704 64 ?_
    exact te (fJ [(true,[cI r1.Id,cS r1.Name,cL 8 r1.Ps Pt.row,cL 5 r1.F zA.row,cL 3 r1.V.Rows zB.row,cL 1 r1.V.Pv intRow,cI r1.Tk,cI r1.Pa,cI r1.Wo,cI r16,cI r1.Ve]),(false,[cL 5 ([] : List Out) Out.row])] H)
   have H := zJ h3 H
   refine uA 3 0x4000000000f6a 360 ?_
   refine tB_ ?_
   refine rA 2 ?_
   obtain ⟨r17,er17,H⟩ := bs H
   refine vA [.rd] (zBt n x0.Dr r17 er17) ?_
   refine uA 2 832 320 ?_
   refine gA 4 704 64 ?_
   exact te (fJ [(true,[cI r1.Id,cS r1.Name,cL 8 r1.Ps Pt.row,cL 5 r1.F zA.row,cL 3 r1.V.Rows zB.row,cL 1 r1.V.Pv intRow,cI r1.Tk,cI r1.Pa,cI r1.Wo,cI r17,cI r1.Ve]),(false,[cL 5 ([] : List Out) Out.row])] H)
  refine tA h2 ?_
  refine gA 4 704 64 ?_
  exact te (fJ [(true,(zD.row r1)),(false,[cL 5 ([] : List Out) Out.row])] H)
 have H := zJ h1 H
 refine uA 4 67109738 360 ?_
 refine tB_ ?_
 refine gA 4 704 64 ?_
 exact te (fJ [(true,(zD.row r1)),(false,[cL 5 ([] : List Out) Out.row])] H)
end Go.Proofs.Ytcegokjpmppdbaa.Tw
