import Derived.Test.YtcegokjpmppdbaaGreatProg
import Derived.Test.YtcegokjpmppdbaaGreatTlRule
import Derived.Test.YtcegokjpmppdbaaGreatTlU11
import Derived.Test.YtcegokjpmppdbaaGreatTwST0
import Derived.WalkKit
set_option linter.unusedVariables false
set_option linter.unusedSimpArgs false
set_option maxRecDepth 100000
set_option maxHeartbeats 1000000
namespace Go.Proofs.YtcegokjpmppdbaaGreat.Tw
open Go Go.TL Go.Proofs
def YN (n : Nat) (x0 : Int) (x1 : (List Pt)) (x2 : Int) : Option (Int) :=
  ((zP n x2 0 (IntKind.wrap .i64 ((x1.length : Int) - 1))).bind fun r1 => (bif (!r1) then (some 4) else ((idx x1 x2).bind fun v2 => (bif (!v2.Up) then (some 4) else ((Zz n x0 x1).bind fun r3 => (bif (r3.2 == x2) then (some 1) else ((idx x1 x2).bind fun v4 => (bif (!v4.Has) then (some 2) else ((qH n x0 x1 x2).bind fun r5 => ((idx x1 x2).bind fun v6 => ((Qt n r5 v6.Hd).bind fun r7 => (bif r7 then (some 2) else (some 3)))))))))))))
def zN7 : Tab := ⟨19,[0,0,3,4,8,16,32,64,64,64,960,64,64,6208,8256,16448,33856,65600,196608],[0,0,3,4,8,16,32,64,64,64,960,64,64,6208,8256,16448,33856,65600,131072],[0,0,3,7,15,31,63,127,127,127,1023,127,127,6271,14463,30847,65535,131071,262143]⟩
theorem YH : zf (rg Tryz.f169 6) zN7 = true := kr
theorem zLH (n : Nat) (x0 : Int) (x1 : (List Pt)) (x2 : Int) (r : Int) (H : YN n x0 x1 x2 = some r) : zD Tryz.prog 169 [.val false [.lit (.int .i64 x0)],.val false [.sl false 8 (CV.frzEs (x1.map Pt.row))],.val false [.lit (.int .i64 x2)]] [.val false [.lit (.int .i64 r)]] [] := by
 refine cA Tryz.func169 (.seq (Rg Tryz.f169 0) (.seq (.seq (Rg Tryz.f169 1) (.cond (.tmp 22) (.seq (Rg Tryz.f169 2) .ret) .skip)) (.seq (Rg Tryz.f169 3) (.seq (.block 0 (.seq (Rg Tryz.f169 4) (.cond (.tmp 29) (.seq (Rg Tryz.f169 5) .ret) (.seq (Rd Tryz.f169 6) (.cond (.tmp 33) (.seq (Rg Tryz.f169 7) .ret) .skip))))) (.seq (Rg Tryz.f169 8) .ret))))) [.tmp 6] fun cx => ?_
 unfold YN at H
 refine gA 1 7 0 ?_
 refine tS ?_
 refine rA 2 ?_
 refine kF x1 Pt.row ?_
 refine lA 1 ?_
 obtain ⟨r1,er1,H⟩ := bs H
 refine vA [.rd,.rd,.rd] (zO n x2 0 (IntKind.wrap .i64 ((x1.length : Int) - 1)) r1 er1) ?_
 refine lA 2 ?_
 refine sL 32775 0 ⟨52,0,[sB 15 (!r1),sI 0 x0,sC 1 (cF 8 x1 Pt.row),sI 2 x2],[]⟩ ?_
 cases h1 : (!r1)
 ·have H := zG h1 H
  refine lA 2 ?_
  obtain ⟨v2,ev2,H⟩ := bs H
  refine iA Pt.row ev2 ?_
  refine uA 4 4194311 0 ?_
  obtain ⟨h2,H⟩ | ⟨h2,H⟩ := bC H
  ·refine nA h2 ?_
   refine tK ?_
   refine rA 2 ?_
   obtain ⟨r3,er3,H⟩ := bs H
   refine vA [.rd,.rd] (zFz n x0 x1 r3 er3) ?_
   refine LAt.movT tOk (ty := 233) (t := 26) (d := 23) (g := none) [(true,(Vec.row r3.1)),(false,[cI r3.2])] _ kr (.inl rfl) kr kr kr kr rfl ?_
   refine uA 5 263 0 ?_
   refine tS ?_
   refine tB ?_
   refine gA 4 536870919 0 ?_
   obtain ⟨h3,H⟩ | ⟨h3,H⟩ := bC H
   ·refine nA h3 ?_
    obtain ⟨v4,ev4,H⟩ := bs H
    refine sT ⟨52,0,[sB 29 (r3.2 == x2),sI 0 x0,sC 1 (cF 8 x1 Pt.row),sI 2 x2],[]⟩ ?_
    cases h4 : (!v4.Has)
    ·have H := zG h4 H
     obtain ⟨r5,er5,H⟩ := bs H
     obtain ⟨v6,ev6,H⟩ := bs H
     obtain ⟨r7,er7,H⟩ := bs H
     refine Tr.draws mixed 19 kr ⟨52,0,[sB 33 r7],[]⟩ (fun cx => ?_) ?_
     ·refine mA YH [(0,[]),(1,[])] 17 [] fun cx => ?_
      refine iN YH 2 Pt.row ev4 fun cx => ?_
      refine mA YH [(3,[]),(4,[]),(5,[]),(6,[])] 12 [] fun cx => ?_
      refine sA_ 1099511627783 0 ⟨52,0,[sB 40 (!v4.Has),sI 0 x0,sC 1 (cF 8 x1 Pt.row),sI 2 x2],[]⟩ ?_
      rw [h4]
      refine mA YH [(7,[]),(8,[]),(9,[]),(11,[]),(12,[])] 7 [] fun cx => ?_
      refine iN YH 13 Pt.row ev6 fun cx => ?_
      refine mA YH [(14,[]),(15,[])] 4 [] fun cx => ?_
      refine mC YH 10 ?_
      refine vA [.rd,.rd,.rd] (zET n x0 x1 x2 r5 er5) ?_
      refine fA ?_
      refine mC YH 16 ?_
      refine vA [.rd,.rd] (zF2 n r5 v6.Hd r7 er7) ?_
      refine fA ?_
      refine mA YH [(17,[]),(18,[])] 0 [] fun cx => ?_
      exact mE YH [33] []
     cases h5 : r7
     ·have H := zG h5 H
      refine nB_ ?_
      refine tK ?_
      refine gA 1 64 0 ?_
      exact te (by obtain rfl := si H; exact fP [(false,[cI 3])])
     have H := zH h5 H
     refine tB_ ?_
     refine gA 1 64 0 ?_
     exact te (by obtain rfl := si H; exact fP [(false,[cI 2])])
    have H := zH h4 H
    refine Tr.draws mixed 19 kr ⟨52,0,[sB 33 true],[]⟩ (fun cx => ?_) ?_
    ·refine mA YH [(0,[]),(1,[])] 17 [] fun cx => ?_
     refine iN YH 2 Pt.row ev4 fun cx => ?_
     refine mA YH [(3,[]),(4,[]),(5,[]),(6,[])] 12 [] fun cx => ?_
     refine sA_ 1099511627783 0 ⟨52,0,[sB 40 (!v4.Has),sI 0 x0,sC 1 (cF 8 x1 Pt.row),sI 2 x2],[]⟩ ?_
     rw [h4]
     refine mA YH [(7,[]),(8,[]),(9,[]),(10,[]),(11,[]),(12,[]),(13,[]),(14,[]),(15,[]),(16,[]),(17,[]),(18,[])] 0 [] fun cx => ?_
     exact mE YH [33] []
    refine tB_ ?_
    refine gA 1 64 0 ?_
    exact te (by obtain rfl := si H; exact fP [(false,[cI 2])])
   refine tA h3 ?_
   refine gA 1 64 0 ?_
   exact te (by obtain rfl := si H; exact fP [(false,[cI 1])])
  refine tA h2 ?_
  refine gA 1 64 0 ?_
  exact te (by obtain rfl := si H; exact fP [(false,[cI 4])])
 have H := zH h1 H
 refine uA 7 4194311 0 ?_
 refine tB_ ?_
 refine gA 1 64 0 ?_
 exact te (by obtain rfl := si H; exact fP [(false,[cI 4])])
def zBk (n : Nat) (y3 : Int) : Option (Int) :=
  (some y3)
def ZY (n : Nat) : Nat → Int → (List Pt) → Int → Int → Option ((Int) ⊕ (Int))
  | 0,_,_,_,_ => none
  | mo4 + 1,x0,x1,y1,y2 => (bif (decide (y1 < (x1.length : Int))) then (bif (decide (y1 < 6)) then ((YN n x0 x1 y1).bind fun r5 => (bif (decide (r5 ≤ 2)) then (bif (decide ((0 : Int) ≤ (IntKind.wrap .u64 y1))) then (ZY n mo4 x0 x1 (IntKind.wrap .i64 (y1 + 1)) (IntKind.wrap .i64 (BitVec.ofInt (IntKind.bits .i64) y2 ||| BitVec.ofInt (IntKind.bits .i64) (IntKind.wrap .i64 (1 * 2 ^ min (((IntKind.wrap .u64 y1) : Int)).toNat (IntKind.bits .i64)))).toNat)) else none) else (ZY n mo4 x0 x1 (IntKind.wrap .i64 (y1 + 1)) y2))) else (some (Sum.inl y2))) else (some (Sum.inl y2)))
def ZX (n : Nat) (x0 : Int) (x1 : (List Pt)) : Option (Int) :=
  ((ZY n n x0 x1 0 0).bind fun o => match o with | .inl y3 => (zBk n y3) | .inr r => some r)
theorem zMC (n : Nat) (x0 : Int) (x1 : (List Pt)) (r : Int) (H : ZX n x0 x1 = some r) : zD Tryz.prog 71 [.val false [.lit (.int .i64 x0)],.val false [.sl false 8 (CV.frzEs (x1.map Pt.row))]] [.val false [.lit (.int .i64 r)]] [] := by
 refine cA Tryz.func71 (.seq (Rg Tryz.f71 0) (.seq (Rg Tryz.f71 1) (.seq (.seq (Rg Tryz.f71 2) (.block 0 (.loop (.seq (.seq (Rg Tryz.f71 3) (.cond (.tmp 14) .skip (.exit 0))) (.seq (.block 1 (.seq (Rg Tryz.f71 5) (.cond (.tmp 21) (Rg Tryz.f71 6) .skip))) (Rg Tryz.f71 4)))))) (.seq (Rg Tryz.f71 7) .ret)))) [.tmp 4] fun cx => ?_
 unfold ZX at H
 refine gA 1 3 0 ?_
 refine gA 1 35 0 ?_
 refine tS ?_
 refine gA 1 99 0 ?_
 obtain ⟨o4,eo4,Ho4⟩ := bs H
 clear H
 refine Tr.mid (ι := Int) (fun v => ⟨28,0,[sI 5 v],[]⟩) (fun v => zBk n v = some r) ?_ ?_
 ·refine tB ?_
  refine Tr.loop (ι := Nat × (Int × Int)) (fun v => ⟨28,0,[sI 6 v.2.1,sI 5 v.2.2,sI 0 x0,sC 1 (cF 8 x1 Pt.row)],[]⟩) (fun v => ZY n v.1 x0 x1 v.2.1 v.2.2 = some o4) (fun v => v.1) (n,(0,0)) eo4 (St.sub_of [6,5,0,1] [] kr) ?_
  rintro ⟨mo4,y1,y2⟩ H
  have H : ZY n mo4 x0 x1 y1 y2 = some o4 := H
  obtain _ | mo4 := mo4
  ·exact nN H
  rw [ZY] at H
  refine tS ?_
  refine rA 2 ?_
  refine kF x1 Pt.row ?_
  refine lA 2 ?_
  refine sL 2147 0 ⟨28,0,[sB 11 (decide (y1 < (x1.length : Int))),sI 6 y1,sI 5 y2,sI 0 x0,sC 1 (cF 8 x1 Pt.row)],[]⟩ ?_
  cases h1 : (decide (y1 < (x1.length : Int)))
  ·have H := zG h1 H
   refine uA 3 16483 0 ?_
   refine nB_ ?_
   refine Tr.exit ?_
   refine And.intro (fun _ => ?_) (fun h => absurd rfl h)
   obtain rfl := si H
   have H := Ho4
   dsimp only at H
   exact jA y2 H [5] []
  have H := zH h1 H
  refine uA 3 16483 0 ?_
  obtain ⟨h2,H⟩ | ⟨h2,H⟩ := bC H
  ·refine nA h2 ?_
   refine Tr.exit ?_
   refine And.intro (fun _ => ?_) (fun h => absurd rfl h)
   obtain rfl := si H
   have H := Ho4
   dsimp only at H
   exact jA y2 H [5] []
  refine tA h2 ?_
  refine tK ?_
  refine tS ?_
  refine tB ?_
  refine rA 3 ?_
  obtain ⟨r5,er5,H⟩ := bs H
  refine vA [.rd,.rd,.rd] (zLH n x0 x1 y1 r5 er5) ?_
  refine uA 1 2097251 0 ?_
  obtain ⟨h3,H⟩ | ⟨h3,H⟩ := bC H
  ·refine nA h3 ?_
   refine tK ?_
   refine eA 3 99 0 ?_
   exact jB mo4 ((IntKind.wrap .i64 (y1 + 1)),y2) H [6,5,0,1] []
  refine tA h3 ?_
  refine Tr.at ?_
  refine lA 3 ?_
  obtain ⟨hg6,H⟩ := gs H
  refine LAt.binC tOk (op := .shl) (t := 3) (ty := 124) (ty' := 3) (x := (.const (.int .i64 1))) (y := (.tmp 24)) (d := 25) (g := none) (.int .i64 1) (.int .u64 (IntKind.wrap .u64 y1)) (.int .i64 (IntKind.wrap .i64 (1 * 2 ^ min (((IntKind.wrap .u64 y1) : Int)).toNat (IntKind.bits .i64)))) _ kr kr kr kr kr (φ := (0 : Int) ≤ (IntKind.wrap .u64 y1)) kr (of_decide_eq_true hg6) rfl ?_
  refine uA 2 99 0 ?_
  refine eA 3 99 0 ?_
  exact jB mo4 ((IntKind.wrap .i64 (y1 + 1)),(IntKind.wrap .i64 (BitVec.ofInt (IntKind.bits .i64) y2 ||| BitVec.ofInt (IntKind.bits .i64) (IntKind.wrap .i64 (1 * 2 ^ min (((IntKind.wrap .u64 y1) : Int)).toNat (IntKind.bits .i64)))).toNat)) H [6,5,0,1] []
 rintro y3 H
 have H : (zBk n y3) = some r := H
 unfold zBk at H
 refine gA 2 16 0 ?_
 exact te (by obtain rfl := si H; exact fP [(false,[cI y3])])
def zBS (n : Nat) (x0 : Int) (x1 : Int) : Option (Bool) :=
  ((zP n x1 0 7).bind fun r1 => (bif r1 then (bif (decide ((0 : Int) ≤ (IntKind.wrap .u64 x1))) then (some ((IntKind.wrap .i64 (BitVec.ofInt (IntKind.bits .i64) (Int.fdiv x0 (2 ^ min (((IntKind.wrap .u64 x1) : Int)).toNat (IntKind.bits .i64))) &&& BitVec.ofInt (IntKind.bits .i64) 1).toNat) == 1)) else none) else (some false)))
theorem zMD (n : Nat) (x0 : Int) (x1 : Int) (r : Bool) (H : zBS n x0 x1 = some r) : zD Tryz.prog 73 [.val false [.lit (.int .i64 x0)],.val false [.lit (.int .i64 x1)]] [.val false [.lit (.bool r)]] [] := by
 refine cA Tryz.func73 (.seq (Rg Tryz.f73 0) (.seq (Rg Tryz.f73 1) .ret)) [.tmp 4] fun cx => ?_
 unfold zBS at H
 refine gA 1 3 0 ?_
 refine rA 1 ?_
 obtain ⟨r1,er1,H⟩ := bs H
 refine vA [.rd,.rd,.rd] (zO n x1 0 7 r1 er1) ?_
 refine lA 1 ?_
 refine sL 131 0 ⟨15,0,[sB 7 r1,sI 0 x0,sI 1 x1],[]⟩ ?_
 cases h1 : r1
 ·have H := zG h1 H
  refine uA 8 16 0 ?_
  exact te (by obtain rfl := si H; exact fP [(false,[cB false])])
 have H := zH h1 H
 refine lA 3 ?_
 obtain ⟨hg2,H⟩ := gs H
 refine LAt.binC tOk (op := .shr) (t := 3) (ty := 124) (ty' := 3) (x := (.tmp 8)) (y := (.tmp 10)) (d := 11) (g := (some (2,true))) (.int .i64 x0) (.int .u64 (IntKind.wrap .u64 x1)) (.int .i64 (Int.fdiv x0 (2 ^ min (((IntKind.wrap .u64 x1) : Int)).toNat (IntKind.bits .i64)))) _ kr kr kr kr kr (φ := (0 : Int) ≤ (IntKind.wrap .u64 x1)) kr (of_decide_eq_true hg2) rfl ?_
 refine uA 4 16 0 ?_
 exact te (by obtain rfl := si H; exact fP [(false,[cB ((IntKind.wrap .i64 (BitVec.ofInt (IntKind.bits .i64) (Int.fdiv x0 (2 ^ min (((IntKind.wrap .u64 x1) : Int)).toNat (IntKind.bits .i64))) &&& BitVec.ofInt (IntKind.bits .i64) 1).toNat) == 1)])])
def Qy (n : Nat) (y3 : (List zB)) : Option ((List zB)) :=
  (some y3)
def qN (n : Nat) : Nat → (List zB) → Int → Int → (List zB) → Option (((List zB)) ⊕ ((List zB)))
  | 0,_,_,_,_ => none
  | mo4 + 1,x0,x1,y1,y2 => (bif (decide (y1 < (x0.length : Int))) then ((idx x0 y1).bind fun v5 => (bif v5.Sc then ((idx x0 y1).bind fun v9 => (bif (decide (y2.length + [v9].length ≤ 268435456)) then (qN n mo4 x0 x1 (IntKind.wrap .i64 (y1 + 1)) (y2 ++ [v9])) else none)) else ((idx x0 y1).bind fun v6 => (bif (v6.Port != x1) then ((idx x0 y1).bind fun v7 => (bif (decide (y2.length + [v7].length ≤ 268435456)) then (qN n mo4 x0 x1 (IntKind.wrap .i64 (y1 + 1)) (y2 ++ [v7])) else none)) else (qN n mo4 x0 x1 (IntKind.wrap .i64 (y1 + 1)) y2))))) else (some (Sum.inl y2)))
def Yw (n : Nat) (x0 : (List zB)) (x1 : Int) : Option ((List zB)) :=
  ((qN n n x0 x1 0 ([] : List zB)).bind fun o => match o with | .inl y3 => (Qy n y3) | .inr r => some r)
theorem zIu (n : Nat) (x0 : (List zB)) (x1 : Int) (r : (List zB)) (H : Yw n x0 x1 = some r) : zD Tryz.prog 239 [.val false [.sl false 5 (CV.frzEs (x0.map zB.row))],.val false [.lit (.int .i64 x1)]] [.val false [.sl true 5 (r.map zB.row)]] [] := by
 refine cA Tryz.func239 (.seq (Rg Tryz.f239 0) (.seq (Rg Tryz.f239 1) (.seq (.seq (Rg Tryz.f239 2) (.block 0 (.loop (.seq (.seq (Rg Tryz.f239 3) (.cond (.tmp 11) .skip (.exit 0))) (.seq (.block 1 (.seq (Rg Tryz.f239 5) (.cond (.tmp 27) (Rg Tryz.f239 6) .skip))) (Rg Tryz.f239 4)))))) (.seq (Rg Tryz.f239 7) .ret)))) [.tmp 4] fun cx => ?_
 unfold Yw at H
 refine gA 1 3 0 ?_
 refine rA 1 ?_
 refine LAt.moveU (T := lk tab) (ty := 36) (x := (.tmp 7)) (d := 5) (g := none) false [cL 5 ([] : List zB) zB.row] kr kr kr kr kr ?_
 refine dA 35 0 ?_
 refine tS ?_
 refine gA 1 99 0 ?_
 obtain ⟨o4,eo4,Ho4⟩ := bs H
 clear H
 refine Tr.mid (ι := (List zB)) (fun v => ⟨36,0,[sC 5 (cL 5 v zB.row)],[]⟩) (fun v => Qy n v = some r) ?_ ?_
 ·refine tB ?_
  refine Tr.loop (ι := Nat × (Int × (List zB))) (fun v => ⟨36,0,[sI 6 v.2.1,sC 5 (cL 5 v.2.2 zB.row),sC 0 (cF 5 x0 zB.row),sI 1 x1],[]⟩) (fun v => qN n v.1 x0 x1 v.2.1 v.2.2 = some o4) (fun v => v.1) (n,(0,([] : List zB))) eo4 (St.sub_of [6,5,0,1] [] kr) ?_
  rintro ⟨mo4,y1,y2⟩ H
  have H : qN n mo4 x0 x1 y1 y2 = some o4 := H
  obtain _ | mo4 := mo4
  ·exact nN H
  rw [qN] at H
  refine tS ?_
  refine rA 2 ?_
  refine kF x0 zB.row ?_
  refine uA 1 2147 0 ?_
  obtain ⟨h1,H⟩ | ⟨h1,H⟩ := bC H
  ·refine nA h1 ?_
   refine Tr.exit ?_
   refine And.intro (fun _ => ?_) (fun h => absurd rfl h)
   obtain rfl := si H
   have H := Ho4
   dsimp only at H
   exact jA y2 H [5] []
  refine tA h1 ?_
  refine tK ?_
  refine tS ?_
  refine tB ?_
  refine tS ?_
  refine Tr.at ?_
  refine lA 2 ?_
  obtain ⟨v5,ev5,H⟩ := bs H
  refine iA zB.row ev5 ?_
  refine lA 3 ?_
  refine sL 524387 0 ⟨36,0,[sB 19 v5.Sc,sI 6 y1,sC 5 (cL 5 y2 zB.row),sC 0 (cF 5 x0 zB.row),sI 1 x1],[]⟩ ?_
  cases h2 : v5.Sc
  ·have H := zG h2 H
   refine lA 2 ?_
   obtain ⟨v6,ev6,H⟩ := bs H
   refine iA zB.row ev6 ?_
   refine uA 5 134217827 0 ?_
   obtain ⟨h3,H⟩ | ⟨h3,H⟩ := bC H
   ·refine nA h3 ?_
    refine tK ?_
    refine eA 3 99 0 ?_
    exact jB mo4 ((IntKind.wrap .i64 (y1 + 1)),y2) H [6,5,0,1] []
   refine tA h3 ?_
   refine Tr.at ?_
   refine lA 3 ?_
   obtain ⟨v7,ev7,H⟩ := bs H
   refine iA zB.row ev7 ?_
   refine lA 2 ?_
   obtain ⟨hg8,H⟩ := gs H
   refine LAt.appMU tOk (t := 36) (ty := 36) (e := 169) (x := (.tmp 28)) (y := (.tmp 33)) (d := 34) (g := none) (tI 169) zB.row y2 [v7] kr kr kr kr kr kr kr kr kr kr hg8 ?_
   refine LAt.moveU (T := lk tab) (ty := 36) (x := (.tmp 34)) (d := 5) (g := none) false [cL 5 (y2 ++ [v7]) zB.row] kr kr kr kr kr ?_
   refine dA 99 0 ?_
   refine eA 3 99 0 ?_
   exact jB mo4 ((IntKind.wrap .i64 (y1 + 1)),(y2 ++ [v7])) H [6,5,0,1] []
  have H := zH h2 H
  refine uA 8 134217827 0 ?_
  refine tB_ ?_
  refine Tr.at ?_
  refine lA 3 ?_
  obtain ⟨v9,ev9,H⟩ := bs H
  refine iA zB.row ev9 ?_
  refine lA 2 ?_
  obtain ⟨hg10,H⟩ := gs H
  refine LAt.appMU tOk (t := 36) (ty := 36) (e := 169) (x := (.tmp 28)) (y := (.tmp 33)) (d := 34) (g := none) (tI 169) zB.row y2 [v9] kr kr kr kr kr kr kr kr kr kr hg10 ?_
  refine LAt.moveU (T := lk tab) (ty := 36) (x := (.tmp 34)) (d := 5) (g := none) false [cL 5 (y2 ++ [v9]) zB.row] kr kr kr kr kr ?_
  refine dA 99 0 ?_
  refine eA 3 99 0 ?_
  exact jB mo4 ((IntKind.wrap .i64 (y1 + 1)),(y2 ++ [v9])) H [6,5,0,1] []
 rintro y3 H
 have H : (Qy n y3) = some r := H
 unfold Qy at H
 refine gA 2 48 0 ?_
 exact te (by obtain rfl := si H; exact fP [(false,[cL 5 y3 zB.row])])
def JD (n : Nat) (r1 : Int) (x0 : zA) (y5 : (List zB)) : Option (zA) :=
  (some (⟨x0.Id,x0.Name,x0.Ps,y5,x0.V,x0.Tk,x0.Pa,x0.Wo,x0.Dr,r1⟩ : zA))
def z4 (n : Nat) : Nat → Int → zA → Int → (List zB) → Option (((List zB)) ⊕ (zA))
  | 0,_,_,_,_ => none
  | mo6 + 1,r2,x0,y3,y4 => (bif (decide (y3 < (x0.Ps.length : Int))) then ((zBS n r2 y3).bind fun r7 => (bif (!r7) then ((Yw n y4 y3).bind fun r8 => (z4 n mo6 r2 x0 (IntKind.wrap .i64 (y3 + 1)) r8)) else (z4 n mo6 r2 x0 (IntKind.wrap .i64 (y3 + 1)) y4))) else (some (Sum.inl y4)))
def ql (n : Nat) (x0 : zA) : Option (zA) :=
  ((YO n x0.Ve).bind fun r1 => ((ZX n x0.Id x0.Ps).bind fun r2 => ((z4 n n r2 x0 0 x0.F).bind fun o => match o with | .inl y5 => (JD n r1 x0 y5) | .inr r => some r)))
theorem zCT (n : Nat) (x0 : zA) (r : zA) (H : ql n x0 = some r) : zD Tryz.prog 195 [.own true (zA.row x0)] [.val true (zA.row r)] [] := by
 refine cA Tryz.func195 (.seq (Rg Tryz.f195 0) (.seq (Rg Tryz.f195 1) (.seq (Rg Tryz.f195 2) (.seq (.seq (Rg Tryz.f195 3) (.block 0 (.loop (.seq (.seq (Rg Tryz.f195 4) (.cond (.tmp 18) .skip (.exit 0))) (.seq (.block 1 (.seq (Rg Tryz.f195 6) (.cond (.tmp 24) (Rg Tryz.f195 7) .skip))) (Rg Tryz.f195 5)))))) (.seq (Rg Tryz.f195 8) .ret))))) [.cell 2 41] fun cx => ?_
 unfold ql at H
 refine gA 2 6 6 ?_
 refine rA 2 ?_
 obtain ⟨r1,er1,H⟩ := bs H
 refine vA [.rd] (zGu n x0.Ve r1 er1) ?_
 refine uA 2 6 6 ?_
 refine rA 4 ?_
 obtain ⟨r2,er2,H⟩ := bs H
 refine vB [.rd,.rd] [.box 1] (zMC n x0.Id x0.Ps r2 er2) (.inr (zk (zJ zL zy) zz)) ?_
 refine uA 1 14 6 ?_
 refine tS ?_
 refine gA 1 30 6 ?_
 obtain ⟨o6,eo6,Ho6⟩ := bs H
 clear H
 refine Tr.mid (ι := (List zB)) (fun v => ⟨31,0,[sA 2 2 11 0,sA 1 1 11 0],[(1,[cI x0.Id,cS x0.Name,cL 8 x0.Ps Pt.row,cL 5 v zB.row,cL 3 x0.V.Rows zC.row,cL 1 x0.V.Pv intRow,cI x0.Tk,cI x0.Pa,cI x0.Wo,cI x0.Dr,cI r1]),(2,[cI 0,cS (⟨#[]⟩ : ByteArray),cL 8 ([] : List Pt) Pt.row,cL 5 ([] : List zB) zB.row,cL 3 ([] : List zC) zC.row,cL 1 ([] : List Int) intRow,cI 0,cI 0,cI 0,cI 0,cI 0])]⟩) (fun v => JD n r1 x0 v = some r) ?_ ?_
 ·refine tB ?_
  refine Tr.loop (ι := Nat × (Int × (List zB))) (fun v => ⟨31,0,[sI 4 v.2.1,sI 3 r2,sA 2 2 11 0,sA 1 1 11 0],[(1,[cI x0.Id,cS x0.Name,cL 8 x0.Ps Pt.row,cL 5 v.2.2 zB.row,cL 3 x0.V.Rows zC.row,cL 1 x0.V.Pv intRow,cI x0.Tk,cI x0.Pa,cI x0.Wo,cI x0.Dr,cI r1]),(2,[cI 0,cS (⟨#[]⟩ : ByteArray),cL 8 ([] : List Pt) Pt.row,cL 5 ([] : List zB) zB.row,cL 3 ([] : List zC) zC.row,cL 1 ([] : List Int) intRow,cI 0,cI 0,cI 0,cI 0,cI 0])]⟩) (fun v => z4 n v.1 r2 x0 v.2.1 v.2.2 = some o6) (fun v => v.1) (n,(0,x0.F)) eo6 (St.sub_of [4,3,2,1] [1,2] kr) ?_
  rintro ⟨mo6,y3,y4⟩ H
  have H : z4 n mo6 r2 x0 y3 y4 = some o6 := H
  obtain _ | mo6 := mo6
  ·exact nN H
  rw [z4] at H
  refine tS ?_
  refine rA 3 ?_
  refine kO x0.Ps Pt.row ?_
  refine uA 1 262174 6 ?_
  obtain ⟨h1,H⟩ | ⟨h1,H⟩ := bC H
  ·refine nA h1 ?_
   refine Tr.exit ?_
   refine And.intro (fun _ => ?_) (fun h => absurd rfl h)
   obtain rfl := si H
   have H := Ho6
   dsimp only at H
   exact jA y4 H [2,1] [1,2]
  refine tA h1 ?_
  refine tK ?_
  refine tS ?_
  refine tB ?_
  refine rA 2 ?_
  obtain ⟨r7,er7,H⟩ := bs H
  refine vA [.rd,.rd] (zMD n r2 y3 r7 er7) ?_
  refine uA 1 16777246 6 ?_
  obtain ⟨h2,H⟩ | ⟨h2,H⟩ := bC H
  ·refine nA h2 ?_
   refine tK ?_
   refine eA 3 30 6 ?_
   exact jB mo6 ((IntKind.wrap .i64 (y3 + 1)),y4) H [4,3,2,1] [1,2]
  refine tA h2 ?_
  refine Tr.at ?_
  refine lA 3 ?_
  obtain ⟨r8,er8,H⟩ := bs H
  refine vB [.rd,.rd] [.box 1] (zIu n y4 y3 r8 er8) (.inr (zk (zJ (JU (Qs zB.row_mine _)) zy) zz)) ?_
  refine uA 2 30 6 ?_
  refine eA 3 30 6 ?_
  exact jB mo6 ((IntKind.wrap .i64 (y3 + 1)),r8) H [4,3,2,1] [1,2]
 rintro y5 H
 have H : (JD n r1 x0 y5) = some r := H
 unfold JD at H
 refine gA 2 4 4 ?_
 exact te (by obtain rfl := si H; exact fP [(true,[cI x0.Id,cS x0.Name,cL 8 x0.Ps Pt.row,cL 5 y5 zB.row,cL 3 x0.V.Rows zC.row,cL 1 x0.V.Pv intRow,cI x0.Tk,cI x0.Pa,cI x0.Wo,cI x0.Dr,cI r1])])
def zBA (n : Nat) (x0 : zA) : Option (zA) :=
  ((Z4 n x0).bind fun r1 => ((zS n x0).bind fun r2 => (bif (!r2) then (some r1) else ((YO n x0.Tk).bind fun r3 => ((YM n x0.F).bind fun r4 => ((ql n (⟨r1.Id,r1.Name,r1.Ps,r4,r1.V,r3,r1.Pa,r1.Wo,r1.Dr,r1.Ve⟩ : zA)).bind fun r5 => (some r5)))))))
theorem zMl (n : Nat) (x0 : zA) (r : zA) (H : zBA n x0 = some r) : zD Tryz.prog 108 [.val true (CV.frzRow (zA.row x0))] [.val true (zA.row r)] [] := by
 refine cA Tryz.func108 (.seq (Rg Tryz.f108 0) (.seq (Rg Tryz.f108 1) (.seq (.seq (Rg Tryz.f108 2) (.cond (.tmp 8) (.seq (Rg Tryz.f108 3) .ret) .skip)) (.seq (Rg Tryz.f108 4) (.seq (Rg Tryz.f108 5) (.seq (Rg Tryz.f108 6) .ret)))))) [.cell 2 41] fun cx => ?_
 unfold zBA at H
 refine gA 2 6 6 ?_
 refine rA 1 ?_
 obtain ⟨r1,er1,H⟩ := bs H
 refine vA [.rd] (zCC n x0 r1 er1) ?_
 refine uA 2 14 14 ?_
 refine tS ?_
 refine rA 1 ?_
 obtain ⟨r2,er2,H⟩ := bs H
 refine vA [.rd] (zDD n x0 r2 er2) ?_
 refine uA 1 270 14 ?_
 obtain ⟨h1,H⟩ | ⟨h1,H⟩ := bC H
 ·refine nA h1 ?_
  refine tK ?_
  refine rA 2 ?_
  obtain ⟨r3,er3,H⟩ := bs H
  refine vA [.rd] (zGu n x0.Tk r3 er3) ?_
  refine uA 2 14 14 ?_
  refine rA 2 ?_
  obtain ⟨r4,er4,H⟩ := bs H
  refine vA [.rd] (zLG n x0.F r4 er4) ?_
  refine uA 2 12 12 ?_
  refine rA 1 ?_
  obtain ⟨r5,er5,H⟩ := bs H
  refine vA [.own] (zCT n (⟨r1.Id,r1.Name,r1.Ps,r4,r1.V,r3,r1.Pa,r1.Wo,r1.Dr,r1.Ve⟩ : zA) r5 er5) ?_
  refine uA 1 4 4 ?_
  exact te (by obtain rfl := si H; exact fP [(true,(zA.row r5))])
 refine tA h1 ?_
 refine gA 2 4 4 ?_
 exact te (by obtain rfl := si H; exact fP [(true,(zA.row r1))])
def Q7 (n : Nat) (x0 : Net) (x1 : Int) (x2 : Int) : Option (Bool) :=
  ((zP n x1 0 (IntKind.wrap .i64 ((x0.Bs.length : Int) - 1))).bind fun r1 => (bif r1 then ((idx x0.Bs x1).bind fun v2 => ((zP n x2 0 (IntKind.wrap .i64 ((v2.Ps.length : Int) - 1))).bind fun r3 => (bif r3 then ((idx x0.Bs x1).bind fun v4 => ((idx v4.Ps x2).bind fun v5 => (some v5.Up))) else (some false)))) else (some false)))
theorem zII (n : Nat) (x0 : Net) (x1 : Int) (x2 : Int) (r : Bool) (H : Q7 n x0 x1 x2 = some r) : zD Tryz.prog 163 [.val true (CV.frzRow (Net.row x0)),.val false [.lit (.int .i64 x1)],.val false [.lit (.int .i64 x2)]] [.val false [.lit (.bool r)]] [] := by
 refine cA Tryz.func163 (.seq (Rg Tryz.f163 0) (.seq (Rg Tryz.f163 1) .ret)) [.tmp 6] fun cx => ?_
 unfold Q7 at H
 refine gA 2 14 8 ?_
 refine rA 3 ?_
 refine kF x0.Bs zA.row ?_
 refine lA 1 ?_
 obtain ⟨r1,er1,H⟩ := bs H
 refine vA [.rd,.rd,.rd] (zO n x1 0 (IntKind.wrap .i64 ((x0.Bs.length : Int) - 1)) r1 er1) ?_
 refine lA 1 ?_
 refine sL 8206 8 ⟨37,0,[sB 13 r1,sA 3 3 3 0,sI 1 x1,sI 2 x2],[(3,(CV.frzRow (Net.row x0)))]⟩ ?_
 cases h1 : r1
 ·have H := zG h1 H
  refine uA 24 64 0 ?_
  exact te (by obtain rfl := si H; exact fP [(false,[cB false])])
 have H := zH h1 H
 refine lA 4 ?_
 obtain ⟨v2,ev2,H⟩ := bs H
 refine iA zA.row ev2 ?_
 refine lA 2 ?_
 refine kF v2.Ps Pt.row ?_
 refine lA 1 ?_
 obtain ⟨r3,er3,H⟩ := bs H
 refine vA [.rd,.rd,.rd] (zO n x2 0 (IntKind.wrap .i64 ((v2.Ps.length : Int) - 1)) r3 er3) ?_
 refine lA 2 ?_
 refine sL 33554446 8 ⟨37,0,[sB 25 r3,sA 3 3 3 0,sI 1 x1,sI 2 x2],[(3,(CV.frzRow (Net.row x0)))]⟩ ?_
 cases h2 : r3
 ·have H := zG h2 H
  refine uA 12 64 0 ?_
  exact te (by obtain rfl := si H; exact fP [(false,[cB false])])
 have H := zH h2 H
 refine lA 3 ?_
 obtain ⟨v4,ev4,H⟩ := bs H
 refine iA zA.row ev4 ?_
 refine lA 3 ?_
 obtain ⟨v5,ev5,H⟩ := bs H
 refine iA Pt.row ev5 ?_
 refine uA 4 64 0 ?_
 exact te (by obtain rfl := si H; exact fP [(false,[cB v5.Up])])
def ZE (n : Nat) (x0 : Net) (x1 : Int) : Option (Bool) :=
  ((zP n x1 0 (IntKind.wrap .i64 ((x0.Ls.length : Int) - 1))).bind fun r1 => (bif (!r1) then (some false) else ((idx x0.Ls x1).bind fun v2 => ((Q7 n x0 v2.A v2.P).bind fun r3 => (bif r3 then ((Q7 n x0 v2.B v2.Q).bind fun r4 => (some r4)) else (some false))))))
theorem zES (n : Nat) (x0 : Net) (x1 : Int) (r : Bool) (H : ZE n x0 x1 = some r) : zD Tryz.prog 63 [.val true (CV.frzRow (Net.row x0)),.val false [.lit (.int .i64 x1)]] [.val false [.lit (.bool r)]] [] := by
 refine cA Tryz.func63 (.seq (Rg Tryz.f63 0) (.seq (.seq (Rg Tryz.f63 1) (.cond (.tmp 12) (.seq (Rg Tryz.f63 2) .ret) .skip)) (.seq (Rg Tryz.f63 3) (.seq (Rg Tryz.f63 4) .ret)))) [.tmp 4] fun cx => ?_
 unfold ZE at H
 refine gA 2 6 4 ?_
 refine tS ?_
 refine rA 3 ?_
 refine kF x0.Ls Link.row ?_
 refine lA 1 ?_
 obtain ⟨r1,er1,H⟩ := bs H
 refine vA [.rd,.rd,.rd] (zO n x1 0 (IntKind.wrap .i64 ((x0.Ls.length : Int) - 1)) r1 er1) ?_
 refine uA 1 4102 4 ?_
 obtain ⟨h1,H⟩ | ⟨h1,H⟩ := bC H
 ·refine nA h1 ?_
  refine tK ?_
  refine rA 3 ?_
  obtain ⟨v2,ev2,H⟩ := bs H
  refine iA Link.row ev2 ?_
  refine uA 3 36 36 ?_
  refine rA 5 ?_
  obtain ⟨r3,er3,H⟩ := bs H
  refine vA [.rd,.rd,.rd] (zII n x0 v2.A v2.P r3 er3) ?_
  refine lA 1 ?_
  refine sL 16777252 36 ⟨32,0,[sB 24 r3,sA 5 5 4 0,sA 2 2 3 0],[(5,(Link.row v2)),(2,(CV.frzRow (Net.row x0)))]⟩ ?_
  cases h2 : r3
  ·have H := zG h2 H
   refine uA 8 16 0 ?_
   exact te (by obtain rfl := si H; exact fP [(false,[cB false])])
  have H := zH h2 H
  refine lA 5 ?_
  obtain ⟨r4,er4,H⟩ := bs H
  refine vA [.rd,.rd,.rd] (zII n x0 v2.B v2.Q r4 er4) ?_
  refine uA 2 16 0 ?_
  exact te (by obtain rfl := si H; exact fP [(false,[cB r4])])
 refine tA h1 ?_
 refine gA 1 16 0 ?_
 exact te (by obtain rfl := si H; exact fP [(false,[cB false])])
def JZ (n : Nat) (x0 : Net) (x1 : Int) (x2 : Bool) : Option (Vec) :=
  ((idx x0.Ls x1).bind fun v1 => (bif x2 then ((idx x0.Bs v1.B).bind fun v5 => ((idx x0.Bs v1.B).bind fun v6 => ((qH n v5.Id v6.Ps v1.Q).bind fun r7 => (some r7)))) else ((idx x0.Bs v1.A).bind fun v2 => ((idx x0.Bs v1.A).bind fun v3 => ((qH n v2.Id v3.Ps v1.P).bind fun r4 => (some r4))))))
def zN9 : Tab := ⟨18,[0,1,0,4,10,16,32,0,128,0,512,1280,2048,4096,0,16384,41024,131071],[0,1,0,4,10,16,32,0,128,0,512,1280,2048,4096,0,16384,41024,65536],[0,1,0,4,15,31,63,0,128,0,512,1920,3968,8064,0,16384,65535,131071]⟩
theorem zCn : zf (rg Tryz.f196 3) zN9 = true := kr
def zOA : Tab := ⟨18,[0,1,0,4,10,16,32,0,128,0,512,1280,2048,4096,0,16384,41024,131071],[0,1,0,4,10,16,32,0,128,0,512,1280,2048,4096,0,16384,41024,65536],[0,1,0,4,15,31,63,0,128,0,512,1920,3968,8064,0,16384,65535,131071]⟩
theorem zCo : zf (rg Tryz.f196 4) zOA = true := kr
theorem zGv (n : Nat) (x0 : Net) (x1 : Int) (x2 : Bool) (r : Vec) (H : JZ n x0 x1 x2 = some r) : zD Tryz.prog 196 [.val true (CV.frzRow (Net.row x0)),.val false [.lit (.int .i64 x1)],.val false [.lit (.bool x2)]] [.val true (Vec.row r)] [] := by
 refine cA Tryz.func196 (.seq (Rg Tryz.f196 0) (.seq (Rg Tryz.f196 1) (.seq (.seq (Rg Tryz.f196 2) (.cond (.tmp 13) (.seq (Rd Tryz.f196 3) .ret) .skip)) (.seq (Rd Tryz.f196 4) .ret)))) [.cell 6 165] fun cx => ?_
 unfold JZ at H
 refine gA 2 78 72 ?_
 refine rA 3 ?_
 obtain ⟨v1,ev1,H⟩ := bs H
 refine iA Link.row ev1 ?_
 refine uA 3 204 200 ?_
 refine tS ?_
 refine gA 1 8392 200 ?_
 cases h1 : x2
 ·have H := zG h1 H
  refine nB_ ?_
  refine tK ?_
  obtain ⟨v2,ev2,H⟩ := bs H
  obtain ⟨v3,ev3,H⟩ := bs H
  obtain ⟨r4,er4,H⟩ := bs H
  refine Tr.draws mixed 18 kr ⟨48,0,[sA 6 6 5 0],[(6,(Vec.row r4))]⟩ (fun cx => ?_) ?_
  ·refine mA zCo [(0,[]),(1,[16,17]),(2,[]),(3,[16,17])] 14 [⟨[16,17],3,33,34⟩,⟨[16,17],63,31,32⟩] fun cx => ?_
   refine iN zCo 4 zA.row ev2 fun cx => ?_
   refine mA zCo [(5,[]),(6,[]),(7,[]),(8,[16,17]),(9,[]),(10,[16,17])] 7 [⟨[16,17],3,40,41⟩,⟨[16,17],63,38,39⟩,⟨[16,17],3,33,34⟩,⟨[16,17],63,31,32⟩] fun cx => ?_
   refine iN zCo 11 zA.row ev3 fun cx => ?_
   refine mA zCo [(12,[]),(13,[]),(14,[]),(15,[16,17])] 2 [⟨[16,17],3,45,46⟩,⟨[16,17],3,40,41⟩,⟨[16,17],63,38,39⟩,⟨[16,17],3,33,34⟩,⟨[16,17],63,31,32⟩] fun cx => ?_
   refine mC zCo 16 ?_
   refine vA [.rd,.rd,.rd] (zET n v2.Id v3.Ps v1.P r4 er4) ?_
   refine fA ?_
   refine mC zCo 17 ?_
   refine lA 1 ?_
   refine fA ?_
   exact mE zCo [6] [6]
  exact te (by obtain rfl := si H; exact fP [(true,(Vec.row r4))])
 have H := zH h1 H
 refine tB_ ?_
 obtain ⟨v5,ev5,H⟩ := bs H
 obtain ⟨v6,ev6,H⟩ := bs H
 obtain ⟨r7,er7,H⟩ := bs H
 refine Tr.draws mixed 18 kr ⟨48,0,[sA 6 6 5 0],[(6,(Vec.row r7))]⟩ (fun cx => ?_) ?_
 ·refine mA zCn [(0,[]),(1,[16,17]),(2,[]),(3,[16,17])] 14 [⟨[16,17],3,16,17⟩,⟨[16,17],63,14,15⟩] fun cx => ?_
  refine iN zCn 4 zA.row ev5 fun cx => ?_
  refine mA zCn [(5,[]),(6,[]),(7,[]),(8,[16,17]),(9,[]),(10,[16,17])] 7 [⟨[16,17],3,23,24⟩,⟨[16,17],63,21,22⟩,⟨[16,17],3,16,17⟩,⟨[16,17],63,14,15⟩] fun cx => ?_
  refine iN zCn 11 zA.row ev6 fun cx => ?_
  refine mA zCn [(12,[]),(13,[]),(14,[]),(15,[16,17])] 2 [⟨[16,17],3,28,29⟩,⟨[16,17],3,23,24⟩,⟨[16,17],63,21,22⟩,⟨[16,17],3,16,17⟩,⟨[16,17],63,14,15⟩] fun cx => ?_
  refine mC zCn 16 ?_
  refine vA [.rd,.rd,.rd] (zET n v5.Id v6.Ps v1.Q r7 er7) ?_
  refine fA ?_
  refine mC zCn 17 ?_
  refine lA 1 ?_
  refine fA ?_
  exact mE zCn [6] [6]
 exact te (by obtain rfl := si H; exact fP [(true,(Vec.row r7))])
def JE (n : Nat) (x0 : Net) (y3 : (List Say)) : Option (Net) :=
  (some (⟨x0.Bs,x0.Ls,y3⟩ : Net))
def Zl (n : Nat) (k : (Int × (List Say) → Option (((List Say)) ⊕ (Net)))) (x0 : Net) (x1 : Int) (y1 : Int) (y6 : (List Say)) : Option (((List Say)) ⊕ (Net)) :=
  ((idx x0.Ls y1).bind fun v7 => (bif (v7.B == x1) then ((JZ n (⟨x0.Bs,x0.Ls,y6⟩ : Net) y1 true).bind fun r8 => (bif (decide (y6.length + [(⟨y1,true,r8⟩ : Say)].length ≤ 268435456)) then (k ((IntKind.wrap .i64 (y1 + 1)),(y6 ++ [(⟨y1,true,r8⟩ : Say)]))) else none)) else (k ((IntKind.wrap .i64 (y1 + 1)),y6))))
def z5 (n : Nat) : Nat → Net → Int → Int → (List Say) → Option (((List Say)) ⊕ (Net))
  | 0,_,_,_,_ => none
  | mo4 + 1,x0,x1,y1,y2 => (bif (decide (y1 < (x0.Ls.length : Int))) then ((ZE n (⟨x0.Bs,x0.Ls,y2⟩ : Net) y1).bind fun r5 => (bif (!r5) then (z5 n mo4 x0 x1 (IntKind.wrap .i64 (y1 + 1)) y2) else (bif (decide ((y2.length : Int) ≥ 40)) then (z5 n mo4 x0 x1 (IntKind.wrap .i64 (y1 + 1)) y2) else ((idx x0.Ls y1).bind fun v10 => (bif (v10.A == x1) then ((JZ n (⟨x0.Bs,x0.Ls,y2⟩ : Net) y1 false).bind fun r11 => (bif (decide (y2.length + [(⟨y1,false,r11⟩ : Say)].length ≤ 268435456)) then (Zl n (fun v => z5 n mo4 x0 x1 v.1 v.2) x0 x1 y1 (y2 ++ [(⟨y1,false,r11⟩ : Say)])) else none)) else (Zl n (fun v => z5 n mo4 x0 x1 v.1 v.2) x0 x1 y1 y2)))))) else (some (Sum.inl y2)))
def Yy (n : Nat) (x0 : Net) (x1 : Int) : Option (Net) :=
  ((z5 n n x0 x1 0 x0.Said).bind fun o => match o with | .inl y3 => (JE n x0 y3) | .inr r => some r)
def zNq : Tab := ⟨17,[0,0,2,4,8,0,0,64,128,0,768,1056,2048,5136,16383,32767,49151],[0,0,2,4,8,0,0,64,128,0,768,1056,2048,4112,1,16384,40960],[0,0,2,6,14,0,0,64,192,0,960,2016,4064,8190,16383,32767,65535]⟩
noncomputable abbrev zIP (k : Nat) := Rg Tryz.f109 k
noncomputable abbrev zNg (k : Nat) := Rd Tryz.f109 k
theorem zCf : zf (rg Tryz.f109 5) zNq = true := kr
def zNr : Tab := ⟨17,[0,0,2,4,8,0,0,64,128,0,768,1056,2048,5136,16383,32767,49151],[0,0,2,4,8,0,0,64,128,0,768,1056,2048,4112,1,16384,40960],[0,0,2,6,14,0,0,64,192,0,960,2016,4064,8190,16383,32767,65535]⟩
theorem zCg : zf (rg Tryz.f109 7) zNr = true := kr
theorem zI2 (n : Nat) (x0 : Net) (x1 : Int) (r : Net) (H : Yy n x0 x1 = some r) : zD Tryz.prog 109 [.ptr (Net.row x0),.val false [.lit (.int .i64 x1)]] [] [(0,(Net.row r))] := by
 refine zD.of_body tOk Tryz.func109 rfl (c := (.seq (zIP 0) (.block 0 (.loop (.seq (.seq (zIP 1) (.cond (.tmp 11) .skip (.exit 0))) (.seq (.block 1 (.seq (.seq (zIP 3) (.cond (.tmp 27) (.exit 1) .skip)) (.seq (.seq (zIP 4) (.cond (.tmp 37) (zNg 5) .skip)) (.seq (zIP 6) (.cond (.tmp 63) (zNg 7) .skip))))) (zIP 2))))))) kr (Nat.le_of_ble_eq_true kr) 1 (rs := []) rfl [] .nil [] [] [(0,(Net.row r))] fun cx => ?_
 show Tr _ _ _ ⟨80,1,[sA 0 0 3 0,sI 1 x1],[(0,(Net.row x0))]⟩ _
 unfold Yy at H
 refine gA 1 19 1 ?_
 obtain ⟨o4,eo4,Ho4⟩ := bs H
 clear H
 refine Tr.mid (ι := (List Say)) (fun v => ⟨80,1,[sA 0 0 3 0],[(0,[cL 11 x0.Bs zA.row,cL 4 x0.Ls Link.row,cL 7 v Say.row])]⟩) (fun v => JE n x0 v = some r) ?_ ?_
 ·refine tB ?_
  refine Tr.loop (ι := Nat × (Int × (List Say))) (fun v => ⟨80,1,[sI 4 v.2.1,sA 0 0 3 0,sI 1 x1],[(0,[cL 11 x0.Bs zA.row,cL 4 x0.Ls Link.row,cL 7 v.2.2 Say.row])]⟩) (fun v => z5 n v.1 x0 x1 v.2.1 v.2.2 = some o4) (fun v => v.1) (n,(0,x0.Said)) eo4 (St.sub_of [4,0,1] [0] kr) ?_
  rintro ⟨mo4,y1,y2⟩ H
  have H : z5 n mo4 x0 x1 y1 y2 = some o4 := H
  obtain _ | mo4 := mo4
  ·exact nN H
  rw [z5] at H
  refine tS ?_
  refine rA 5 ?_
  refine kO x0.Ls Link.row ?_
  refine uA 1 2067 1 ?_
  obtain ⟨h1,H⟩ | ⟨h1,H⟩ := bC H
  ·refine nA h1 ?_
   refine Tr.exit ?_
   refine And.intro (fun _ => ?_) (fun h => absurd rfl h)
   obtain rfl := si H
   have H := Ho4
   dsimp only at H
   exact jA y2 H [0] [0]
  refine tA h1 ?_
  refine tK ?_
  refine tS ?_
  refine tB ?_
  refine tS ?_
  refine rA 4 ?_
  obtain ⟨r5,er5,H⟩ := bs H
  refine vB [.rd,.rd] [.box 0] (zES n (⟨x0.Bs,x0.Ls,y2⟩ : Net) y1 r5 er5) (.inr (zk (zJ zL zy) zz)) ?_
  refine lA 2 ?_
  refine sL 1048595 1 ⟨80,1,[sB 20 (!r5),sI 4 y1,sA 0 0 3 0,sI 1 x1],[(0,[cL 11 x0.Bs zA.row,cL 4 x0.Ls Link.row,cL 7 y2 Say.row])]⟩ ?_
  cases h2 : (!r5)
  ·have H := zG h2 H
   refine lA 4 ?_
   refine kO y2 Say.row ?_
   refine uA 2 134217747 1 ?_
   obtain ⟨h3,H⟩ | ⟨h3,H⟩ := bC H
   ·refine nA h3 ?_
    refine tK ?_
    refine tS ?_
    refine Tr.mid (ι := (List Say)) (fun v => ⟨80,1,[sI 4 y1,sA 0 0 3 0,sI 1 x1],[(0,[cL 11 x0.Bs zA.row,cL 4 x0.Ls Link.row,cL 7 v Say.row])]⟩) (fun v => Zl n (fun v => z5 n mo4 x0 x1 v.1 v.2) x0 x1 y1 v = some o4) ?_ ?_
    ·refine rA 5 ?_
     obtain ⟨v10,ev10,H⟩ := bs H
     refine oA Link.row ev10 ?_
     refine lA 1 ?_
     refine dE (tI 3) (.box 0) [(0,0),(1,(y1.toNat))] 4 0 [.sl true 3 [[cL 11 x0.Bs zA.row,cL 4 x0.Ls Link.row,cL 7 y2 Say.row]]] (Link.row v10) (zt rfl (zI ev10).2) ?_
     refine uA 2 137438953491 1 ?_
     obtain ⟨h5,H⟩ | ⟨h5,H⟩ := bC H
     ·refine nA h5 ?_
      refine tK ?_
      exact jA y2 H [4,0,1] [0]
     refine tA h5 ?_
     obtain ⟨r11,er11,H⟩ := bs H
     obtain ⟨hg12,H⟩ := gs H
     refine Tr.draw mixed 17 kr ⟨80,1,[sI 4 y1,sA 0 0 3 0,sI 1 x1],[(0,[cL 11 x0.Bs zA.row,cL 4 x0.Ls Link.row,cL 7 (y2 ++ [(⟨y1,false,r11⟩ : Say)]) Say.row])]⟩ (fun cx => ?_) ?_
     ·refine mA zCf [(0,[]),(1,[]),(2,[]),(3,[]),(4,[13,16]),(5,[]),(6,[]),(7,[]),(8,[10,11,12,13,16]),(9,[])] 7 [⟨[10,11,12,13,16],67,45,46⟩,⟨[13,16],65,41,42⟩] fun cx => ?_
      refine mC zCf 10 ?_
      refine vB [.rd,.rd,.rd] [.box 0] (zGv n (⟨x0.Bs,x0.Ls,y2⟩ : Net) y1 false r11 er11) (.inr (zk (Vec.row_mine _) zz)) ?_
      refine fA ?_
      refine mC zCf 11 ?_
      refine lA 1 ?_
      refine fA ?_
      refine mC zCf 12 ?_
      refine lA 1 ?_
      refine fA ?_
      refine mC zCf 13 ?_
      refine LAt.appMU tOk (t := 65) (ty := 65) (e := 180) (x := (.tmp 42)) (y := (.tmp 50)) (d := 51) (g := none) (tI 180) Say.row y2 [(⟨y1,false,r11⟩ : Say)] kr kr kr kr kr kr kr kr kr kr hg12 ?_
      refine fA ?_
      refine mA zCf [(14,[]),(15,[])] 1 [⟨[10,11,12,13,16],67,45,46⟩,⟨[13,16],65,41,42⟩] fun cx => ?_
      refine mC zCf 16 ?_
      refine lA 1 ?_
      refine fA ?_
      exact mE zCf [4,0,1] [0]
     exact jA (y2 ++ [(⟨y1,false,r11⟩ : Say)]) H [4,0,1] [0]
    rintro y6 H
    have H : (Zl n (fun v => z5 n mo4 x0 x1 v.1 v.2) x0 x1 y1 y6) = some o4 := H
    unfold Zl at H
    refine rA 5 ?_
    obtain ⟨v7,ev7,H⟩ := bs H
    refine oA Link.row ev7 ?_
    refine lA 1 ?_
    refine dE (tI 3) (.box 0) [(0,0),(1,(y1.toNat))] 4 2 [.sl true 3 [[cL 11 x0.Bs zA.row,cL 4 x0.Ls Link.row,cL 7 y6 Say.row]]] (Link.row v7) (zt rfl (zI ev7).2) ?_
    refine uA 2 0x8000000000000013 1 ?_
    obtain ⟨h4,H⟩ | ⟨h4,H⟩ := bC H
    ·refine nA h4 ?_
     refine tK ?_
     refine eA 3 19 1 ?_
     exact jB mo4 ((IntKind.wrap .i64 (y1 + 1)),y6) H [4,0,1] [0]
    refine tA h4 ?_
    obtain ⟨r8,er8,H⟩ := bs H
    obtain ⟨hg9,H⟩ := gs H
    refine Tr.draw mixed 17 kr ⟨80,1,[sI 4 y1,sA 0 0 3 0,sI 1 x1],[(0,[cL 11 x0.Bs zA.row,cL 4 x0.Ls Link.row,cL 7 (y6 ++ [(⟨y1,true,r8⟩ : Say)]) Say.row])]⟩ (fun cx => ?_) ?_
    ·refine mA zCg [(0,[]),(1,[]),(2,[]),(3,[]),(4,[13,16]),(5,[]),(6,[]),(7,[]),(8,[10,11,12,13,16]),(9,[])] 7 [⟨[10,11,12,13,16],67,71,72⟩,⟨[13,16],65,67,68⟩] fun cx => ?_
     refine mC zCg 10 ?_
     refine vB [.rd,.rd,.rd] [.box 0] (zGv n (⟨x0.Bs,x0.Ls,y6⟩ : Net) y1 true r8 er8) (.inr (zk (Vec.row_mine _) zz)) ?_
     refine fA ?_
     refine mC zCg 11 ?_
     refine lA 1 ?_
     refine fA ?_
     refine mC zCg 12 ?_
     refine lA 1 ?_
     refine fA ?_
     refine mC zCg 13 ?_
     refine LAt.appMU tOk (t := 65) (ty := 65) (e := 180) (x := (.tmp 68)) (y := (.tmp 76)) (d := 77) (g := none) (tI 180) Say.row y6 [(⟨y1,true,r8⟩ : Say)] kr kr kr kr kr kr kr kr kr kr hg9 ?_
     refine fA ?_
     refine mA zCg [(14,[]),(15,[])] 1 [⟨[10,11,12,13,16],67,71,72⟩,⟨[13,16],65,67,68⟩] fun cx => ?_
     refine mC zCg 16 ?_
     refine lA 1 ?_
     refine fA ?_
     exact mE zCg [4,0,1] [0]
    refine eA 3 19 1 ?_
    exact jB mo4 ((IntKind.wrap .i64 (y1 + 1)),(y6 ++ [(⟨y1,true,r8⟩ : Say)])) H [4,0,1] [0]
   refine tA h3 ?_
   refine Tr.exit ?_
   refine And.intro (fun _ => ?_) (fun h => absurd rfl h)
   refine eA 3 19 1 ?_
   exact jB mo4 ((IntKind.wrap .i64 (y1 + 1)),y2) H [4,0,1] [0]
  have H := zH h2 H
  refine uA 7 134217747 1 ?_
  refine tB_ ?_
  refine Tr.exit ?_
  refine And.intro (fun _ => ?_) (fun h => absurd rfl h)
  refine eA 3 19 1 ?_
  exact jB mo4 ((IntKind.wrap .i64 (y1 + 1)),y2) H [4,0,1] [0]
 rintro y3 H
 have H : (JE n x0 y3) = some r := H
 unfold JE at H
 obtain rfl := si H
 exact Fin.ofY _ [] [] _ [] _ [(0,[cL 11 x0.Bs zA.row,cL 4 x0.Ls Link.row,cL 7 y3 Say.row])] kr rfl rfl rfl kr kr kr kr rfl rfl rfl
def YC (n : Nat) (x0 : zA) (x1 : Int) : Option (Bool) :=
  ((zS n x0).bind fun r1 => (bif r1 then ((zP n x1 0 (IntKind.wrap .i64 ((x0.Ps.length : Int) - 1))).bind fun r2 => (some r2)) else (some false)))
theorem zFH (n : Nat) (x0 : zA) (x1 : Int) (r : Bool) (H : YC n x0 x1 = some r) : zD Tryz.prog 69 [.val true (CV.frzRow (zA.row x0)),.val false [.lit (.int .i64 x1)]] [.val false [.lit (.bool r)]] [] := by
 refine cA Tryz.func69 (.seq (Rg Tryz.f69 0) (.seq (Rg Tryz.f69 1) .ret)) [.tmp 4] fun cx => ?_
 unfold YC at H
 refine gA 2 6 4 ?_
 refine rA 1 ?_
 obtain ⟨r1,er1,H⟩ := bs H
 refine vA [.rd] (zDD n x0 r1 er1) ?_
 refine lA 1 ?_
 refine sL 134 4 ⟨15,0,[sB 7 r1,sA 2 2 11 0,sI 1 x1],[(2,(CV.frzRow (zA.row x0)))]⟩ ?_
 cases h1 : r1
 ·have H := zG h1 H
  refine uA 8 16 0 ?_
  exact te (by obtain rfl := si H; exact fP [(false,[cB false])])
 have H := zH h1 H
 refine lA 3 ?_
 refine kF x0.Ps Pt.row ?_
 refine lA 1 ?_
 obtain ⟨r2,er2,H⟩ := bs H
 refine vA [.rd,.rd,.rd] (zO n x1 0 (IntKind.wrap .i64 ((x0.Ps.length : Int) - 1)) r2 er2) ?_
 refine uA 2 16 0 ?_
 exact te (by obtain rfl := si H; exact fP [(false,[cB r2])])
def Z3 (n : Nat) (x0 : zA) (x1 : Int) (x2 : Vec) : Option (zA) :=
  ((Z4 n x0).bind fun r1 => ((YC n x0 x1).bind fun r2 => (bif (!r2) then (some r1) else ((idx x0.Ps x1).bind fun v3 => (bif (!v3.Up) then (some r1) else ((zq n x2).bind fun r4 => (bif (!r4) then (some r1) else ((idx r1.Ps x1).bind fun v5 => ((idx (r1.Ps.set (x1.toNat) (⟨v5.Up,v5.Co,true,v5.Hd⟩ : Pt)) x1).bind fun v6 => ((ql n (⟨r1.Id,r1.Name,((r1.Ps.set (x1.toNat) (⟨v5.Up,v5.Co,true,v5.Hd⟩ : Pt)).set (x1.toNat) (⟨v6.Up,v6.Co,v6.Has,x2⟩ : Pt)),r1.F,r1.V,r1.Tk,r1.Pa,r1.Wo,r1.Dr,r1.Ve⟩ : zA)).bind fun r7 => (some r7)))))))))))
theorem zF1 (n : Nat) (x0 : zA) (x1 : Int) (x2 : Vec) (r : zA) (H : Z3 n x0 x1 x2 = some r) : zD Tryz.prog 240 [.val true (CV.frzRow (zA.row x0)),.val false [.lit (.int .i64 x1)],.val true (CV.frzRow (Vec.row x2))] [.val true (zA.row r)] [] := by
 refine cA Tryz.func240 (.seq (Rg Tryz.f240 0) (.seq (Rg Tryz.f240 1) (.seq (.seq (Rg Tryz.f240 2) (.cond (.tmp 27) (.seq (Rg Tryz.f240 3) .ret) .skip)) (.seq (Rg Tryz.f240 4) (.seq (Rg Tryz.f240 5) (.seq (Rg Tryz.f240 6) .ret)))))) [.cell 6 41] fun cx => ?_
 unfold Z3 at H
 refine gA 3 106 104 ?_
 refine rA 1 ?_
 obtain ⟨r1,er1,H⟩ := bs H
 refine vA [.rd] (zCC n x0 r1 er1) ?_
 refine uA 2 234 232 ?_
 refine tS ?_
 refine rA 2 ?_
 obtain ⟨r2,er2,H⟩ := bs H
 refine vA [.rd,.rd] (zFH n x0 x1 r2 er2) ?_
 refine lA 2 ?_
 refine sL 16618 232 ⟨42,0,[sB 14 (!r2),sA 7 7 11 0,sA 6 6 11 0,sA 5 5 5 0,sA 3 3 11 0,sI 1 x1],[(7,(zA.row r1)),(6,[cI 0,cS (⟨#[]⟩ : ByteArray),cL 8 ([] : List Pt) Pt.row,cL 5 ([] : List zB) zB.row,cL 3 ([] : List zC) zC.row,cL 1 ([] : List Int) intRow,cI 0,cI 0,cI 0,cI 0,cI 0]),(5,(Vec.row x2)),(3,(CV.frzRow (zA.row x0)))]⟩ ?_
 cases h1 : (!r2)
 ·have H := zG h1 H
  refine lA 3 ?_
  obtain ⟨v3,ev3,H⟩ := bs H
  refine iA Pt.row ev3 ?_
  refine lA 5 ?_
  refine sL 8388834 224 ⟨42,0,[sB 23 (!v3.Up),sA 7 7 11 0,sA 6 6 11 0,sA 5 5 5 0,sI 1 x1],[(7,(zA.row r1)),(6,[cI 0,cS (⟨#[]⟩ : ByteArray),cL 8 ([] : List Pt) Pt.row,cL 5 ([] : List zB) zB.row,cL 3 ([] : List zC) zC.row,cL 1 ([] : List Int) intRow,cI 0,cI 0,cI 0,cI 0,cI 0]),(5,(Vec.row x2))]⟩ ?_
  cases h2 : (!v3.Up)
  ·have H := zG h2 H
   refine lA 1 ?_
   obtain ⟨r4,er4,H⟩ := bs H
   refine vA [.rd] (zCA n x2 r4 er4) ?_
   refine uA 2 134217954 224 ?_
   obtain ⟨h3,H⟩ | ⟨h3,H⟩ := bC H
   ·refine nA h3 ?_
    refine tK ?_
    refine rA 3 ?_
    obtain ⟨v5,ev5,H⟩ := bs H
    refine oA Pt.row ev5 ?_
    refine lA 1 ?_
    refine LAt.storeB tOk (t := 4) (ty := 0) (ad := (.tmp 33)) (x := (.const (.bool true))) (g := none) (tI 4) false [cB true] 7 2 (x1.toNat) 8 2 8 r1.Ps Pt.row v5 (⟨v5.Up,v5.Co,true,v5.Hd⟩ : Pt) kr kr kr kr kr kr kr kr (zI ev5).2 kr kr kr kr ?_
    refine dA 226 224 ?_
    refine rA 4 ?_
    obtain ⟨v6,ev6,H⟩ := bs H
    refine oA Pt.row ev6 ?_
    refine lA 1 ?_
    refine LAt.storeB tOk (t := 165) (ty := 0) (ad := (.tmp 39)) (x := (.tmp 37)) (g := none) (tI 165) true (Vec.row x2) 7 2 (x1.toNat) 8 3 8 (r1.Ps.set (x1.toNat) (⟨v5.Up,v5.Co,true,v5.Hd⟩ : Pt)) Pt.row v6 (⟨v6.Up,v6.Co,v6.Has,x2⟩ : Pt) kr kr kr kr kr kr kr kr (zI ev6).2 kr kr kr kr ?_
    refine dA 192 192 ?_
    refine rA 1 ?_
    obtain ⟨r7,er7,H⟩ := bs H
    refine vA [.own] (zCT n (⟨r1.Id,r1.Name,((r1.Ps.set (x1.toNat) (⟨v5.Up,v5.Co,true,v5.Hd⟩ : Pt)).set (x1.toNat) (⟨v6.Up,v6.Co,v6.Has,x2⟩ : Pt)),r1.F,r1.V,r1.Tk,r1.Pa,r1.Wo,r1.Dr,r1.Ve⟩ : zA) r7 er7) ?_
    refine uA 1 64 64 ?_
    exact te (by obtain rfl := si H; exact fP [(true,(zA.row r7))])
   refine tA h3 ?_
   refine gA 2 64 64 ?_
   exact te (by obtain rfl := si H; exact fP [(true,(zA.row r1))])
  have H := zH h2 H
  refine uA 4 134217954 224 ?_
  refine tB_ ?_
  refine gA 2 64 64 ?_
  exact te (by obtain rfl := si H; exact fP [(true,(zA.row r1))])
 have H := zH h1 H
 refine uA 13 134217954 224 ?_
 refine tB_ ?_
 refine gA 2 64 64 ?_
 exact te (by obtain rfl := si H; exact fP [(true,(zA.row r1))])
def Ye (n : Nat) (x0 : Net) (x1 : Int) (x2 : Bool) (x3 : Vec) : Option (Net) :=
  ((idx x0.Ls x1).bind fun v1 => (bif x2 then ((idx x0.Bs v1.A).bind fun v4 => ((Z3 n v4 v1.P x3).bind fun r5 => (some (⟨(x0.Bs.set (v1.A.toNat) r5),x0.Ls,x0.Said⟩ : Net)))) else ((idx x0.Bs v1.B).bind fun v2 => ((Z3 n v2 v1.Q x3).bind fun r3 => (some (⟨(x0.Bs.set (v1.B.toNat) r3),x0.Ls,x0.Said⟩ : Net))))))
def zOB : Tab := ⟨20,[0,1,2,4,0,16,0,64,128,256,0,1024,2560,4096,0,16384,0,106496,262143,524287],[0,1,2,4,0,16,0,64,128,256,0,1024,2560,4096,0,16384,0,106496,40,393216],[0,1,3,7,0,16,0,64,192,448,0,1024,4032,8128,0,16384,0,131008,262143,524287]⟩
noncomputable abbrev zMr (k : Nat) := Rg Tryz.f197 k
noncomputable abbrev zNk (k : Nat) := Rd Tryz.f197 k
theorem zCp : zf (rg Tryz.f197 3) zOB = true := kr
def zOC : Tab := ⟨20,[0,1,2,4,0,16,0,64,128,256,0,1024,2560,4096,0,16384,0,106496,262143,524287],[0,1,2,4,0,16,0,64,128,256,0,1024,2560,4096,0,16384,0,106496,40,393216],[0,1,3,7,0,16,0,64,192,448,0,1024,4032,8128,0,16384,0,131008,262143,524287]⟩
theorem zCq : zf (rg Tryz.f197 4) zOC = true := kr
theorem zKh (n : Nat) (x0 : Net) (x1 : Int) (x2 : Bool) (x3 : Vec) (r : Net) (H : Ye n x0 x1 x2 x3 = some r) : zD Tryz.prog 197 [.ptr (Net.row x0),.val false [.lit (.int .i64 x1)],.val false [.lit (.bool x2)],.val true (CV.frzRow (Vec.row x3))] [] [(0,(Net.row r))] := by
 refine zD.of_body tOk Tryz.func197 rfl (c := (.seq (zMr 0) (.seq (zMr 1) (.seq (.seq (zMr 2) (.cond (.tmp 16) (.seq (zNk 3) .ret) .skip)) (zNk 4))))) kr (Nat.le_of_ble_eq_true kr) 1 (rs := []) rfl [] .nil [] [] [(0,(Net.row r))] fun cx => ?_
 show Tr _ _ _ ⟨55,1,[sA 0 0 3 0,sI 1 x1,sB 2 x2,sV 3 (Vec.row x3)],[(0,(Net.row x0))]⟩ _
 unfold Ye at H
 refine gA 1 135 129 ?_
 refine rA 5 ?_
 obtain ⟨v1,ev1,H⟩ := bs H
 refine oA Link.row ev1 ?_
 refine dE (tI 114) (.box 0) [(0,0),(1,(x1.toNat))] 4 0 [.sl true 3 [(Net.row x0)]] (Link.row v1) (zt rfl (zI ev1).2) ?_
 refine uA 2 389 385 ?_
 refine tS ?_
 refine gA 1 65921 385 ?_
 cases h1 : x2
 ·have H := zG h1 H
  refine nB_ ?_
  refine tK ?_
  obtain ⟨v2,ev2,H⟩ := bs H
  obtain ⟨r3,er3,H⟩ := bs H
  refine Tr.draw mixed 20 kr ⟨55,1,[sA 0 0 3 0],[(0,[cL 11 (x0.Bs.set (v1.B.toNat) r3) zA.row,cL 4 x0.Ls Link.row,cL 7 x0.Said Say.row])]⟩ (fun cx => ?_) ?_
  ·refine mA zCq [(0,[]),(1,[]),(2,[]),(3,[19]),(4,[]),(5,[19]),(6,[]),(7,[]),(8,[]),(9,[17,19]),(10,[]),(11,[17,19])] 8 [⟨[17,19],3,46,47⟩,⟨[17,19],63,44,45⟩,⟨[19],3,40,41⟩,⟨[19],63,38,39⟩] fun cx => ?_
   refine oN zCq 12 zA.row ev2 fun cx => ?_
   refine mA zCq [(14,[]),(15,[17,19]),(16,[17,19])] 4 [⟨[17,19],165,7,52⟩,⟨[17,19],3,50,51⟩,⟨[17,19],3,46,47⟩,⟨[17,19],63,44,45⟩,⟨[19],3,40,41⟩,⟨[19],63,38,39⟩] fun cx => ?_
   refine mC zCq 13 ?_
   refine dE (tI 41) (.box 0) [(0,0),(0,(v1.B.toNat))] 11 0 [.sl true 3 [(Net.row x0)]] (zA.row v2) (zt rfl (zI ev2).2) ?_
   refine fA ?_
   refine mC zCq 17 ?_
   refine LAt.callO tOk [.rd,.rd,.rd] (f := 240) (av := #[.tmp 49,.tmp 51,.tmp 52]) (ats := #[41,3,165]) (d := (some 53)) (ty := 41) (g := none) [(49,zA.row v2)] none kr kr kr [.box 0] (zF1 n v2 v1.Q x3 r3 er3) (YL (row := [.sl true 3 [(Net.row x0)]]) (q := [(0,0),(0,(v1.B.toNat))]) kr (zt rfl (zI ev2).2) JV) kr zCQ (.inr (And.intro (zk (zA.row_mine _) zz) zBo)) ?_
   refine fA ?_
   refine oN zCq 18 zA.row ev2 fun cx => ?_
   refine mC zCq 19 ?_
   refine LAt.storeB tOk (t := 41) (ty := 0) (ad := (.tmp 54)) (x := (.tmp 53)) (g := none) (tI 41) true (zA.row r3) 0 0 (v1.B.toNat) 11 0 11 x0.Bs zA.row v2 r3 kr kr kr kr kr kr kr kr (zI ev2).2 kr kr kr kr ?_
   refine fA ?_
   exact mE zCq [0] [0]
  obtain rfl := si H
  exact Fin.ofY _ [] [] _ [] _ [(0,[cL 11 (x0.Bs.set (v1.B.toNat) r3) zA.row,cL 4 x0.Ls Link.row,cL 7 x0.Said Say.row])] kr rfl rfl rfl kr kr kr kr rfl rfl rfl
 have H := zH h1 H
 refine tB_ ?_
 obtain ⟨v4,ev4,H⟩ := bs H
 obtain ⟨r5,er5,H⟩ := bs H
 refine Tr.draws mixed 20 kr ⟨55,1,[sA 0 0 3 0],[(0,[cL 11 (x0.Bs.set (v1.A.toNat) r5) zA.row,cL 4 x0.Ls Link.row,cL 7 x0.Said Say.row])]⟩ (fun cx => ?_) ?_
 ·refine mA zCp [(0,[]),(1,[]),(2,[]),(3,[19]),(4,[]),(5,[19]),(6,[]),(7,[]),(8,[]),(9,[17,19]),(10,[]),(11,[17,19])] 8 [⟨[17,19],3,27,28⟩,⟨[17,19],63,25,26⟩,⟨[19],3,21,22⟩,⟨[19],63,19,20⟩] fun cx => ?_
  refine oN zCp 12 zA.row ev4 fun cx => ?_
  refine mA zCp [(14,[]),(15,[17,19]),(16,[17,19])] 4 [⟨[17,19],165,7,33⟩,⟨[17,19],3,31,32⟩,⟨[17,19],3,27,28⟩,⟨[17,19],63,25,26⟩,⟨[19],3,21,22⟩,⟨[19],63,19,20⟩] fun cx => ?_
  refine mC zCp 13 ?_
  refine dE (tI 41) (.box 0) [(0,0),(0,(v1.A.toNat))] 11 0 [.sl true 3 [(Net.row x0)]] (zA.row v4) (zt rfl (zI ev4).2) ?_
  refine fA ?_
  refine mC zCp 17 ?_
  refine LAt.callO tOk [.rd,.rd,.rd] (f := 240) (av := #[.tmp 30,.tmp 32,.tmp 33]) (ats := #[41,3,165]) (d := (some 34)) (ty := 41) (g := none) [(30,zA.row v4)] none kr kr kr [.box 0] (zF1 n v4 v1.P x3 r5 er5) (YL (row := [.sl true 3 [(Net.row x0)]]) (q := [(0,0),(0,(v1.A.toNat))]) kr (zt rfl (zI ev4).2) JV) kr zCQ (.inr (And.intro (zk (zA.row_mine _) zz) zBo)) ?_
  refine fA ?_
  refine oN zCp 18 zA.row ev4 fun cx => ?_
  refine mC zCp 19 ?_
  refine LAt.storeB tOk (t := 41) (ty := 0) (ad := (.tmp 35)) (x := (.tmp 34)) (g := none) (tI 41) true (zA.row r5) 0 0 (v1.A.toNat) 11 0 11 x0.Bs zA.row v4 r5 kr kr kr kr kr kr kr kr (zI ev4).2 kr kr kr kr ?_
  refine fA ?_
  exact mE zCp [0] [0]
 refine te ?_
 obtain rfl := si H
 exact Fin.ofY _ [] [] _ [] _ [(0,[cL 11 (x0.Bs.set (v1.A.toNat) r5) zA.row,cL 4 x0.Ls Link.row,cL 7 x0.Said Say.row])] kr rfl rfl rfl kr kr kr kr rfl rfl rfl
def Yf (n : Nat) (x0 : Net) (x1 : Event) : Option (Net) :=
  ((idx x0.Said x1.At).bind fun v1 => (bif (decide ((0 : Int) ≤ 0) && (decide ((0 : Int) ≤ x1.At) && decide ((x1.At : Int) ≤ (x0.Said.length : Int)))) then (bif (decide (([] : List Say).length + ((x0.Said.drop ((0 : Int)).toNat).take (((x1.At : Int)).toNat - ((0 : Int)).toNat)).length ≤ 268435456)) then (bif (decide ((0 : Int) ≤ (IntKind.wrap .i64 (x1.At + 1))) && (decide (((IntKind.wrap .i64 (x1.At + 1)) : Int) ≤ (x0.Said.length : Int)) && decide (((x0.Said.length : Int) : Int) ≤ (x0.Said.length : Int)))) then (bif (decide ((([] : List Say) ++ ((x0.Said.drop ((0 : Int)).toNat).take (((x1.At : Int)).toNat - ((0 : Int)).toNat))).length + ((x0.Said.drop (((IntKind.wrap .i64 (x1.At + 1)) : Int)).toNat).take ((((x0.Said.length : Int) : Int)).toNat - (((IntKind.wrap .i64 (x1.At + 1)) : Int)).toNat)).length ≤ 268435456)) then (bif (x1.Ki == 2) then ((ZE n (⟨x0.Bs,x0.Ls,((([] : List Say) ++ ((x0.Said.drop ((0 : Int)).toNat).take (((x1.At : Int)).toNat - ((0 : Int)).toNat))) ++ ((x0.Said.drop (((IntKind.wrap .i64 (x1.At + 1)) : Int)).toNat).take ((((x0.Said.length : Int) : Int)).toNat - (((IntKind.wrap .i64 (x1.At + 1)) : Int)).toNat)))⟩ : Net) v1.Link).bind fun r6 => (bif r6 then ((Ye n (⟨x0.Bs,x0.Ls,((([] : List Say) ++ ((x0.Said.drop ((0 : Int)).toNat).take (((x1.At : Int)).toNat - ((0 : Int)).toNat))) ++ ((x0.Said.drop (((IntKind.wrap .i64 (x1.At + 1)) : Int)).toNat).take ((((x0.Said.length : Int) : Int)).toNat - (((IntKind.wrap .i64 (x1.At + 1)) : Int)).toNat)))⟩ : Net) v1.Link v1.Back v1.V).bind fun r7 => (some r7)) else (some (⟨x0.Bs,x0.Ls,((([] : List Say) ++ ((x0.Said.drop ((0 : Int)).toNat).take (((x1.At : Int)).toNat - ((0 : Int)).toNat))) ++ ((x0.Said.drop (((IntKind.wrap .i64 (x1.At + 1)) : Int)).toNat).take ((((x0.Said.length : Int) : Int)).toNat - (((IntKind.wrap .i64 (x1.At + 1)) : Int)).toNat)))⟩ : Net)))) else (some (⟨x0.Bs,x0.Ls,((([] : List Say) ++ ((x0.Said.drop ((0 : Int)).toNat).take (((x1.At : Int)).toNat - ((0 : Int)).toNat))) ++ ((x0.Said.drop (((IntKind.wrap .i64 (x1.At + 1)) : Int)).toNat).take ((((x0.Said.length : Int) : Int)).toNat - (((IntKind.wrap .i64 (x1.At + 1)) : Int)).toNat)))⟩ : Net))) else none) else none) else none) else none))
def zNs : Tab := ⟨22,[0,0,0,4,8,16,0,64,160,258,0,1024,2048,4096,0,16384,32768,73728,131584,524287,1048575,1572863],[0,0,0,4,8,16,0,64,160,258,0,1024,2048,4096,0,16384,32768,73728,131584,1,524288,1310720],[0,0,0,4,12,28,0,64,252,510,0,1024,3072,7168,0,16384,49152,130048,262142,524287,1048575,2097151]⟩
noncomputable abbrev zNl (k : Nat) := Rg Tryz.f110 k
noncomputable abbrev zMp (k : Nat) := Rd Tryz.f110 k
theorem zg : zf (rg Tryz.f110 2) zNs = true := kr
theorem zIJ (n : Nat) (x0 : Net) (x1 : Event) (v1 : Say) (hg2 : (decide ((0 : Int) ≤ 0) && (decide ((0 : Int) ≤ x1.At) && decide ((x1.At : Int) ≤ (x0.Said.length : Int)))) = true) (hg3 : (decide (([] : List Say).length + ((x0.Said.drop ((0 : Int)).toNat).take (((x1.At : Int)).toNat - ((0 : Int)).toNat)).length ≤ 268435456)) = true) (hg4 : (decide ((0 : Int) ≤ (IntKind.wrap .i64 (x1.At + 1))) && (decide (((IntKind.wrap .i64 (x1.At + 1)) : Int) ≤ (x0.Said.length : Int)) && decide (((x0.Said.length : Int) : Int) ≤ (x0.Said.length : Int)))) = true) (hg5 : (decide ((([] : List Say) ++ ((x0.Said.drop ((0 : Int)).toNat).take (((x1.At : Int)).toNat - ((0 : Int)).toNat))).length + ((x0.Said.drop (((IntKind.wrap .i64 (x1.At + 1)) : Int)).toNat).take ((((x0.Said.length : Int) : Int)).toNat - (((IntKind.wrap .i64 (x1.At + 1)) : Int)).toNat)).length ≤ 268435456)) = true) (cx : Cx) : AT Tryz.prog cx (rg Tryz.f110 2) [] 22 [] ⟨53,1,[sA 4 4 7 0,sA 3 3 2 0,sA 0 0 3 0],[(0,[cL 11 x0.Bs zA.row,cL 4 x0.Ls Link.row,cF 7 x0.Said Say.row]),(4,(Say.row v1)),(3,(Event.row x1))]⟩ (fun s => s = ⟨53,1,[sA 4 4 7 0,sA 3 3 2 0,sA 0 0 3 0],[(0,[cL 11 x0.Bs zA.row,cL 4 x0.Ls Link.row,cL 7 ((([] : List Say) ++ ((x0.Said.drop ((0 : Int)).toNat).take (((x1.At : Int)).toNat - ((0 : Int)).toNat))) ++ ((x0.Said.drop (((IntKind.wrap .i64 (x1.At + 1)) : Int)).toNat).take ((((x0.Said.length : Int) : Int)).toNat - (((IntKind.wrap .i64 (x1.At + 1)) : Int)).toNat))) Say.row]),(4,(Say.row v1)),(3,(Event.row x1))]⟩) := by
 refine mA zg [(0,[]),(2,[]),(3,[]),(4,[]),(5,[8,9,18,21]),(6,[]),(7,[8,9,18,21]),(10,[]),(11,[]),(12,[]),(13,[17,18,21]),(14,[]),(15,[17,18,21]),(16,[])] 8 [⟨[17,18,21],3,27,28⟩,⟨[17,18,21],65,25,26⟩,⟨[8,9,18,21],3,19,20⟩,⟨[8,9,18,21],65,17,18⟩] fun cx => ?_
 refine mB3 tOk zg 1 8 17 kr (And.intro kr ?_) (And.intro kr ?_) (And.intro kr ?_)
 ·refine lA 1 ?_
  refine fA ?_
  refine mB2 tOk zg 8 17 kr (And.intro kr ?_) (And.intro kr ?_)
  ·refine LAt.cutG tOk (t := 65) (ty := 65) (e := 180) (x := (.tmp 18)) (lo := none) (hi := (some (.tmp 20))) (d := 21) (g := none) (tI 180) Say.row x0.Said ⟨(.box 0),[(0,0)],2,false,7,(CV.frzEs (x0.Said.map Say.row))⟩ 0 x1.At kr kr kr kr kr kr rfl kr rfl kr kr hg2 ?_
   refine fA ?_
   refine mB2 tOk zg 9 17 kr (And.intro kr ?_) (And.intro kr ?_)
   ·refine pD Say.row hg3 ?_
    refine fA ?_
    refine mC zg 17 ?_
    refine LAt.cutG tOk (t := 65) (ty := 65) (e := 180) (x := (.tmp 26)) (lo := (some (.tmp 29))) (hi := none) (d := 30) (g := none) (tI 180) Say.row x0.Said ⟨(.box 0),[(0,0)],2,false,7,(CV.frzEs (x0.Said.map Say.row))⟩ (IntKind.wrap .i64 (x1.At + 1)) (x0.Said.length : Int) kr kr kr kr kr kr rfl kr rfl kr kr hg4 ?_
    refine fA ?_
    refine mC zg 18 ?_
    refine pD Say.row hg5 ?_
    refine fA ?_
    refine mA zg [(19,[]),(20,[])] 1 [⟨[17,18,21],3,27,28⟩,⟨[17,18,21],65,25,26⟩,⟨[8,9,18,21],3,19,20⟩,⟨[8,9,18,21],65,17,18⟩] fun cx => ?_
    refine mC zg 21 ?_
    refine lA 1 ?_
    refine fA ?_
    exact mE zg [4,3,0] [0,4,3]
   ·refine LAt.cutG tOk (t := 65) (ty := 65) (e := 180) (x := (.tmp 26)) (lo := (some (.tmp 29))) (hi := none) (d := 30) (g := none) (tI 180) Say.row x0.Said ⟨(.box 0),[(0,0)],2,false,7,(CV.frzEs (x0.Said.map Say.row))⟩ (IntKind.wrap .i64 (x1.At + 1)) (x0.Said.length : Int) kr kr kr kr kr kr rfl kr rfl kr kr hg4 ?_
    refine fA ?_
    refine mC zg 9 ?_
    refine pD Say.row hg3 ?_
    refine fA ?_
    refine mC zg 18 ?_
    refine pD Say.row hg5 ?_
    refine fA ?_
    refine mA zg [(19,[]),(20,[])] 1 [⟨[17,18,21],3,27,28⟩,⟨[17,18,21],65,25,26⟩,⟨[8,9,18,21],3,19,20⟩,⟨[8,9,18,21],65,17,18⟩] fun cx => ?_
    refine mC zg 21 ?_
    refine lA 1 ?_
    refine fA ?_
    exact mE zg [4,3,0] [0,4,3]
  ·refine LAt.cutG tOk (t := 65) (ty := 65) (e := 180) (x := (.tmp 26)) (lo := (some (.tmp 29))) (hi := none) (d := 30) (g := none) (tI 180) Say.row x0.Said ⟨(.box 0),[(0,0)],2,false,7,(CV.frzEs (x0.Said.map Say.row))⟩ (IntKind.wrap .i64 (x1.At + 1)) (x0.Said.length : Int) kr kr kr kr kr kr rfl kr rfl kr kr hg4 ?_
   refine fA ?_
   refine mC zg 8 ?_
   refine LAt.cutG tOk (t := 65) (ty := 65) (e := 180) (x := (.tmp 18)) (lo := none) (hi := (some (.tmp 20))) (d := 21) (g := none) (tI 180) Say.row x0.Said ⟨(.box 0),[(0,0)],2,false,7,(CV.frzEs (x0.Said.map Say.row))⟩ 0 x1.At kr kr kr kr kr kr rfl kr rfl kr kr hg2 ?_
   refine fA ?_
   refine mC zg 9 ?_
   refine pD Say.row hg3 ?_
   refine fA ?_
   refine mC zg 18 ?_
   refine pD Say.row hg5 ?_
   refine fA ?_
   refine mA zg [(19,[]),(20,[])] 1 [⟨[17,18,21],3,27,28⟩,⟨[17,18,21],65,25,26⟩,⟨[8,9,18,21],3,19,20⟩,⟨[8,9,18,21],65,17,18⟩] fun cx => ?_
   refine mC zg 21 ?_
   refine lA 1 ?_
   refine fA ?_
   exact mE zg [4,3,0] [0,4,3]
 ·refine LAt.cutG tOk (t := 65) (ty := 65) (e := 180) (x := (.tmp 18)) (lo := none) (hi := (some (.tmp 20))) (d := 21) (g := none) (tI 180) Say.row x0.Said ⟨(.box 0),[(0,0)],2,false,7,(CV.frzEs (x0.Said.map Say.row))⟩ 0 x1.At kr kr kr kr kr kr rfl kr rfl kr kr hg2 ?_
  refine fA ?_
  refine mB2 tOk zg 1 17 kr (And.intro kr ?_) (And.intro kr ?_)
  ·refine lA 1 ?_
   refine fA ?_
   refine mB2 tOk zg 9 17 kr (And.intro kr ?_) (And.intro kr ?_)
   ·refine pD Say.row hg3 ?_
    refine fA ?_
    refine mC zg 17 ?_
    refine LAt.cutG tOk (t := 65) (ty := 65) (e := 180) (x := (.tmp 26)) (lo := (some (.tmp 29))) (hi := none) (d := 30) (g := none) (tI 180) Say.row x0.Said ⟨(.box 0),[(0,0)],2,false,7,(CV.frzEs (x0.Said.map Say.row))⟩ (IntKind.wrap .i64 (x1.At + 1)) (x0.Said.length : Int) kr kr kr kr kr kr rfl kr rfl kr kr hg4 ?_
    refine fA ?_
    refine mC zg 18 ?_
    refine pD Say.row hg5 ?_
    refine fA ?_
    refine mA zg [(19,[]),(20,[])] 1 [⟨[17,18,21],3,27,28⟩,⟨[17,18,21],65,25,26⟩,⟨[8,9,18,21],3,19,20⟩,⟨[8,9,18,21],65,17,18⟩] fun cx => ?_
    refine mC zg 21 ?_
    refine lA 1 ?_
    refine fA ?_
    exact mE zg [4,3,0] [0,4,3]
   ·refine LAt.cutG tOk (t := 65) (ty := 65) (e := 180) (x := (.tmp 26)) (lo := (some (.tmp 29))) (hi := none) (d := 30) (g := none) (tI 180) Say.row x0.Said ⟨(.box 0),[(0,0)],2,false,7,(CV.frzEs (x0.Said.map Say.row))⟩ (IntKind.wrap .i64 (x1.At + 1)) (x0.Said.length : Int) kr kr kr kr kr kr rfl kr rfl kr kr hg4 ?_
    refine fA ?_
    refine mC zg 9 ?_
    refine pD Say.row hg3 ?_
    refine fA ?_
    refine mC zg 18 ?_
    refine pD Say.row hg5 ?_
    refine fA ?_
    refine mA zg [(19,[]),(20,[])] 1 [⟨[17,18,21],3,27,28⟩,⟨[17,18,21],65,25,26⟩,⟨[8,9,18,21],3,19,20⟩,⟨[8,9,18,21],65,17,18⟩] fun cx => ?_
    refine mC zg 21 ?_
    refine lA 1 ?_
    refine fA ?_
    exact mE zg [4,3,0] [0,4,3]
  ·refine LAt.cutG tOk (t := 65) (ty := 65) (e := 180) (x := (.tmp 26)) (lo := (some (.tmp 29))) (hi := none) (d := 30) (g := none) (tI 180) Say.row x0.Said ⟨(.box 0),[(0,0)],2,false,7,(CV.frzEs (x0.Said.map Say.row))⟩ (IntKind.wrap .i64 (x1.At + 1)) (x0.Said.length : Int) kr kr kr kr kr kr rfl kr rfl kr kr hg4 ?_
   refine fA ?_
   refine mC zg 1 ?_
   refine lA 1 ?_
   refine fA ?_
   refine mC zg 9 ?_
   refine pD Say.row hg3 ?_
   refine fA ?_
   refine mC zg 18 ?_
   refine pD Say.row hg5 ?_
   refine fA ?_
   refine mA zg [(19,[]),(20,[])] 1 [⟨[17,18,21],3,27,28⟩,⟨[17,18,21],65,25,26⟩,⟨[8,9,18,21],3,19,20⟩,⟨[8,9,18,21],65,17,18⟩] fun cx => ?_
   refine mC zg 21 ?_
   refine lA 1 ?_
   refine fA ?_
   exact mE zg [4,3,0] [0,4,3]
 ·refine LAt.cutG tOk (t := 65) (ty := 65) (e := 180) (x := (.tmp 26)) (lo := (some (.tmp 29))) (hi := none) (d := 30) (g := none) (tI 180) Say.row x0.Said ⟨(.box 0),[(0,0)],2,false,7,(CV.frzEs (x0.Said.map Say.row))⟩ (IntKind.wrap .i64 (x1.At + 1)) (x0.Said.length : Int) kr kr kr kr kr kr rfl kr rfl kr kr hg4 ?_
  refine fA ?_
  refine mB2 tOk zg 1 8 kr (And.intro kr ?_) (And.intro kr ?_)
  ·refine lA 1 ?_
   refine fA ?_
   refine mC zg 8 ?_
   refine LAt.cutG tOk (t := 65) (ty := 65) (e := 180) (x := (.tmp 18)) (lo := none) (hi := (some (.tmp 20))) (d := 21) (g := none) (tI 180) Say.row x0.Said ⟨(.box 0),[(0,0)],2,false,7,(CV.frzEs (x0.Said.map Say.row))⟩ 0 x1.At kr kr kr kr kr kr rfl kr rfl kr kr hg2 ?_
   refine fA ?_
   refine mC zg 9 ?_
   refine pD Say.row hg3 ?_
   refine fA ?_
   refine mC zg 18 ?_
   refine pD Say.row hg5 ?_
   refine fA ?_
   refine mA zg [(19,[]),(20,[])] 1 [⟨[17,18,21],3,27,28⟩,⟨[17,18,21],65,25,26⟩,⟨[8,9,18,21],3,19,20⟩,⟨[8,9,18,21],65,17,18⟩] fun cx => ?_
   refine mC zg 21 ?_
   refine lA 1 ?_
   refine fA ?_
   exact mE zg [4,3,0] [0,4,3]
  ·refine LAt.cutG tOk (t := 65) (ty := 65) (e := 180) (x := (.tmp 18)) (lo := none) (hi := (some (.tmp 20))) (d := 21) (g := none) (tI 180) Say.row x0.Said ⟨(.box 0),[(0,0)],2,false,7,(CV.frzEs (x0.Said.map Say.row))⟩ 0 x1.At kr kr kr kr kr kr rfl kr rfl kr kr hg2 ?_
   refine fA ?_
   refine mC zg 1 ?_
   refine lA 1 ?_
   refine fA ?_
   refine mC zg 9 ?_
   refine pD Say.row hg3 ?_
   refine fA ?_
   refine mC zg 18 ?_
   refine pD Say.row hg5 ?_
   refine fA ?_
   refine mA zg [(19,[]),(20,[])] 1 [⟨[17,18,21],3,27,28⟩,⟨[17,18,21],65,25,26⟩,⟨[8,9,18,21],3,19,20⟩,⟨[8,9,18,21],65,17,18⟩] fun cx => ?_
   refine mC zg 21 ?_
   refine lA 1 ?_
   refine fA ?_
   exact mE zg [4,3,0] [0,4,3]
theorem zKj (n : Nat) (x0 : Net) (x1 : Event) (r : Net) (H : Yf n x0 x1 = some r) : zD Tryz.prog 110 [.ptr (Net.row x0),.val true (CV.frzRow (Event.row x1))] [] [(0,(Net.row r))] := by
 refine zD.of_body tOk Tryz.func110 rfl (c := (.seq (zNl 0) (.seq (zMp 1) (.seq (zMp 2) (.seq (zMp 3) (.cond (.tmp 44) (zNl 4) .skip)))))) kr (Nat.le_of_ble_eq_true kr) 1 (rs := []) rfl [] .nil [] [] [(0,(Net.row r))] fun cx => ?_
 show Tr _ _ _ ⟨53,1,[sA 0 0 3 0,sV 1 (Event.row x1)],[(0,(Net.row x0))]⟩ _
 unfold Yf at H
 refine gA 1 9 9 ?_
 obtain ⟨v1,ev1,H⟩ := bs H
 refine Tr.draws mixed 10 kr ⟨53,1,[sA 4 4 7 0,sA 3 3 2 0,sA 0 0 3 0],[(4,(Say.row v1)),(3,(Event.row x1)),(0,(Net.row x0))]⟩ (fun cx => ?_) ?_
 ·refine aA [(0,[]),(1,[]),(2,[]),(3,[9]),(4,[]),(5,[9])] 4 [⟨[9],3,9,10⟩,⟨[9],65,7,8⟩] fun cx => ?_
  refine aO tOk 6 65 0 8 10 11 none ⟨(.box 0),[(0,0)],2,true,7,(x0.Said.map Say.row)⟩ x1.At (x1.At.toNat) (Say.row v1) _ kr kr kr kr kr kr rfl kr (zEb ev1) rfl rfl (fun cx => ?_)
  refine AT.big2 tOk 7 8 kr (And.intro kr ?_) (And.intro kr ?_)
  ·refine dE (tI 180) (.box 0) [(0,0),(2,(x1.At.toNat))] 7 0 [.sl true 3 [(Net.row x0)]] (Say.row v1) (zt rfl (zI ev1).2) ?_
   refine fA ?_
   refine bA 8 ?_
   refine lA 1 ?_
   refine fA ?_
   refine bA 9 ?_
   refine lA 1 ?_
   refine fA ?_
   exact eE [4,3,0] [4,3,0]
  ·refine lA 1 ?_
   refine fA ?_
   refine bA 7 ?_
   refine dE (tI 180) (.box 0) [(0,0),(2,(x1.At.toNat))] 7 0 [.sl true 3 [(Net.row x0)]] (Say.row v1) (zt rfl (zI ev1).2) ?_
   refine fA ?_
   refine bA 9 ?_
   refine lA 1 ?_
   refine fA ?_
   exact eE [4,3,0] [4,3,0]
 refine Tr.frzP 0 2 1 ?_
 obtain ⟨hg2,H⟩ := gs H
 obtain ⟨hg3,H⟩ := gs H
 obtain ⟨hg4,H⟩ := gs H
 obtain ⟨hg5,H⟩ := gs H
 refine sT ⟨53,1,[sA 4 4 7 0,sA 3 3 2 0,sA 0 0 3 0],[(0,[cL 11 x0.Bs zA.row,cL 4 x0.Ls Link.row,cF 7 x0.Said Say.row]),(4,(Say.row v1)),(3,(Event.row x1))]⟩ ?_
 refine Tr.draws mixed 22 kr ⟨53,1,[sA 4 4 7 0,sA 3 3 2 0,sA 0 0 3 0],[(0,[cL 11 x0.Bs zA.row,cL 4 x0.Ls Link.row,cL 7 ((([] : List Say) ++ ((x0.Said.drop ((0 : Int)).toNat).take (((x1.At : Int)).toNat - ((0 : Int)).toNat))) ++ ((x0.Said.drop (((IntKind.wrap .i64 (x1.At + 1)) : Int)).toNat).take ((((x0.Said.length : Int) : Int)).toNat - (((IntKind.wrap .i64 (x1.At + 1)) : Int)).toNat))) Say.row]),(4,(Say.row v1)),(3,(Event.row x1))]⟩ (zIJ n x0 x1 v1 hg2 hg3 hg4 hg5) ?_
 refine tS ?_
 refine sT ⟨53,1,[sA 4 4 7 0,sA 3 3 2 0,sA 0 0 3 0],[(0,[cL 11 x0.Bs zA.row,cL 4 x0.Ls Link.row,cL 7 ((([] : List Say) ++ ((x0.Said.drop ((0 : Int)).toNat).take (((x1.At : Int)).toNat - ((0 : Int)).toNat))) ++ ((x0.Said.drop (((IntKind.wrap .i64 (x1.At + 1)) : Int)).toNat).take ((((x0.Said.length : Int) : Int)).toNat - (((IntKind.wrap .i64 (x1.At + 1)) : Int)).toNat))) Say.row]),(4,(Say.row v1)),(3,(Event.row x1))]⟩ ?_
 cases h1 : (x1.Ki == 2)
 ·have H := zG h1 H
  refine Tr.draw mixed 11 kr ⟨53,1,[sB 44 false,sA 4 4 7 0,sA 0 0 3 0],[(0,[cL 11 x0.Bs zA.row,cL 4 x0.Ls Link.row,cL 7 ((([] : List Say) ++ ((x0.Said.drop ((0 : Int)).toNat).take (((x1.At : Int)).toNat - ((0 : Int)).toNat))) ++ ((x0.Said.drop (((IntKind.wrap .i64 (x1.At + 1)) : Int)).toNat).take ((((x0.Said.length : Int) : Int)).toNat - (((IntKind.wrap .i64 (x1.At + 1)) : Int)).toNat))) Say.row]),(4,(Say.row v1))]⟩ (fun cx => ?_) ?_
  ·refine aA [(0,[]),(1,[]),(2,[]),(3,[])] 7 [⟨[],3,34,35⟩] fun cx => ?_
   refine sA_ 188978561041 25 ⟨53,1,[sB 37 (x1.Ki == 2),sI 35 x1.Ki,sA 34 3 2 0,sA 4 4 7 0,sA 0 0 3 0],[(0,[cL 11 x0.Bs zA.row,cL 4 x0.Ls Link.row,cL 7 ((([] : List Say) ++ ((x0.Said.drop ((0 : Int)).toNat).take (((x1.At : Int)).toNat - ((0 : Int)).toNat))) ++ ((x0.Said.drop (((IntKind.wrap .i64 (x1.At + 1)) : Int)).toNat).take ((((x0.Said.length : Int) : Int)).toNat - (((IntKind.wrap .i64 (x1.At + 1)) : Int)).toNat))) Say.row]),(4,(Say.row v1)),(3,(Event.row x1))]⟩ ?_
   rw [h1]
   refine aA [(4,[]),(5,[]),(6,[]),(7,[]),(8,[]),(9,[]),(10,[])] 0 [⟨[],3,34,35⟩] fun cx => ?_
   exact eE [44,4,0] [0,4]
  refine nB_ ?_
  refine tK ?_
  obtain rfl := si H
  exact Fin.ofY _ [] [] _ [] _ [(0,[cL 11 x0.Bs zA.row,cL 4 x0.Ls Link.row,cL 7 ((([] : List Say) ++ ((x0.Said.drop ((0 : Int)).toNat).take (((x1.At : Int)).toNat - ((0 : Int)).toNat))) ++ ((x0.Said.drop (((IntKind.wrap .i64 (x1.At + 1)) : Int)).toNat).take ((((x0.Said.length : Int) : Int)).toNat - (((IntKind.wrap .i64 (x1.At + 1)) : Int)).toNat))) Say.row])] kr rfl rfl rfl kr kr kr kr rfl rfl rfl
 have H := zH h1 H
 obtain ⟨r6,er6,H⟩ := bs H
 refine Tr.draw mixed 11 kr ⟨53,1,[sB 44 r6,sA 4 4 7 0,sA 0 0 3 0],[(0,[cL 11 x0.Bs zA.row,cL 4 x0.Ls Link.row,cL 7 ((([] : List Say) ++ ((x0.Said.drop ((0 : Int)).toNat).take (((x1.At : Int)).toNat - ((0 : Int)).toNat))) ++ ((x0.Said.drop (((IntKind.wrap .i64 (x1.At + 1)) : Int)).toNat).take ((((x0.Said.length : Int) : Int)).toNat - (((IntKind.wrap .i64 (x1.At + 1)) : Int)).toNat))) Say.row]),(4,(Say.row v1))]⟩ (fun cx => ?_) ?_
 ·refine aA [(0,[]),(1,[9]),(2,[]),(3,[])] 7 [⟨[9],3,34,35⟩] fun cx => ?_
  refine sA_ 188978561041 25 ⟨53,1,[sB 37 (x1.Ki == 2),sI 35 x1.Ki,sA 34 3 2 0,sA 4 4 7 0,sA 0 0 3 0],[(0,[cL 11 x0.Bs zA.row,cL 4 x0.Ls Link.row,cL 7 ((([] : List Say) ++ ((x0.Said.drop ((0 : Int)).toNat).take (((x1.At : Int)).toNat - ((0 : Int)).toNat))) ++ ((x0.Said.drop (((IntKind.wrap .i64 (x1.At + 1)) : Int)).toNat).take ((((x0.Said.length : Int) : Int)).toNat - (((IntKind.wrap .i64 (x1.At + 1)) : Int)).toNat))) Say.row]),(4,(Say.row v1)),(3,(Event.row x1))]⟩ ?_
  rw [h1]
  refine aA [(4,[]),(5,[]),(6,[9]),(7,[]),(8,[9])] 2 [⟨[9],3,41,42⟩,⟨[9],67,39,40⟩,⟨[9],3,34,35⟩] fun cx => ?_
  refine bA 9 ?_
  refine vB [.rd,.rd] [.box 0] (zES n (⟨x0.Bs,x0.Ls,((([] : List Say) ++ ((x0.Said.drop ((0 : Int)).toNat).take (((x1.At : Int)).toNat - ((0 : Int)).toNat))) ++ ((x0.Said.drop (((IntKind.wrap .i64 (x1.At + 1)) : Int)).toNat).take ((((x0.Said.length : Int) : Int)).toNat - (((IntKind.wrap .i64 (x1.At + 1)) : Int)).toNat)))⟩ : Net) v1.Link r6 er6) (.inr (zk (zJ zL zy) zz)) ?_
  refine fA ?_
  refine aA [(10,[])] 0 [⟨[9],3,41,42⟩,⟨[9],67,39,40⟩,⟨[9],3,34,35⟩] fun cx => ?_
  exact eE [44,4,0] [0,4]
 cases h2 : r6
 ·have H := zG h2 H
  refine nB_ ?_
  refine tK ?_
  obtain rfl := si H
  exact Fin.ofY _ [] [] _ [] _ [(0,[cL 11 x0.Bs zA.row,cL 4 x0.Ls Link.row,cL 7 ((([] : List Say) ++ ((x0.Said.drop ((0 : Int)).toNat).take (((x1.At : Int)).toNat - ((0 : Int)).toNat))) ++ ((x0.Said.drop (((IntKind.wrap .i64 (x1.At + 1)) : Int)).toNat).take ((((x0.Said.length : Int) : Int)).toNat - (((IntKind.wrap .i64 (x1.At + 1)) : Int)).toNat))) Say.row])] kr rfl rfl rfl kr kr kr kr rfl rfl rfl
 have H := zH h2 H
 refine tB_ ?_
 refine Tr.at ?_
 refine lA 7 ?_
 obtain ⟨r7,er7,H⟩ := bs H
 refine LAt.callL tOk [.lend,.rd,.rd,.rd] (f := 197) (av := #[.tmp 45,.tmp 47,.tmp 49,.tmp 51]) (ats := #[142,3,4,165]) (d := (some 52)) (ty := 0) (g := none) kr kr kr [] (zKh n (⟨x0.Bs,x0.Ls,((([] : List Say) ++ ((x0.Said.drop ((0 : Int)).toNat).take (((x1.At : Int)).toNat - ((0 : Int)).toNat))) ++ ((x0.Said.drop (((IntKind.wrap .i64 (x1.At + 1)) : Int)).toNat).take ((((x0.Said.length : Int) : Int)).toNat - (((IntKind.wrap .i64 (x1.At + 1)) : Int)).toNat)))⟩ : Net) v1.Link v1.Back v1.V r7 er7) kr (.inl rfl) ?_
 refine dA 1 1 ?_
 obtain rfl := si H
 exact Fin.ofY _ [] [] _ [] _ [(0,(Net.row r7))] kr rfl rfl rfl kr kr kr kr rfl rfl rfl
def Yb (n : Nat) (x0 : zA) (x1 : Int) (x2 : Bool) : Option (zA) :=
  ((Z4 n x0).bind fun r1 => ((YC n x0 x1).bind fun r2 => (bif (!r2) then (some r1) else ((idx x0.Ps x1).bind fun v3 => ((idx r1.Ps x1).bind fun v4 => ((ql n (⟨r1.Id,r1.Name,(r1.Ps.set (x1.toNat) (⟨x2,v3.Co,false,(⟨0,0,0,0,0⟩ : Vec)⟩ : Pt)),r1.F,r1.V,r1.Tk,r1.Pa,r1.Wo,r1.Dr,r1.Ve⟩ : zA)).bind fun r5 => (some r5)))))))
def zN5 : Tab := ⟨13,[0,1,0,0,0,16,0,96,128,256,520,2047,4095],[0,1,0,0,0,16,0,96,128,256,520,6,3072],[0,1,0,0,0,16,0,112,240,496,1016,2047,4095]⟩
theorem zDa : zf (rg Tryz.f158 4) zN5 = true := kr
theorem zF3 (n : Nat) (x0 : zA) (x1 : Int) (x2 : Bool) (r : zA) (H : Yb n x0 x1 x2 = some r) : zD Tryz.prog 158 [.val true (CV.frzRow (zA.row x0)),.val false [.lit (.int .i64 x1)],.val false [.lit (.bool x2)]] [.val true (zA.row r)] [] := by
 refine cA Tryz.func158 (.seq (Rg Tryz.f158 0) (.seq (Rg Tryz.f158 1) (.seq (.seq (Rg Tryz.f158 2) (.cond (.tmp 13) (.seq (Rg Tryz.f158 3) .ret) .skip)) (.seq (Rd Tryz.f158 4) (.seq (Rg Tryz.f158 5) .ret))))) [.cell 6 41] fun cx => ?_
 unfold Yb at H
 refine gA 2 78 72 ?_
 refine rA 1 ?_
 obtain ⟨r1,er1,H⟩ := bs H
 refine vA [.rd] (zCC n x0 r1 er1) ?_
 refine uA 2 206 200 ?_
 refine tS ?_
 refine rA 2 ?_
 obtain ⟨r2,er2,H⟩ := bs H
 refine vA [.rd,.rd] (zFH n x0 x1 r2 er2) ?_
 refine uA 1 8398 200 ?_
 obtain ⟨h1,H⟩ | ⟨h1,H⟩ := bC H
 ·refine nA h1 ?_
  refine tK ?_
  obtain ⟨v3,ev3,H⟩ := bs H
  obtain ⟨v4,ev4,H⟩ := bs H
  refine Tr.draws mixed 13 kr ⟨29,0,[sA 7 7 11 0,sA 6 6 11 0],[(7,[cI r1.Id,cS r1.Name,cL 8 (r1.Ps.set (x1.toNat) (⟨x2,v3.Co,false,(⟨0,0,0,0,0⟩ : Vec)⟩ : Pt)) Pt.row,cL 5 r1.F zB.row,cL 3 r1.V.Rows zC.row,cL 1 r1.V.Pv intRow,cI r1.Tk,cI r1.Pa,cI r1.Wo,cI r1.Dr,cI r1.Ve]),(6,[cI 0,cS (⟨#[]⟩ : ByteArray),cL 8 ([] : List Pt) Pt.row,cL 5 ([] : List zB) zB.row,cL 3 ([] : List zC) zC.row,cL 1 ([] : List Int) intRow,cI 0,cI 0,cI 0,cI 0,cI 0])]⟩ (fun cx => ?_) ?_
  ·refine mA zDa [(0,[]),(1,[12]),(2,[]),(3,[]),(4,[]),(5,[10,12]),(6,[])] 6 [⟨[10,12],35,19,20⟩,⟨[12],35,15,16⟩] fun cx => ?_
   refine iN zDa 7 Pt.row ev3 fun cx => ?_
   refine mA zDa [(8,[]),(9,[])] 3 [⟨[10,12],35,19,20⟩,⟨[12],35,15,16⟩] fun cx => ?_
   refine mC zDa 10 ?_
   refine lA 1 ?_
   refine fA ?_
   refine oN zDa 11 Pt.row ev4 fun cx => ?_
   refine mC zDa 12 ?_
   refine LAt.storeB tOk (t := 167) (ty := 0) (ad := (.tmp 26)) (x := (.tmp 25)) (g := none) (tI 167) true [cB x2,cI v3.Co,cB false,cI 0,cI 0,cI 0,cI 0,cI 0] 7 2 (x1.toNat) 8 0 8 r1.Ps Pt.row v4 (⟨x2,v3.Co,false,(⟨0,0,0,0,0⟩ : Vec)⟩ : Pt) kr kr kr kr kr kr kr kr (zI ev4).2 kr kr kr kr ?_
   refine fA ?_
   exact mE zDa [7,6] [7,6]
  refine rA 1 ?_
  obtain ⟨r5,er5,H⟩ := bs H
  refine vA [.own] (zCT n (⟨r1.Id,r1.Name,(r1.Ps.set (x1.toNat) (⟨x2,v3.Co,false,(⟨0,0,0,0,0⟩ : Vec)⟩ : Pt)),r1.F,r1.V,r1.Tk,r1.Pa,r1.Wo,r1.Dr,r1.Ve⟩ : zA) r5 er5) ?_
  refine uA 1 64 64 ?_
  exact te (by obtain rfl := si H; exact fP [(true,(zA.row r5))])
 refine tA h1 ?_
 refine gA 2 64 64 ?_
 exact te (by obtain rfl := si H; exact fP [(true,(zA.row r1))])
def J7 (n : Nat) (x0 : Net) (x1 : Int) (x2 : Bool) : Option (Net) :=
  ((ZE n x0 x1).bind fun r1 => (bif (r1 == x2) then (some x0) else ((idx x0.Ls x1).bind fun v2 => ((idx x0.Bs v2.A).bind fun v3 => ((Yb n v3 v2.P x2).bind fun r4 => ((idx (x0.Bs.set (v2.A.toNat) r4) v2.B).bind fun v5 => ((Yb n v5 v2.Q x2).bind fun r6 => (some (⟨((x0.Bs.set (v2.A.toNat) r4).set (v2.B.toNat) r6),x0.Ls,x0.Said⟩ : Net)))))))))
def zNt : Tab := ⟨20,[0,1,2,4,0,16,0,64,128,256,0,1024,2560,4096,0,16384,0,106496,262143,524287],[0,1,2,4,0,16,0,64,128,256,0,1024,2560,4096,0,16384,0,106496,40,393216],[0,1,3,7,0,16,0,64,192,448,0,1024,4032,8128,0,16384,0,131008,262143,524287]⟩
noncomputable abbrev zNm (k : Nat) := Rg Tryz.f111 k
noncomputable abbrev zNh (k : Nat) := Rd Tryz.f111 k
theorem zCh : zf (rg Tryz.f111 2) zNt = true := kr
def zNu : Tab := ⟨20,[0,1,2,4,0,16,0,64,128,256,0,1024,2560,4096,0,16384,0,106496,262143,524287],[0,1,2,4,0,16,0,64,128,256,0,1024,2560,4096,0,16384,0,106496,40,393216],[0,1,3,7,0,16,0,64,192,448,0,1024,4032,8128,0,16384,0,131008,262143,524287]⟩
theorem zCi : zf (rg Tryz.f111 3) zNu = true := kr
theorem zKi (n : Nat) (x0 : Net) (x1 : Int) (x2 : Bool) (r : Net) (H : J7 n x0 x1 x2 = some r) : zD Tryz.prog 111 [.ptr (Net.row x0),.val false [.lit (.int .i64 x1)],.val false [.lit (.bool x2)]] [] [(0,(Net.row r))] := by
 refine zD.of_body tOk Tryz.func111 rfl (c := (.seq (.seq (zNm 0) (.cond (.tmp 13) .ret .skip)) (.seq (zNm 1) (.seq (zNh 2) (zNh 3))))) kr (Nat.le_of_ble_eq_true kr) 1 (rs := []) rfl [] .nil [] [] [(0,(Net.row r))] fun cx => ?_
 show Tr _ _ _ ⟨59,1,[sA 0 0 3 0,sI 1 x1,sB 2 x2],[(0,(Net.row x0))]⟩ _
 unfold J7 at H
 refine tS ?_
 refine rA 4 ?_
 obtain ⟨r1,er1,H⟩ := bs H
 refine vB [.rd,.rd] [.box 0] (zES n x0 x1 r1 er1) (.inr (zk (zJ zL zy) zz)) ?_
 refine uA 2 8199 1 ?_
 obtain ⟨h1,H⟩ | ⟨h1,H⟩ := bC H
 ·refine nA h1 ?_
  refine tK ?_
  refine rA 5 ?_
  obtain ⟨v2,ev2,H⟩ := bs H
  refine oA Link.row ev2 ?_
  refine dE (tI 114) (.box 0) [(0,0),(1,(x1.toNat))] 4 0 [.sl true 3 [(Net.row x0)]] (Link.row v2) (zt rfl (zI ev2).2) ?_
  refine uA 2 69 65 ?_
  obtain ⟨v3,ev3,H⟩ := bs H
  obtain ⟨r4,er4,H⟩ := bs H
  refine Tr.draws mixed 20 kr ⟨59,1,[sA 6 6 4 0,sA 0 0 3 0,sB 2 x2],[(0,[cL 11 (x0.Bs.set (v2.A.toNat) r4) zA.row,cL 4 x0.Ls Link.row,cL 7 x0.Said Say.row]),(6,(Link.row v2))]⟩ (fun cx => ?_) ?_
  ·refine mA zCh [(0,[]),(1,[]),(2,[]),(3,[19]),(4,[]),(5,[19]),(6,[]),(7,[]),(8,[]),(9,[17,19]),(10,[]),(11,[17,19])] 8 [⟨[17,19],3,31,32⟩,⟨[17,19],63,29,30⟩,⟨[19],3,25,26⟩,⟨[19],63,23,24⟩] fun cx => ?_
   refine oN zCh 12 zA.row ev3 fun cx => ?_
   refine mA zCh [(14,[]),(15,[17,19]),(16,[])] 4 [⟨[17,19],3,35,36⟩,⟨[17,19],3,31,32⟩,⟨[17,19],63,29,30⟩,⟨[19],3,25,26⟩,⟨[19],63,23,24⟩] fun cx => ?_
   refine mC zCh 13 ?_
   refine dE (tI 41) (.box 0) [(0,0),(0,(v2.A.toNat))] 11 0 [.sl true 3 [(Net.row x0)]] (zA.row v3) (zt rfl (zI ev3).2) ?_
   refine fA ?_
   refine mC zCh 17 ?_
   refine LAt.callO tOk [.rd,.rd,.rd] (f := 158) (av := #[.tmp 34,.tmp 36,.tmp 37]) (ats := #[41,3,4]) (d := (some 38)) (ty := 41) (g := none) [(34,zA.row v3)] none kr kr kr [.box 0] (zF3 n v3 v2.P x2 r4 er4) (YL (row := [.sl true 3 [(Net.row x0)]]) (q := [(0,0),(0,(v2.A.toNat))]) kr (zt rfl (zI ev3).2) JV) kr zCQ (.inr (And.intro (zk (zA.row_mine _) zz) zBo)) ?_
   refine fA ?_
   refine oN zCh 18 zA.row ev3 fun cx => ?_
   refine mC zCh 19 ?_
   refine LAt.storeB tOk (t := 41) (ty := 0) (ad := (.tmp 39)) (x := (.tmp 38)) (g := none) (tI 41) true (zA.row r4) 0 0 (v2.A.toNat) 11 0 11 x0.Bs zA.row v3 r4 kr kr kr kr kr kr kr kr (zI ev3).2 kr kr kr kr ?_
   refine fA ?_
   exact mE zCh [6,0,2] [0,6]
  obtain ⟨v5,ev5,H⟩ := bs H
  obtain ⟨r6,er6,H⟩ := bs H
  refine Tr.draw mixed 20 kr ⟨59,1,[sA 0 0 3 0],[(0,[cL 11 ((x0.Bs.set (v2.A.toNat) r4).set (v2.B.toNat) r6) zA.row,cL 4 x0.Ls Link.row,cL 7 x0.Said Say.row])]⟩ (fun cx => ?_) ?_
  ·refine mA zCi [(0,[]),(1,[]),(2,[]),(3,[19]),(4,[]),(5,[19]),(6,[]),(7,[]),(8,[]),(9,[17,19]),(10,[]),(11,[17,19])] 8 [⟨[17,19],3,50,51⟩,⟨[17,19],63,48,49⟩,⟨[19],3,44,45⟩,⟨[19],63,42,43⟩] fun cx => ?_
   refine oN zCi 12 zA.row ev5 fun cx => ?_
   refine mA zCi [(14,[]),(15,[17,19]),(16,[])] 4 [⟨[17,19],3,54,55⟩,⟨[17,19],3,50,51⟩,⟨[17,19],63,48,49⟩,⟨[19],3,44,45⟩,⟨[19],63,42,43⟩] fun cx => ?_
   refine mC zCi 13 ?_
   refine dE (tI 41) (.box 0) [(0,0),(0,(v2.B.toNat))] 11 0 [.sl true 3 [[cL 11 (x0.Bs.set (v2.A.toNat) r4) zA.row,cL 4 x0.Ls Link.row,cL 7 x0.Said Say.row]]] (zA.row v5) (zt rfl (zI ev5).2) ?_
   refine fA ?_
   refine mC zCi 17 ?_
   refine LAt.callO tOk [.rd,.rd,.rd] (f := 158) (av := #[.tmp 53,.tmp 55,.tmp 56]) (ats := #[41,3,4]) (d := (some 57)) (ty := 41) (g := none) [(53,zA.row v5)] none kr kr kr [.box 0] (zF3 n v5 v2.Q x2 r6 er6) (YL (row := [.sl true 3 [[cL 11 (x0.Bs.set (v2.A.toNat) r4) zA.row,cL 4 x0.Ls Link.row,cL 7 x0.Said Say.row]]]) (q := [(0,0),(0,(v2.B.toNat))]) kr (zt rfl (zI ev5).2) JV) kr zCQ (.inr (And.intro (zk (zA.row_mine _) zz) zBo)) ?_
   refine fA ?_
   refine oN zCi 18 zA.row ev5 fun cx => ?_
   refine mC zCi 19 ?_
   refine LAt.storeB tOk (t := 41) (ty := 0) (ad := (.tmp 58)) (x := (.tmp 57)) (g := none) (tI 41) true (zA.row r6) 0 0 (v2.B.toNat) 11 0 11 (x0.Bs.set (v2.A.toNat) r4) zA.row v5 r6 kr kr kr kr kr kr kr kr (zI ev5).2 kr kr kr kr ?_
   refine fA ?_
   exact mE zCi [0] [0]
  obtain rfl := si H
  exact Fin.ofY _ [] [] _ [] _ [(0,[cL 11 ((x0.Bs.set (v2.A.toNat) r4).set (v2.B.toNat) r6) zA.row,cL 4 x0.Ls Link.row,cL 7 x0.Said Say.row])] kr rfl rfl rfl kr kr kr kr rfl rfl rfl
 refine tA h1 ?_
 refine te ?_
 obtain rfl := si H
 exact Fin.ofY _ [] [] _ [] _ [(0,(Net.row x0))] kr rfl rfl rfl kr kr kr kr rfl rfl rfl
def Qe (n : Nat) (r1 : Net) (x0 : Net) (x1 : Event) (y5 : Bool) : Option (Net × Bool) :=
  (bif y5 then ((zP n x1.At 0 (IntKind.wrap .i64 ((x0.Ls.length : Int) - 1))).bind fun r6 => (bif (!r6) then (some (r1,false)) else ((J7 n r1 x1.At (x1.Ki == 5)).bind fun r7 => (some (r7,true))))) else (some (r1,false)))
def Qd (n : Nat) (r1 : Net) (x0 : Net) (x1 : Event) (y4 : Bool) : Option (Net × Bool) :=
  (bif y4 then ((zP n x1.At 0 (IntKind.wrap .i64 ((x0.Said.length : Int) - 1))).bind fun r8 => (bif (!r8) then (some (r1,false)) else ((Yf n r1 x1).bind fun r9 => (some (r9,true))))) else (bif (x1.Ki == 4) then (Qe n r1 x0 x1 true) else (Qe n r1 x0 x1 (x1.Ki == 5))))
def ZF (n : Nat) (r1 : Net) (x0 : Net) (x1 : Event) (y3 : Bool) : Option (Net × Bool) :=
  (bif y3 then ((zP n x1.At 0 (IntKind.wrap .i64 ((x0.Bs.length : Int) - 1))).bind fun r10 => (bif (!r10) then (some (r1,false)) else (bif (x1.Ki == 6) then ((idx x0.Bs x1.At).bind fun v12 => ((zBA n v12).bind fun r13 => ((idx r1.Bs x1.At).bind fun v14 => (some ((⟨(r1.Bs.set (x1.At.toNat) r13),r1.Ls,r1.Said⟩ : Net),true))))) else ((Yy n r1 x1.At).bind fun r11 => (some (r11,true)))))) else (bif (x1.Ki == 2) then (Qd n r1 x0 x1 true) else (Qd n r1 x0 x1 (x1.Ki == 3))))
def Yx (n : Nat) (x0 : Net) (x1 : Event) : Option (Net × Bool) :=
  ((J6 n x0).bind fun r1 => ((Q6 n x0).bind fun r2 => (bif (!r2) then (some (r1,false)) else (bif (x1.Ki == 1) then (ZF n r1 x0 x1 true) else (ZF n r1 x0 x1 (x1.Ki == 6))))))
def zOI : Tab := ⟨13,[0,1,0,4,0,16,0,64,160,256,512,2047,4095],[0,1,0,4,0,16,0,64,160,256,512,10,3072],[0,1,0,4,0,16,0,64,240,496,1008,2047,4095]⟩
theorem zDb : zf (rg Tryz.f24 10) zOI = true := kr
theorem zEH (n : Nat) (x0 : Net) (x1 : Event) (r : Net × Bool) (H : Yx n x0 x1 = some r) : zD Tryz.prog 24 [.val true (CV.frzRow (Net.row x0)),.val true (CV.frzRow (Event.row x1))] [.val true (Net.row r.1),.val false [.lit (.bool r.2)]] [] := by
 refine cA Tryz.func24 (.seq (Rg Tryz.f24 0) (.seq (Rg Tryz.f24 1) (.seq (.seq (Rg Tryz.f24 2) (.cond (.tmp 11) (.seq (Rg Tryz.f24 3) .ret) .skip)) (.seq (.seq (Rg Tryz.f24 4) (.block 0 (.seq (.seq (Rg Tryz.f24 5) (.cond (.tmp 15) .skip (Rg Tryz.f24 6))) (.cond (.tmp 15) (.seq (.seq (Rg Tryz.f24 7) (.cond (.tmp 25) (.seq (Rg Tryz.f24 8) .ret) .skip)) (.seq (.seq (Rg Tryz.f24 9) (.cond (.tmp 29) (Rd Tryz.f24 10) (Rg Tryz.f24 11))) (.seq (Rg Tryz.f24 12) .ret))) (.seq (.seq (Rg Tryz.f24 13) (.cond (.tmp 46) .skip (Rg Tryz.f24 14))) (.cond (.tmp 46) (.seq (.seq (Rg Tryz.f24 15) (.cond (.tmp 56) (.seq (Rg Tryz.f24 16) .ret) .skip)) (.seq (Rg Tryz.f24 17) (.seq (Rg Tryz.f24 18) .ret))) (.seq (.seq (Rg Tryz.f24 19) (.cond (.tmp 61) .skip (Rg Tryz.f24 20))) (.cond (.tmp 61) (.seq (.seq (Rg Tryz.f24 21) (.cond (.tmp 71) (.seq (Rg Tryz.f24 22) .ret) .skip)) (.seq (Rg Tryz.f24 23) (.seq (Rg Tryz.f24 24) .ret))) .skip)))))))) (.seq (Rg Tryz.f24 25) .ret))))) [.cell 4 67,.tmp 5] fun cx => ?_
 unfold Yx at H
 refine gA 4 28 28 ?_
 refine rA 1 ?_
 obtain ⟨r1,er1,H⟩ := bs H
 refine vA [.rd] (zKg n x0 r1 er1) ?_
 refine uA 2 92 92 ?_
 refine tS ?_
 refine rA 1 ?_
 obtain ⟨r2,er2,H⟩ := bs H
 refine vA [.rd] (zMA n x0 r2 er2) ?_
 refine uA 1 2140 92 ?_
 obtain ⟨h1,H⟩ | ⟨h1,H⟩ := bC H
 ·refine nA h1 ?_
  refine tK ?_
  refine tS ?_
  refine gA 2 16476 92 ?_
  refine tB ?_
  refine tS ?_
  refine Tr.mid (ι := Bool) (fun v => ⟨81,0,[sB 15 v,sI 14 x1.Ki,sA 6 6 3 0,sA 4 4 3 0,sA 3 3 2 0,sA 2 2 3 0],[(6,(Net.row r1)),(4,[cL 11 ([] : List zA) zA.row,cL 4 ([] : List Link) Link.row,cL 7 ([] : List Say) Say.row]),(3,(Event.row x1)),(2,(CV.frzRow (Net.row x0)))]⟩) (fun v => ZF n r1 x0 x1 v = some r) ?_ ?_
  ·refine gA 2 49244 92 ?_
   refine sT ⟨81,0,[sB 15 (x1.Ki == 1),sI 14 x1.Ki,sA 6 6 3 0,sA 4 4 3 0,sA 3 3 2 0,sA 2 2 3 0],[(6,(Net.row r1)),(4,[cL 11 ([] : List zA) zA.row,cL 4 ([] : List Link) Link.row,cL 7 ([] : List Say) Say.row]),(3,(Event.row x1)),(2,(CV.frzRow (Net.row x0)))]⟩ ?_
   cases h11 : (x1.Ki == 1)
   ·have H := zG h11 H
    refine nB_ ?_
    refine eA 2 49244 92 ?_
    exact jA (x1.Ki == 6) H [15,14,6,4,3,2] [6,4,3,2]
   have H := zH h11 H
   refine tB_ ?_
   refine tK ?_
   exact jA true H [15,14,6,4,3,2] [6,4,3,2]
  rintro y3 H
  have H : (ZF n r1 x0 x1 y3) = some r := H
  unfold ZF at H
  cases h2 : y3
  ·have H := zG h2 H
   refine nB_ ?_
   refine tS ?_
   refine Tr.mid (ι := Bool) (fun v => ⟨81,0,[sB 46 v,sI 14 x1.Ki,sA 6 6 3 0,sA 4 4 3 0,sA 3 3 2 0,sA 2 2 3 0],[(6,(Net.row r1)),(4,[cL 11 ([] : List zA) zA.row,cL 4 ([] : List Link) Link.row,cL 7 ([] : List Say) Say.row]),(3,(Event.row x1)),(2,(CV.frzRow (Net.row x0)))]⟩) (fun v => Qd n r1 x0 x1 v = some r) ?_ ?_
   ·refine gA 2 70368744194140 92 ?_
    refine sT ⟨81,0,[sB 46 (x1.Ki == 2),sI 14 x1.Ki,sA 6 6 3 0,sA 4 4 3 0,sA 3 3 2 0,sA 2 2 3 0],[(6,(Net.row r1)),(4,[cL 11 ([] : List zA) zA.row,cL 4 ([] : List Link) Link.row,cL 7 ([] : List Say) Say.row]),(3,(Event.row x1)),(2,(CV.frzRow (Net.row x0)))]⟩ ?_
    cases h8 : (x1.Ki == 2)
    ·have H := zG h8 H
     refine nB_ ?_
     refine eA 2 70368744194140 92 ?_
     exact jA (x1.Ki == 3) H [46,14,6,4,3,2] [6,4,3,2]
    have H := zH h8 H
    refine tB_ ?_
    refine tK ?_
    exact jA true H [46,14,6,4,3,2] [6,4,3,2]
   rintro y4 H
   have H : (Qd n r1 x0 x1 y4) = some r := H
   unfold Qd at H
   cases h3 : y4
   ·have H := zG h3 H
    refine nB_ ?_
    refine tS ?_
    refine Tr.mid (ι := Bool) (fun v => ⟨81,0,[sB 61 v,sA 6 6 3 0,sA 4 4 3 0,sA 3 3 2 0,sA 2 2 3 0],[(6,(Net.row r1)),(4,[cL 11 ([] : List zA) zA.row,cL 4 ([] : List Link) Link.row,cL 7 ([] : List Say) Say.row]),(3,(Event.row x1)),(2,(CV.frzRow (Net.row x0)))]⟩) (fun v => Qe n r1 x0 x1 v = some r) ?_ ?_
    ·refine gA 2 0x200000000000405c 92 ?_
     refine sT ⟨81,0,[sB 61 (x1.Ki == 4),sI 14 x1.Ki,sA 6 6 3 0,sA 4 4 3 0,sA 3 3 2 0,sA 2 2 3 0],[(6,(Net.row r1)),(4,[cL 11 ([] : List zA) zA.row,cL 4 ([] : List Link) Link.row,cL 7 ([] : List Say) Say.row]),(3,(Event.row x1)),(2,(CV.frzRow (Net.row x0)))]⟩ ?_
     cases h6 : (x1.Ki == 4)
     ·have H := zG h6 H
      refine nB_ ?_
      refine eA 2 0x200000000000005c 92 ?_
      exact jA (x1.Ki == 5) H [61,6,4,3,2] [6,4,3,2]
     have H := zH h6 H
     refine tB_ ?_
     refine tK ?_
     exact jA true H [61,6,4,3,2] [6,4,3,2]
    rintro y5 H
    have H : (Qe n r1 x0 x1 y5) = some r := H
    unfold Qe at H
    cases h4 : y5
    ·have H := zG h4 H
     refine nB_ ?_
     refine tK ?_
     refine gA 3 48 16 ?_
     exact te (by obtain rfl := si H; exact fP [(true,(Net.row r1)),(false,[cB false])])
    have H := zH h4 H
    refine tB_ ?_
    refine tS ?_
    refine rA 4 ?_
    refine kF x0.Ls Link.row ?_
    refine lA 1 ?_
    obtain ⟨r6,er6,H⟩ := bs H
    refine vA [.rd,.rd,.rd] (zO n x1.At 0 (IntKind.wrap .i64 ((x0.Ls.length : Int) - 1)) r6 er6) ?_
    refine uA 1 0x800000000000000058 88 ?_
    obtain ⟨h5,H⟩ | ⟨h5,H⟩ := bC H
    ·refine nA h5 ?_
     refine tK ?_
     refine rA 5 ?_
     obtain ⟨r7,er7,H⟩ := bs H
     refine LAt.callL tOk [.lend,.rd,.rd] (f := 111) (av := #[.tmp 6,.tmp 74,.tmp 77]) (ats := #[142,3,4]) (d := (some 78)) (ty := 0) (g := none) kr kr kr [] (zKi n r1 x1.At (x1.Ki == 5) r7 er7) kr (.inl rfl) ?_
     refine dA 80 80 ?_
     refine gA 3 48 16 ?_
     exact te (by obtain rfl := si H; exact fP [(true,(Net.row r7)),(false,[cB true])])
    refine tA h5 ?_
    refine gA 3 48 16 ?_
    exact te (by obtain rfl := si H; exact fP [(true,(Net.row r1)),(false,[cB false])])
   have H := zH h3 H
   refine tB_ ?_
   refine tS ?_
   refine rA 4 ?_
   refine kF x0.Said Say.row ?_
   refine lA 1 ?_
   obtain ⟨r8,er8,H⟩ := bs H
   refine vA [.rd,.rd,.rd] (zO n x1.At 0 (IntKind.wrap .i64 ((x0.Said.length : Int) - 1)) r8 er8) ?_
   refine uA 1 72057594037928024 88 ?_
   obtain ⟨h7,H⟩ | ⟨h7,H⟩ := bC H
   ·refine nA h7 ?_
    refine tK ?_
    refine rA 1 ?_
    obtain ⟨r9,er9,H⟩ := bs H
    refine LAt.callL tOk [.lend,.rd] (f := 110) (av := #[.tmp 6,.tmp 58]) (ats := #[142,71]) (d := (some 59)) (ty := 0) (g := none) kr kr kr [] (zKj n r1 x1 r9 er9) kr (.inl rfl) ?_
    refine dA 80 80 ?_
    refine gA 3 48 16 ?_
    exact te (by obtain rfl := si H; exact fP [(true,(Net.row r9)),(false,[cB true])])
   refine tA h7 ?_
   refine gA 3 48 16 ?_
   exact te (by obtain rfl := si H; exact fP [(true,(Net.row r1)),(false,[cB false])])
  have H := zH h2 H
  refine tB_ ?_
  refine tS ?_
  refine rA 4 ?_
  refine kF x0.Bs zA.row ?_
  refine lA 1 ?_
  obtain ⟨r10,er10,H⟩ := bs H
  refine vA [.rd,.rd,.rd] (zO n x1.At 0 (IntKind.wrap .i64 ((x0.Bs.length : Int) - 1)) r10 er10) ?_
  refine uA 1 33554524 92 ?_
  obtain ⟨h9,H⟩ | ⟨h9,H⟩ := bC H
  ·refine nA h9 ?_
   refine tK ?_
   refine tS ?_
   refine gA 3 536871004 92 ?_
   obtain ⟨h10,H⟩ | ⟨h10,H⟩ := bC H
   ·refine nA h10 ?_
    refine Tr.at ?_
    refine lA 2 ?_
    obtain ⟨r11,er11,H⟩ := bs H
    refine LAt.callL tOk [.lend,.rd] (f := 109) (av := #[.tmp 6,.tmp 43]) (ats := #[142,3]) (d := (some 44)) (ty := 0) (g := none) kr kr kr [] (zI2 n r1 x1.At r11 er11) kr (.inl rfl) ?_
    refine dA 80 80 ?_
    refine gA 3 48 16 ?_
    exact te (by obtain rfl := si H; exact fP [(true,(Net.row r11)),(false,[cB true])])
   refine tA h10 ?_
   obtain ⟨v12,ev12,H⟩ := bs H
   obtain ⟨r13,er13,H⟩ := bs H
   obtain ⟨v14,ev14,H⟩ := bs H
   refine Tr.draw mixed 13 kr ⟨81,0,[sA 6 6 3 0,sA 4 4 3 0],[(6,[cL 11 (r1.Bs.set (x1.At.toNat) r13) zA.row,cL 4 r1.Ls Link.row,cL 7 r1.Said Say.row]),(4,[cL 11 ([] : List zA) zA.row,cL 4 ([] : List Link) Link.row,cL 7 ([] : List Say) Say.row])]⟩ (fun cx => ?_) ?_
   ·refine mA zDb [(0,[]),(1,[12]),(2,[]),(3,[12]),(4,[]),(5,[10,12]),(6,[]),(7,[10,12])] 5 [⟨[10,12],3,36,37⟩,⟨[10,12],63,34,35⟩,⟨[12],3,32,33⟩,⟨[12],63,30,31⟩] fun cx => ?_
    refine iN zDb 8 zA.row ev12 fun cx => ?_
    refine mA zDb [(9,[])] 3 [⟨[10,12],3,36,37⟩,⟨[10,12],63,34,35⟩,⟨[12],3,32,33⟩,⟨[12],63,30,31⟩] fun cx => ?_
    refine mC zDb 10 ?_
    refine vA [.rd] (zMl n v12 r13 er13) ?_
    refine fA ?_
    refine oN zDb 11 zA.row ev14 fun cx => ?_
    refine mC zDb 12 ?_
    refine LAt.storeB tOk (t := 41) (ty := 0) (ad := (.tmp 41)) (x := (.tmp 40)) (g := none) (tI 41) true (zA.row r13) 6 0 (x1.At.toNat) 11 0 11 r1.Bs zA.row v14 r13 kr kr kr kr kr kr kr kr (zI ev14).2 kr kr kr kr ?_
    refine fA ?_
    exact mE zDb [6,4] [6,4]
   refine gA 3 48 16 ?_
   exact te (by obtain rfl := si H; exact fP [(true,[cL 11 (r1.Bs.set (x1.At.toNat) r13) zA.row,cL 4 r1.Ls Link.row,cL 7 r1.Said Say.row]),(false,[cB true])])
  refine tA h9 ?_
  refine gA 3 48 16 ?_
  exact te (by obtain rfl := si H; exact fP [(true,(Net.row r1)),(false,[cB false])])
 refine tA h1 ?_
 refine gA 3 48 16 ?_
 exact te (by obtain rfl := si H; exact fP [(true,(Net.row r1)),(false,[cB false])])
def zBb (n : Nat) (x0 : (List zB)) : Option ((List zB)) :=
  (bif (decide (([] : List zB).length + x0.length ≤ 268435456)) then (some (([] : List zB) ++ x0)) else none)
theorem zKA (n : Nat) (x0 : (List zB)) (r : (List zB)) (H : zBb n x0 = some r) : zD Tryz.prog 181 [.val false [.sl false 5 (CV.frzEs (x0.map zB.row))]] [.val false [.sl true 5 (r.map zB.row)]] [] := by
 refine cA Tryz.func181 (.seq (Rg Tryz.f181 0) (.seq (Rg Tryz.f181 1) .ret)) [.tmp 2] fun cx => ?_
 unfold zBb at H
 refine gA 1 1 0 ?_
 refine rA 1 ?_
 obtain ⟨hg1,H⟩ := gs H
 refine LAt.appCU tOk (t := 36) (ty := 36) (e := 169) (x := (.const (.slice none 0 0))) (y := (.tmp 3)) (d := 4) (g := none) (tI 169) zB.row ([] : List zB) x0 ⟨(.slot 3),[],0,false,5,(CV.frzEs (x0.map zB.row))⟩ kr kr kr kr kr kr kr kr kr kr kr (.inr rfl) (fun _ => rfl) (fun _ => rfl) hg1 ?_
 refine LAt.moveU (T := lk tab) (ty := 36) (x := (.tmp 4)) (d := 2) (g := none) false [cL 5 (([] : List zB) ++ x0) zB.row] kr kr kr kr kr ?_
 refine dA 4 0 ?_
 exact te (by obtain rfl := si H; exact fP [(false,[cL 5 (([] : List zB) ++ x0) zB.row])])
def zAz (n : Nat) (x0 : (List Int)) : Option ((List Int)) :=
  (bif (decide (([] : List Int).length + x0.length ≤ 268435456)) then (some (([] : List Int) ++ x0)) else none)
theorem zJY (n : Nat) (x0 : (List Int)) (r : (List Int)) (H : zAz n x0 = some r) : zD Tryz.prog 236 [.val false [.sl false 1 (CV.frzEs (x0.map intRow))]] [.val false [.sl true 1 (r.map intRow)]] [] := by
 refine cA Tryz.func236 (.seq (Rg Tryz.f236 0) (.seq (Rg Tryz.f236 1) .ret)) [.tmp 2] fun cx => ?_
 unfold zAz at H
 refine gA 1 1 0 ?_
 refine rA 1 ?_
 obtain ⟨hg1,H⟩ := gs H
 refine LAt.appCU tOk (t := 25) (ty := 25) (e := 3) (x := (.const (.slice none 0 0))) (y := (.tmp 3)) (d := 4) (g := none) (tI 3) intRow ([] : List Int) x0 ⟨(.slot 3),[],0,false,1,(CV.frzEs (x0.map intRow))⟩ kr kr kr kr kr kr kr kr kr kr kr (.inr rfl) (fun _ => rfl) (fun _ => rfl) hg1 ?_
 refine LAt.moveU (T := lk tab) (ty := 25) (x := (.tmp 4)) (d := 2) (g := none) false [cL 1 (([] : List Int) ++ x0) intRow] kr kr kr kr kr ?_
 refine dA 4 0 ?_
 exact te (by obtain rfl := si H; exact fP [(false,[cL 1 (([] : List Int) ++ x0) intRow])])
def JL (n : Nat) (x0 : zF) : Option (zF) :=
  (bif (decide (([] : List zC).length + x0.Rows.length ≤ 268435456)) then ((zAz n x0.Pv).bind fun r2 => (some (⟨(([] : List zC) ++ x0.Rows),r2⟩ : zF))) else none)
theorem zJZ (n : Nat) (x0 : zF) (r : zF) (H : JL n x0 = some r) : zD Tryz.prog 182 [.val true (CV.frzRow (zF.row x0))] [.val true (zF.row r)] [] := by
 refine cA Tryz.func182 (.seq (Rg Tryz.f182 0) (.seq (Rd Tryz.f182 1) .ret)) [.cell 2 39] fun cx => ?_
 unfold JL at H
 refine gA 2 6 6 ?_
 obtain ⟨hg1,H⟩ := gs H
 obtain ⟨r2,er2,H⟩ := bs H
 refine Tr.draws mixed 8 kr ⟨10,0,[sA 2 2 2 0],[(2,[cL 3 (([] : List zC) ++ x0.Rows) zC.row,cL 1 r2 intRow])]⟩ (fun cx => ?_) ?_
 ·refine aA [(0,[]),(1,[2,5,6,7]),(3,[]),(4,[5,6,7])] 4 [⟨[5,6,7],25,6,7⟩,⟨[2,5,6,7],37,3,4⟩] fun cx => ?_
  refine bA 2 ?_
  refine LAt.appCU tOk (t := 37) (ty := 37) (e := 175) (x := (.const (.slice none 0 0))) (y := (.tmp 4)) (d := 5) (g := none) (tI 175) zC.row ([] : List zC) x0.Rows ⟨(.box 1),[(0,0)],0,false,3,(CV.frzEs (x0.Rows.map zC.row))⟩ kr kr kr kr kr kr kr kr kr kr kr (.inr rfl) (fun _ => rfl) (fun _ => rfl) hg1 ?_
  refine fA ?_
  refine bA 5 ?_
  refine vA [.rd] (zJY n x0.Pv r2 er2) ?_
  refine fA ?_
  refine bA 6 ?_
  refine lA 1 ?_
  refine fA ?_
  refine bA 7 ?_
  refine lA 1 ?_
  refine fA ?_
  exact eE [2] [2]
 exact te (by obtain rfl := si H; exact fP [(true,[cL 3 (([] : List zC) ++ x0.Rows) zC.row,cL 1 r2 intRow])])
def q5 (n : Nat) (x0 : zA) : Option (zA) :=
  (bif (decide (([] : List Pt).length + x0.Ps.length ≤ 268435456)) then ((zBb n x0.F).bind fun r2 => ((JL n x0.V).bind fun r3 => (some (⟨x0.Id,x0.Name,(([] : List Pt) ++ x0.Ps),r2,r3,x0.Tk,x0.Pa,x0.Wo,x0.Dr,x0.Ve⟩ : zA)))) else none)
theorem zAG (n : Nat) (x0 : zA) (r : zA) (H : q5 n x0 = some r) : zD Tryz.prog 83 [.val true (CV.frzRow (zA.row x0))] [.val true (zA.row r)] [] := by
 refine cA Tryz.func83 (.seq (Rg Tryz.f83 0) (.seq (Rg Tryz.f83 1) (.seq (Rd Tryz.f83 2) (.seq (Rg Tryz.f83 3) .ret)))) [.cell 2 41] fun cx => ?_
 unfold q5 at H
 refine gA 2 6 6 ?_
 refine rA 2 ?_
 obtain ⟨hg1,H⟩ := gs H
 refine LAt.appCU tOk (t := 35) (ty := 35) (e := 167) (x := (.const (.slice none 0 0))) (y := (.tmp 4)) (d := 5) (g := none) (tI 167) Pt.row ([] : List Pt) x0.Ps ⟨(.slot 4),[],0,false,8,(CV.frzEs (x0.Ps.map Pt.row))⟩ kr kr kr kr kr kr kr kr kr kr kr (.inr rfl) (fun _ => rfl) (fun _ => rfl) hg1 ?_
 refine uA 2 6 6 ?_
 obtain ⟨r2,er2,H⟩ := bs H
 obtain ⟨r3,er3,H⟩ := bs H
 refine Tr.draws mixed 10 kr ⟨16,0,[sA 2 2 11 0,sA 1 1 11 0],[(1,[cI x0.Id,cS x0.Name,cL 8 (([] : List Pt) ++ x0.Ps) Pt.row,cL 5 r2 zB.row,cL 3 r3.Rows zC.row,cL 1 r3.Pv intRow,cI x0.Tk,cI x0.Pa,cI x0.Wo,cI x0.Dr,cI x0.Ve]),(2,[cI 0,cS (⟨#[]⟩ : ByteArray),cL 8 ([] : List Pt) Pt.row,cL 5 ([] : List zB) zB.row,cL 3 ([] : List zC) zC.row,cL 1 ([] : List Int) intRow,cI 0,cI 0,cI 0,cI 0,cI 0])]⟩ (fun cx => ?_) ?_
 ·refine aA [(0,[]),(1,[2,5,7,9]),(3,[]),(4,[5,7,9])] 6 [⟨[5,7,9],39,10,11⟩,⟨[2,5,7,9],36,7,8⟩] fun cx => ?_
  refine bA 2 ?_
  refine vA [.rd] (zKA n x0.F r2 er2) ?_
  refine fA ?_
  refine aA [(6,[])] 4 [⟨[5,7,9],39,10,11⟩,⟨[2,5,7,9],36,7,8⟩] fun cx => ?_
  refine bA 5 ?_
  refine vA [.rd] (zJZ n x0.V r3 er3) ?_
  refine fA ?_
  refine bA 7 ?_
  refine LAt.storeO tOk (t := 36) (ty := 0) (ad := (.tmp 13)) (x := (.tmp 9)) (g := none) (tI 36) false [cL 5 r2 zB.row] 1 3 [cI x0.Id,cS x0.Name,cL 8 (([] : List Pt) ++ x0.Ps) Pt.row,cF 5 x0.F zB.row,cF 3 x0.V.Rows zC.row,cF 1 x0.V.Pv intRow,cI x0.Tk,cI x0.Pa,cI x0.Wo,cI x0.Dr,cI x0.Ve] kr kr kr kr kr kr kr kr ?_
  refine fA ?_
  refine aA [(8,[])] 1 [⟨[5,7,9],39,10,11⟩,⟨[2,5,7,9],36,7,8⟩] fun cx => ?_
  refine bA 9 ?_
  refine lA 1 ?_
  refine fA ?_
  exact eE [2,1] [1,2]
 refine gA 2 4 4 ?_
 exact te (by obtain rfl := si H; exact fP [(true,[cI x0.Id,cS x0.Name,cL 8 (([] : List Pt) ++ x0.Ps) Pt.row,cL 5 r2 zB.row,cL 3 r3.Rows zC.row,cL 1 r3.Pv intRow,cI x0.Tk,cI x0.Pa,cI x0.Wo,cI x0.Dr,cI x0.Ve])])
def zAH (n : Nat) (x0 : Net) (y5 : (List zA)) : Option (Net) :=
  (some (⟨y5,(([] : List Link) ++ x0.Ls),(([] : List Say) ++ x0.Said)⟩ : Net))
def Zo (n : Nat) : Nat → Net → Int → (List zA) → Option (((List zA)) ⊕ (Net))
  | 0,_,_,_ => none
  | mo6 + 1,x0,y3,y4 => (bif (decide (y3 < (x0.Bs.length : Int))) then ((idx x0.Bs y3).bind fun v7 => ((q5 n v7).bind fun r8 => (bif (decide (y4.length + [r8].length ≤ 268435456)) then (Zo n mo6 x0 (IntKind.wrap .i64 (y3 + 1)) (y4 ++ [r8])) else none))) else (some (Sum.inl y4)))
def Ju (n : Nat) (x0 : Net) : Option (Net) :=
  (bif (decide (([] : List Link).length + x0.Ls.length ≤ 268435456)) then (bif (decide (([] : List Say).length + x0.Said.length ≤ 268435456)) then ((Zo n n x0 0 ([] : List zA)).bind fun o => match o with | .inl y5 => (zAH n x0 y5) | .inr r => some r) else none) else none)
theorem zKB (n : Nat) (x0 : Net) (r : Net) (H : Ju n x0 = some r) : zD Tryz.prog 115 [.val true (CV.frzRow (Net.row x0))] [.val true (Net.row r)] [] := by
 refine cA Tryz.func115 (.seq (Rg Tryz.f115 0) (.seq (Rd Tryz.f115 1) (.seq (.seq (Rg Tryz.f115 2) (.block 0 (.loop (.seq (Rg Tryz.f115 3) (.seq (.cond (.tmp 17) .skip (.exit 0)) (.seq (.block 1 (.seq (Rg Tryz.f115 4) (Rd Tryz.f115 5))) (Rg Tryz.f115 6))))))) (.seq (Rg Tryz.f115 7) .ret)))) [.cell 2 67] fun cx => ?_
 unfold Ju at H
 refine gA 2 6 6 ?_
 obtain ⟨hg1,H⟩ := gs H
 obtain ⟨hg2,H⟩ := gs H
 refine Tr.draws mixed 9 kr ⟨29,0,[sA 3 3 3 0,sA 2 2 3 0,sA 1 1 3 0],[(3,[cL 11 ([] : List zA) zA.row,cL 4 (([] : List Link) ++ x0.Ls) Link.row,cL 7 (([] : List Say) ++ x0.Said) Say.row]),(2,[cL 11 ([] : List zA) zA.row,cL 4 ([] : List Link) Link.row,cL 7 ([] : List Say) Say.row]),(1,(CV.frzRow (Net.row x0)))]⟩ (fun cx => ?_) ?_
 ·refine aA [(0,[]),(1,[2,5,6,8]),(3,[]),(4,[5,6,8])] 5 [⟨[5,6,8],65,9,10⟩,⟨[2,5,6,8],64,6,7⟩] fun cx => ?_
  refine AT.big2 tOk 2 7 kr (And.intro kr ?_) (And.intro kr ?_)
  ·refine LAt.appCU tOk (t := 64) (ty := 64) (e := 114) (x := (.const (.slice none 0 0))) (y := (.tmp 7)) (d := 8) (g := none) (tI 114) Link.row ([] : List Link) x0.Ls ⟨(.box 1),[(0,0)],1,false,4,(CV.frzEs (x0.Ls.map Link.row))⟩ kr kr kr kr kr kr kr kr kr kr kr (.inr rfl) (fun _ => rfl) (fun _ => rfl) hg1 ?_
   refine fA ?_
   refine AT.big2 tOk 5 7 kr (And.intro kr ?_) (And.intro kr ?_)
   ·refine LAt.appCU tOk (t := 65) (ty := 65) (e := 180) (x := (.const (.slice none 0 0))) (y := (.tmp 10)) (d := 11) (g := none) (tI 180) Say.row ([] : List Say) x0.Said ⟨(.box 1),[(0,0)],2,false,7,(CV.frzEs (x0.Said.map Say.row))⟩ kr kr kr kr kr kr kr kr kr kr kr (.inr rfl) (fun _ => rfl) (fun _ => rfl) hg2 ?_
    refine fA ?_
    refine AT.big2 tOk 6 7 kr (And.intro kr ?_) (And.intro kr ?_)
    ·refine lA 1 ?_
     refine fA ?_
     refine bA 7 ?_
     refine lA 1 ?_
     refine fA ?_
     refine bA 8 ?_
     refine lA 1 ?_
     refine fA ?_
     exact eE [3,2,1] [3,2,1]
    ·refine lA 1 ?_
     refine fA ?_
     refine bA 6 ?_
     refine lA 1 ?_
     refine fA ?_
     refine bA 8 ?_
     refine lA 1 ?_
     refine fA ?_
     exact eE [3,2,1] [3,2,1]
   ·refine lA 1 ?_
    refine fA ?_
    refine bA 5 ?_
    refine LAt.appCU tOk (t := 65) (ty := 65) (e := 180) (x := (.const (.slice none 0 0))) (y := (.tmp 10)) (d := 11) (g := none) (tI 180) Say.row ([] : List Say) x0.Said ⟨(.box 1),[(0,0)],2,false,7,(CV.frzEs (x0.Said.map Say.row))⟩ kr kr kr kr kr kr kr kr kr kr kr (.inr rfl) (fun _ => rfl) (fun _ => rfl) hg2 ?_
    refine fA ?_
    refine bA 6 ?_
    refine lA 1 ?_
    refine fA ?_
    refine bA 8 ?_
    refine lA 1 ?_
    refine fA ?_
    exact eE [3,2,1] [3,2,1]
  ·refine lA 1 ?_
   refine fA ?_
   refine bA 2 ?_
   refine LAt.appCU tOk (t := 64) (ty := 64) (e := 114) (x := (.const (.slice none 0 0))) (y := (.tmp 7)) (d := 8) (g := none) (tI 114) Link.row ([] : List Link) x0.Ls ⟨(.box 1),[(0,0)],1,false,4,(CV.frzEs (x0.Ls.map Link.row))⟩ kr kr kr kr kr kr kr kr kr kr kr (.inr rfl) (fun _ => rfl) (fun _ => rfl) hg1 ?_
   refine fA ?_
   refine bA 5 ?_
   refine LAt.appCU tOk (t := 65) (ty := 65) (e := 180) (x := (.const (.slice none 0 0))) (y := (.tmp 10)) (d := 11) (g := none) (tI 180) Say.row ([] : List Say) x0.Said ⟨(.box 1),[(0,0)],2,false,7,(CV.frzEs (x0.Said.map Say.row))⟩ kr kr kr kr kr kr kr kr kr kr kr (.inr rfl) (fun _ => rfl) (fun _ => rfl) hg2 ?_
   refine fA ?_
   refine bA 6 ?_
   refine lA 1 ?_
   refine fA ?_
   refine bA 8 ?_
   refine lA 1 ?_
   refine fA ?_
   exact eE [3,2,1] [3,2,1]
 refine tS ?_
 refine rA 2 ?_
 refine kF x0.Bs zA.row ?_
 refine uA 1 114700 12 ?_
 obtain ⟨o6,eo6,Ho6⟩ := bs H
 clear H
 refine Tr.mid (ι := (List zA)) (fun v => ⟨29,0,[sA 3 3 3 0,sA 2 2 3 0],[(3,[cL 11 v zA.row,cL 4 (([] : List Link) ++ x0.Ls) Link.row,cL 7 (([] : List Say) ++ x0.Said) Say.row]),(2,[cL 11 ([] : List zA) zA.row,cL 4 ([] : List Link) Link.row,cL 7 ([] : List Say) Say.row])]⟩) (fun v => zAH n x0 v = some r) ?_ ?_
 ·refine tB ?_
  refine Tr.loop (ι := Nat × (Int × (List zA))) (fun v => ⟨29,0,[sI 16 v.2.1,sI 15 (x0.Bs.length : Int),sC 14 (cF 11 x0.Bs zA.row),sA 3 3 3 0,sA 2 2 3 0],[(3,[cL 11 v.2.2 zA.row,cL 4 (([] : List Link) ++ x0.Ls) Link.row,cL 7 (([] : List Say) ++ x0.Said) Say.row]),(2,[cL 11 ([] : List zA) zA.row,cL 4 ([] : List Link) Link.row,cL 7 ([] : List Say) Say.row])]⟩) (fun v => Zo n v.1 x0 v.2.1 v.2.2 = some o6) (fun v => v.1) (n,(0,([] : List zA))) eo6 (St.sub_of [16,15,14,3,2] [3,2] kr) ?_
  rintro ⟨mo6,y3,y4⟩ H
  have H : Zo n mo6 x0 y3 y4 = some o6 := H
  obtain _ | mo6 := mo6
  ·exact nN H
  rw [Zo] at H
  refine gA 1 245772 12 ?_
  refine tS ?_
  obtain ⟨h1,H⟩ | ⟨h1,H⟩ := bC H
  ·refine nA h1 ?_
   refine Tr.exit ?_
   refine And.intro (fun _ => ?_) (fun h => absurd rfl h)
   obtain rfl := si H
   have H := Ho6
   dsimp only at H
   exact jA y4 H [3,2] [3,2]
  refine tA h1 ?_
  refine tK ?_
  refine tS ?_
  refine tB ?_
  refine tR ?_
  obtain ⟨v7,ev7,H⟩ := bs H
  refine iA zA.row ev7 ?_
  refine uA 3 114732 44 ?_
  obtain ⟨r8,er8,H⟩ := bs H
  obtain ⟨hg9,H⟩ := gs H
  refine Tr.draw mixed 8 kr ⟨29,0,[sI 16 y3,sI 15 (x0.Bs.length : Int),sC 14 (cF 11 x0.Bs zA.row),sA 3 3 3 0,sA 2 2 3 0],[(3,[cL 11 (y4 ++ [r8]) zA.row,cL 4 (([] : List Link) ++ x0.Ls) Link.row,cL 7 (([] : List Say) ++ x0.Said) Say.row]),(2,[cL 11 ([] : List zA) zA.row,cL 4 ([] : List Link) Link.row,cL 7 ([] : List Say) Say.row])]⟩ (fun cx => ?_) ?_
  ·refine aA [(0,[]),(1,[5,7]),(2,[3,4,5,7])] 5 [⟨[3,4,5,7],41,5,22⟩,⟨[5,7],63,20,21⟩] fun cx => ?_
   refine bA 3 ?_
   refine vA [.rd] (zAG n v7 r8 er8) ?_
   refine fA ?_
   refine bA 4 ?_
   refine lA 1 ?_
   refine fA ?_
   refine bA 5 ?_
   refine LAt.appMU tOk (t := 63) (ty := 63) (e := 41) (x := (.tmp 21)) (y := (.tmp 24)) (d := 25) (g := none) (tI 41) zA.row y4 [r8] kr kr kr kr kr kr kr kr kr kr hg9 ?_
   refine fA ?_
   refine aA [(6,[])] 1 [⟨[3,4,5,7],41,5,22⟩,⟨[5,7],63,20,21⟩] fun cx => ?_
   refine bA 7 ?_
   refine lA 1 ?_
   refine fA ?_
   exact eE [16,15,14,3,2] [3,2]
  refine eA 2 114700 12 ?_
  exact jB mo6 ((IntKind.wrap .i64 (y3 + 1)),(y4 ++ [r8])) H [16,15,14,3,2] [3,2]
 rintro y5 H
 have H : (zAH n x0 y5) = some r := H
 unfold zAH at H
 refine gA 2 4 4 ?_
 exact te (by obtain rfl := si H; exact fP [(true,[cL 11 y5 zA.row,cL 4 (([] : List Link) ++ x0.Ls) Link.row,cL 7 (([] : List Say) ++ x0.Said) Say.row])])
def zw (n : Nat) (x0 : Int) (x1 : Int) (x2 : Int) : Option (Bool) :=
  (bif (decide (x0 ≥ x1)) then (some (decide (x0 ≤ x2))) else (some false))
theorem z3 (n : Nat) (x0 : Int) (x1 : Int) (x2 : Int) (r : Bool) (H : zw n x0 x1 x2 = some r) : zD Tryz.prog 116 [.val false [.lit (.int .i64 x0)],.val false [.lit (.int .i64 x1)],.val false [.lit (.int .i64 x2)]] [.val false [.lit (.bool r)]] [] := by
 refine cA Tryz.func116 (.seq (Rg Tryz.f116 0) (.seq (Rg Tryz.f116 1) .ret)) [.tmp 6] fun cx => ?_
 unfold zw at H
 refine gA 1 7 0 ?_
 refine rA 4 ?_
 refine sL 1029 0 ⟨15,0,[sB 10 (decide (x0 ≥ x1)),sI 0 x0,sI 2 x2],[]⟩ ?_
 cases h1 : (decide (x0 ≥ x1))
 ·have H := zG h1 H
  refine uA 5 64 0 ?_
  exact te (by obtain rfl := si H; exact fP [(false,[cB false])])
 have H := zH h1 H
 refine uA 5 64 0 ?_
 exact te (by obtain rfl := si H; exact fP [(false,[cB (decide (x0 ≤ x2))])])
def Q3 (n : Nat) (x0 : Vec) : Option (Bool) :=
  ((zw n x0.Root 1 99).bind fun r1 => (bif r1 then ((zw n x0.Co 0 100000).bind fun r2 => (bif r2 then ((zw n x0.Hops 0 10).bind fun r3 => (bif r3 then ((zw n x0.Bridge 1 99).bind fun r4 => (bif r4 then ((zw n x0.Port 0 7).bind fun r5 => (some r5)) else (some false))) else (some false))) else (some false))) else (some false)))
theorem zB0 (n : Nat) (x0 : Vec) (r : Bool) (H : Q3 n x0 = some r) : zD Tryz.prog 149 [.val true (CV.frzRow (Vec.row x0))] [.val false [.lit (.bool r)]] [] := by
 refine cA Tryz.func149 (.seq (Rg Tryz.f149 0) (.seq (Rg Tryz.f149 1) .ret)) [.tmp 2] fun cx => ?_
 unfold Q3 at H
 refine gA 2 2 2 ?_
 refine rA 2 ?_
 obtain ⟨r1,er1,H⟩ := bs H
 refine vA [.rd,.rd,.rd] (z3 n x0.Root 1 99 r1 er1) ?_
 refine lA 1 ?_
 refine sL 66 2 ⟨26,0,[sB 6 r1,sA 1 1 5 0],[(1,(Vec.row x0))]⟩ ?_
 cases h1 : r1
 ·have H := zG h1 H
  refine uA 20 4 0 ?_
  exact te (by obtain rfl := si H; exact fP [(false,[cB false])])
 have H := zH h1 H
 refine lA 2 ?_
 obtain ⟨r2,er2,H⟩ := bs H
 refine vA [.rd,.rd,.rd] (z3 n x0.Co 0 100000 r2 er2) ?_
 refine lA 2 ?_
 refine sL 2050 2 ⟨26,0,[sB 11 r2,sA 1 1 5 0],[(1,(Vec.row x0))]⟩ ?_
 cases h2 : r2
 ·have H := zG h2 H
  refine uA 15 4 0 ?_
  exact te (by obtain rfl := si H; exact fP [(false,[cB false])])
 have H := zH h2 H
 refine lA 2 ?_
 obtain ⟨r3,er3,H⟩ := bs H
 refine vA [.rd,.rd,.rd] (z3 n x0.Hops 0 10 r3 er3) ?_
 refine lA 2 ?_
 refine sL 65538 2 ⟨26,0,[sB 16 r3,sA 1 1 5 0],[(1,(Vec.row x0))]⟩ ?_
 cases h3 : r3
 ·have H := zG h3 H
  refine uA 10 4 0 ?_
  exact te (by obtain rfl := si H; exact fP [(false,[cB false])])
 have H := zH h3 H
 refine lA 2 ?_
 obtain ⟨r4,er4,H⟩ := bs H
 refine vA [.rd,.rd,.rd] (z3 n x0.Bridge 1 99 r4 er4) ?_
 refine lA 2 ?_
 refine sL 2097154 2 ⟨26,0,[sB 21 r4,sA 1 1 5 0],[(1,(Vec.row x0))]⟩ ?_
 cases h4 : r4
 ·have H := zG h4 H
  refine uA 5 4 0 ?_
  exact te (by obtain rfl := si H; exact fP [(false,[cB false])])
 have H := zH h4 H
 refine lA 2 ?_
 obtain ⟨r5,er5,H⟩ := bs H
 refine vA [.rd,.rd,.rd] (z3 n x0.Port 0 7 r5 er5) ?_
 refine uA 2 4 0 ?_
 exact te (by obtain rfl := si H; exact fP [(false,[cB r5])])
def zBz (n : Nat) (x0 : Pt) : Option (Bool) :=
  ((zw n x0.Co 1 1000).bind fun r1 => (bif (!r1) then (some false) else (bif x0.Has then (bif (!x0.Up) then (some false) else ((Q3 n x0.Hd).bind fun r2 => (some r2))) else (some ((x0.Hd.Root == 0) && ((x0.Hd.Co == 0) && ((x0.Hd.Hops == 0) && ((x0.Hd.Bridge == 0) && ((x0.Hd.Port == 0) && true)))))))))
theorem zMW (n : Nat) (x0 : Pt) (r : Bool) (H : zBz n x0 = some r) : zD Tryz.prog 138 [.val true (CV.frzRow (Pt.row x0))] [.val false [.lit (.bool r)]] [] := by
 refine cA Tryz.func138 (.seq (Rg Tryz.f138 0) (.seq (.seq (Rg Tryz.f138 1) (.cond (.tmp 15) (.seq (Rg Tryz.f138 2) .ret) .skip)) (.seq (.seq (Rg Tryz.f138 3) (.cond (.tmp 17) (.seq (Rg Tryz.f138 4) .ret) .skip)) (.seq (Rg Tryz.f138 5) .ret)))) [.tmp 2] fun cx => ?_
 unfold zBz at H
 refine gA 2 2 2 ?_
 refine tS ?_
 refine rA 2 ?_
 obtain ⟨r1,er1,H⟩ := bs H
 refine vA [.rd,.rd,.rd] (z3 n x0.Co 1 1000 r1 er1) ?_
 refine lA 2 ?_
 refine sL 130 2 ⟨25,0,[sB 7 (!r1),sA 1 1 8 0],[(1,(Pt.row x0))]⟩ ?_
 cases h1 : (!r1)
 ·have H := zG h1 H
  refine lA 3 ?_
  refine sL 1154 2 ⟨25,0,[sB 10 x0.Has,sB 7 false,sA 1 1 8 0],[(1,(Pt.row x0))]⟩ ?_
  cases h2 : x0.Has
  ·have H := zG h2 H
   refine uA 5 32770 2 ?_
   refine nB_ ?_
   refine tK ?_
   refine tS ?_
   refine gA 2 131074 2 ?_
   refine sT ⟨25,0,[sB 17 x0.Has,sA 1 1 8 0],[(1,(Pt.row x0))]⟩ ?_
   rw [h2]
   refine nB_ ?_
   refine tK ?_
   refine rA 3 ?_
   refine LAt.eqSG false (t := 165) (ty := 165) (ty' := 4) (x := (.tmp 22)) (y := (.tmp 23)) (d := 24) (g := none) ((x0.Hd.Root == 0) && ((x0.Hd.Co == 0) && ((x0.Hd.Hops == 0) && ((x0.Hd.Bridge == 0) && ((x0.Hd.Port == 0) && true))))) _ kr kr kr kr rfl ?_
   refine uA 1 4 0 ?_
   exact te (by obtain rfl := si H; exact fP [(false,[cB ((x0.Hd.Root == 0) && ((x0.Hd.Co == 0) && ((x0.Hd.Hops == 0) && ((x0.Hd.Bridge == 0) && ((x0.Hd.Port == 0) && true)))))])])
  have H := zH h2 H
  refine uA 5 32770 2 ?_
  obtain ⟨h3,H⟩ | ⟨h3,H⟩ := bC H
  ·refine nA h3 ?_
   refine tK ?_
   refine tS ?_
   refine gA 2 131074 2 ?_
   refine sT ⟨25,0,[sB 17 x0.Has,sA 1 1 8 0],[(1,(Pt.row x0))]⟩ ?_
   rw [h2]
   refine tB_ ?_
   refine rA 2 ?_
   obtain ⟨r2,er2,H⟩ := bs H
   refine vA [.rd] (zB0 n x0.Hd r2 er2) ?_
   refine uA 1 4 0 ?_
   exact te (by obtain rfl := si H; exact fP [(false,[cB r2])])
  refine tA h3 ?_
  refine gA 1 4 0 ?_
  exact te (by obtain rfl := si H; exact fP [(false,[cB false])])
 have H := zH h1 H
 refine uA 8 32770 2 ?_
 refine tB_ ?_
 refine gA 1 4 0 ?_
 exact te (by obtain rfl := si H; exact fP [(false,[cB false])])
def zB2 (n : Nat) (x0 : zB) : Option (Bool) :=
  ((zw n x0.Tag 1 99).bind fun r1 => (bif r1 then ((zw n x0.Mac 1 9999).bind fun r2 => (bif r2 then ((zw n x0.Port 0 7).bind fun r3 => (bif r3 then ((zw n x0.Age 0 4).bind fun r4 => (bif r4 then (bif (!x0.Sc) then (some true) else (some (x0.Age == 0))) else (some false))) else (some false))) else (some false))) else (some false)))
theorem zEM (n : Nat) (x0 : zB) (r : Bool) (H : zB2 n x0 = some r) : zD Tryz.prog 183 [.val true (CV.frzRow (zB.row x0))] [.val false [.lit (.bool r)]] [] := by
 refine cA Tryz.func183 (.seq (Rg Tryz.f183 0) (.seq (Rg Tryz.f183 1) .ret)) [.tmp 2] fun cx => ?_
 unfold zB2 at H
 refine gA 2 2 2 ?_
 refine rA 2 ?_
 obtain ⟨r1,er1,H⟩ := bs H
 refine vA [.rd,.rd,.rd] (z3 n x0.Tag 1 99 r1 er1) ?_
 refine lA 1 ?_
 refine sL 66 2 ⟨31,0,[sB 6 r1,sA 1 1 5 0],[(1,(zB.row x0))]⟩ ?_
 cases h1 : r1
 ·have H := zG h1 H
  refine uA 25 4 0 ?_
  exact te (by obtain rfl := si H; exact fP [(false,[cB false])])
 have H := zH h1 H
 refine lA 2 ?_
 obtain ⟨r2,er2,H⟩ := bs H
 refine vA [.rd,.rd,.rd] (z3 n x0.Mac 1 9999 r2 er2) ?_
 refine lA 2 ?_
 refine sL 2050 2 ⟨31,0,[sB 11 r2,sA 1 1 5 0],[(1,(zB.row x0))]⟩ ?_
 cases h2 : r2
 ·have H := zG h2 H
  refine uA 20 4 0 ?_
  exact te (by obtain rfl := si H; exact fP [(false,[cB false])])
 have H := zH h2 H
 refine lA 2 ?_
 obtain ⟨r3,er3,H⟩ := bs H
 refine vA [.rd,.rd,.rd] (z3 n x0.Port 0 7 r3 er3) ?_
 refine lA 2 ?_
 refine sL 65538 2 ⟨31,0,[sB 16 r3,sA 1 1 5 0],[(1,(zB.row x0))]⟩ ?_
 cases h3 : r3
 ·have H := zG h3 H
  refine uA 15 4 0 ?_
  exact te (by obtain rfl := si H; exact fP [(false,[cB false])])
 have H := zH h3 H
 refine lA 2 ?_
 obtain ⟨r4,er4,H⟩ := bs H
 refine vA [.rd,.rd,.rd] (z3 n x0.Age 0 4 r4 er4) ?_
 refine lA 2 ?_
 refine sL 2097154 2 ⟨31,0,[sB 21 r4,sA 1 1 5 0],[(1,(zB.row x0))]⟩ ?_
 cases h4 : r4
 ·have H := zG h4 H
  refine uA 10 4 0 ?_
  exact te (by obtain rfl := si H; exact fP [(false,[cB false])])
 have H := zH h4 H
 refine lA 4 ?_
 refine sL 35651586 2 ⟨31,0,[sB 25 (!x0.Sc),sB 21 true,sA 1 1 5 0],[(1,(zB.row x0))]⟩ ?_
 cases h5 : (!x0.Sc)
 ·have H := zG h5 H
  refine uA 6 4 0 ?_
  exact te (by obtain rfl := si H; exact fP [(false,[cB (x0.Age == 0)])])
 have H := zH h5 H
 refine uA 6 4 0 ?_
 exact te (by obtain rfl := si H; exact fP [(false,[cB true])])
def zAc (n : Nat) (x0 : zB) (x1 : Int) (x2 : Int) : Option (Bool) :=
  (bif (decide (x0.Tag > x1)) then (some true) else (bif (x0.Tag == x1) then (some (decide (x0.Mac > x2))) else (some false)))
theorem zKt (n : Nat) (x0 : zB) (x1 : Int) (x2 : Int) (r : Bool) (H : zAc n x0 x1 x2 = some r) : zD Tryz.prog 215 [.val true (CV.frzRow (zB.row x0)),.val false [.lit (.int .i64 x1)],.val false [.lit (.int .i64 x2)]] [.val false [.lit (.bool r)]] [] := by
 refine cA Tryz.func215 (.seq (Rg Tryz.f215 0) (.seq (Rg Tryz.f215 1) .ret)) [.tmp 6] fun cx => ?_
 unfold zAc at H
 refine gA 2 14 8 ?_
 refine rA 5 ?_
 refine sL 2062 8 ⟨23,0,[sB 11 (decide (x0.Tag > x1)),sA 3 3 5 0,sI 1 x1,sI 2 x2],[(3,(zB.row x0))]⟩ ?_
 cases h1 : (decide (x0.Tag > x1))
 ·have H := zG h1 H
  refine lA 5 ?_
  refine sL 67596 8 ⟨23,0,[sB 16 (x0.Tag == x1),sB 11 false,sA 3 3 5 0,sI 2 x2],[(3,(zB.row x0))]⟩ ?_
  cases h2 : (x0.Tag == x1)
  ·have H := zG h2 H
   refine uA 7 64 0 ?_
   exact te (by obtain rfl := si H; exact fP [(false,[cB false])])
  have H := zH h2 H
  refine uA 7 64 0 ?_
  exact te (by obtain rfl := si H; exact fP [(false,[cB (decide (x0.Mac > x2))])])
 have H := zH h1 H
 refine uA 12 64 0 ?_
 exact te (by obtain rfl := si H; exact fP [(false,[cB true])])
def zBW (n : Nat) (x0 : (List zB)) : Option (Bool) :=
  (some (decide ((x0.length : Int) ≤ 12)))
def Zx (n : Nat) : Nat → (List zB) → Int → Option ((Unit) ⊕ (Bool))
  | 0,_,_ => none
  | mo2 + 1,x0,y1 => (bif (decide (y1 < (x0.length : Int))) then ((idx x0 y1).bind fun v3 => ((zB2 n v3).bind fun r4 => (bif (!r4) then (some (Sum.inr false)) else (bif (decide (y1 > 0)) then ((idx x0 (IntKind.wrap .i64 (y1 - 1))).bind fun v5 => ((idx x0 (IntKind.wrap .i64 (y1 - 1))).bind fun v6 => ((zAc n v3 v5.Tag v6.Mac).bind fun r7 => (bif (!r7) then (some (Sum.inr false)) else (Zx n mo2 x0 (IntKind.wrap .i64 (y1 + 1))))))) else (Zx n mo2 x0 (IntKind.wrap .i64 (y1 + 1))))))) else (some (Sum.inl ())))
def zBI (n : Nat) (x0 : (List zB)) : Option (Bool) :=
  ((Zx n n x0 0).bind fun o => match o with | .inl _ => (zBW n x0) | .inr r => some r)
def zN0 : Tab := ⟨24,[0,1,2,6,8,24,40,64,64,64,576,1344,2112,4160,64,64,32832,81984,131136,262208,532672,1048640,2097224,4194312],[0,1,2,4,8,24,40,64,64,64,576,1344,2112,4160,64,64,32832,81984,131136,262208,532672,1048640,2097224,4194312],[0,1,3,7,15,31,63,127,127,127,639,1919,3967,8063,127,127,32895,114815,245887,508031,1048575,2097151,4194303,8388607]⟩
theorem ZR : zf (rg Tryz.f139 4) zN0 = true := kr
theorem zLs (n : Nat) (x0 : (List zB)) (r : Bool) (H : zBI n x0 = some r) : zD Tryz.prog 139 [.val false [.sl false 5 (CV.frzEs (x0.map zB.row))]] [.val false [.lit (.bool r)]] [] := by
 refine cA Tryz.func139 (.seq (Rg Tryz.f139 0) (.seq (.seq (Rg Tryz.f139 1) (.block 0 (.loop (.seq (Rg Tryz.f139 2) (.seq (.cond (.tmp 8) .skip (.exit 0)) (.seq (.block 1 (.seq (Rg Tryz.f139 3) (.seq (Rd Tryz.f139 4) (.cond (.tmp 35) (.seq (Rg Tryz.f139 5) .ret) .skip)))) (Rg Tryz.f139 6))))))) (.seq (Rg Tryz.f139 7) .ret))) [.tmp 2] fun cx => ?_
 unfold zBI at H
 refine gA 1 1 0 ?_
 refine tS ?_
 refine rA 1 ?_
 refine kF x0 zB.row ?_
 refine uA 1 225 0 ?_
 obtain ⟨o2,eo2,Ho2⟩ := bs H
 clear H
 refine Tr.mid (ι := Unit) (fun v => ⟨40,0,[sC 0 (cF 5 x0 zB.row)],[]⟩) (fun v => zBW n x0 = some r) ?_ ?_
 ·refine tB ?_
  refine Tr.loop (ι := Nat × (Int)) (fun v => ⟨40,0,[sI 7 v.2,sI 6 (x0.length : Int),sC 5 (cF 5 x0 zB.row),sC 0 (cF 5 x0 zB.row)],[]⟩) (fun v => Zx n v.1 x0 v.2 = some o2) (fun v => v.1) (n,0) eo2 (St.sub_of [7,6,5,0] [] kr) ?_
  rintro ⟨mo2,y1⟩ H
  have H : Zx n mo2 x0 y1 = some o2 := H
  obtain _ | mo2 := mo2
  ·exact nN H
  rw [Zx] at H
  refine gA 1 481 0 ?_
  refine tS ?_
  obtain ⟨h1,H⟩ | ⟨h1,H⟩ := bC H
  ·refine nA h1 ?_
   refine Tr.exit ?_
   refine And.intro (fun _ => ?_) (fun h => absurd rfl h)
   obtain rfl := si H
   have H := Ho2
   dsimp only at H
   exact jA () H [0] []
  refine tA h1 ?_
  refine tK ?_
  refine tS ?_
  refine tB ?_
  refine rA 1 ?_
  obtain ⟨v3,ev3,H⟩ := bs H
  refine iA zB.row ev3 ?_
  refine uA 4 249 16 ?_
  obtain ⟨r4,er4,H⟩ := bs H
  refine sT ⟨40,0,[sI 3 y1,sA 4 4 5 0,sI 7 y1,sI 6 (x0.length : Int),sC 5 (cF 5 x0 zB.row),sC 0 (cF 5 x0 zB.row)],[(4,(zB.row v3))]⟩ ?_
  cases h2 : (!r4)
  ·have H := zG h2 H
   refine sT ⟨40,0,[sI 3 y1,sA 4 4 5 0,sI 7 y1,sI 6 (x0.length : Int),sC 5 (cF 5 x0 zB.row),sC 0 (cF 5 x0 zB.row)],[(4,(zB.row v3))]⟩ ?_
   cases h3 : (decide (y1 > 0))
   ·have H := zG h3 H
    refine Tr.draws mixed 24 kr ⟨40,0,[sB 35 false,sI 7 y1,sI 6 (x0.length : Int),sC 5 (cF 5 x0 zB.row),sC 0 (cF 5 x0 zB.row)],[]⟩ (fun cx => ?_) ?_
    ·refine mA ZR [(0,[1])] 23 [⟨[1],169,4,12⟩] fun cx => ?_
     refine mC ZR 1 ?_
     refine vA [.rd] (zEM n v3 r4 er4) ?_
     refine fA ?_
     refine mA ZR [(2,[]),(3,[])] 20 [⟨[1],169,4,12⟩] fun cx => ?_
     refine sA_ 37113 16 ⟨40,0,[sB 15 (!r4),sV 12 (zB.row v3),sI 3 y1,sA 4 4 5 0,sI 7 y1,sI 6 (x0.length : Int),sC 5 (cF 5 x0 zB.row),sC 0 (cF 5 x0 zB.row)],[(4,(zB.row v3))]⟩ ?_
     rw [h2]
     refine mA ZR [(4,[]),(5,[]),(6,[])] 17 [⟨[1],169,4,12⟩] fun cx => ?_
     refine sA_ 299257 16 ⟨40,0,[sB 18 (decide (y1 > 0)),sB 15 false,sV 12 (zB.row v3),sI 3 y1,sA 4 4 5 0,sI 7 y1,sI 6 (x0.length : Int),sC 5 (cF 5 x0 zB.row),sC 0 (cF 5 x0 zB.row)],[(4,(zB.row v3))]⟩ ?_
     rw [h3]
     refine mA ZR [(7,[]),(8,[]),(9,[]),(10,[]),(11,[]),(12,[]),(13,[]),(14,[]),(15,[]),(16,[]),(17,[]),(18,[]),(19,[]),(20,[]),(21,[]),(22,[]),(23,[])] 0 [⟨[1],169,4,12⟩] fun cx => ?_
     exact mE ZR [35,7,6,5,0] []
    refine nB_ ?_
    refine tK ?_
    refine eA 2 225 0 ?_
    exact jB mo2 (IntKind.wrap .i64 (y1 + 1)) H [7,6,5,0] []
   have H := zH h3 H
   obtain ⟨v5,ev5,H⟩ := bs H
   obtain ⟨v6,ev6,H⟩ := bs H
   obtain ⟨r7,er7,H⟩ := bs H
   refine Tr.draws mixed 24 kr ⟨40,0,[sB 35 (!r7),sI 7 y1,sI 6 (x0.length : Int),sC 5 (cF 5 x0 zB.row),sC 0 (cF 5 x0 zB.row)],[]⟩ (fun cx => ?_) ?_
   ·refine mA ZR [(0,[1,20])] 23 [⟨[1,20],169,4,12⟩] fun cx => ?_
    refine mC ZR 1 ?_
    refine vA [.rd] (zEM n v3 r4 er4) ?_
    refine fA ?_
    refine mA ZR [(2,[]),(3,[])] 20 [⟨[1,20],169,4,12⟩] fun cx => ?_
    refine sA_ 37113 16 ⟨40,0,[sB 15 (!r4),sV 12 (zB.row v3),sI 3 y1,sA 4 4 5 0,sI 7 y1,sI 6 (x0.length : Int),sC 5 (cF 5 x0 zB.row),sC 0 (cF 5 x0 zB.row)],[(4,(zB.row v3))]⟩ ?_
    rw [h2]
    refine mA ZR [(4,[]),(5,[]),(6,[])] 17 [⟨[1,20],169,4,12⟩] fun cx => ?_
    refine sA_ 299257 16 ⟨40,0,[sB 18 (decide (y1 > 0)),sB 15 false,sV 12 (zB.row v3),sI 3 y1,sA 4 4 5 0,sI 7 y1,sI 6 (x0.length : Int),sC 5 (cF 5 x0 zB.row),sC 0 (cF 5 x0 zB.row)],[(4,(zB.row v3))]⟩ ?_
    rw [h3]
    refine mA ZR [(7,[20]),(8,[]),(9,[]),(10,[])] 13 [⟨[20],169,4,19⟩,⟨[1,20],169,4,12⟩] fun cx => ?_
    refine iN ZR 11 zB.row ev5 fun cx => ?_
    refine mA ZR [(12,[]),(13,[]),(14,[]),(15,[]),(16,[])] 7 [⟨[20],169,4,19⟩,⟨[1,20],169,4,12⟩] fun cx => ?_
    refine iN ZR 17 zB.row ev6 fun cx => ?_
    refine mA ZR [(18,[]),(19,[])] 4 [⟨[20],169,4,19⟩,⟨[1,20],169,4,12⟩] fun cx => ?_
    refine mC ZR 20 ?_
    refine vA [.rd,.rd,.rd] (zKt n v3 v5.Tag v6.Mac r7 er7) ?_
    refine fA ?_
    refine mA ZR [(21,[]),(22,[]),(23,[])] 0 [⟨[20],169,4,19⟩,⟨[1,20],169,4,12⟩] fun cx => ?_
    exact mE ZR [35,7,6,5,0] []
   refine sT ⟨40,0,[sB 35 (!r7),sI 7 y1,sI 6 (x0.length : Int),sC 5 (cF 5 x0 zB.row),sC 0 (cF 5 x0 zB.row)],[]⟩ ?_
   cases h4 : (!r7)
   ·have H := zG h4 H
    refine nB_ ?_
    refine tK ?_
    refine eA 2 225 0 ?_
    exact jB mo2 (IntKind.wrap .i64 (y1 + 1)) H [7,6,5,0] []
   have H := zH h4 H
   refine tB_ ?_
   refine gA 1 4 0 ?_
   refine te ?_
   obtain rfl := si H
   have H := Ho2
   dsimp only at H
   obtain rfl := si H
   exact fP [(false,[cB false])]
  have H := zH h2 H
  refine Tr.draws mixed 24 kr ⟨40,0,[sB 35 true,sI 7 y1,sI 6 (x0.length : Int),sC 5 (cF 5 x0 zB.row),sC 0 (cF 5 x0 zB.row)],[]⟩ (fun cx => ?_) ?_
  ·refine mA ZR [(0,[1])] 23 [⟨[1],169,4,12⟩] fun cx => ?_
   refine mC ZR 1 ?_
   refine vA [.rd] (zEM n v3 r4 er4) ?_
   refine fA ?_
   refine mA ZR [(2,[]),(3,[])] 20 [⟨[1],169,4,12⟩] fun cx => ?_
   refine sA_ 37113 16 ⟨40,0,[sB 15 (!r4),sV 12 (zB.row v3),sI 3 y1,sA 4 4 5 0,sI 7 y1,sI 6 (x0.length : Int),sC 5 (cF 5 x0 zB.row),sC 0 (cF 5 x0 zB.row)],[(4,(zB.row v3))]⟩ ?_
   rw [h2]
   refine mA ZR [(4,[]),(5,[]),(6,[]),(7,[]),(8,[]),(9,[]),(10,[]),(11,[]),(12,[]),(13,[]),(14,[]),(15,[]),(16,[]),(17,[]),(18,[]),(19,[]),(20,[]),(21,[]),(22,[]),(23,[])] 0 [⟨[1],169,4,12⟩] fun cx => ?_
   exact mE ZR [35,7,6,5,0] []
  refine tB_ ?_
  refine gA 1 4 0 ?_
  refine te ?_
  obtain rfl := si H
  have H := Ho2
  dsimp only at H
  obtain rfl := si H
  exact fP [(false,[cB false])]
 rintro _ H
 have H : (zBW n x0) = some r := H
 unfold zBW at H
 refine rA 1 ?_
 refine kF x0 zB.row ?_
 refine uA 2 4 0 ?_
 exact te (by obtain rfl := si H; exact fP [(false,[cB (decide ((x0.length : Int) ≤ 12))])])
def QE (n : Nat) (x0 : Int) : Option (Int) :=
  (bif (decide ((0 : Int) ≤ x0)) then (some (IntKind.wrap .i64 ((IntKind.wrap .i64 (1 * 2 ^ min ((x0 : Int)).toNat (IntKind.bits .i64))) - 1))) else none)
theorem zBa (n : Nat) (x0 : Int) (r : Int) (H : QE n x0 = some r) : zD Tryz.prog 216 [.val false [.lit (.int .i64 x0)]] [.val false [.lit (.int .i64 r)]] [] := by
 refine cA Tryz.func216 (.seq (Rg Tryz.f216 0) (.seq (Rg Tryz.f216 1) .ret)) [.tmp 2] fun cx => ?_
 unfold QE at H
 refine gA 1 1 0 ?_
 refine rA 1 ?_
 obtain ⟨hg1,H⟩ := gs H
 refine LAt.binC tOk (op := .shl) (t := 3) (ty := 3) (ty' := 3) (x := (.const (.int .i64 1))) (y := (.tmp 3)) (d := 4) (g := none) (.int .i64 1) (.int .i64 x0) (.int .i64 (IntKind.wrap .i64 (1 * 2 ^ min ((x0 : Int)).toNat (IntKind.bits .i64)))) _ kr kr kr kr kr (φ := (0 : Int) ≤ x0) kr (of_decide_eq_true hg1) rfl ?_
 refine uA 2 4 0 ?_
 exact te (by obtain rfl := si H; exact fP [(false,[cI (IntKind.wrap .i64 ((IntKind.wrap .i64 (1 * 2 ^ min ((x0 : Int)).toNat (IntKind.bits .i64))) - 1))])])
def zBX (n : Nat) : Option (Int) :=
  (some (-1))
def Qp (n : Nat) : Nat → zF → Int → Int → Option ((Unit) ⊕ (Int))
  | 0,_,_,_ => none
  | mo2 + 1,x0,x1,y1 => (bif (decide (y1 < (x0.Rows.length : Int))) then ((idx x0.Rows y1).bind fun v3 => (bif (v3.Id == x1) then (some (Sum.inr y1)) else (Qp n mo2 x0 x1 (IntKind.wrap .i64 (y1 + 1))))) else (some (Sum.inl ())))
def zBJ (n : Nat) (x0 : zF) (x1 : Int) : Option (Int) :=
  ((Qp n n x0 x1 0).bind fun o => match o with | .inl _ => (zBX n) | .inr r => some r)
theorem zLu (n : Nat) (x0 : zF) (x1 : Int) (r : Int) (H : zBJ n x0 x1 = some r) : zD Tryz.prog 142 [.val true (CV.frzRow (zF.row x0)),.val false [.lit (.int .i64 x1)]] [.val false [.lit (.int .i64 r)]] [] := by
 refine cA Tryz.func142 (.seq (Rg Tryz.f142 0) (.seq (.seq (Rg Tryz.f142 1) (.block 0 (.loop (.seq (Rg Tryz.f142 2) (.seq (.cond (.tmp 11) .skip (.exit 0)) (.seq (.block 1 (.seq (Rg Tryz.f142 3) (.seq (Rg Tryz.f142 4) (.cond (.tmp 18) (.seq (Rg Tryz.f142 5) .ret) .skip)))) (Rg Tryz.f142 6))))))) (.seq (Rg Tryz.f142 7) .ret))) [.tmp 4] fun cx => ?_
 unfold zBJ at H
 refine gA 2 6 4 ?_
 refine tS ?_
 refine rA 2 ?_
 refine kF x0.Rows zC.row ?_
 refine uA 1 1794 0 ?_
 obtain ⟨o2,eo2,Ho2⟩ := bs H
 clear H
 refine Tr.mid (ι := Unit) (fun v => ⟨21,0,[],[]⟩) (fun v => zBX n = some r) ?_ ?_
 ·refine tB ?_
  refine Tr.loop (ι := Nat × (Int)) (fun v => ⟨21,0,[sI 10 v.2,sI 9 (x0.Rows.length : Int),sC 8 (cF 3 x0.Rows zC.row),sI 1 x1],[]⟩) (fun v => Qp n v.1 x0 x1 v.2 = some o2) (fun v => v.1) (n,0) eo2 (St.sub_of [10,9,8,1] [] kr) ?_
  rintro ⟨mo2,y1⟩ H
  have H : Qp n mo2 x0 x1 y1 = some o2 := H
  obtain _ | mo2 := mo2
  ·exact nN H
  rw [Qp] at H
  refine gA 1 3842 0 ?_
  refine tS ?_
  obtain ⟨h1,H⟩ | ⟨h1,H⟩ := bC H
  ·refine nA h1 ?_
   refine Tr.exit ?_
   refine And.intro (fun _ => ?_) (fun h => absurd rfl h)
   obtain rfl := si H
   have H := Ho2
   dsimp only at H
   exact jA () H [] []
  refine tA h1 ?_
  refine tK ?_
  refine tS ?_
  refine tB ?_
  refine rA 1 ?_
  obtain ⟨v3,ev3,H⟩ := bs H
  refine iA zC.row ev3 ?_
  refine uA 4 1890 64 ?_
  refine gA 4 263970 0 ?_
  obtain ⟨h2,H⟩ | ⟨h2,H⟩ := bC H
  ·refine nA h2 ?_
   refine tK ?_
   refine eA 2 1794 0 ?_
   exact jB mo2 (IntKind.wrap .i64 (y1 + 1)) H [10,9,8,1] []
  refine tA h2 ?_
  refine gA 2 16 0 ?_
  refine te ?_
  obtain rfl := si H
  have H := Ho2
  dsimp only at H
  obtain rfl := si H
  exact fP [(false,[cI y1])]
 rintro _ H
 have H : (zBX n) = some r := H
 unfold zBX at H
 refine gA 1 16 0 ?_
 exact te (by obtain rfl := si H; exact fP [(false,[cI (-1)])])
def zAy (n : Nat) : Option (Bool) :=
  (some true)
def QD (n : Nat) : Nat → zF → Int → Option ((Unit) ⊕ (Bool))
  | 0,_,_ => none
  | mo4 + 1,x0,y3 => (bif (decide (y3 < (x0.Pv.length : Int))) then ((idx x0.Pv y3).bind fun v5 => ((zBJ n x0 v5).bind fun r6 => (bif (decide (r6 < 0)) then (some (Sum.inr false)) else (QD n mo4 x0 (IntKind.wrap .i64 (y3 + 1)))))) else (some (Sum.inl ())))
def JK (n : Nat) (x0 : zF) : Option (Bool) :=
  ((QD n n x0 0).bind fun o => match o with | .inl _ => (zAy n) | .inr r => some r)
def Zd (n : Nat) : Nat → zF → Int → Int → Option ((Unit) ⊕ (Bool))
  | 0,_,_,_ => none
  | mo7 + 1,x0,x1,y2 => (bif (decide (y2 < (x0.Rows.length : Int))) then ((idx x0.Rows y2).bind fun v8 => ((zw n v8.Id 1 99).bind fun r9 => (bif (!r9) then (some (Sum.inr false)) else (bif (decide (y2 > 0)) then ((idx x0.Rows (IntKind.wrap .i64 (y2 - 1))).bind fun v12 => (bif (decide (v12.Id ≥ v8.Id)) then (some (Sum.inr false)) else ((QE n x1).bind fun r13 => ((zw n v8.Members 0 r13).bind fun r14 => (bif (!r14) then (some (Sum.inr false)) else (bif ((IntKind.wrap .i64 (BitVec.ofInt (IntKind.bits .i64) v8.Bare &&& ~~~BitVec.ofInt (IntKind.bits .i64) v8.Members).toNat) != 0) then (some (Sum.inr false)) else (Zd n mo7 x0 x1 (IntKind.wrap .i64 (y2 + 1))))))))) else ((QE n x1).bind fun r10 => ((zw n v8.Members 0 r10).bind fun r11 => (bif (!r11) then (some (Sum.inr false)) else (bif ((IntKind.wrap .i64 (BitVec.ofInt (IntKind.bits .i64) v8.Bare &&& ~~~BitVec.ofInt (IntKind.bits .i64) v8.Members).toNat) != 0) then (some (Sum.inr false)) else (Zd n mo7 x0 x1 (IntKind.wrap .i64 (y2 + 1))))))))))) else (some (Sum.inl ())))
def zAb (n : Nat) (x0 : zF) (x1 : Int) : Option (Bool) :=
  ((zw n x1 1 6).bind fun r1 => (bif (!r1) then (some false) else (bif ((x0.Pv.length : Int) != x1) then (some false) else (bif (decide ((x0.Rows.length : Int) > 6)) then (some false) else ((Zd n n x0 x1 0).bind fun o => match o with | .inl _ => (JK n x0) | .inr r => some r)))))
def zN1 : Tab := ⟨36,[0,1,2,4,12,16,48,80,128,384,128,1152,2688,4224,8320,128,32896,82048,131216,262160,524416,1048576,3145728,1048576,9437184,22020096,34603008,68157440,167772160,268435456,805306368,268435456,2415919104,5637144576,8858370048,17448304640],[0,1,2,4,8,16,48,80,128,384,128,1152,2688,4224,8320,128,32896,82048,131216,262160,524288,1048576,3145728,1048576,9437184,22020096,34603008,68157440,134217728,268435456,805306368,268435456,2415919104,5637144576,8858370048,17448304640],[0,1,3,7,15,31,63,127,255,511,255,1279,4095,8191,16383,255,33023,131071,262143,524287,1048575,2097151,4194303,2097151,10485759,33554431,67108863,134217727,268435455,536870911,1073741823,536870911,2684354559,8589934591,17179869183,34359738367]⟩
theorem zX : zf (rg Tryz.f140 6) zN1 = true := kr
theorem zIY (n : Nat) (x1 : Int) (r13 : Int) (v8 : zC) (r14 : Bool) (y2 : Int) (x0 : zF) (er13 : (QE n x1) = some r13) (er14 : (zw n v8.Members 0 r13) = some r14) (h12 : (!r14) = false) (cx : Cx) : AT Tryz.prog cx (rg Tryz.f140 6) [⟨[24,25],3,48,49⟩,⟨[24,25],37,41,42⟩,⟨[2,24,25],3,33,34⟩] 15 [20,19,18,17,16,15,14,13,12,11,10,9,8,7,6,5,4,3,2,1,0] ⟨82,0,[sB 53 false,sI 49 v8.Id,sA 48 6 3 0,sR 42 2 2 0 1 false,sA 41 2 2 0,sI 34 v8.Id,sA 33 6 3 0,sA 6 6 3 0,sI 28 y2,sI 27 (x0.Rows.length : Int),sC 26 (cF 3 x0.Rows zC.row),sA 2 2 2 0,sI 1 x1],[(6,(zC.row v8)),(2,(CV.frzRow (zF.row x0)))]⟩ (fun s => s = ⟨82,0,[sB 68 ((IntKind.wrap .i64 (BitVec.ofInt (IntKind.bits .i64) v8.Bare &&& ~~~BitVec.ofInt (IntKind.bits .i64) v8.Members).toNat) != 0),sI 28 y2,sI 27 (x0.Rows.length : Int),sC 26 (cF 3 x0.Rows zC.row),sA 2 2 2 0,sI 1 x1],[(2,(CV.frzRow (zF.row x0)))]⟩) := by
 refine mA zX [(21,[]),(22,[25]),(23,[])] 12 [⟨[25],3,54,55⟩,⟨[24,25],3,48,49⟩,⟨[24,25],37,41,42⟩,⟨[2,24,25],3,33,34⟩] fun cx => ?_
 refine mC zX 24 ?_
 refine vA [.rd] (zBa n x1 r13 er13) ?_
 refine fA ?_
 refine mC zX 25 ?_
 refine vA [.rd,.rd,.rd] (z3 n v8.Members 0 r13 r14 er14) ?_
 refine fA ?_
 refine mA zX [(26,[]),(27,[]),(28,[])] 7 [⟨[25],3,54,55⟩,⟨[24,25],3,48,49⟩,⟨[24,25],37,41,42⟩,⟨[2,24,25],3,33,34⟩] fun cx => ?_
 refine sA_ 0x20c306061c000046 68 ⟨82,0,[sB 61 (!r14),sI 55 v8.Members,sA 54 6 3 1,sI 49 v8.Id,sA 48 6 3 0,sR 42 2 2 0 1 false,sA 41 2 2 0,sI 34 v8.Id,sA 33 6 3 0,sA 6 6 3 0,sI 28 y2,sI 27 (x0.Rows.length : Int),sC 26 (cF 3 x0.Rows zC.row),sA 2 2 2 0,sI 1 x1],[(6,(zC.row v8)),(2,(CV.frzRow (zF.row x0)))]⟩ ?_
 rw [h12]
 refine mA zX [(29,[]),(30,[]),(31,[]),(32,[]),(33,[]),(34,[]),(35,[])] 0 [⟨[],3,64,65⟩,⟨[],3,62,63⟩,⟨[25],3,54,55⟩,⟨[24,25],3,48,49⟩,⟨[24,25],37,41,42⟩,⟨[2,24,25],3,33,34⟩] fun cx => ?_
 exact mE zX [68,28,27,26,2,1] [2]
theorem zIZ (n : Nat) (x1 : Int) (r13 : Int) (v8 : zC) (r14 : Bool) (y2 : Int) (x0 : zF) (er13 : (QE n x1) = some r13) (er14 : (zw n v8.Members 0 r13) = some r14) (h12 : (!r14) = true) (cx : Cx) : AT Tryz.prog cx (rg Tryz.f140 6) [⟨[24,25],3,48,49⟩,⟨[24,25],37,41,42⟩,⟨[2,24,25],3,33,34⟩] 15 [20,19,18,17,16,15,14,13,12,11,10,9,8,7,6,5,4,3,2,1,0] ⟨82,0,[sB 53 false,sI 49 v8.Id,sA 48 6 3 0,sR 42 2 2 0 1 false,sA 41 2 2 0,sI 34 v8.Id,sA 33 6 3 0,sA 6 6 3 0,sI 28 y2,sI 27 (x0.Rows.length : Int),sC 26 (cF 3 x0.Rows zC.row),sA 2 2 2 0,sI 1 x1],[(6,(zC.row v8)),(2,(CV.frzRow (zF.row x0)))]⟩ (fun s => s = ⟨82,0,[sB 68 true,sI 28 y2,sI 27 (x0.Rows.length : Int),sC 26 (cF 3 x0.Rows zC.row),sA 2 2 2 0,sI 1 x1],[(2,(CV.frzRow (zF.row x0)))]⟩) := by
 refine mA zX [(21,[]),(22,[25]),(23,[])] 12 [⟨[25],3,54,55⟩,⟨[24,25],3,48,49⟩,⟨[24,25],37,41,42⟩,⟨[2,24,25],3,33,34⟩] fun cx => ?_
 refine mC zX 24 ?_
 refine vA [.rd] (zBa n x1 r13 er13) ?_
 refine fA ?_
 refine mC zX 25 ?_
 refine vA [.rd,.rd,.rd] (z3 n v8.Members 0 r13 r14 er14) ?_
 refine fA ?_
 refine mA zX [(26,[]),(27,[]),(28,[])] 7 [⟨[25],3,54,55⟩,⟨[24,25],3,48,49⟩,⟨[24,25],37,41,42⟩,⟨[2,24,25],3,33,34⟩] fun cx => ?_
 refine sA_ 0x20c306061c000046 68 ⟨82,0,[sB 61 (!r14),sI 55 v8.Members,sA 54 6 3 1,sI 49 v8.Id,sA 48 6 3 0,sR 42 2 2 0 1 false,sA 41 2 2 0,sI 34 v8.Id,sA 33 6 3 0,sA 6 6 3 0,sI 28 y2,sI 27 (x0.Rows.length : Int),sC 26 (cF 3 x0.Rows zC.row),sA 2 2 2 0,sI 1 x1],[(6,(zC.row v8)),(2,(CV.frzRow (zF.row x0)))]⟩ ?_
 rw [h12]
 refine mA zX [(29,[]),(30,[]),(31,[]),(32,[]),(33,[]),(34,[]),(35,[])] 0 [⟨[25],3,54,55⟩,⟨[24,25],3,48,49⟩,⟨[24,25],37,41,42⟩,⟨[2,24,25],3,33,34⟩] fun cx => ?_
 exact mE zX [68,28,27,26,2,1] [2]
theorem zIa (n : Nat) (v8 : zC) (y2 : Int) (x0 : zF) (x1 : Int) (cx : Cx) : AT Tryz.prog cx (rg Tryz.f140 6) [⟨[],3,48,49⟩,⟨[],37,41,42⟩,⟨[2],3,33,34⟩] 15 [20,19,18,17,16,15,14,13,12,11,10,9,8,7,6,5,4,3,2,1,0] ⟨82,0,[sB 53 true,sI 49 v8.Id,sA 48 6 3 0,sR 42 2 2 0 1 false,sA 41 2 2 0,sI 34 v8.Id,sA 33 6 3 0,sA 6 6 3 0,sI 28 y2,sI 27 (x0.Rows.length : Int),sC 26 (cF 3 x0.Rows zC.row),sA 2 2 2 0,sI 1 x1],[(6,(zC.row v8)),(2,(CV.frzRow (zF.row x0)))]⟩ (fun s => s = ⟨82,0,[sB 68 true,sI 28 y2,sI 27 (x0.Rows.length : Int),sC 26 (cF 3 x0.Rows zC.row),sA 2 2 2 0,sI 1 x1],[(2,(CV.frzRow (zF.row x0)))]⟩) := by
 refine mA zX [(21,[]),(22,[]),(23,[]),(24,[]),(25,[]),(26,[]),(27,[]),(28,[]),(29,[]),(30,[]),(31,[]),(32,[]),(33,[]),(34,[]),(35,[])] 0 [⟨[],3,48,49⟩,⟨[],37,41,42⟩,⟨[2],3,33,34⟩] fun cx => ?_
 exact mE zX [68,28,27,26,2,1] [2]
theorem zKs (n : Nat) (x0 : zF) (x1 : Int) (r : Bool) (H : zAb n x0 x1 = some r) : zD Tryz.prog 140 [.val true (CV.frzRow (zF.row x0)),.val false [.lit (.int .i64 x1)]] [.val false [.lit (.bool r)]] [] := by
 refine cA Tryz.func140 (.seq (Rg Tryz.f140 0) (.seq (.seq (Rg Tryz.f140 1) (.cond (.tmp 24) (.seq (Rg Tryz.f140 2) .ret) .skip)) (.seq (.seq (Rg Tryz.f140 3) (.block 0 (.loop (.seq (Rg Tryz.f140 4) (.seq (.cond (.tmp 29) .skip (.exit 0)) (.seq (.block 1 (.seq (Rg Tryz.f140 5) (.seq (Rd Tryz.f140 6) (.cond (.tmp 68) (.seq (Rg Tryz.f140 7) .ret) .skip)))) (Rg Tryz.f140 8))))))) (.seq (.seq (Rg Tryz.f140 9) (.block 2 (.loop (.seq (Rg Tryz.f140 10) (.seq (.cond (.tmp 74) .skip (.exit 2)) (.seq (.block 3 (.seq (Rg Tryz.f140 11) (.seq (Rg Tryz.f140 12) (.cond (.tmp 80) (.seq (Rg Tryz.f140 13) .ret) .skip)))) (Rg Tryz.f140 14))))))) (.seq (Rg Tryz.f140 15) .ret))))) [.tmp 4] fun cx => ?_
 unfold zAb at H
 refine gA 2 6 4 ?_
 refine tS ?_
 refine rA 1 ?_
 obtain ⟨r1,er1,H⟩ := bs H
 refine vA [.rd,.rd,.rd] (z3 n x1 1 6 r1 er1) ?_
 refine lA 2 ?_
 refine sL 4102 4 ⟨82,0,[sB 12 (!r1),sA 2 2 2 0,sI 1 x1],[(2,(CV.frzRow (zF.row x0)))]⟩ ?_
 cases h1 : (!r1)
 ·have H := zG h1 H
  refine lA 2 ?_
  refine kF x0.Pv intRow ?_
  refine lA 4 ?_
  refine sL 524294 4 ⟨82,0,[sB 19 ((x0.Pv.length : Int) != x1),sA 2 2 2 0,sI 1 x1],[(2,(CV.frzRow (zF.row x0)))]⟩ ?_
  cases h2 : ((x0.Pv.length : Int) != x1)
  ·have H := zG h2 H
   refine lA 2 ?_
   refine kF x0.Rows zC.row ?_
   refine uA 2 16777222 4 ?_
   obtain ⟨h3,H⟩ | ⟨h3,H⟩ := bC H
   ·refine nA h3 ?_
    refine tK ?_
    refine tS ?_
    refine rA 2 ?_
    refine kF x0.Rows zC.row ?_
    refine uA 1 469762054 4 ?_
    obtain ⟨o7,eo7,Ho7⟩ := bs H
    clear H
    refine Tr.mid (ι := Unit) (fun v => ⟨82,0,[sA 2 2 2 0],[(2,(CV.frzRow (zF.row x0)))]⟩) (fun v => JK n x0 = some r) ?_ ?_
    ·refine tB ?_
     refine Tr.loop (ι := Nat × (Int)) (fun v => ⟨82,0,[sI 28 v.2,sI 27 (x0.Rows.length : Int),sC 26 (cF 3 x0.Rows zC.row),sA 2 2 2 0,sI 1 x1],[(2,(CV.frzRow (zF.row x0)))]⟩) (fun v => Zd n v.1 x0 x1 v.2 = some o7) (fun v => v.1) (n,0) eo7 (St.sub_of [28,27,26,2,1] [2] kr) ?_
     rintro ⟨mo7,y2⟩ H
     have H : Zd n mo7 x0 x1 y2 = some o7 := H
     obtain _ | mo7 := mo7
     ·exact nN H
     rw [Zd] at H
     refine gA 1 1006632966 4 ?_
     refine tS ?_
     obtain ⟨h6,H⟩ | ⟨h6,H⟩ := bC H
     ·refine nA h6 ?_
      refine Tr.exit ?_
      refine And.intro (fun _ => ?_) (fun h => absurd rfl h)
      obtain rfl := si H
      have H := Ho7
      dsimp only at H
      exact jA () H [2] [2]
     refine tA h6 ?_
     refine tK ?_
     refine tS ?_
     refine tB ?_
     refine rA 1 ?_
     obtain ⟨v8,ev8,H⟩ := bs H
     refine iA zC.row ev8 ?_
     refine uA 4 469762150 68 ?_
     obtain ⟨r9,er9,H⟩ := bs H
     refine sT ⟨82,0,[sI 5 y2,sA 6 6 3 0,sI 28 y2,sI 27 (x0.Rows.length : Int),sC 26 (cF 3 x0.Rows zC.row),sA 2 2 2 0,sI 1 x1],[(6,(zC.row v8)),(2,(CV.frzRow (zF.row x0)))]⟩ ?_
     cases h7 : (!r9)
     ·have H := zG h7 H
      refine sT ⟨82,0,[sI 5 y2,sA 6 6 3 0,sI 28 y2,sI 27 (x0.Rows.length : Int),sC 26 (cF 3 x0.Rows zC.row),sA 2 2 2 0,sI 1 x1],[(6,(zC.row v8)),(2,(CV.frzRow (zF.row x0)))]⟩ ?_
      cases h8 : (decide (y2 > 0))
      ·have H := zG h8 H
       obtain ⟨r10,er10,H⟩ := bs H
       obtain ⟨r11,er11,H⟩ := bs H
       refine sT ⟨82,0,[sI 5 y2,sA 6 6 3 0,sI 28 y2,sI 27 (x0.Rows.length : Int),sC 26 (cF 3 x0.Rows zC.row),sA 2 2 2 0,sI 1 x1],[(6,(zC.row v8)),(2,(CV.frzRow (zF.row x0)))]⟩ ?_
       cases h9 : (!r11)
       ·have H := zG h9 H
        refine Tr.draws mixed 36 kr ⟨82,0,[sB 68 ((IntKind.wrap .i64 (BitVec.ofInt (IntKind.bits .i64) v8.Bare &&& ~~~BitVec.ofInt (IntKind.bits .i64) v8.Members).toNat) != 0),sI 28 y2,sI 27 (x0.Rows.length : Int),sC 26 (cF 3 x0.Rows zC.row),sA 2 2 2 0,sI 1 x1],[(2,(CV.frzRow (zF.row x0)))]⟩ (fun cx => ?_) ?_
        ·refine mA zX [(0,[]),(1,[2,24,25])] 34 [⟨[2,24,25],3,33,34⟩] fun cx => ?_
         refine mC zX 2 ?_
         refine vA [.rd,.rd,.rd] (z3 n v8.Id 1 99 r9 er9) ?_
         refine fA ?_
         refine mA zX [(3,[]),(4,[])] 31 [⟨[2,24,25],3,33,34⟩] fun cx => ?_
         refine sA_ 163678519398 68 ⟨82,0,[sB 37 (!r9),sI 34 v8.Id,sA 33 6 3 0,sI 5 y2,sA 6 6 3 0,sI 28 y2,sI 27 (x0.Rows.length : Int),sC 26 (cF 3 x0.Rows zC.row),sA 2 2 2 0,sI 1 x1],[(6,(zC.row v8)),(2,(CV.frzRow (zF.row x0)))]⟩ ?_
         rw [h7]
         refine mA zX [(5,[]),(6,[]),(7,[])] 28 [⟨[2,24,25],3,33,34⟩] fun cx => ?_
         refine sA_ 1263190147174 68 ⟨82,0,[sB 40 (decide (y2 > 0)),sB 37 false,sI 34 v8.Id,sA 33 6 3 0,sI 5 y2,sA 6 6 3 0,sI 28 y2,sI 27 (x0.Rows.length : Int),sC 26 (cF 3 x0.Rows zC.row),sA 2 2 2 0,sI 1 x1],[(6,(zC.row v8)),(2,(CV.frzRow (zF.row x0)))]⟩ ?_
         rw [h8]
         refine mA zX [(8,[]),(9,[]),(10,[]),(11,[]),(12,[]),(13,[]),(14,[]),(15,[]),(16,[]),(17,[]),(18,[]),(19,[]),(20,[]),(21,[]),(22,[25]),(23,[])] 12 [⟨[25],3,54,55⟩,⟨[2,24,25],3,33,34⟩] fun cx => ?_
         refine mC zX 24 ?_
         refine vA [.rd] (zBa n x1 r10 er10) ?_
         refine fA ?_
         refine mC zX 25 ?_
         refine vA [.rd,.rd,.rd] (z3 n v8.Members 0 r10 r11 er11) ?_
         refine fA ?_
         refine mA zX [(26,[]),(27,[]),(28,[])] 7 [⟨[25],3,54,55⟩,⟨[2,24,25],3,33,34⟩] fun cx => ?_
         refine sA_ 0x20c000061c000046 68 ⟨82,0,[sB 61 (!r11),sI 55 v8.Members,sA 54 6 3 1,sI 34 v8.Id,sA 33 6 3 0,sA 6 6 3 0,sI 28 y2,sI 27 (x0.Rows.length : Int),sC 26 (cF 3 x0.Rows zC.row),sA 2 2 2 0,sI 1 x1],[(6,(zC.row v8)),(2,(CV.frzRow (zF.row x0)))]⟩ ?_
         rw [h9]
         refine mA zX [(29,[]),(30,[]),(31,[]),(32,[]),(33,[]),(34,[]),(35,[])] 0 [⟨[],3,64,65⟩,⟨[],3,62,63⟩,⟨[25],3,54,55⟩,⟨[2,24,25],3,33,34⟩] fun cx => ?_
         exact mE zX [68,28,27,26,2,1] [2]
        refine sT ⟨82,0,[sB 68 ((IntKind.wrap .i64 (BitVec.ofInt (IntKind.bits .i64) v8.Bare &&& ~~~BitVec.ofInt (IntKind.bits .i64) v8.Members).toNat) != 0),sI 28 y2,sI 27 (x0.Rows.length : Int),sC 26 (cF 3 x0.Rows zC.row),sA 2 2 2 0,sI 1 x1],[(2,(CV.frzRow (zF.row x0)))]⟩ ?_
        cases h10 : ((IntKind.wrap .i64 (BitVec.ofInt (IntKind.bits .i64) v8.Bare &&& ~~~BitVec.ofInt (IntKind.bits .i64) v8.Members).toNat) != 0)
        ·have H := zG h10 H
         refine nB_ ?_
         refine tK ?_
         refine eA 2 469762054 4 ?_
         exact jB mo7 (IntKind.wrap .i64 (y2 + 1)) H [28,27,26,2,1] [2]
        have H := zH h10 H
        refine tB_ ?_
        refine gA 1 16 0 ?_
        refine te ?_
        obtain rfl := si H
        have H := Ho7
        dsimp only at H
        obtain rfl := si H
        exact fP [(false,[cB false])]
       have H := zH h9 H
       refine Tr.draws mixed 36 kr ⟨82,0,[sB 68 true,sI 28 y2,sI 27 (x0.Rows.length : Int),sC 26 (cF 3 x0.Rows zC.row),sA 2 2 2 0,sI 1 x1],[(2,(CV.frzRow (zF.row x0)))]⟩ (fun cx => ?_) ?_
       ·refine mA zX [(0,[]),(1,[2,24,25])] 34 [⟨[2,24,25],3,33,34⟩] fun cx => ?_
        refine mC zX 2 ?_
        refine vA [.rd,.rd,.rd] (z3 n v8.Id 1 99 r9 er9) ?_
        refine fA ?_
        refine mA zX [(3,[]),(4,[])] 31 [⟨[2,24,25],3,33,34⟩] fun cx => ?_
        refine sA_ 163678519398 68 ⟨82,0,[sB 37 (!r9),sI 34 v8.Id,sA 33 6 3 0,sI 5 y2,sA 6 6 3 0,sI 28 y2,sI 27 (x0.Rows.length : Int),sC 26 (cF 3 x0.Rows zC.row),sA 2 2 2 0,sI 1 x1],[(6,(zC.row v8)),(2,(CV.frzRow (zF.row x0)))]⟩ ?_
        rw [h7]
        refine mA zX [(5,[]),(6,[]),(7,[])] 28 [⟨[2,24,25],3,33,34⟩] fun cx => ?_
        refine sA_ 1263190147174 68 ⟨82,0,[sB 40 (decide (y2 > 0)),sB 37 false,sI 34 v8.Id,sA 33 6 3 0,sI 5 y2,sA 6 6 3 0,sI 28 y2,sI 27 (x0.Rows.length : Int),sC 26 (cF 3 x0.Rows zC.row),sA 2 2 2 0,sI 1 x1],[(6,(zC.row v8)),(2,(CV.frzRow (zF.row x0)))]⟩ ?_
        rw [h8]
        refine mA zX [(8,[]),(9,[]),(10,[]),(11,[]),(12,[]),(13,[]),(14,[]),(15,[]),(16,[]),(17,[]),(18,[]),(19,[]),(20,[]),(21,[]),(22,[25]),(23,[])] 12 [⟨[25],3,54,55⟩,⟨[2,24,25],3,33,34⟩] fun cx => ?_
        refine mC zX 24 ?_
        refine vA [.rd] (zBa n x1 r10 er10) ?_
        refine fA ?_
        refine mC zX 25 ?_
        refine vA [.rd,.rd,.rd] (z3 n v8.Members 0 r10 r11 er11) ?_
        refine fA ?_
        refine mA zX [(26,[]),(27,[]),(28,[])] 7 [⟨[25],3,54,55⟩,⟨[2,24,25],3,33,34⟩] fun cx => ?_
        refine sA_ 0x20c000061c000046 68 ⟨82,0,[sB 61 (!r11),sI 55 v8.Members,sA 54 6 3 1,sI 34 v8.Id,sA 33 6 3 0,sA 6 6 3 0,sI 28 y2,sI 27 (x0.Rows.length : Int),sC 26 (cF 3 x0.Rows zC.row),sA 2 2 2 0,sI 1 x1],[(6,(zC.row v8)),(2,(CV.frzRow (zF.row x0)))]⟩ ?_
        rw [h9]
        refine mA zX [(29,[]),(30,[]),(31,[]),(32,[]),(33,[]),(34,[]),(35,[])] 0 [⟨[25],3,54,55⟩,⟨[2,24,25],3,33,34⟩] fun cx => ?_
        exact mE zX [68,28,27,26,2,1] [2]
       refine tB_ ?_
       refine gA 1 16 0 ?_
       refine te ?_
       obtain rfl := si H
       have H := Ho7
       dsimp only at H
       obtain rfl := si H
       exact fP [(false,[cB false])]
      have H := zH h8 H
      obtain ⟨v12,ev12,H⟩ := bs H
      refine sT ⟨82,0,[sI 5 y2,sA 6 6 3 0,sI 28 y2,sI 27 (x0.Rows.length : Int),sC 26 (cF 3 x0.Rows zC.row),sA 2 2 2 0,sI 1 x1],[(6,(zC.row v8)),(2,(CV.frzRow (zF.row x0)))]⟩ ?_
      cases h11 : (decide (v12.Id ≥ v8.Id))
      ·have H := zG h11 H
       obtain ⟨r13,er13,H⟩ := bs H
       obtain ⟨r14,er14,H⟩ := bs H
       refine sT ⟨82,0,[sI 5 y2,sA 6 6 3 0,sI 28 y2,sI 27 (x0.Rows.length : Int),sC 26 (cF 3 x0.Rows zC.row),sA 2 2 2 0,sI 1 x1],[(6,(zC.row v8)),(2,(CV.frzRow (zF.row x0)))]⟩ ?_
       cases h12 : (!r14)
       ·have H := zG h12 H
        refine Tr.draws mixed 36 kr ⟨82,0,[sB 68 ((IntKind.wrap .i64 (BitVec.ofInt (IntKind.bits .i64) v8.Bare &&& ~~~BitVec.ofInt (IntKind.bits .i64) v8.Members).toNat) != 0),sI 28 y2,sI 27 (x0.Rows.length : Int),sC 26 (cF 3 x0.Rows zC.row),sA 2 2 2 0,sI 1 x1],[(2,(CV.frzRow (zF.row x0)))]⟩ (fun cx => ?_) ?_
        ·refine mA zX [(0,[]),(1,[2,24,25])] 34 [⟨[2,24,25],3,33,34⟩] fun cx => ?_
         refine mC zX 2 ?_
         refine vA [.rd,.rd,.rd] (z3 n v8.Id 1 99 r9 er9) ?_
         refine fA ?_
         refine mA zX [(3,[]),(4,[])] 31 [⟨[2,24,25],3,33,34⟩] fun cx => ?_
         refine sA_ 163678519398 68 ⟨82,0,[sB 37 (!r9),sI 34 v8.Id,sA 33 6 3 0,sI 5 y2,sA 6 6 3 0,sI 28 y2,sI 27 (x0.Rows.length : Int),sC 26 (cF 3 x0.Rows zC.row),sA 2 2 2 0,sI 1 x1],[(6,(zC.row v8)),(2,(CV.frzRow (zF.row x0)))]⟩ ?_
         rw [h7]
         refine mA zX [(5,[]),(6,[]),(7,[])] 28 [⟨[2,24,25],3,33,34⟩] fun cx => ?_
         refine sA_ 1263190147174 68 ⟨82,0,[sB 40 (decide (y2 > 0)),sB 37 false,sI 34 v8.Id,sA 33 6 3 0,sI 5 y2,sA 6 6 3 0,sI 28 y2,sI 27 (x0.Rows.length : Int),sC 26 (cF 3 x0.Rows zC.row),sA 2 2 2 0,sI 1 x1],[(6,(zC.row v8)),(2,(CV.frzRow (zF.row x0)))]⟩ ?_
         rw [h8]
         refine mA zX [(8,[]),(9,[24,25]),(10,[]),(11,[])] 24 [⟨[24,25],37,41,42⟩,⟨[2,24,25],3,33,34⟩] fun cx => ?_
         refine iN zX 12 zC.row ev12 fun cx => ?_
         refine mA zX [(13,[]),(14,[]),(15,[]),(16,[24,25]),(17,[]),(18,[]),(19,[]),(20,[])] 15 [⟨[24,25],3,48,49⟩,⟨[24,25],37,41,42⟩,⟨[2,24,25],3,33,34⟩] fun cx => ?_
         refine sA_ 9858247494205510 68 ⟨82,0,[sB 53 (decide (v12.Id ≥ v8.Id)),sI 49 v8.Id,sA 48 6 3 0,sR 42 2 2 0 1 false,sA 41 2 2 0,sI 34 v8.Id,sA 33 6 3 0,sA 6 6 3 0,sI 28 y2,sI 27 (x0.Rows.length : Int),sC 26 (cF 3 x0.Rows zC.row),sA 2 2 2 0,sI 1 x1],[(6,(zC.row v8)),(2,(CV.frzRow (zF.row x0)))]⟩ ?_
         rw [h11]
         exact zIY n x1 r13 v8 r14 y2 x0 er13 er14 h12 cx
        refine sT ⟨82,0,[sB 68 ((IntKind.wrap .i64 (BitVec.ofInt (IntKind.bits .i64) v8.Bare &&& ~~~BitVec.ofInt (IntKind.bits .i64) v8.Members).toNat) != 0),sI 28 y2,sI 27 (x0.Rows.length : Int),sC 26 (cF 3 x0.Rows zC.row),sA 2 2 2 0,sI 1 x1],[(2,(CV.frzRow (zF.row x0)))]⟩ ?_
        cases h13 : ((IntKind.wrap .i64 (BitVec.ofInt (IntKind.bits .i64) v8.Bare &&& ~~~BitVec.ofInt (IntKind.bits .i64) v8.Members).toNat) != 0)
        ·have H := zG h13 H
         refine nB_ ?_
         refine tK ?_
         refine eA 2 469762054 4 ?_
         exact jB mo7 (IntKind.wrap .i64 (y2 + 1)) H [28,27,26,2,1] [2]
        have H := zH h13 H
        refine tB_ ?_
        refine gA 1 16 0 ?_
        refine te ?_
        obtain rfl := si H
        have H := Ho7
        dsimp only at H
        obtain rfl := si H
        exact fP [(false,[cB false])]
       have H := zH h12 H
       refine Tr.draws mixed 36 kr ⟨82,0,[sB 68 true,sI 28 y2,sI 27 (x0.Rows.length : Int),sC 26 (cF 3 x0.Rows zC.row),sA 2 2 2 0,sI 1 x1],[(2,(CV.frzRow (zF.row x0)))]⟩ (fun cx => ?_) ?_
       ·refine mA zX [(0,[]),(1,[2,24,25])] 34 [⟨[2,24,25],3,33,34⟩] fun cx => ?_
        refine mC zX 2 ?_
        refine vA [.rd,.rd,.rd] (z3 n v8.Id 1 99 r9 er9) ?_
        refine fA ?_
        refine mA zX [(3,[]),(4,[])] 31 [⟨[2,24,25],3,33,34⟩] fun cx => ?_
        refine sA_ 163678519398 68 ⟨82,0,[sB 37 (!r9),sI 34 v8.Id,sA 33 6 3 0,sI 5 y2,sA 6 6 3 0,sI 28 y2,sI 27 (x0.Rows.length : Int),sC 26 (cF 3 x0.Rows zC.row),sA 2 2 2 0,sI 1 x1],[(6,(zC.row v8)),(2,(CV.frzRow (zF.row x0)))]⟩ ?_
        rw [h7]
        refine mA zX [(5,[]),(6,[]),(7,[])] 28 [⟨[2,24,25],3,33,34⟩] fun cx => ?_
        refine sA_ 1263190147174 68 ⟨82,0,[sB 40 (decide (y2 > 0)),sB 37 false,sI 34 v8.Id,sA 33 6 3 0,sI 5 y2,sA 6 6 3 0,sI 28 y2,sI 27 (x0.Rows.length : Int),sC 26 (cF 3 x0.Rows zC.row),sA 2 2 2 0,sI 1 x1],[(6,(zC.row v8)),(2,(CV.frzRow (zF.row x0)))]⟩ ?_
        rw [h8]
        refine mA zX [(8,[]),(9,[24,25]),(10,[]),(11,[])] 24 [⟨[24,25],37,41,42⟩,⟨[2,24,25],3,33,34⟩] fun cx => ?_
        refine iN zX 12 zC.row ev12 fun cx => ?_
        refine mA zX [(13,[]),(14,[]),(15,[]),(16,[24,25]),(17,[]),(18,[]),(19,[]),(20,[])] 15 [⟨[24,25],3,48,49⟩,⟨[24,25],37,41,42⟩,⟨[2,24,25],3,33,34⟩] fun cx => ?_
        refine sA_ 9858247494205510 68 ⟨82,0,[sB 53 (decide (v12.Id ≥ v8.Id)),sI 49 v8.Id,sA 48 6 3 0,sR 42 2 2 0 1 false,sA 41 2 2 0,sI 34 v8.Id,sA 33 6 3 0,sA 6 6 3 0,sI 28 y2,sI 27 (x0.Rows.length : Int),sC 26 (cF 3 x0.Rows zC.row),sA 2 2 2 0,sI 1 x1],[(6,(zC.row v8)),(2,(CV.frzRow (zF.row x0)))]⟩ ?_
        rw [h11]
        exact zIZ n x1 r13 v8 r14 y2 x0 er13 er14 h12 cx
       refine tB_ ?_
       refine gA 1 16 0 ?_
       refine te ?_
       obtain rfl := si H
       have H := Ho7
       dsimp only at H
       obtain rfl := si H
       exact fP [(false,[cB false])]
      have H := zH h11 H
      refine Tr.draws mixed 36 kr ⟨82,0,[sB 68 true,sI 28 y2,sI 27 (x0.Rows.length : Int),sC 26 (cF 3 x0.Rows zC.row),sA 2 2 2 0,sI 1 x1],[(2,(CV.frzRow (zF.row x0)))]⟩ (fun cx => ?_) ?_
      ·refine mA zX [(0,[]),(1,[2])] 34 [⟨[2],3,33,34⟩] fun cx => ?_
       refine mC zX 2 ?_
       refine vA [.rd,.rd,.rd] (z3 n v8.Id 1 99 r9 er9) ?_
       refine fA ?_
       refine mA zX [(3,[]),(4,[])] 31 [⟨[2],3,33,34⟩] fun cx => ?_
       refine sA_ 163678519398 68 ⟨82,0,[sB 37 (!r9),sI 34 v8.Id,sA 33 6 3 0,sI 5 y2,sA 6 6 3 0,sI 28 y2,sI 27 (x0.Rows.length : Int),sC 26 (cF 3 x0.Rows zC.row),sA 2 2 2 0,sI 1 x1],[(6,(zC.row v8)),(2,(CV.frzRow (zF.row x0)))]⟩ ?_
       rw [h7]
       refine mA zX [(5,[]),(6,[]),(7,[])] 28 [⟨[2],3,33,34⟩] fun cx => ?_
       refine sA_ 1263190147174 68 ⟨82,0,[sB 40 (decide (y2 > 0)),sB 37 false,sI 34 v8.Id,sA 33 6 3 0,sI 5 y2,sA 6 6 3 0,sI 28 y2,sI 27 (x0.Rows.length : Int),sC 26 (cF 3 x0.Rows zC.row),sA 2 2 2 0,sI 1 x1],[(6,(zC.row v8)),(2,(CV.frzRow (zF.row x0)))]⟩ ?_
       rw [h8]
       refine mA zX [(8,[]),(9,[]),(10,[]),(11,[])] 24 [⟨[],37,41,42⟩,⟨[2],3,33,34⟩] fun cx => ?_
       refine iN zX 12 zC.row ev12 fun cx => ?_
       refine mA zX [(13,[]),(14,[]),(15,[]),(16,[]),(17,[]),(18,[]),(19,[]),(20,[])] 15 [⟨[],3,48,49⟩,⟨[],37,41,42⟩,⟨[2],3,33,34⟩] fun cx => ?_
       refine sA_ 9858247494205510 68 ⟨82,0,[sB 53 (decide (v12.Id ≥ v8.Id)),sI 49 v8.Id,sA 48 6 3 0,sR 42 2 2 0 1 false,sA 41 2 2 0,sI 34 v8.Id,sA 33 6 3 0,sA 6 6 3 0,sI 28 y2,sI 27 (x0.Rows.length : Int),sC 26 (cF 3 x0.Rows zC.row),sA 2 2 2 0,sI 1 x1],[(6,(zC.row v8)),(2,(CV.frzRow (zF.row x0)))]⟩ ?_
       rw [h11]
       exact zIa n v8 y2 x0 x1 cx
      refine tB_ ?_
      refine gA 1 16 0 ?_
      refine te ?_
      obtain rfl := si H
      have H := Ho7
      dsimp only at H
      obtain rfl := si H
      exact fP [(false,[cB false])]
     have H := zH h7 H
     refine Tr.draws mixed 36 kr ⟨82,0,[sB 68 true,sI 28 y2,sI 27 (x0.Rows.length : Int),sC 26 (cF 3 x0.Rows zC.row),sA 2 2 2 0,sI 1 x1],[(2,(CV.frzRow (zF.row x0)))]⟩ (fun cx => ?_) ?_
     ·refine mA zX [(0,[]),(1,[2])] 34 [⟨[2],3,33,34⟩] fun cx => ?_
      refine mC zX 2 ?_
      refine vA [.rd,.rd,.rd] (z3 n v8.Id 1 99 r9 er9) ?_
      refine fA ?_
      refine mA zX [(3,[]),(4,[])] 31 [⟨[2],3,33,34⟩] fun cx => ?_
      refine sA_ 163678519398 68 ⟨82,0,[sB 37 (!r9),sI 34 v8.Id,sA 33 6 3 0,sI 5 y2,sA 6 6 3 0,sI 28 y2,sI 27 (x0.Rows.length : Int),sC 26 (cF 3 x0.Rows zC.row),sA 2 2 2 0,sI 1 x1],[(6,(zC.row v8)),(2,(CV.frzRow (zF.row x0)))]⟩ ?_
      rw [h7]
      refine mA zX [(5,[]),(6,[]),(7,[]),(8,[]),(9,[]),(10,[]),(11,[]),(12,[]),(13,[]),(14,[]),(15,[]),(16,[]),(17,[]),(18,[]),(19,[]),(20,[]),(21,[]),(22,[]),(23,[]),(24,[]),(25,[]),(26,[]),(27,[]),(28,[]),(29,[]),(30,[]),(31,[]),(32,[]),(33,[]),(34,[]),(35,[])] 0 [⟨[2],3,33,34⟩] fun cx => ?_
      exact mE zX [68,28,27,26,2,1] [2]
     refine tB_ ?_
     refine gA 1 16 0 ?_
     refine te ?_
     obtain rfl := si H
     have H := Ho7
     dsimp only at H
     obtain rfl := si H
     exact fP [(false,[cB false])]
    rintro _ H
    have H : (JK n x0) = some r := H
    unfold JK at H
    refine tS ?_
    refine rA 2 ?_
    refine kF x0.Pv intRow ?_
    refine uA 1 0x3800000000000000004 4 ?_
    obtain ⟨o4,eo4,Ho4⟩ := bs H
    clear H
    refine Tr.mid (ι := Unit) (fun v => ⟨82,0,[],[]⟩) (fun v => zAy n = some r) ?_ ?_
    ·refine tB ?_
     refine Tr.loop (ι := Nat × (Int)) (fun v => ⟨82,0,[sI 73 v.2,sI 72 (x0.Pv.length : Int),sC 71 (cF 1 x0.Pv intRow),sA 2 2 2 0],[(2,(CV.frzRow (zF.row x0)))]⟩) (fun v => QD n v.1 x0 v.2 = some o4) (fun v => v.1) (n,0) eo4 (St.sub_of [73,72,71,2] [2] kr) ?_
     rintro ⟨mo4,y3⟩ H
     have H : QD n mo4 x0 y3 = some o4 := H
     obtain _ | mo4 := mo4
     ·exact nN H
     rw [QD] at H
     refine gA 1 0x7800000000000000004 4 ?_
     refine tS ?_
     obtain ⟨h4,H⟩ | ⟨h4,H⟩ := bC H
     ·refine nA h4 ?_
      refine Tr.exit ?_
      refine And.intro (fun _ => ?_) (fun h => absurd rfl h)
      obtain rfl := si H
      have H := Ho4
      dsimp only at H
      exact jA () H [] []
     refine tA h4 ?_
     refine tK ?_
     refine tS ?_
     refine tB ?_
     refine tR ?_
     obtain ⟨v5,ev5,H⟩ := bs H
     refine iA intRow ev5 ?_
     refine uA 2 0x3800000000000000104 4 ?_
     refine rA 2 ?_
     obtain ⟨r6,er6,H⟩ := bs H
     refine vA [.rd,.rd] (zLu n x0 v5 r6 er6) ?_
     refine uA 1 0x103800000000000000004 4 ?_
     obtain ⟨h5,H⟩ | ⟨h5,H⟩ := bC H
     ·refine nA h5 ?_
      refine tK ?_
      refine eA 2 0x3800000000000000004 4 ?_
      exact jB mo4 (IntKind.wrap .i64 (y3 + 1)) H [73,72,71,2] [2]
     refine tA h5 ?_
     refine gA 1 16 0 ?_
     refine te ?_
     obtain rfl := si H
     have H := Ho4
     dsimp only at H
     obtain rfl := si H
     exact fP [(false,[cB false])]
    rintro _ H
    have H : (zAy n) = some r := H
    unfold zAy at H
    refine gA 1 16 0 ?_
    exact te (by obtain rfl := si H; exact fP [(false,[cB true])])
   refine tA h3 ?_
   refine gA 1 16 0 ?_
   exact te (by obtain rfl := si H; exact fP [(false,[cB false])])
  have H := zH h2 H
  refine uA 5 16777222 4 ?_
  refine tB_ ?_
  refine gA 1 16 0 ?_
  exact te (by obtain rfl := si H; exact fP [(false,[cB false])])
 have H := zH h1 H
 refine uA 12 16777222 4 ?_
 refine tB_ ?_
 refine gA 1 16 0 ?_
 exact te (by obtain rfl := si H; exact fP [(false,[cB false])])
def QR (n : Nat) (x0 : Int) : Option (Bool) :=
  ((zw n x0 0 1000000).bind fun r1 => (some r1))
theorem zAd (n : Nat) (x0 : Int) (r : Bool) (H : QR n x0 = some r) : zD Tryz.prog 141 [.val false [.lit (.int .i64 x0)]] [.val false [.lit (.bool r)]] [] := by
 refine cA Tryz.func141 (.seq (Rg Tryz.f141 0) (.seq (Rg Tryz.f141 1) .ret)) [.tmp 2] fun cx => ?_
 unfold QR at H
 refine gA 1 1 0 ?_
 refine rA 1 ?_
 obtain ⟨r1,er1,H⟩ := bs H
 refine vA [.rd,.rd,.rd] (z3 n x0 0 1000000 r1 er1) ?_
 refine uA 1 4 0 ?_
 exact te (by obtain rfl := si H; exact fP [(false,[cB r1])])
def YI (n : Nat) (x0 : zA) : Option (Bool) :=
  ((zw n x0.Id 1 99).bind fun r2 => (bif (!r2) then (some false) else (bif (decide ((x0.Name.size : Int) > 10)) then (some false) else ((zw n (x0.Ps.length : Int) 1 6).bind fun r3 => (bif (!r3) then (some false) else ((zBI n x0.F).bind fun r4 => (bif (!r4) then (some false) else ((zAb n x0.V (x0.Ps.length : Int)).bind fun r5 => (bif (!r5) then (some false) else ((QR n x0.Tk).bind fun r6 => (bif r6 then ((QR n x0.Pa).bind fun r7 => (bif r7 then ((QR n x0.Wo).bind fun r8 => (bif r8 then ((QR n x0.Dr).bind fun r9 => (bif r9 then ((QR n x0.Ve).bind fun r10 => (some r10)) else (some false))) else (some false))) else (some false))) else (some false))))))))))))
def Z6 (n : Nat) : Nat → zA → Int → Option ((Unit) ⊕ (Bool))
  | 0,_,_ => none
  | mo11 + 1,x0,y1 => (bif (decide (y1 < (x0.Ps.length : Int))) then ((idx x0.Ps y1).bind fun v12 => ((zBz n v12).bind fun r13 => (bif (!r13) then (some (Sum.inr false)) else (Z6 n mo11 x0 (IntKind.wrap .i64 (y1 + 1)))))) else (some (Sum.inl ())))
def QC (n : Nat) (x0 : zA) : Option (Bool) :=
  ((Z6 n n x0 0).bind fun o => match o with | .inl _ => (YI n x0) | .inr r => some r)
theorem zDA (n : Nat) (x0 : zA) (r : Bool) (H : QC n x0 = some r) : zD Tryz.prog 41 [.val true (CV.frzRow (zA.row x0))] [.val false [.lit (.bool r)]] [] := by
 refine cA Tryz.func41 (.seq (Rg Tryz.f41 0) (.seq (.seq (Rg Tryz.f41 1) (.block 0 (.loop (.seq (Rg Tryz.f41 2) (.seq (.cond (.tmp 9) .skip (.exit 0)) (.seq (.block 1 (.seq (Rg Tryz.f41 3) (.seq (Rg Tryz.f41 4) (.cond (.tmp 14) (.seq (Rg Tryz.f41 5) .ret) .skip)))) (Rg Tryz.f41 6))))))) (.seq (.seq (Rg Tryz.f41 7) (.cond (.tmp 47) (.seq (Rg Tryz.f41 8) .ret) .skip)) (.seq (Rg Tryz.f41 9) .ret)))) [.tmp 2] fun cx => ?_
 unfold QC at H
 refine gA 2 2 2 ?_
 refine tS ?_
 refine rA 2 ?_
 refine kF x0.Ps Pt.row ?_
 refine uA 1 450 2 ?_
 obtain ⟨o11,eo11,Ho11⟩ := bs H
 clear H
 refine Tr.mid (ι := Unit) (fun v => ⟨71,0,[sA 1 1 11 0],[(1,(CV.frzRow (zA.row x0)))]⟩) (fun v => YI n x0 = some r) ?_ ?_
 ·refine tB ?_
  refine Tr.loop (ι := Nat × (Int)) (fun v => ⟨71,0,[sI 8 v.2,sI 7 (x0.Ps.length : Int),sC 6 (cF 8 x0.Ps Pt.row),sA 1 1 11 0],[(1,(CV.frzRow (zA.row x0)))]⟩) (fun v => Z6 n v.1 x0 v.2 = some o11) (fun v => v.1) (n,0) eo11 (St.sub_of [8,7,6,1] [1] kr) ?_
  rintro ⟨mo11,y1⟩ H
  have H : Z6 n mo11 x0 y1 = some o11 := H
  obtain _ | mo11 := mo11
  ·exact nN H
  rw [Z6] at H
  refine gA 1 962 2 ?_
  refine tS ?_
  obtain ⟨h10,H⟩ | ⟨h10,H⟩ := bC H
  ·refine nA h10 ?_
   refine Tr.exit ?_
   refine And.intro (fun _ => ?_) (fun h => absurd rfl h)
   obtain rfl := si H
   have H := Ho11
   dsimp only at H
   exact jA () H [1] [1]
  refine tA h10 ?_
  refine tK ?_
  refine tS ?_
  refine tB ?_
  refine tR ?_
  obtain ⟨v12,ev12,H⟩ := bs H
  refine iA Pt.row ev12 ?_
  refine uA 3 466 18 ?_
  refine rA 1 ?_
  obtain ⟨r13,er13,H⟩ := bs H
  refine vA [.rd] (zMW n v12 r13 er13) ?_
  refine uA 1 16834 2 ?_
  obtain ⟨h11,H⟩ | ⟨h11,H⟩ := bC H
  ·refine nA h11 ?_
   refine tK ?_
   refine eA 2 450 2 ?_
   exact jB mo11 (IntKind.wrap .i64 (y1 + 1)) H [8,7,6,1] [1]
  refine tA h11 ?_
  refine gA 1 4 0 ?_
  refine te ?_
  obtain rfl := si H
  have H := Ho11
  dsimp only at H
  obtain rfl := si H
  exact fP [(false,[cB false])]
 rintro _ H
 have H : (YI n x0) = some r := H
 unfold YI at H
 refine tS ?_
 refine rA 2 ?_
 obtain ⟨r2,er2,H⟩ := bs H
 refine vA [.rd,.rd,.rd] (z3 n x0.Id 1 99 r2 er2) ?_
 refine lA 2 ?_
 refine sL 1048578 2 ⟨71,0,[sB 20 (!r2),sA 1 1 11 0],[(1,(CV.frzRow (zA.row x0)))]⟩ ?_
 cases h1 : (!r2)
 ·have H := zG h1 H
  refine lA 6 ?_
  refine sL 67108866 2 ⟨71,0,[sB 26 (decide ((x0.Name.size : Int) > 10)),sA 1 1 11 0],[(1,(CV.frzRow (zA.row x0)))]⟩ ?_
  cases h2 : (decide ((x0.Name.size : Int) > 10))
  ·have H := zG h2 H
   refine lA 2 ?_
   refine kF x0.Ps Pt.row ?_
   obtain ⟨r3,er3,H⟩ := bs H
   refine vA [.rd,.rd,.rd] (z3 n (x0.Ps.length : Int) 1 6 r3 er3) ?_
   refine lA 3 ?_
   refine sL 8589934594 2 ⟨71,0,[sB 33 (!r3),sA 1 1 11 0],[(1,(CV.frzRow (zA.row x0)))]⟩ ?_
   cases h3 : (!r3)
   ·have H := zG h3 H
    refine lA 2 ?_
    obtain ⟨r4,er4,H⟩ := bs H
    refine vA [.rd] (zLs n x0.F r4 er4) ?_
    refine lA 3 ?_
    refine sL 549755813890 2 ⟨71,0,[sB 39 (!r4),sA 1 1 11 0],[(1,(CV.frzRow (zA.row x0)))]⟩ ?_
    cases h4 : (!r4)
    ·have H := zG h4 H
     refine lA 4 ?_
     refine kF x0.Ps Pt.row ?_
     obtain ⟨r5,er5,H⟩ := bs H
     refine vA [.rd,.rd] (zKs n x0.V (x0.Ps.length : Int) r5 er5) ?_
     refine uA 2 0x800000000002 2 ?_
     obtain ⟨h5,H⟩ | ⟨h5,H⟩ := bC H
     ·refine nA h5 ?_
      refine tK ?_
      refine rA 2 ?_
      obtain ⟨r6,er6,H⟩ := bs H
      refine vA [.rd] (zAd n x0.Tk r6 er6) ?_
      refine lA 1 ?_
      refine sL 0x8000000000002 2 ⟨71,0,[sB 51 r6,sA 1 1 11 0],[(1,(CV.frzRow (zA.row x0)))]⟩ ?_
      cases h6 : r6
      ·have H := zG h6 H
       refine uA 20 4 0 ?_
       exact te (by obtain rfl := si H; exact fP [(false,[cB false])])
      have H := zH h6 H
      refine lA 2 ?_
      obtain ⟨r7,er7,H⟩ := bs H
      refine vA [.rd] (zAd n x0.Pa r7 er7) ?_
      refine lA 2 ?_
      refine sL 72057594037927938 2 ⟨71,0,[sB 56 r7,sA 1 1 11 0],[(1,(CV.frzRow (zA.row x0)))]⟩ ?_
      cases h7 : r7
      ·have H := zG h7 H
       refine uA 15 4 0 ?_
       exact te (by obtain rfl := si H; exact fP [(false,[cB false])])
      have H := zH h7 H
      refine lA 2 ?_
      obtain ⟨r8,er8,H⟩ := bs H
      refine vA [.rd] (zAd n x0.Wo r8 er8) ?_
      refine lA 2 ?_
      refine sL 0x2000000000000002 2 ⟨71,0,[sB 61 r8,sA 1 1 11 0],[(1,(CV.frzRow (zA.row x0)))]⟩ ?_
      cases h8 : r8
      ·have H := zG h8 H
       refine uA 10 4 0 ?_
       exact te (by obtain rfl := si H; exact fP [(false,[cB false])])
      have H := zH h8 H
      refine lA 2 ?_
      obtain ⟨r9,er9,H⟩ := bs H
      refine vA [.rd] (zAd n x0.Dr r9 er9) ?_
      refine lA 2 ?_
      refine sL 0x40000000000000002 2 ⟨71,0,[sB 66 r9,sA 1 1 11 0],[(1,(CV.frzRow (zA.row x0)))]⟩ ?_
      cases h9 : r9
      ·have H := zG h9 H
       refine uA 5 4 0 ?_
       exact te (by obtain rfl := si H; exact fP [(false,[cB false])])
      have H := zH h9 H
      refine lA 2 ?_
      obtain ⟨r10,er10,H⟩ := bs H
      refine vA [.rd] (zAd n x0.Ve r10 er10) ?_
      refine uA 2 4 0 ?_
      exact te (by obtain rfl := si H; exact fP [(false,[cB r10])])
     refine tA h5 ?_
     refine gA 1 4 0 ?_
     exact te (by obtain rfl := si H; exact fP [(false,[cB false])])
    have H := zH h4 H
    refine uA 8 0x800000000002 2 ?_
    refine tB_ ?_
    refine gA 1 4 0 ?_
    exact te (by obtain rfl := si H; exact fP [(false,[cB false])])
   have H := zH h3 H
   refine uA 14 0x800000000002 2 ?_
   refine tB_ ?_
   refine gA 1 4 0 ?_
   exact te (by obtain rfl := si H; exact fP [(false,[cB false])])
  have H := zH h2 H
  refine uA 21 0x800000000002 2 ?_
  refine tB_ ?_
  refine gA 1 4 0 ?_
  exact te (by obtain rfl := si H; exact fP [(false,[cB false])])
 have H := zH h1 H
 refine uA 27 0x800000000002 2 ?_
 refine tB_ ?_
 refine gA 1 4 0 ?_
 exact te (by obtain rfl := si H; exact fP [(false,[cB false])])
def zB1 (n : Nat) : Option (Bool) :=
  (some false)
def ZS (n : Nat) : Nat → (List Link) → Int → Int → Int → Option ((Unit) ⊕ (Bool))
  | 0,_,_,_,_ => none
  | mo2 + 1,x0,x1,x2,y1 => (bif (decide (y1 < (x0.length : Int))) then ((idx x0 y1).bind fun v3 => (bif (v3.A == x1) then (bif (v3.P == x2) then (some (Sum.inr true)) else (bif (v3.B == x1) then (bif (v3.Q == x2) then (some (Sum.inr true)) else (ZS n mo2 x0 x1 x2 (IntKind.wrap .i64 (y1 + 1)))) else (ZS n mo2 x0 x1 x2 (IntKind.wrap .i64 (y1 + 1))))) else (bif (v3.B == x1) then (bif (v3.Q == x2) then (some (Sum.inr true)) else (ZS n mo2 x0 x1 x2 (IntKind.wrap .i64 (y1 + 1)))) else (ZS n mo2 x0 x1 x2 (IntKind.wrap .i64 (y1 + 1)))))) else (some (Sum.inl ())))
def Ji (n : Nat) (x0 : (List Link)) (x1 : Int) (x2 : Int) : Option (Bool) :=
  ((ZS n n x0 x1 x2 0).bind fun o => match o with | .inl _ => (zB1 n) | .inr r => some r)
theorem zD9 (n : Nat) (x0 : (List Link)) (x1 : Int) (x2 : Int) (r : Bool) (H : Ji n x0 x1 x2 = some r) : zD Tryz.prog 148 [.val false [.sl false 4 (CV.frzEs (x0.map Link.row))],.val false [.lit (.int .i64 x1)],.val false [.lit (.int .i64 x2)]] [.val false [.lit (.bool r)]] [] := by
 refine cA Tryz.func148 (.seq (Rg Tryz.f148 0) (.seq (.seq (Rg Tryz.f148 1) (.block 0 (.loop (.seq (Rg Tryz.f148 2) (.seq (.cond (.tmp 12) .skip (.exit 0)) (.seq (.block 1 (.seq (Rg Tryz.f148 3) (.seq (Rg Tryz.f148 4) (.cond (.tmp 36) (.seq (Rg Tryz.f148 5) .ret) .skip)))) (Rg Tryz.f148 6))))))) (.seq (Rg Tryz.f148 7) .ret))) [.tmp 6] fun cx => ?_
 unfold Ji at H
 refine gA 1 7 0 ?_
 refine tS ?_
 refine rA 1 ?_
 refine kF x0 Link.row ?_
 refine uA 1 3590 0 ?_
 obtain ⟨o2,eo2,Ho2⟩ := bs H
 clear H
 refine Tr.mid (ι := Unit) (fun v => ⟨38,0,[],[]⟩) (fun v => zB1 n = some r) ?_ ?_
 ·refine tB ?_
  refine Tr.loop (ι := Nat × (Int)) (fun v => ⟨38,0,[sI 11 v.2,sI 10 (x0.length : Int),sC 9 (cF 4 x0 Link.row),sI 1 x1,sI 2 x2],[]⟩) (fun v => ZS n v.1 x0 x1 x2 v.2 = some o2) (fun v => v.1) (n,0) eo2 (St.sub_of [11,10,9,1,2] [] kr) ?_
  rintro ⟨mo2,y1⟩ H
  have H : ZS n mo2 x0 x1 x2 y1 = some o2 := H
  obtain _ | mo2 := mo2
  ·exact nN H
  rw [ZS] at H
  refine gA 1 7686 0 ?_
  refine tS ?_
  obtain ⟨h1,H⟩ | ⟨h1,H⟩ := bC H
  ·refine nA h1 ?_
   refine Tr.exit ?_
   refine And.intro (fun _ => ?_) (fun h => absurd rfl h)
   obtain rfl := si H
   have H := Ho2
   dsimp only at H
   exact jA () H [] []
  refine tA h1 ?_
  refine tK ?_
  refine tS ?_
  refine tB ?_
  refine tR ?_
  obtain ⟨v3,ev3,H⟩ := bs H
  refine iA Link.row ev3 ?_
  refine uA 3 3846 256 ?_
  refine rA 5 ?_
  refine sL 528134 256 ⟨38,0,[sB 19 (v3.A == x1),sA 8 8 4 0,sI 11 y1,sI 10 (x0.length : Int),sC 9 (cF 4 x0 Link.row),sI 1 x1,sI 2 x2],[(8,(Link.row v3))]⟩ ?_
  cases h2 : (v3.A == x1)
  ·have H := zG h2 H
   refine lA 11 ?_
   refine sL 1107300102 256 ⟨38,0,[sB 30 (v3.B == x1),sB 25 false,sA 8 8 4 0,sI 11 y1,sI 10 (x0.length : Int),sC 9 (cF 4 x0 Link.row),sI 1 x1,sI 2 x2],[(8,(Link.row v3))]⟩ ?_
   cases h3 : (v3.B == x1)
   ·have H := zG h3 H
    refine uA 6 68719480326 0 ?_
    refine nB_ ?_
    refine tK ?_
    refine eA 2 3590 0 ?_
    exact jB mo2 (IntKind.wrap .i64 (y1 + 1)) H [11,10,9,1,2] []
   have H := zH h3 H
   refine uA 6 68719480326 0 ?_
   obtain ⟨h4,H⟩ | ⟨h4,H⟩ := bC H
   ·refine nA h4 ?_
    refine tK ?_
    refine eA 2 3590 0 ?_
    exact jB mo2 (IntKind.wrap .i64 (y1 + 1)) H [11,10,9,1,2] []
   refine tA h4 ?_
   refine gA 1 64 0 ?_
   refine te ?_
   obtain rfl := si H
   have H := Ho2
   dsimp only at H
   obtain rfl := si H
   exact fP [(false,[cB true])]
  have H := zH h2 H
  refine lA 6 ?_
  refine sL 33558278 256 ⟨38,0,[sB 25 (v3.P == x2),sA 8 8 4 0,sI 11 y1,sI 10 (x0.length : Int),sC 9 (cF 4 x0 Link.row),sI 1 x1,sI 2 x2],[(8,(Link.row v3))]⟩ ?_
  cases h5 : (v3.P == x2)
  ·have H := zG h5 H
   refine lA 5 ?_
   refine sL 1107300102 256 ⟨38,0,[sB 30 (v3.B == x1),sB 25 false,sA 8 8 4 0,sI 11 y1,sI 10 (x0.length : Int),sC 9 (cF 4 x0 Link.row),sI 1 x1,sI 2 x2],[(8,(Link.row v3))]⟩ ?_
   cases h6 : (v3.B == x1)
   ·have H := zG h6 H
    refine uA 6 68719480326 0 ?_
    refine nB_ ?_
    refine tK ?_
    refine eA 2 3590 0 ?_
    exact jB mo2 (IntKind.wrap .i64 (y1 + 1)) H [11,10,9,1,2] []
   have H := zH h6 H
   refine uA 6 68719480326 0 ?_
   obtain ⟨h7,H⟩ | ⟨h7,H⟩ := bC H
   ·refine nA h7 ?_
    refine tK ?_
    refine eA 2 3590 0 ?_
    exact jB mo2 (IntKind.wrap .i64 (y1 + 1)) H [11,10,9,1,2] []
   refine tA h7 ?_
   refine gA 1 64 0 ?_
   refine te ?_
   obtain rfl := si H
   have H := Ho2
   dsimp only at H
   obtain rfl := si H
   exact fP [(false,[cB true])]
  have H := zH h5 H
  refine uA 11 68719480326 0 ?_
  refine tB_ ?_
  refine gA 1 64 0 ?_
  refine te ?_
  obtain rfl := si H
  have H := Ho2
  dsimp only at H
  obtain rfl := si H
  exact fP [(false,[cB true])]
 rintro _ H
 have H : (zB1 n) = some r := H
 unfold zB1 at H
 refine gA 1 64 0 ?_
 exact te (by obtain rfl := si H; exact fP [(false,[cB false])])
def Zs (n : Nat) (x0 : Net) (x1 : Int) (x2 : Int) : Option (Pt × Bool) :=
  ((zw n x1 0 (IntKind.wrap .i64 ((x0.Bs.length : Int) - 1))).bind fun r1 => (bif (!r1) then (some ((⟨false,0,false,(⟨0,0,0,0,0⟩ : Vec)⟩ : Pt),false)) else ((idx x0.Bs x1).bind fun v2 => ((zw n x2 0 (IntKind.wrap .i64 ((v2.Ps.length : Int) - 1))).bind fun r3 => (bif (!r3) then (some ((⟨false,0,false,(⟨0,0,0,0,0⟩ : Vec)⟩ : Pt),false)) else ((idx x0.Bs x1).bind fun v4 => ((idx v4.Ps x2).bind fun v5 => (some (v5,true)))))))))
theorem J8 (n : Nat) (x0 : Net) (x1 : Int) (x2 : Int) (r : Pt × Bool) (H : Zs n x0 x1 x2 = some r) : zD Tryz.prog 162 [.val true (CV.frzRow (Net.row x0)),.val false [.lit (.int .i64 x1)],.val false [.lit (.int .i64 x2)]] [.val true (Pt.row r.1),.val false [.lit (.bool r.2)]] [] := by
 refine cA Tryz.func162 (.seq (Rg Tryz.f162 0) (.seq (.seq (Rg Tryz.f162 1) (.cond (.tmp 27) (.seq (Rg Tryz.f162 2) .ret) .skip)) (.seq (Rg Tryz.f162 3) .ret))) [.cell 6 167,.tmp 7] fun cx => ?_
 unfold Zs at H
 refine gA 3 78 72 ?_
 refine tS ?_
 refine rA 3 ?_
 refine kF x0.Bs zA.row ?_
 refine lA 1 ?_
 obtain ⟨r1,er1,H⟩ := bs H
 refine vA [.rd,.rd,.rd] (z3 n x1 0 (IntKind.wrap .i64 ((x0.Bs.length : Int) - 1)) r1 er1) ?_
 refine lA 2 ?_
 refine sL 32846 72 ⟨38,0,[sB 15 (!r1),sA 6 6 8 0,sA 3 3 3 0,sI 1 x1,sI 2 x2],[(6,[cB false,cI 0,cB false,cI 0,cI 0,cI 0,cI 0,cI 0]),(3,(CV.frzRow (Net.row x0)))]⟩ ?_
 cases h1 : (!r1)
 ·have H := zG h1 H
  refine lA 4 ?_
  obtain ⟨v2,ev2,H⟩ := bs H
  refine iA zA.row ev2 ?_
  refine lA 2 ?_
  refine kF v2.Ps Pt.row ?_
  refine lA 1 ?_
  obtain ⟨r3,er3,H⟩ := bs H
  refine vA [.rd,.rd,.rd] (z3 n x2 0 (IntKind.wrap .i64 ((v2.Ps.length : Int) - 1)) r3 er3) ?_
  refine uA 2 134217806 72 ?_
  obtain ⟨h2,H⟩ | ⟨h2,H⟩ := bC H
  ·refine nA h2 ?_
   refine tK ?_
   refine rA 3 ?_
   obtain ⟨v4,ev4,H⟩ := bs H
   refine iA zA.row ev4 ?_
   refine lA 3 ?_
   obtain ⟨v5,ev5,H⟩ := bs H
   refine iA Pt.row ev5 ?_
   refine uA 3 192 64 ?_
   exact te (by obtain rfl := si H; exact fP [(true,(Pt.row v5)),(false,[cB true])])
  refine tA h2 ?_
  refine gA 3 192 64 ?_
  exact te (by obtain rfl := si H; exact fP [(true,[cB false,cI 0,cB false,cI 0,cI 0,cI 0,cI 0,cI 0]),(false,[cB false])])
 have H := zH h1 H
 refine uA 12 134217806 72 ?_
 refine tB_ ?_
 refine gA 3 192 64 ?_
 exact te (by obtain rfl := si H; exact fP [(true,[cB false,cI 0,cB false,cI 0,cI 0,cI 0,cI 0,cI 0]),(false,[cB false])])
def zAI (n : Nat) : Option (Bool) :=
  (some true)
def qL (n : Nat) : Nat → Net → Int → Option ((Unit) ⊕ (Bool))
  | 0,_,_ => none
  | mo2 + 1,x0,y1 => (bif (decide (y1 < (x0.Ls.length : Int))) then ((idx x0.Ls y1).bind fun v3 => ((Zs n x0 v3.A v3.P).bind fun r4 => ((Zs n x0 v3.B v3.Q).bind fun r5 => (bif (decide (y1 ≥ 9)) then (some (Sum.inr false)) else (bif (!r4.2) then (some (Sum.inr false)) else (bif (!r5.2) then (some (Sum.inr false)) else (bif (v3.A == v3.B) then (some (Sum.inr false)) else (bif (!(r4.1.Up == r5.1.Up)) then (some (Sum.inr false)) else (bif (decide ((0 : Int) ≤ 0) && (decide ((0 : Int) ≤ y1) && decide ((y1 : Int) ≤ (x0.Ls.length : Int)))) then ((Ji n ((x0.Ls.drop ((0 : Int)).toNat).take (((y1 : Int)).toNat - ((0 : Int)).toNat)) v3.A v3.P).bind fun r7 => (bif r7 then (some (Sum.inr false)) else (bif (decide ((0 : Int) ≤ 0) && (decide ((0 : Int) ≤ y1) && decide ((y1 : Int) ≤ (x0.Ls.length : Int)))) then ((Ji n ((x0.Ls.drop ((0 : Int)).toNat).take (((y1 : Int)).toNat - ((0 : Int)).toNat)) v3.B v3.Q).bind fun r9 => (bif r9 then (some (Sum.inr false)) else (qL n mo2 x0 (IntKind.wrap .i64 (y1 + 1))))) else none))) else none))))))))) else (some (Sum.inl ())))
def Jw (n : Nat) (x0 : Net) : Option (Bool) :=
  ((qL n n x0 0).bind fun o => match o with | .inl _ => (zAI n) | .inr r => some r)
def zN3 : Tab := ⟨20,[0,1,0,6,0,16,0,64,168,256,512,1536,512,6656,512,16896,512,66048,172544,262656],[0,1,0,6,0,16,0,64,168,256,512,1536,512,6656,512,16896,512,66048,172544,262656],[0,1,0,7,0,16,0,64,255,511,1023,2047,1023,8191,1023,17407,1023,66559,262143,524287]⟩
theorem YG : zf (rg Tryz.f150 8) zN3 = true := kr
theorem zKD (n : Nat) (x0 : Net) (r : Bool) (H : Jw n x0 = some r) : zD Tryz.prog 150 [.val true (CV.frzRow (Net.row x0))] [.val false [.lit (.bool r)]] [] := by
 refine cA Tryz.func150 (.seq (Rg Tryz.f150 0) (.seq (.seq (Rg Tryz.f150 1) (.block 0 (.loop (.seq (Rg Tryz.f150 2) (.seq (.cond (.tmp 13) .skip (.exit 0)) (.seq (.block 1 (.seq (Rg Tryz.f150 3) (.seq (Rg Tryz.f150 4) (.seq (Rg Tryz.f150 5) (.seq (.seq (Rg Tryz.f150 6) (.cond (.tmp 58) (.seq (Rg Tryz.f150 7) .ret) .skip)) (.seq (Rd Tryz.f150 8) (.cond (.tmp 78) (.seq (Rg Tryz.f150 9) .ret) .skip))))))) (Rg Tryz.f150 10))))))) (.seq (Rg Tryz.f150 11) .ret))) [.tmp 2] fun cx => ?_
 unfold Jw at H
 refine gA 2 2 2 ?_
 refine tS ?_
 refine rA 2 ?_
 refine kF x0.Ls Link.row ?_
 refine uA 1 7170 2 ?_
 obtain ⟨o2,eo2,Ho2⟩ := bs H
 clear H
 refine Tr.mid (ι := Unit) (fun v => ⟨80,0,[],[]⟩) (fun v => zAI n = some r) ?_ ?_
 ·refine tB ?_
  refine Tr.loop (ι := Nat × (Int)) (fun v => ⟨80,0,[sI 12 v.2,sI 11 (x0.Ls.length : Int),sC 10 (cF 4 x0.Ls Link.row),sA 1 1 3 0],[(1,(CV.frzRow (Net.row x0)))]⟩) (fun v => qL n v.1 x0 v.2 = some o2) (fun v => v.1) (n,0) eo2 (St.sub_of [12,11,10,1] [1] kr) ?_
  rintro ⟨mo2,y1⟩ H
  have H : qL n mo2 x0 y1 = some o2 := H
  obtain _ | mo2 := mo2
  ·exact nN H
  rw [qL] at H
  refine gA 1 15362 2 ?_
  refine tS ?_
  obtain ⟨h1,H⟩ | ⟨h1,H⟩ := bC H
  ·refine nA h1 ?_
   refine Tr.exit ?_
   refine And.intro (fun _ => ?_) (fun h => absurd rfl h)
   obtain rfl := si H
   have H := Ho2
   dsimp only at H
   exact jA () H [] []
  refine tA h1 ?_
  refine tK ?_
  refine tS ?_
  refine tB ?_
  refine rA 1 ?_
  obtain ⟨v3,ev3,H⟩ := bs H
  refine iA Link.row ev3 ?_
  refine uA 4 7194 18 ?_
  refine rA 5 ?_
  obtain ⟨r4,er4,H⟩ := bs H
  refine vA [.rd,.rd,.rd] (J8 n x0 v3.A v3.P r4 er4) ?_
  refine LAt.movT tOk (ty := 189) (t := 23) (d := 17) (g := none) [(true,(Pt.row r4.1)),(false,[cB r4.2])] _ kr (.inl rfl) kr kr kr kr rfl ?_
  refine uA 5 7290 50 ?_
  refine rA 5 ?_
  obtain ⟨r5,er5,H⟩ := bs H
  refine vA [.rd,.rd,.rd] (J8 n x0 v3.B v3.Q r5 er5) ?_
  refine LAt.movT tOk (ty := 189) (t := 32) (d := 26) (g := none) [(true,(Pt.row r5.1)),(false,[cB r5.2])] _ kr (.inl rfl) kr kr kr kr rfl ?_
  refine uA 5 7674 178 ?_
  refine tS ?_
  refine rA 3 ?_
  refine sL 137438961146 178 ⟨80,0,[sB 37 (decide (y1 ≥ 9)),sB 8 r5.2,sA 7 7 8 0,sB 6 r4.2,sA 5 5 8 0,sI 3 y1,sA 4 4 4 0,sI 12 y1,sI 11 (x0.Ls.length : Int),sC 10 (cF 4 x0.Ls Link.row),sA 1 1 3 0],[(7,(Pt.row r5.1)),(5,(Pt.row r4.1)),(4,(Link.row v3)),(1,(CV.frzRow (Net.row x0)))]⟩ ?_
  cases h2 : (decide (y1 ≥ 9))
  ·have H := zG h2 H
   refine lA 4 ?_
   refine sL 2199023263162 178 ⟨80,0,[sB 41 (!r4.2),sB 8 r5.2,sA 7 7 8 0,sA 5 5 8 0,sI 3 y1,sA 4 4 4 0,sI 12 y1,sI 11 (x0.Ls.length : Int),sC 10 (cF 4 x0.Ls Link.row),sA 1 1 3 0],[(7,(Pt.row r5.1)),(5,(Pt.row r4.1)),(4,(Link.row v3)),(1,(CV.frzRow (Net.row x0)))]⟩ ?_
   cases h3 : (!r4.2)
   ·have H := zG h3 H
    refine lA 4 ?_
    refine sL 35184372096186 178 ⟨80,0,[sB 45 (!r5.2),sA 7 7 8 0,sA 5 5 8 0,sI 3 y1,sA 4 4 4 0,sI 12 y1,sI 11 (x0.Ls.length : Int),sC 10 (cF 4 x0.Ls Link.row),sA 1 1 3 0],[(7,(Pt.row r5.1)),(5,(Pt.row r4.1)),(4,(Link.row v3)),(1,(CV.frzRow (Net.row x0)))]⟩ ?_
    cases h4 : (!r5.2)
    ·have H := zG h4 H
     refine lA 7 ?_
     refine sL 4503599627377850 178 ⟨80,0,[sB 52 (v3.A == v3.B),sA 7 7 8 0,sA 5 5 8 0,sI 3 y1,sA 4 4 4 0,sI 12 y1,sI 11 (x0.Ls.length : Int),sC 10 (cF 4 x0.Ls Link.row),sA 1 1 3 0],[(7,(Pt.row r5.1)),(5,(Pt.row r4.1)),(4,(Link.row v3)),(1,(CV.frzRow (Net.row x0)))]⟩ ?_
     cases h5 : (v3.A == v3.B)
     ·have H := zG h5 H
      refine uA 6 0x400000000001c1a 18 ?_
      obtain ⟨h6,H⟩ | ⟨h6,H⟩ := bC H
      ·refine nA h6 ?_
       refine tK ?_
       obtain ⟨hg6,H⟩ := gs H
       obtain ⟨r7,er7,H⟩ := bs H
       refine sT ⟨80,0,[sB 58 (!(r4.1.Up == r5.1.Up)),sI 3 y1,sA 4 4 4 0,sI 12 y1,sI 11 (x0.Ls.length : Int),sC 10 (cF 4 x0.Ls Link.row),sA 1 1 3 0],[(4,(Link.row v3)),(1,(CV.frzRow (Net.row x0)))]⟩ ?_
       cases h7 : r7
       ·have H := zG h7 H
        obtain ⟨hg8,H⟩ := gs H
        obtain ⟨r9,er9,H⟩ := bs H
        refine Tr.draws mixed 20 kr ⟨80,0,[sB 78 r9,sI 12 y1,sI 11 (x0.Ls.length : Int),sC 10 (cF 4 x0.Ls Link.row),sA 1 1 3 0],[(1,(CV.frzRow (Net.row x0)))]⟩ (fun cx => ?_) ?_
        ·refine mA YG [(0,[]),(1,[3,8,13,18]),(2,[]),(4,[]),(5,[8,13,18]),(6,[]),(7,[8,13,18])] 13 [⟨[8,13,18],3,65,66⟩,⟨[8,13,18],3,63,64⟩,⟨[3,8,13,18],64,59,60⟩] fun cx => ?_
         refine mC YG 3 ?_
         refine LAt.cutG tOk (t := 64) (ty := 64) (e := 114) (x := (.tmp 60)) (lo := none) (hi := (some (.tmp 61))) (d := 62) (g := none) (tI 114) Link.row x0.Ls ⟨(.box 1),[(0,0)],1,false,4,(CV.frzEs (x0.Ls.map Link.row))⟩ 0 y1 kr kr kr kr kr kr rfl kr rfl kr kr hg6 ?_
         refine fA ?_
         refine mC YG 8 ?_
         refine vA [.rd,.rd,.rd] (zD9 n ((x0.Ls.drop ((0 : Int)).toNat).take (((y1 : Int)).toNat - ((0 : Int)).toNat)) v3.A v3.P r7 er7) ?_
         refine fA ?_
         refine mA YG [(9,[])] 10 [⟨[8,13,18],3,65,66⟩,⟨[8,13,18],3,63,64⟩,⟨[3,8,13,18],64,59,60⟩] fun cx => ?_
         refine sA_ 0x179800000000001c1a 18 ⟨80,0,[sB 68 r7,sI 66 v3.P,sA 65 4 4 1,sI 64 v3.A,sA 63 4 4 0,sR 60 1 3 1 1 false,sA 59 1 3 1,sI 3 y1,sA 4 4 4 0,sI 12 y1,sI 11 (x0.Ls.length : Int),sC 10 (cF 4 x0.Ls Link.row),sA 1 1 3 0],[(4,(Link.row v3)),(1,(CV.frzRow (Net.row x0)))]⟩ ?_
         rw [h7]
         refine mA YG [(10,[]),(11,[13,18]),(12,[]),(14,[]),(15,[18]),(16,[]),(17,[18])] 3 [⟨[18],3,75,76⟩,⟨[18],3,73,74⟩,⟨[13,18],64,69,70⟩,⟨[8,13,18],3,65,66⟩,⟨[8,13,18],3,63,64⟩,⟨[3,8,13,18],64,59,60⟩] fun cx => ?_
         refine mC YG 13 ?_
         refine LAt.cutG tOk (t := 64) (ty := 64) (e := 114) (x := (.tmp 70)) (lo := none) (hi := (some (.tmp 71))) (d := 72) (g := (some (9,false))) (tI 114) Link.row x0.Ls ⟨(.box 1),[(0,0)],1,false,4,(CV.frzEs (x0.Ls.map Link.row))⟩ 0 y1 kr kr kr kr kr kr rfl kr rfl kr kr hg8 ?_
         refine fA ?_
         refine mC YG 18 ?_
         refine vA [.rd,.rd,.rd] (zD9 n ((x0.Ls.drop ((0 : Int)).toNat).take (((y1 : Int)).toNat - ((0 : Int)).toNat)) v3.B v3.Q r9 er9) ?_
         refine fA ?_
         refine mA YG [(19,[])] 0 [⟨[18],3,75,76⟩,⟨[18],3,73,74⟩,⟨[13,18],64,69,70⟩,⟨[8,13,18],3,65,66⟩,⟨[8,13,18],3,63,64⟩,⟨[3,8,13,18],64,59,60⟩] fun cx => ?_
         exact mE YG [78,12,11,10,1] [1]
        cases h8 : r9
        ·have H := zG h8 H
         refine nB_ ?_
         refine tK ?_
         refine eA 2 7170 2 ?_
         exact jB mo2 (IntKind.wrap .i64 (y1 + 1)) H [12,11,10,1] [1]
        have H := zH h8 H
        refine tB_ ?_
        refine gA 1 4 0 ?_
        refine te ?_
        obtain rfl := si H
        have H := Ho2
        dsimp only at H
        obtain rfl := si H
        exact fP [(false,[cB false])]
       have H := zH h7 H
       refine Tr.draws mixed 20 kr ⟨80,0,[sB 78 true,sI 12 y1,sI 11 (x0.Ls.length : Int),sC 10 (cF 4 x0.Ls Link.row),sA 1 1 3 0],[(1,(CV.frzRow (Net.row x0)))]⟩ (fun cx => ?_) ?_
       ·refine mA YG [(0,[]),(1,[3,8]),(2,[]),(4,[]),(5,[8]),(6,[]),(7,[8])] 13 [⟨[8],3,65,66⟩,⟨[8],3,63,64⟩,⟨[3,8],64,59,60⟩] fun cx => ?_
        refine mC YG 3 ?_
        refine LAt.cutG tOk (t := 64) (ty := 64) (e := 114) (x := (.tmp 60)) (lo := none) (hi := (some (.tmp 61))) (d := 62) (g := none) (tI 114) Link.row x0.Ls ⟨(.box 1),[(0,0)],1,false,4,(CV.frzEs (x0.Ls.map Link.row))⟩ 0 y1 kr kr kr kr kr kr rfl kr rfl kr kr hg6 ?_
        refine fA ?_
        refine mC YG 8 ?_
        refine vA [.rd,.rd,.rd] (zD9 n ((x0.Ls.drop ((0 : Int)).toNat).take (((y1 : Int)).toNat - ((0 : Int)).toNat)) v3.A v3.P r7 er7) ?_
        refine fA ?_
        refine mA YG [(9,[])] 10 [⟨[8],3,65,66⟩,⟨[8],3,63,64⟩,⟨[3,8],64,59,60⟩] fun cx => ?_
        refine sA_ 0x179800000000001c1a 18 ⟨80,0,[sB 68 r7,sI 66 v3.P,sA 65 4 4 1,sI 64 v3.A,sA 63 4 4 0,sR 60 1 3 1 1 false,sA 59 1 3 1,sI 3 y1,sA 4 4 4 0,sI 12 y1,sI 11 (x0.Ls.length : Int),sC 10 (cF 4 x0.Ls Link.row),sA 1 1 3 0],[(4,(Link.row v3)),(1,(CV.frzRow (Net.row x0)))]⟩ ?_
        rw [h7]
        refine mA YG [(10,[]),(11,[]),(12,[]),(13,[]),(14,[]),(15,[]),(16,[]),(17,[]),(18,[]),(19,[])] 0 [⟨[8],3,65,66⟩,⟨[8],3,63,64⟩,⟨[3,8],64,59,60⟩] fun cx => ?_
        exact mE YG [78,12,11,10,1] [1]
       refine tB_ ?_
       refine gA 1 4 0 ?_
       refine te ?_
       obtain rfl := si H
       have H := Ho2
       dsimp only at H
       obtain rfl := si H
       exact fP [(false,[cB false])]
      refine tA h6 ?_
      refine gA 1 4 0 ?_
      refine te ?_
      obtain rfl := si H
      have H := Ho2
      dsimp only at H
      obtain rfl := si H
      exact fP [(false,[cB false])]
     have H := zH h5 H
     refine uA 6 0x400000000001c1a 18 ?_
     refine tB_ ?_
     refine gA 1 4 0 ?_
     refine te ?_
     obtain rfl := si H
     have H := Ho2
     dsimp only at H
     obtain rfl := si H
     exact fP [(false,[cB false])]
    have H := zH h4 H
    refine uA 13 0x400000000001c1a 18 ?_
    refine tB_ ?_
    refine gA 1 4 0 ?_
    refine te ?_
    obtain rfl := si H
    have H := Ho2
    dsimp only at H
    obtain rfl := si H
    exact fP [(false,[cB false])]
   have H := zH h3 H
   refine uA 17 0x400000000001c1a 18 ?_
   refine tB_ ?_
   refine gA 1 4 0 ?_
   refine te ?_
   obtain rfl := si H
   have H := Ho2
   dsimp only at H
   obtain rfl := si H
   exact fP [(false,[cB false])]
  have H := zH h2 H
  refine uA 21 0x400000000001c1a 18 ?_
  refine tB_ ?_
  refine gA 1 4 0 ?_
  refine te ?_
  obtain rfl := si H
  have H := Ho2
  dsimp only at H
  obtain rfl := si H
  exact fP [(false,[cB false])]
 rintro _ H
 have H : (zAI n) = some r := H
 unfold zAI at H
 refine gA 1 4 0 ?_
 exact te (by obtain rfl := si H; exact fP [(false,[cB true])])
def Jr (n : Nat) (x0 : Net) : Option (Bool) :=
  ((Jw n x0).bind fun r4 => (some r4))
def qy (n : Nat) : Nat → Net → Int → Option ((Unit) ⊕ (Bool))
  | 0,_,_ => none
  | mo5 + 1,x0,y3 => (bif (decide (y3 < (x0.Said.length : Int))) then ((idx x0.Said y3).bind fun v6 => ((zw n v6.Link 0 (IntKind.wrap .i64 ((x0.Ls.length : Int) - 1))).bind fun r7 => (bif (!r7) then (some (Sum.inr false)) else ((Q3 n v6.V).bind fun r8 => (bif (!r8) then (some (Sum.inr false)) else (qy n mo5 x0 (IntKind.wrap .i64 (y3 + 1)))))))) else (some (Sum.inl ())))
def YY (n : Nat) (x0 : Net) : Option (Bool) :=
  ((qy n n x0 0).bind fun o => match o with | .inl _ => (Jr n x0) | .inr r => some r)
def Jt (n : Nat) (k : (Int → Option ((Unit) ⊕ (Bool)))) (y2 : Int) (y16 : Int) : Option ((Unit) ⊕ (Bool)) :=
  (k (IntKind.wrap .i64 (y2 + 1)))
def ZC (n : Nat) : Nat → zA → Net → Int → Int → Option ((Int) ⊕ (Bool))
  | 0,_,_,_,_ => none
  | mo17 + 1,v10,x0,y2,y15 => (bif (decide (y15 < (v10.Ps.length : Int))) then ((idx v10.Ps y15).bind fun v18 => (bif v18.Has then ((Ji n x0.Ls y2 y15).bind fun r19 => (bif (!r19) then (some (Sum.inr false)) else (ZC n mo17 v10 x0 y2 (IntKind.wrap .i64 (y15 + 1))))) else (ZC n mo17 v10 x0 y2 (IntKind.wrap .i64 (y15 + 1))))) else (some (Sum.inl y15)))
def Js (n : Nat) (k : (Int → Option ((Unit) ⊕ (Bool)))) (v10 : zA) (x0 : Net) (y2 : Int) (y14 : Int) : Option ((Unit) ⊕ (Bool)) :=
  ((ZC n n v10 x0 y2 0).bind fun o => match o with | .inl y16 => (Jt n k y2 y16) | .inr r => some (Sum.inr r))
def ZT (n : Nat) : Nat → zA → Net → Int → Int → Option ((Int) ⊕ (Bool))
  | 0,_,_,_,_ => none
  | mo20 + 1,v10,x0,y2,y13 => (bif (decide (y13 < (((x0.Bs.drop ((0 : Int)).toNat).take (((y2 : Int)).toNat - ((0 : Int)).toNat)).length : Int))) then ((idx ((x0.Bs.drop ((0 : Int)).toNat).take (((y2 : Int)).toNat - ((0 : Int)).toNat)) y13).bind fun v21 => (bif (v21.Id == v10.Id) then (some (Sum.inr false)) else (ZT n mo20 v10 x0 y2 (IntKind.wrap .i64 (y13 + 1))))) else (some (Sum.inl y13)))
def z7 (n : Nat) : Nat → Net → Int → Option ((Unit) ⊕ (Bool))
  | 0,_,_ => none
  | mo9 + 1,x0,y2 => (bif (decide (y2 < (x0.Bs.length : Int))) then ((idx x0.Bs y2).bind fun v10 => ((QC n v10).bind fun r11 => (bif (!r11) then (some (Sum.inr false)) else (bif (decide ((0 : Int) ≤ 0) && (decide ((0 : Int) ≤ y2) && decide ((y2 : Int) ≤ (x0.Bs.length : Int)))) then ((ZT n n v10 x0 y2 0).bind fun o => match o with | .inl y14 => (Js n (fun v => z7 n mo9 x0 v) v10 x0 y2 y14) | .inr r => some (Sum.inr r)) else none)))) else (some (Sum.inl ())))
def Y0 (n : Nat) (x0 : Net) : Option (Bool) :=
  ((zw n (x0.Bs.length : Int) 1 6).bind fun r1 => (bif (!r1) then (some false) else (bif (decide ((x0.Said.length : Int) > 40)) then (some false) else ((z7 n n x0 0).bind fun o => match o with | .inl _ => (YY n x0) | .inr r => some r))))
theorem zLt (n : Nat) (x0 : Net) (r : Bool) (H : Y0 n x0 = some r) : zD Tryz.prog 52 [.val true (CV.frzRow (Net.row x0))] [.val false [.lit (.bool r)]] [] := by
 refine cA Tryz.func52 (.seq (Rg Tryz.f52 0) (.seq (.seq (Rg Tryz.f52 1) (.cond (.tmp 21) (.seq (Rg Tryz.f52 2) .ret) .skip)) (.seq (.seq (Rg Tryz.f52 3) (.block 0 (.loop (.seq (Rg Tryz.f52 4) (.seq (.cond (.tmp 26) .skip (.exit 0)) (.seq (.block 1 (.seq (Rg Tryz.f52 5) (.seq (.seq (Rg Tryz.f52 6) (.cond (.tmp 32) (.seq (Rg Tryz.f52 7) .ret) .skip)) (.seq (.seq (Rg Tryz.f52 8) (.block 2 (.loop (.seq (Rg Tryz.f52 9) (.seq (.cond (.tmp 39) .skip (.exit 2)) (.seq (.block 3 (.seq (Rg Tryz.f52 10) (.seq (Rg Tryz.f52 11) (.cond (.tmp 46) (.seq (Rg Tryz.f52 12) .ret) .skip)))) (Rg Tryz.f52 13))))))) (.seq (Rg Tryz.f52 14) (.block 4 (.loop (.seq (Rg Tryz.f52 15) (.seq (.cond (.tmp 52) .skip (.exit 4)) (.seq (.block 5 (.seq (Rg Tryz.f52 16) (.seq (Rg Tryz.f52 17) (.cond (.tmp 65) (.seq (Rg Tryz.f52 18) .ret) .skip)))) (Rg Tryz.f52 19))))))))))) (Rg Tryz.f52 20))))))) (.seq (.seq (Rg Tryz.f52 21) (.block 6 (.loop (.seq (Rg Tryz.f52 22) (.seq (.cond (.tmp 72) .skip (.exit 6)) (.seq (.block 7 (.seq (Rg Tryz.f52 23) (.seq (Rg Tryz.f52 24) (.cond (.tmp 88) (.seq (Rg Tryz.f52 25) .ret) .skip)))) (Rg Tryz.f52 26))))))) (.seq (Rg Tryz.f52 27) .ret))))) [.tmp 2] fun cx => ?_
 unfold Y0 at H
 refine gA 2 6 2 ?_
 refine tS ?_
 refine rA 2 ?_
 refine kF x0.Bs zA.row ?_
 obtain ⟨r1,er1,H⟩ := bs H
 refine vA [.rd,.rd,.rd] (z3 n (x0.Bs.length : Int) 1 6 r1 er1) ?_
 refine lA 2 ?_
 refine sL 65542 2 ⟨92,0,[sB 16 (!r1),sB 2 false,sA 1 1 3 0],[(1,(CV.frzRow (Net.row x0)))]⟩ ?_
 cases h1 : (!r1)
 ·have H := zG h1 H
  refine lA 2 ?_
  refine kF x0.Said Say.row ?_
  refine uA 2 2097158 2 ?_
  obtain ⟨h2,H⟩ | ⟨h2,H⟩ := bC H
  ·refine nA h2 ?_
   refine tK ?_
   refine tS ?_
   refine rA 2 ?_
   refine kF x0.Bs zA.row ?_
   refine uA 1 58720262 2 ?_
   obtain ⟨o9,eo9,Ho9⟩ := bs H
   clear H
   refine Tr.mid (ι := Unit) (fun v => ⟨92,0,[sB 2 false,sA 1 1 3 0],[(1,(CV.frzRow (Net.row x0)))]⟩) (fun v => YY n x0 = some r) ?_ ?_
   ·refine tB ?_
    refine Tr.loop (ι := Nat × (Int)) (fun v => ⟨92,0,[sI 25 v.2,sI 24 (x0.Bs.length : Int),sC 23 (cF 11 x0.Bs zA.row),sB 2 false,sA 1 1 3 0],[(1,(CV.frzRow (Net.row x0)))]⟩) (fun v => z7 n v.1 x0 v.2 = some o9) (fun v => v.1) (n,0) eo9 (St.sub_of [25,24,23,2,1] [1] kr) ?_
    rintro ⟨mo9,y2⟩ H
    have H : z7 n mo9 x0 y2 = some o9 := H
    obtain _ | mo9 := mo9
    ·exact nN H
    rw [z7] at H
    refine gA 1 125829126 2 ?_
    refine tS ?_
    obtain ⟨h6,H⟩ | ⟨h6,H⟩ := bC H
    ·refine nA h6 ?_
     refine Tr.exit ?_
     refine And.intro (fun _ => ?_) (fun h => absurd rfl h)
     obtain rfl := si H
     have H := Ho9
     dsimp only at H
     exact jA () H [2,1] [1]
    refine tA h6 ?_
    refine tK ?_
    refine tS ?_
    refine tB ?_
    refine rA 1 ?_
    obtain ⟨v10,ev10,H⟩ := bs H
    refine iA zA.row ev10 ?_
    refine uA 4 1065353246 18 ?_
    refine tS ?_
    refine rA 1 ?_
    obtain ⟨r11,er11,H⟩ := bs H
    refine vA [.rd] (zDA n v10 r11 er11) ?_
    refine uA 1 8581546014 18 ?_
    obtain ⟨h7,H⟩ | ⟨h7,H⟩ := bC H
    ·refine nA h7 ?_
     refine tK ?_
     refine tS ?_
     refine rA 3 ?_
     obtain ⟨hg12,H⟩ := gs H
     refine LAt.cutG tOk (t := 63) (ty := 63) (e := 41) (x := (.tmp 34)) (lo := none) (hi := (some (.tmp 35))) (d := 36) (g := none) (tI 41) zA.row x0.Bs ⟨(.slot 34),[],0,false,11,(CV.frzEs (x0.Bs.map zA.row))⟩ 0 y2 kr kr kr kr kr kr rfl kr rfl kr kr hg12 ?_
     refine kF ((x0.Bs.drop ((0 : Int)).toNat).take (((y2 : Int)).toNat - ((0 : Int)).toNat)) zA.row ?_
     refine uA 1 549747425310 18 ?_
     refine sT ⟨92,0,[sI 38 0,sI 37 (((x0.Bs.drop ((0 : Int)).toNat).take (((y2 : Int)).toNat - ((0 : Int)).toNat)).length : Int),sC 36 (cF 11 ((x0.Bs.drop ((0 : Int)).toNat).take (((y2 : Int)).toNat - ((0 : Int)).toNat)) zA.row),sI 35 y2,sC 34 (cF 11 x0.Bs zA.row),sA 33 1 3 0,sB 32 (!r11),sB 31 r11,sV 30 (CV.frzRow (zA.row v10)),sI 3 y2,sA 4 4 11 0,sV 29 (CV.frzRow (zA.row v10)),(28,.fad ((CV.frzRow (zA.row v10)))),sI 27 y2,sB 26 (decide (y2 < (x0.Bs.length : Int))),sI 25 y2,sI 24 (x0.Bs.length : Int),sC 23 (cF 11 x0.Bs zA.row),sB 2 false,sA 1 1 3 0],[(4,(CV.frzRow (zA.row v10))),(1,(CV.frzRow (Net.row x0)))]⟩ ?_
     rw [h6]
     rw [h7]
     obtain ⟨o20,eo20,Ho20⟩ := bs H
     clear H
     refine Tr.mid (ι := Int) (fun v => ⟨92,0,[sB 39 false,sI 38 v,sI 37 (((x0.Bs.drop ((0 : Int)).toNat).take (((y2 : Int)).toNat - ((0 : Int)).toNat)).length : Int),sC 36 (cF 11 ((x0.Bs.drop ((0 : Int)).toNat).take (((y2 : Int)).toNat - ((0 : Int)).toNat)) zA.row),sI 35 y2,sC 34 (cF 11 x0.Bs zA.row),sA 33 1 3 0,sB 32 false,sB 31 r11,sV 30 (CV.frzRow (zA.row v10)),sI 3 y2,sA 4 4 11 0,sV 29 (CV.frzRow (zA.row v10)),(28,.fad ((CV.frzRow (zA.row v10)))),sI 27 y2,sB 26 true,sI 25 y2,sI 24 (x0.Bs.length : Int),sC 23 (cF 11 x0.Bs zA.row),sB 2 false,sA 1 1 3 0],[(4,(CV.frzRow (zA.row v10))),(1,(CV.frzRow (Net.row x0)))]⟩) (fun v => Js n (fun v => z7 n mo9 x0 v) v10 x0 y2 v = some o9) ?_ ?_
     ·refine tB ?_
      refine Tr.loop (ι := Nat × (Int)) (fun v => ⟨92,0,[sI 38 v.2,sI 37 (((x0.Bs.drop ((0 : Int)).toNat).take (((y2 : Int)).toNat - ((0 : Int)).toNat)).length : Int),sC 36 (cF 11 ((x0.Bs.drop ((0 : Int)).toNat).take (((y2 : Int)).toNat - ((0 : Int)).toNat)) zA.row),sI 35 y2,sC 34 (cF 11 x0.Bs zA.row),sA 33 1 3 0,sB 32 false,sB 31 r11,sV 30 (CV.frzRow (zA.row v10)),sI 3 y2,sA 4 4 11 0,sV 29 (CV.frzRow (zA.row v10)),(28,.fad ((CV.frzRow (zA.row v10)))),sI 27 y2,sB 26 true,sI 25 y2,sI 24 (x0.Bs.length : Int),sC 23 (cF 11 x0.Bs zA.row),sB 2 false,sA 1 1 3 0],[(4,(CV.frzRow (zA.row v10))),(1,(CV.frzRow (Net.row x0)))]⟩) (fun v => ZT n v.1 v10 x0 y2 v.2 = some o20) (fun v => v.1) (n,0) eo20 (St.sub_of [38,37,36,35,34,33,32,31,30,3,4,29,28,27,26,25,24,23,2,1] [4,1] kr) ?_
      rintro ⟨mo20,y13⟩ H
      have H : ZT n mo20 v10 x0 y2 y13 = some o20 := H
      obtain _ | mo20 := mo20
      ·exact nN H
      rw [ZT] at H
      refine gA 1 0xffff80001e 18 ?_
      refine tS ?_
      obtain ⟨h11,H⟩ | ⟨h11,H⟩ := bC H
      ·refine nA h11 ?_
       refine Tr.exit ?_
       refine And.intro (fun _ => ?_) (fun h => absurd rfl h)
       obtain rfl := si H
       have H := Ho20
       dsimp only at H
       refine sB' 0xffff80001e 18 ⟨92,0,[sB 39 (decide (y13 < (((x0.Bs.drop ((0 : Int)).toNat).take (((y2 : Int)).toNat - ((0 : Int)).toNat)).length : Int))),sI 38 y13,sI 37 (((x0.Bs.drop ((0 : Int)).toNat).take (((y2 : Int)).toNat - ((0 : Int)).toNat)).length : Int),sC 36 (cF 11 ((x0.Bs.drop ((0 : Int)).toNat).take (((y2 : Int)).toNat - ((0 : Int)).toNat)) zA.row),sI 35 y2,sC 34 (cF 11 x0.Bs zA.row),sA 33 1 3 0,sB 32 false,sB 31 r11,sV 30 (CV.frzRow (zA.row v10)),sI 3 y2,sA 4 4 11 0,sV 29 (CV.frzRow (zA.row v10)),(28,.fad ((CV.frzRow (zA.row v10)))),sI 27 y2,sB 26 true,sI 25 y2,sI 24 (x0.Bs.length : Int),sC 23 (cF 11 x0.Bs zA.row),sB 2 false,sA 1 1 3 0],[(4,(CV.frzRow (zA.row v10))),(1,(CV.frzRow (Net.row x0)))]⟩ ?_
       rw [h11]
       exact jA y13 H [39,38,37,36,35,34,33,32,31,30,3,4,29,28,27,26,25,24,23,2,1] [4,1]
      refine tA h11 ?_
      refine tK ?_
      refine tS ?_
      refine tB ?_
      refine tR ?_
      obtain ⟨v21,ev21,H⟩ := bs H
      refine iA zA.row ev21 ?_
      refine uA 3 4398038122590 82 ?_
      refine gA 5 0x7fffff80005e 82 ?_
      obtain ⟨h12,H⟩ | ⟨h12,H⟩ := bC H
      ·refine nA h12 ?_
       refine tK ?_
       refine eA 2 0xffffff80005e 82 ?_
       exact jB mo20 (IntKind.wrap .i64 (y13 + 1)) H [38,37,36,35,34,33,32,31,30,3,4,29,28,27,26,25,24,23,2,1] [4,1]
      refine tA h12 ?_
      refine gA 1 0x7fffff80005e 82 ?_
      refine te ?_
      obtain rfl := si H
      have H := Ho20
      dsimp only at H
      obtain rfl := si H
      have H := Ho9
      dsimp only at H
      obtain rfl := si H
      exact fP [(false,[cB false])]
     rintro y14 H
     have H : (Js n (fun v => z7 n mo9 x0 v) v10 x0 y2 y14) = some o9 := H
     unfold Js at H
     refine rA 2 ?_
     refine kF v10.Ps Pt.row ?_
     refine uA 1 0xf00ffff80001e 18 ?_
     obtain ⟨o17,eo17,Ho17⟩ := bs H
     clear H
     refine Tr.mid (ι := Int) (fun v => ⟨92,0,[sB 52 false,sI 51 v,sI 50 (v10.Ps.length : Int),sC 49 (cF 8 v10.Ps Pt.row),sA 48 4 11 2,sB 39 false,sI 38 y14,sI 37 (((x0.Bs.drop ((0 : Int)).toNat).take (((y2 : Int)).toNat - ((0 : Int)).toNat)).length : Int),sC 36 (cF 11 ((x0.Bs.drop ((0 : Int)).toNat).take (((y2 : Int)).toNat - ((0 : Int)).toNat)) zA.row),sI 35 y2,sC 34 (cF 11 x0.Bs zA.row),sA 33 1 3 0,sB 32 false,sB 31 r11,sV 30 (CV.frzRow (zA.row v10)),sI 3 y2,sA 4 4 11 0,sV 29 (CV.frzRow (zA.row v10)),(28,.fad ((CV.frzRow (zA.row v10)))),sI 27 y2,sB 26 true,sI 25 y2,sI 24 (x0.Bs.length : Int),sC 23 (cF 11 x0.Bs zA.row),sB 2 false,sA 1 1 3 0],[(4,(CV.frzRow (zA.row v10))),(1,(CV.frzRow (Net.row x0)))]⟩) (fun v => Jt n (fun v => z7 n mo9 x0 v) y2 v = some o9) ?_ ?_
     ·refine tB ?_
      refine Tr.loop (ι := Nat × (Int)) (fun v => ⟨92,0,[sI 51 v.2,sI 50 (v10.Ps.length : Int),sC 49 (cF 8 v10.Ps Pt.row),sA 48 4 11 2,sB 39 false,sI 38 y14,sI 37 (((x0.Bs.drop ((0 : Int)).toNat).take (((y2 : Int)).toNat - ((0 : Int)).toNat)).length : Int),sC 36 (cF 11 ((x0.Bs.drop ((0 : Int)).toNat).take (((y2 : Int)).toNat - ((0 : Int)).toNat)) zA.row),sI 35 y2,sC 34 (cF 11 x0.Bs zA.row),sA 33 1 3 0,sB 32 false,sB 31 r11,sV 30 (CV.frzRow (zA.row v10)),sI 3 y2,sA 4 4 11 0,sV 29 (CV.frzRow (zA.row v10)),(28,.fad ((CV.frzRow (zA.row v10)))),sI 27 y2,sB 26 true,sI 25 y2,sI 24 (x0.Bs.length : Int),sC 23 (cF 11 x0.Bs zA.row),sB 2 false,sA 1 1 3 0],[(4,(CV.frzRow (zA.row v10))),(1,(CV.frzRow (Net.row x0)))]⟩) (fun v => ZC n v.1 v10 x0 y2 v.2 = some o17) (fun v => v.1) (n,0) eo17 (St.sub_of [51,50,49,48,39,38,37,36,35,34,33,32,31,30,3,4,29,28,27,26,25,24,23,2,1] [4,1] kr) ?_
      rintro ⟨mo17,y15⟩ H
      have H : ZC n mo17 v10 x0 y2 y15 = some o17 := H
      obtain _ | mo17 := mo17
      ·exact nN H
      rw [ZC] at H
      refine gA 1 8726823781269534 18 ?_
      refine tS ?_
      obtain ⟨h8,H⟩ | ⟨h8,H⟩ := bC H
      ·refine nA h8 ?_
       refine Tr.exit ?_
       refine And.intro (fun _ => ?_) (fun h => absurd rfl h)
       obtain rfl := si H
       have H := Ho17
       dsimp only at H
       refine sB' 8726823781269534 18 ⟨92,0,[sB 52 (decide (y15 < (v10.Ps.length : Int))),sI 51 y15,sI 50 (v10.Ps.length : Int),sC 49 (cF 8 v10.Ps Pt.row),sA 48 4 11 2,sB 39 false,sI 38 y14,sI 37 (((x0.Bs.drop ((0 : Int)).toNat).take (((y2 : Int)).toNat - ((0 : Int)).toNat)).length : Int),sC 36 (cF 11 ((x0.Bs.drop ((0 : Int)).toNat).take (((y2 : Int)).toNat - ((0 : Int)).toNat)) zA.row),sI 35 y2,sC 34 (cF 11 x0.Bs zA.row),sA 33 1 3 0,sB 32 false,sB 31 r11,sV 30 (CV.frzRow (zA.row v10)),sI 3 y2,sA 4 4 11 0,sV 29 (CV.frzRow (zA.row v10)),(28,.fad ((CV.frzRow (zA.row v10)))),sI 27 y2,sB 26 true,sI 25 y2,sI 24 (x0.Bs.length : Int),sC 23 (cF 11 x0.Bs zA.row),sB 2 false,sA 1 1 3 0],[(4,(CV.frzRow (zA.row v10))),(1,(CV.frzRow (Net.row x0)))]⟩ ?_
       rw [h8]
       exact jA y15 H [52,51,50,49,48,39,38,37,36,35,34,33,32,31,30,3,4,29,28,27,26,25,24,23,2,1] [4,1]
      refine tA h8 ?_
      refine tK ?_
      refine tS ?_
      refine tB ?_
      refine rA 1 ?_
      obtain ⟨v18,ev18,H⟩ := bs H
      refine iA Pt.row ev18 ?_
      refine uA 4 0xff00ffff80019e 274 ?_
      refine rA 3 ?_
      refine sL 0x7ff00ffff80019e 274 ⟨92,0,[sB 58 v18.Has,sB 57 v18.Has,sA 56 8 8 2,sI 7 y15,sA 8 8 8 0,sV 55 (Pt.row v18),(54,.fad ((Pt.row v18))),sI 53 y15,sB 52 (decide (y15 < (v10.Ps.length : Int))),sI 51 y15,sI 50 (v10.Ps.length : Int),sC 49 (cF 8 v10.Ps Pt.row),sA 48 4 11 2,sB 39 false,sI 38 y14,sI 37 (((x0.Bs.drop ((0 : Int)).toNat).take (((y2 : Int)).toNat - ((0 : Int)).toNat)).length : Int),sC 36 (cF 11 ((x0.Bs.drop ((0 : Int)).toNat).take (((y2 : Int)).toNat - ((0 : Int)).toNat)) zA.row),sI 35 y2,sC 34 (cF 11 x0.Bs zA.row),sA 33 1 3 0,sB 32 false,sB 31 r11,sV 30 (CV.frzRow (zA.row v10)),sI 3 y2,sA 4 4 11 0,sV 29 (CV.frzRow (zA.row v10)),(28,.fad ((CV.frzRow (zA.row v10)))),sI 27 y2,sB 26 true,sI 25 y2,sI 24 (x0.Bs.length : Int),sC 23 (cF 11 x0.Bs zA.row),sB 2 false,sA 1 1 3 0],[(8,(Pt.row v18)),(4,(CV.frzRow (zA.row v10))),(1,(CV.frzRow (Net.row x0)))]⟩ ?_
      cases h9 : v18.Has
      ·have H := zG h9 H
       refine uA 7 0x3ffff00ffff80019e 274 ?_
       refine nB_ ?_
       refine tK ?_
       refine eA 2 0x7ffff00ffff80019e 274 ?_
       exact jB mo17 (IntKind.wrap .i64 (y15 + 1)) H [51,50,49,48,39,38,37,36,35,34,33,32,31,30,3,4,29,28,27,26,25,24,23,2,1] [4,1]
      have H := zH h9 H
      refine lA 4 ?_
      obtain ⟨r19,er19,H⟩ := bs H
      refine vA [.rd,.rd,.rd] (zD9 n x0.Ls y2 y15 r19 er19) ?_
      refine uA 2 0x3ffff00ffff80019e 274 ?_
      obtain ⟨h10,H⟩ | ⟨h10,H⟩ := bC H
      ·refine nA h10 ?_
       refine tK ?_
       refine eA 2 0x7ffff00ffff80019e 274 ?_
       exact jB mo17 (IntKind.wrap .i64 (y15 + 1)) H [51,50,49,48,39,38,37,36,35,34,33,32,31,30,3,4,29,28,27,26,25,24,23,2,1] [4,1]
      refine tA h10 ?_
      refine gA 1 0x3ffff00ffff80019e 274 ?_
      refine te ?_
      obtain rfl := si H
      have H := Ho17
      dsimp only at H
      obtain rfl := si H
      have H := Ho9
      dsimp only at H
      obtain rfl := si H
      exact fP [(false,[cB false])]
     rintro y16 H
     have H : (Jt n (fun v => z7 n mo9 x0 v) y2 y16) = some o9 := H
     unfold Jt at H
     refine eA 2 0x8001f00ffff80001e 18 ?_
     exact jB mo9 (IntKind.wrap .i64 (y2 + 1)) H [25,24,23,2,1] [1]
    refine tA h7 ?_
    refine gA 1 8581546014 18 ?_
    refine te ?_
    obtain rfl := si H
    have H := Ho9
    dsimp only at H
    obtain rfl := si H
    exact fP [(false,[cB false])]
   rintro _ H
   have H : (YY n x0) = some r := H
   unfold YY at H
   refine tS ?_
   refine rA 2 ?_
   refine kF x0.Said Say.row ?_
   refine uA 1 0xe00000000000000006 2 ?_
   obtain ⟨o5,eo5,Ho5⟩ := bs H
   clear H
   refine Tr.mid (ι := Unit) (fun v => ⟨92,0,[sB 2 false,sA 1 1 3 0],[(1,(CV.frzRow (Net.row x0)))]⟩) (fun v => Jr n x0 = some r) ?_ ?_
   ·refine tB ?_
    refine Tr.loop (ι := Nat × (Int)) (fun v => ⟨92,0,[sI 71 v.2,sI 70 (x0.Said.length : Int),sC 69 (cF 7 x0.Said Say.row),sB 2 false,sA 1 1 3 0],[(1,(CV.frzRow (Net.row x0)))]⟩) (fun v => qy n v.1 x0 v.2 = some o5) (fun v => v.1) (n,0) eo5 (St.sub_of [71,70,69,2,1] [1] kr) ?_
    rintro ⟨mo5,y3⟩ H
    have H : qy n mo5 x0 y3 = some o5 := H
    obtain _ | mo5 := mo5
    ·exact nN H
    rw [qy] at H
    refine gA 1 0x1e00000000000000006 2 ?_
    refine tS ?_
    obtain ⟨h3,H⟩ | ⟨h3,H⟩ := bC H
    ·refine nA h3 ?_
     refine Tr.exit ?_
     refine And.intro (fun _ => ?_) (fun h => absurd rfl h)
     obtain rfl := si H
     have H := Ho5
     dsimp only at H
     exact jA () H [2,1] [1]
    refine tA h3 ?_
    refine tK ?_
    refine tS ?_
    refine tB ?_
    refine tR ?_
    obtain ⟨v6,ev6,H⟩ := bs H
    refine iA Say.row ev6 ?_
    refine uA 3 0x7e00000000000000406 1026 ?_
    refine rA 4 ?_
    refine kF x0.Ls Link.row ?_
    refine lA 1 ?_
    obtain ⟨r7,er7,H⟩ := bs H
    refine vA [.rd,.rd,.rd] (z3 n v6.Link 0 (IntKind.wrap .i64 ((x0.Ls.length : Int) - 1)) r7 er7) ?_
    refine lA 2 ?_
    refine sL 0xfffe00000000000000406 1026 ⟨92,0,[sB 83 (!r7),sB 82 (!r7),sB 81 r7,sI 80 (IntKind.wrap .i64 ((x0.Ls.length : Int) - 1)),sI 79 (x0.Ls.length : Int),sC 78 (cF 4 x0.Ls Link.row),sA 77 1 3 1,sI 76 v6.Link,sA 75 10 7 0,sA 10 10 7 0,sV 74 (Say.row v6),(73,.fad ((Say.row v6))),sB 72 (decide (y3 < (x0.Said.length : Int))),sI 71 y3,sI 70 (x0.Said.length : Int),sC 69 (cF 7 x0.Said Say.row),sB 2 false,sA 1 1 3 0],[(10,(Say.row v6)),(1,(CV.frzRow (Net.row x0)))]⟩ ?_
    cases h4 : (!r7)
    ·have H := zG h4 H
     refine lA 2 ?_
     obtain ⟨r8,er8,H⟩ := bs H
     refine vA [.rd] (zB0 n v6.V r8 er8) ?_
     refine uA 2 0x1ffffe00000000000000406 1026 ?_
     obtain ⟨h5,H⟩ | ⟨h5,H⟩ := bC H
     ·refine nA h5 ?_
      refine tK ?_
      refine eA 2 0x3ffffe00000000000000406 1026 ?_
      exact jB mo5 (IntKind.wrap .i64 (y3 + 1)) H [71,70,69,2,1] [1]
     refine tA h5 ?_
     refine gA 1 0x1ffffe00000000000000406 1026 ?_
     refine te ?_
     obtain rfl := si H
     have H := Ho5
     dsimp only at H
     obtain rfl := si H
     exact fP [(false,[cB false])]
    have H := zH h4 H
    refine uA 5 0x1ffffe00000000000000406 1026 ?_
    refine tB_ ?_
    refine gA 1 0x1ffffe00000000000000406 1026 ?_
    refine te ?_
    obtain rfl := si H
    have H := Ho5
    dsimp only at H
    obtain rfl := si H
    exact fP [(false,[cB false])]
   rintro _ H
   have H : (Jr n x0) = some r := H
   unfold Jr at H
   refine rA 1 ?_
   obtain ⟨r4,er4,H⟩ := bs H
   refine vA [.rd] (zKD n x0 r4 er4) ?_
   refine uA 1 4 0 ?_
   exact te (by obtain rfl := si H; exact fP [(false,[cB r4])])
  refine tA h2 ?_
  refine gA 1 6 2 ?_
  exact te (by obtain rfl := si H; exact fP [(false,[cB false])])
 have H := zH h1 H
 refine uA 5 2097158 2 ?_
 refine tB_ ?_
 refine gA 1 6 2 ?_
 exact te (by obtain rfl := si H; exact fP [(false,[cB false])])
def Zr (n : Nat) (x0 : Net) (x1 : Int) : Option (Bool) :=
  ((zw n x1 0 (IntKind.wrap .i64 ((x0.Ls.length : Int) - 1))).bind fun r1 => (bif (!r1) then (some false) else ((idx x0.Ls x1).bind fun v2 => ((idx x0.Ls x1).bind fun v3 => ((Zs n x0 v2.A v3.P).bind fun r4 => ((idx x0.Ls x1).bind fun v5 => ((idx x0.Ls x1).bind fun v6 => ((Zs n x0 v5.B v6.Q).bind fun r7 => (bif r4.2 then (bif r7.2 then (bif r4.1.Up then (some r7.1.Up) else (some false)) else (some false)) else (some false))))))))))
def zOb : Tab := ⟨20,[0,0,2,0,12,16,32,0,128,0,768,1024,2048,4161,8192,16384,16384,0,196607,524287],[0,0,2,0,12,16,32,0,128,0,768,1024,2048,4161,8192,16384,16384,0,163840,65536],[0,0,2,0,14,30,62,0,128,0,896,1920,3968,8191,16383,32767,32767,0,196607,524287]⟩
theorem Qi : zf (rg Tryz.f62 3) zOb = true := kr
def zOc : Tab := ⟨20,[0,0,2,0,12,16,32,0,128,0,768,1024,2048,4161,8192,16384,16384,0,196607,524287],[0,0,2,0,12,16,32,0,128,0,768,1024,2048,4161,8192,16384,16384,0,163840,65536],[0,0,2,0,14,30,62,0,128,0,896,1920,3968,8191,16383,32767,32767,0,196607,524287]⟩
theorem Qj : zf (rg Tryz.f62 4) zOc = true := kr
theorem zEL (n : Nat) (x0 : Net) (x1 : Int) (r : Bool) (H : Zr n x0 x1 = some r) : zD Tryz.prog 62 [.val true (CV.frzRow (Net.row x0)),.val false [.lit (.int .i64 x1)]] [.val false [.lit (.bool r)]] [] := by
 refine cA Tryz.func62 (.seq (Rg Tryz.f62 0) (.seq (.seq (Rg Tryz.f62 1) (.cond (.tmp 15) (.seq (Rg Tryz.f62 2) .ret) .skip)) (.seq (Rd Tryz.f62 3) (.seq (Rd Tryz.f62 4) (.seq (Rg Tryz.f62 5) .ret))))) [.tmp 4] fun cx => ?_
 unfold Zr at H
 refine gA 2 6 4 ?_
 refine tS ?_
 refine rA 3 ?_
 refine kF x0.Ls Link.row ?_
 refine lA 1 ?_
 obtain ⟨r1,er1,H⟩ := bs H
 refine vA [.rd,.rd,.rd] (z3 n x1 0 (IntKind.wrap .i64 ((x0.Ls.length : Int) - 1)) r1 er1) ?_
 refine uA 1 32774 4 ?_
 obtain ⟨h1,H⟩ | ⟨h1,H⟩ := bC H
 ·refine nA h1 ?_
  refine tK ?_
  obtain ⟨v2,ev2,H⟩ := bs H
  obtain ⟨v3,ev3,H⟩ := bs H
  obtain ⟨r4,er4,H⟩ := bs H
  refine Tr.draws mixed 20 kr ⟨62,0,[sB 6 r4.2,sA 5 5 8 0,sA 2 2 3 0,sI 1 x1],[(5,(Pt.row r4.1)),(2,(CV.frzRow (Net.row x0)))]⟩ (fun cx => ?_) ?_
  ·refine mA Qi [(0,[13,18]),(1,[]),(2,[13,18]),(3,[])] 16 [⟨[13,18],64,18,19⟩,⟨[13,18],67,2,17⟩] fun cx => ?_
   refine iN Qi 4 Link.row ev2 fun cx => ?_
   refine mA Qi [(5,[]),(6,[]),(7,[]),(8,[13,18]),(9,[])] 10 [⟨[13,18],64,24,25⟩,⟨[13,18],64,18,19⟩,⟨[13,18],67,2,17⟩] fun cx => ?_
   refine iN Qi 10 Link.row ev3 fun cx => ?_
   refine mA Qi [(11,[]),(12,[])] 7 [⟨[13,18],64,24,25⟩,⟨[13,18],64,18,19⟩,⟨[13,18],67,2,17⟩] fun cx => ?_
   refine mB2 tOk Qi 13 17 kr (And.intro kr ?_) (And.intro kr ?_)
   ·refine vA [.rd,.rd,.rd] (J8 n x0 v2.A v3.P r4 er4) ?_
    refine fA ?_
    refine AT.movT tOk 14 (ty := 189) (t := 30) (d := 16) (g := none) [(true,(Pt.row r4.1)),(false,[cB r4.2])] _ kr (oM Qi kr) (dM Qi kr) (.inl rfl) kr kr kr kr rfl (fun cx => ?_)
    refine mA Qi [(15,[]),(16,[])] 3 [⟨[13,18],64,24,25⟩,⟨[13,18],64,18,19⟩,⟨[13,18],67,2,17⟩] fun cx => ?_
    refine mC Qi 17 ?_
    refine lA 1 ?_
    refine fA ?_
    refine mC Qi 18 ?_
    refine lA 1 ?_
    refine fA ?_
    refine mA Qi [(19,[])] 0 [⟨[13,18],64,24,25⟩,⟨[13,18],64,18,19⟩,⟨[13,18],67,2,17⟩] fun cx => ?_
    exact mE Qi [6,5,2,1] [5,2]
   ·refine lA 1 ?_
    refine fA ?_
    refine mC Qi 13 ?_
    refine vA [.rd,.rd,.rd] (J8 n x0 v2.A v3.P r4 er4) ?_
    refine fA ?_
    refine AT.movT tOk 14 (ty := 189) (t := 30) (d := 16) (g := none) [(true,(Pt.row r4.1)),(false,[cB r4.2])] _ kr (oM Qi kr) (dM Qi kr) (.inl rfl) kr kr kr kr rfl (fun cx => ?_)
    refine mA Qi [(15,[]),(16,[])] 2 [⟨[13,18],64,24,25⟩,⟨[13,18],64,18,19⟩,⟨[13,18],67,2,17⟩] fun cx => ?_
    refine mC Qi 18 ?_
    refine lA 1 ?_
    refine fA ?_
    refine mA Qi [(19,[])] 0 [⟨[13,18],64,24,25⟩,⟨[13,18],64,18,19⟩,⟨[13,18],67,2,17⟩] fun cx => ?_
    exact mE Qi [6,5,2,1] [5,2]
  obtain ⟨v5,ev5,H⟩ := bs H
  obtain ⟨v6,ev6,H⟩ := bs H
  obtain ⟨r7,er7,H⟩ := bs H
  refine Tr.draws mixed 20 kr ⟨62,0,[sB 8 r7.2,sA 7 7 8 0,sB 6 r4.2,sA 5 5 8 0],[(7,(Pt.row r7.1)),(5,(Pt.row r4.1))]⟩ (fun cx => ?_) ?_
  ·refine mA Qj [(0,[13,18]),(1,[]),(2,[13,18]),(3,[])] 16 [⟨[13,18],64,35,36⟩,⟨[13,18],67,2,34⟩] fun cx => ?_
   refine iN Qj 4 Link.row ev5 fun cx => ?_
   refine mA Qj [(5,[]),(6,[]),(7,[]),(8,[13,18]),(9,[])] 10 [⟨[13,18],64,41,42⟩,⟨[13,18],64,35,36⟩,⟨[13,18],67,2,34⟩] fun cx => ?_
   refine iN Qj 10 Link.row ev6 fun cx => ?_
   refine mA Qj [(11,[]),(12,[])] 7 [⟨[13,18],64,41,42⟩,⟨[13,18],64,35,36⟩,⟨[13,18],67,2,34⟩] fun cx => ?_
   refine mB2 tOk Qj 13 17 kr (And.intro kr ?_) (And.intro kr ?_)
   ·refine vA [.rd,.rd,.rd] (J8 n x0 v5.B v6.Q r7 er7) ?_
    refine fA ?_
    refine AT.movT tOk 14 (ty := 189) (t := 47) (d := 33) (g := none) [(true,(Pt.row r7.1)),(false,[cB r7.2])] _ kr (oM Qj kr) (dM Qj kr) (.inl rfl) kr kr kr kr rfl (fun cx => ?_)
    refine mA Qj [(15,[]),(16,[])] 3 [⟨[13,18],64,41,42⟩,⟨[13,18],64,35,36⟩,⟨[13,18],67,2,34⟩] fun cx => ?_
    refine mC Qj 17 ?_
    refine lA 1 ?_
    refine fA ?_
    refine mC Qj 18 ?_
    refine lA 1 ?_
    refine fA ?_
    refine mA Qj [(19,[])] 0 [⟨[13,18],64,41,42⟩,⟨[13,18],64,35,36⟩,⟨[13,18],67,2,34⟩] fun cx => ?_
    exact mE Qj [8,7,6,5] [7,5]
   ·refine lA 1 ?_
    refine fA ?_
    refine mC Qj 13 ?_
    refine vA [.rd,.rd,.rd] (J8 n x0 v5.B v6.Q r7 er7) ?_
    refine fA ?_
    refine AT.movT tOk 14 (ty := 189) (t := 47) (d := 33) (g := none) [(true,(Pt.row r7.1)),(false,[cB r7.2])] _ kr (oM Qj kr) (dM Qj kr) (.inl rfl) kr kr kr kr rfl (fun cx => ?_)
    refine mA Qj [(15,[]),(16,[])] 2 [⟨[13,18],64,41,42⟩,⟨[13,18],64,35,36⟩,⟨[13,18],67,2,34⟩] fun cx => ?_
    refine mC Qj 18 ?_
    refine lA 1 ?_
    refine fA ?_
    refine mA Qj [(19,[])] 0 [⟨[13,18],64,41,42⟩,⟨[13,18],64,35,36⟩,⟨[13,18],67,2,34⟩] fun cx => ?_
    exact mE Qj [8,7,6,5] [7,5]
  refine rA 2 ?_
  refine sL 0x80000000001a0 160 ⟨62,0,[sB 51 r4.2,sB 8 r7.2,sA 7 7 8 0,sA 5 5 8 0],[(7,(Pt.row r7.1)),(5,(Pt.row r4.1))]⟩ ?_
  cases h2 : r4.2
  ·have H := zG h2 H
   refine uA 11 16 0 ?_
   exact te (by obtain rfl := si H; exact fP [(false,[cB false])])
  have H := zH h2 H
  refine lA 3 ?_
  refine sL 0x400000000000a0 160 ⟨62,0,[sB 54 r7.2,sA 7 7 8 0,sA 5 5 8 0],[(7,(Pt.row r7.1)),(5,(Pt.row r4.1))]⟩ ?_
  cases h3 : r7.2
  ·have H := zG h3 H
   refine uA 8 16 0 ?_
   exact te (by obtain rfl := si H; exact fP [(false,[cB false])])
  have H := zH h3 H
  refine lA 4 ?_
  refine sL 0x400000000000080 128 ⟨62,0,[sB 58 r4.1.Up,sA 7 7 8 0],[(7,(Pt.row r7.1))]⟩ ?_
  cases h4 : r4.1.Up
  ·have H := zG h4 H
   refine uA 4 16 0 ?_
   exact te (by obtain rfl := si H; exact fP [(false,[cB false])])
  have H := zH h4 H
  refine uA 4 16 0 ?_
  exact te (by obtain rfl := si H; exact fP [(false,[cB r7.1.Up])])
 refine tA h1 ?_
 refine gA 1 16 0 ?_
 exact te (by obtain rfl := si H; exact fP [(false,[cB false])])
def zBZ (n : Nat) (x0 : Vec) (x1 : Int) : Option (Vec × Bool) :=
  ((Q3 n x0).bind fun r1 => (bif (!r1) then (some (x0,false)) else ((zw n x1 1 1000).bind fun r2 => (bif (!r2) then (some (x0,false)) else ((Q3 n (⟨x0.Root,(IntKind.wrap .i64 (x0.Co + x1)),(IntKind.wrap .i64 (x0.Hops + 1)),x0.Bridge,x0.Port⟩ : Vec)).bind fun r3 => (bif (!r3) then (some (x0,false)) else (some ((⟨x0.Root,(IntKind.wrap .i64 (x0.Co + x1)),(IntKind.wrap .i64 (x0.Hops + 1)),x0.Bridge,x0.Port⟩ : Vec),true))))))))
theorem zJ9 (n : Nat) (x0 : Vec) (x1 : Int) (r : Vec × Bool) (H : zBZ n x0 x1 = some r) : zD Tryz.prog 249 [.val true (CV.frzRow (Vec.row x0)),.val false [.lit (.int .i64 x1)]] [.val true (Vec.row r.1),.val false [.lit (.bool r.2)]] [] := by
 refine cA Tryz.func249 (.seq (Rg Tryz.f249 0) (.seq (.seq (Rg Tryz.f249 1) (.cond (.tmp 14) (.seq (Rg Tryz.f249 2) .ret) .skip)) (.seq (Rg Tryz.f249 3) (.seq (Rg Tryz.f249 4) (.seq (Rg Tryz.f249 5) (.seq (.seq (Rg Tryz.f249 6) (.cond (.tmp 28) (.seq (Rg Tryz.f249 7) .ret) .skip)) (.seq (Rg Tryz.f249 8) .ret))))))) [.cell 4 165,.tmp 5] fun cx => ?_
 unfold zBZ at H
 refine gA 3 22 20 ?_
 refine tS ?_
 refine rA 1 ?_
 obtain ⟨r1,er1,H⟩ := bs H
 refine vA [.rd] (zB0 n x0 r1 er1) ?_
 refine lA 2 ?_
 refine sL 1046 20 ⟨31,0,[sB 10 (!r1),sA 4 4 5 0,sA 2 2 5 0,sI 1 x1],[(4,[cI 0,cI 0,cI 0,cI 0,cI 0]),(2,(Vec.row x0))]⟩ ?_
 cases h1 : (!r1)
 ·have H := zG h1 H
  refine lA 1 ?_
  obtain ⟨r2,er2,H⟩ := bs H
  refine vA [.rd,.rd,.rd] (z3 n x1 1 1000 r2 er2) ?_
  refine uA 2 16406 20 ?_
  obtain ⟨h2,H⟩ | ⟨h2,H⟩ := bC H
  ·refine nA h2 ?_
   refine tK ?_
   refine gA 3 86 84 ?_
   refine gA 6 84 84 ?_
   refine gA 5 84 84 ?_
   refine tS ?_
   refine rA 1 ?_
   obtain ⟨r3,er3,H⟩ := bs H
   refine vA [.rd] (zB0 n (⟨x0.Root,(IntKind.wrap .i64 (x0.Co + x1)),(IntKind.wrap .i64 (x0.Hops + 1)),x0.Bridge,x0.Port⟩ : Vec) r3 er3) ?_
   refine uA 1 268435540 84 ?_
   obtain ⟨h3,H⟩ | ⟨h3,H⟩ := bC H
   ·refine nA h3 ?_
    refine tK ?_
    refine gA 3 48 16 ?_
    exact te (by obtain rfl := si H; exact fP [(true,[cI x0.Root,cI (IntKind.wrap .i64 (x0.Co + x1)),cI (IntKind.wrap .i64 (x0.Hops + 1)),cI x0.Bridge,cI x0.Port]),(false,[cB true])])
   refine tA h3 ?_
   refine gA 3 48 16 ?_
   exact te (by obtain rfl := si H; exact fP [(true,(Vec.row x0)),(false,[cB false])])
  refine tA h2 ?_
  refine gA 3 48 16 ?_
  exact te (by obtain rfl := si H; exact fP [(true,(Vec.row x0)),(false,[cB false])])
 have H := zH h1 H
 refine uA 4 16406 20 ?_
 refine tB_ ?_
 refine gA 3 48 16 ?_
 exact te (by obtain rfl := si H; exact fP [(true,(Vec.row x0)),(false,[cB false])])
def Jq (n : Nat) (x0 : Vec) (x1 : Vec) : Option (Bool) :=
  (bif (x0.Root != x1.Root) then (some (decide (x0.Root < x1.Root))) else (bif (x0.Co != x1.Co) then (some (decide (x0.Co < x1.Co))) else (bif (x0.Bridge != x1.Bridge) then (some (decide (x0.Bridge < x1.Bridge))) else (some (decide (x0.Port < x1.Port))))))
theorem zFa (n : Nat) (x0 : Vec) (x1 : Vec) (r : Bool) (H : Jq n x0 x1 = some r) : zD Tryz.prog 218 [.val true (CV.frzRow (Vec.row x0)),.val true (CV.frzRow (Vec.row x1))] [.val false [.lit (.bool r)]] [] := by
 refine cA Tryz.func218 (.seq (Rg Tryz.f218 0) (.seq (.block 0 (.seq (Rg Tryz.f218 1) (.cond (.tmp 5) (.seq (Rg Tryz.f218 2) .ret) (.seq (Rg Tryz.f218 3) (.cond (.tmp 16) (.seq (Rg Tryz.f218 4) .ret) (.seq (Rg Tryz.f218 5) (.cond (.tmp 27) (.seq (Rg Tryz.f218 6) .ret) .skip))))))) (.seq (Rg Tryz.f218 7) .ret))) [.tmp 4] fun cx => ?_
 unfold Jq at H
 refine gA 3 12 12 ?_
 refine tS ?_
 refine tB ?_
 refine gA 6 44 12 ?_
 obtain ⟨h1,H⟩ | ⟨h1,H⟩ := bC H
 ·refine nA h1 ?_
  refine gA 6 65548 12 ?_
  obtain ⟨h2,H⟩ | ⟨h2,H⟩ := bC H
  ·refine nA h2 ?_
   refine gA 6 134217740 12 ?_
   obtain ⟨h3,H⟩ | ⟨h3,H⟩ := bC H
   ·refine nA h3 ?_
    refine tK ?_
    refine gA 6 16 0 ?_
    exact te (by obtain rfl := si H; exact fP [(false,[cB (decide (x0.Port < x1.Port))])])
   refine tA h3 ?_
   refine gA 6 16 0 ?_
   exact te (by obtain rfl := si H; exact fP [(false,[cB (decide (x0.Bridge < x1.Bridge))])])
  refine tA h2 ?_
  refine gA 6 16 0 ?_
  exact te (by obtain rfl := si H; exact fP [(false,[cB (decide (x0.Co < x1.Co))])])
 refine tA h1 ?_
 refine gA 6 16 0 ?_
 exact te (by obtain rfl := si H; exact fP [(false,[cB (decide (x0.Root < x1.Root))])])
end Go.Proofs.YtcegokjpmppdbaaGreat.Tw
