import Derived.Test.YtcegokjpmppdbaaProg
import Derived.Test.YtcegokjpmppdbaaTlRule
import Derived.Test.YtcegokjpmppdbaaTlU12
import Derived.Test.YtcegokjpmppdbaaTwAN1
import Derived.WalkKit
set_option linter.unusedVariables false
set_option linter.unusedSimpArgs false
set_option maxRecDepth 100000
set_option maxHeartbeats 1000000
namespace Go.Proofs.Ytcegokjpmppdbaa.Tw
open Go Go.TL Go.Proofs
def YW (n : Nat) (y3 : Int) : Option (Int) :=
  (some y3)
def qo (n : Nat) : Nat → (List Out) → Int → Int → Option ((Int) ⊕ (Int))
  | 0,_,_,_ => none
  | mo4 + 1,x0,y1,y2 => (bif (decide (y1 < (x0.length : Int))) then ((idx x0 y1).bind fun v5 => ((zt n v5.Port 0 62).bind fun r6 => (bif r6 then (bif (decide ((0 : Int) ≤ v5.Port)) then (qo n mo4 x0 (IntKind.wrap .i64 (y1 + 1)) (IntKind.wrap .i64 (BitVec.ofInt (IntKind.bits .i64) y2 ||| BitVec.ofInt (IntKind.bits .i64) (IntKind.wrap .i64 (1 * 2 ^ min ((v5.Port : Int)).toNat (IntKind.bits .i64)))).toNat)) else none) else (qo n mo4 x0 (IntKind.wrap .i64 (y1 + 1)) y2)))) else (some (Sum.inl y2)))
def QD (n : Nat) (x0 : (List Out)) : Option (Int) :=
  ((qo n n x0 0 0).bind fun o => match o with | .inl y3 => (YW n y3) | .inr r => some r)
theorem zBG (n : Nat) (x0 : (List Out)) (r : Int) (H : QD n x0 = some r) : zG Try.prog 24 [.val false [.sl false 5 (CV.frzEs (x0.map Out.row))]] [.val false [.lit (.int .i64 r)]] [] := by
 refine cW Try.func24 (fun g d => sl [g 0,g 1,sl [g 2] (.block 0 (.loop (sl [g 3,cn 9 .skip (.exit 0),.block 1 (sl [g 4,g 5] (cn 14 (g 6) .skip))] (g 7)))),g 8] .ret) [.tmp 2] fun cx => ?_
 unfold QD at H
 refine gA 1 1 0 ?_
 refine gA 1 9 0 ?_
 refine tS ?_
 refine rA 1 ?_
 refine kF x0 Out.row ?_
 refine uA 1 456 0 ?_
 obtain ⟨o4,eo4,Ho4⟩ := bs H
 clear H
 refine Tr.mid (ι := Int) (fun v => ⟨22,0,[sI 3 v],[]⟩) (fun v => YW n v = some r) ?_ ?_
 ·refine tB ?_
  refine Tr.loop (ι := Nat × (Int × Int)) (fun v => ⟨22,0,[sI 8 v.2.1,sI 7 (x0.length : Int),sC 6 (cF 5 x0 Out.row),sI 3 v.2.2],[]⟩) (fun v => qo n v.1 x0 v.2.1 v.2.2 = some o4) (fun v => v.1) (n,(0,0)) eo4 (St.sub_of [8,7,6,3] [] kr) ?_
  rintro ⟨mo4,y1,y2⟩ H
  have H : qo n mo4 x0 y1 y2 = some o4 := H
  obtain _ | mo4 := mo4
  ·exact nN H
  rw [qo] at H
  refine gA 1 968 0 ?_
  refine tS ?_
  obtain ⟨h1,H⟩ | ⟨h1,H⟩ := bC H
  ·refine nA h1 ?_
   refine Tr.exit ?_
   refine aJ ?_
   obtain rfl := si H
   have H := Ho4
   dsimp only at H
   exact jA y2 H [3] []
  refine tA h1 ?_
  refine tK ?_
  refine tS ?_
  refine tB ?_
  refine tR ?_
  obtain ⟨v5,ev5,H⟩ := bs H
  refine iA Out.row ev5 ?_
  refine uA 3 488 32 ?_
  refine rA 2 ?_
  obtain ⟨r6,er6,H⟩ := bs H
  refine vA [.rd,.rd,.rd] (zz n v5.Port 0 62 r6 er6) ?_
  refine dA 16872 32 ?_
  cases h2 : r6
  ·have H := zI h2 H
   refine nB_ ?_
   refine tK ?_
   refine eA 2 456 0 ?_
   exact jB mo4 ((IntKind.wrap .i64 (y1 + 1)),y2) H [8,7,6,3] []
  have H := zJ h2 H
  refine tB_ ?_
  refine Tr.at ?_
  refine lA 3 ?_
  obtain ⟨hg7,H⟩ := gs H
  refine LAt.binC tOk (op := .shl) (t := 3) (ty := 3) (ty' := 3) (x := (.const (.int .i64 1))) (y := (.tmp 17)) (d := 18) (g := none) (.int .i64 1) (.int .i64 v5.Port) (.int .i64 (IntKind.wrap .i64 (1 * 2 ^ min ((v5.Port : Int)).toNat (IntKind.bits .i64)))) _ kr kr kr kr kr (φ := (0 : Int) ≤ v5.Port) kr (of_decide_eq_true hg7) rfl ?_
  refine uA 2 456 0 ?_
  refine eA 2 456 0 ?_
  exact jB mo4 ((IntKind.wrap .i64 (y1 + 1)),(IntKind.wrap .i64 (BitVec.ofInt (IntKind.bits .i64) y2 ||| BitVec.ofInt (IntKind.bits .i64) (IntKind.wrap .i64 (1 * 2 ^ min ((v5.Port : Int)).toNat (IntKind.bits .i64)))).toNat)) H [8,7,6,3] []
 rintro y3 H
 have H : (YW n y3) = some r := H
 unfold YW at H
 refine gA 2 4 0 ?_
 exact te (fJ [(false,[cI y3])] H)
def Yb (n : Nat) (y3 : Int) : Option (Int) :=
  (some y3)
def qr (n : Nat) : Nat → (List Out) → Int → Int → Option ((Int) ⊕ (Int))
  | 0,_,_,_ => none
  | mo4 + 1,x0,y1,y2 => (bif (decide (y1 < (x0.length : Int))) then ((idx x0 y1).bind fun v5 => ((zQ n v5.Port 0 7).bind fun r6 => (bif r6 then ((idx x0 y1).bind fun v7 => (bif (decide ((0 : Int) ≤ (IntKind.wrap .u64 v7.Port))) then (qr n mo4 x0 (IntKind.wrap .i64 (y1 + 1)) (IntKind.wrap .i64 (BitVec.ofInt (IntKind.bits .i64) y2 ||| BitVec.ofInt (IntKind.bits .i64) (IntKind.wrap .i64 (1 * 2 ^ min (((IntKind.wrap .u64 v7.Port) : Int)).toNat (IntKind.bits .i64)))).toNat)) else none)) else (qr n mo4 x0 (IntKind.wrap .i64 (y1 + 1)) y2)))) else (some (Sum.inl y2)))
def QG (n : Nat) (x0 : (List Out)) : Option (Int) :=
  ((qr n n x0 0 0).bind fun o => match o with | .inl y3 => (Yb n y3) | .inr r => some r)
theorem zBN (n : Nat) (x0 : (List Out)) (r : Int) (H : QG n x0 = some r) : zG Try.prog 25 [.val false [.sl false 5 (CV.frzEs (x0.map Out.row))]] [.val false [.lit (.int .i64 r)]] [] := by
 refine cW Try.func25 (fun g d => sl [g 0,g 1,sl [g 2] (.block 0 (.loop (sl [sl [g 3] (cn 8 .skip (.exit 0)),.block 1 (sl [g 5] (cn 16 (g 6) .skip))] (g 4)))),g 7] .ret) [.tmp 2] fun cx => ?_
 unfold QG at H
 refine gA 1 1 0 ?_
 refine gA 1 9 0 ?_
 refine tS ?_
 refine gA 1 25 0 ?_
 obtain ⟨o4,eo4,Ho4⟩ := bs H
 clear H
 refine Tr.mid (ι := Int) (fun v => ⟨27,0,[sI 3 v],[]⟩) (fun v => Yb n v = some r) ?_ ?_
 ·refine tB ?_
  refine Tr.loop (ι := Nat × (Int × Int)) (fun v => ⟨27,0,[sI 4 v.2.1,sI 3 v.2.2,sC 0 (cF 5 x0 Out.row)],[]⟩) (fun v => qr n v.1 x0 v.2.1 v.2.2 = some o4) (fun v => v.1) (n,(0,0)) eo4 (St.sub_of [4,3,0] [] kr) ?_
  rintro ⟨mo4,y1,y2⟩ H
  have H : qr n mo4 x0 y1 y2 = some o4 := H
  obtain _ | mo4 := mo4
  ·exact nN H
  rw [qr] at H
  refine tS ?_
  refine rA 2 ?_
  refine kF x0 Out.row ?_
  refine uA 1 281 0 ?_
  obtain ⟨h1,H⟩ | ⟨h1,H⟩ := bC H
  ·refine nA h1 ?_
   refine Tr.exit ?_
   refine aJ ?_
   obtain rfl := si H
   have H := Ho4
   dsimp only at H
   exact jA y2 H [3] []
  refine tA h1 ?_
  refine tK ?_
  refine tS ?_
  refine tB ?_
  refine rA 2 ?_
  obtain ⟨v5,ev5,H⟩ := bs H
  refine iA Out.row ev5 ?_
  refine lA 2 ?_
  obtain ⟨r6,er6,H⟩ := bs H
  refine vA [.rd,.rd,.rd] (zP n v5.Port 0 7 r6 er6) ?_
  refine dA 65561 0 ?_
  cases h2 : r6
  ·have H := zI h2 H
   refine nB_ ?_
   refine tK ?_
   refine eA 3 25 0 ?_
   exact jB mo4 ((IntKind.wrap .i64 (y1 + 1)),y2) H [4,3,0] []
  have H := zJ h2 H
  refine tB_ ?_
  refine Tr.at ?_
  refine lA 3 ?_
  obtain ⟨v7,ev7,H⟩ := bs H
  refine iA Out.row ev7 ?_
  refine lA 3 ?_
  obtain ⟨hg8,H⟩ := gs H
  refine LAt.binC tOk (op := .shl) (t := 3) (ty := 112) (ty' := 3) (x := (.const (.int .i64 1))) (y := (.tmp 23)) (d := 24) (g := none) (.int .i64 1) (.int .u64 (IntKind.wrap .u64 v7.Port)) (.int .i64 (IntKind.wrap .i64 (1 * 2 ^ min (((IntKind.wrap .u64 v7.Port) : Int)).toNat (IntKind.bits .i64)))) _ kr kr kr kr kr (φ := (0 : Int) ≤ (IntKind.wrap .u64 v7.Port)) kr (of_decide_eq_true hg8) rfl ?_
  refine uA 2 25 0 ?_
  refine eA 3 25 0 ?_
  exact jB mo4 ((IntKind.wrap .i64 (y1 + 1)),(IntKind.wrap .i64 (BitVec.ofInt (IntKind.bits .i64) y2 ||| BitVec.ofInt (IntKind.bits .i64) (IntKind.wrap .i64 (1 * 2 ^ min (((IntKind.wrap .u64 v7.Port) : Int)).toNat (IntKind.bits .i64)))).toNat)) H [4,3,0] []
 rintro y3 H
 have H : (Yb n y3) = some r := H
 unfold Yb at H
 refine gA 2 4 0 ?_
 exact te (fJ [(false,[cI y3])] H)
def qh (n : Nat) (r2 : zD × Int × Frame) (r3 : zD × (List Out)) : Option (Bool) :=
  (bif ((r3.2.length : Int) == 0) then ((QD n r3.2).bind fun r15 => ((QG n r3.2).bind fun r16 => (some (r15 == r16)))) else (bif (r2.2.2.Dst == r2.2.2.Src) then ((QD n r3.2).bind fun r13 => ((QG n r3.2).bind fun r14 => (some (r13 == r14)))) else ((QC n r2.1.V r2.2.1 r2.2.2.Tag).bind fun r5 => ((QY n r3.1.F r5.1 r2.2.2.Src).bind fun r6 => (bif (r6 != r2.2.1) then ((QY n r2.1.F r5.1 r2.2.2.Src).bind fun r12 => (bif (decide (r12 ≥ 0)) then (some true) else (some ((r2.1.F.length : Int) == 12)))) else ((idx r3.2 0).bind fun v7 => ((Qe n r3.1 v7.Port (⟨r2.2.2.Src,77,r5.1,([] : List Int)⟩ : Frame)).bind fun r8 => (bif ((r8.2.length : Int) == 1) then ((idx r8.2 0).bind fun v9 => (bif (v9.Port == r2.2.1) then ((QD n r3.2).bind fun r10 => ((QG n r3.2).bind fun r11 => (some (r10 == r11)))) else (some false))) else (some false)))))))))
def Q9 (n : Nat) (x0 : (List Int)) : Option (Bool) :=
  ((zBe n x0).bind fun r1 => (bif r1 then (some true) else ((Qz n x0).bind fun r2 => ((Qe n r2.1 r2.2.1 r2.2.2).bind fun r3 => ((qu n r2.1 r2.2.1 r2.2.2).bind fun r4 => (bif ((r3.2.length : Int) != (r4.2.length : Int)) then (some false) else (bif ((IntKind.wrap .i64 (r3.1.Ve + r3.1.Dr)) == (IntKind.wrap .i64 (r2.1.Ve + r2.1.Dr))) then (bif (decide (r2.1.Ve < 1000000)) then (some false) else (qh n r2 r3)) else (qh n r2 r3))))))))
theorem zEY (n : Nat) (x0 : (List Int)) (r : Bool) (H : Q9 n x0 = some r) : zG Try.prog 4 [.val false [.sl false 1 (CV.frzEs (x0.map zN))]] [.val false [.lit (.bool r)]] [] := by
 refine cW Try.func4 (fun g d => sl [g 0,sl [g 1] (cn 16 (sl [g 2] .ret) .skip),g 3,g 4,g 5,sl [g 6] (cn 59 (sl [g 7] .ret) .skip),sl [g 8] (cn 69 (sl [g 9] .ret) .skip),g 10,sl [g 11] (cn 91 (sl [g 12] .ret) .skip),g 13,g 14,g 15] .ret) [.tmp 2] fun cx => ?_
 unfold Q9 at H
 refine gA 1 1 0 ?_
 refine tS ?_
 refine rA 1 ?_
 obtain ⟨r1,er1,H⟩ := bs H
 refine vA [.rd] (zIN n x0 r1 er1) ?_
 refine dA 65537 0 ?_
 cases h1 : r1
 ·have H := zI h1 H
  refine nB_ ?_
  refine tK ?_
  refine rA 1 ?_
  obtain ⟨r2,er2,H⟩ := bs H
  refine vA [.rd] (zFq n x0 r2 er2) ?_
  refine LAt.movT tOk (ty := 54) (t := 19) (d := 17) (g := none) [(true,(zD.row r2.1)),(false,[cI r2.2.1]),(true,(Frame.row r2.2.2))] _ kr (.inl rfl) kr kr kr kr rfl ?_
  refine uA 8 56 40 ?_
  refine rA 3 ?_
  obtain ⟨r3,er3,H⟩ := bs H
  refine vB [.rd,.rd,.rd] [.box 3,.box 5] (zCt n r2.1 r2.2.1 r2.2.2 r3 er3) (.inr (zn (zD.row_mine _) (zn (zH (Z8 (ZQ Out.row_mine _)) zj) qa))) ?_
  refine LAt.movT tOk (ty := 57) (t := 27) (d := 23) (g := none) [(true,(zD.row r3.1)),(false,[cL 5 r3.2 Out.row])] _ kr (.inl rfl) kr kr kr kr rfl ?_
  refine lA 4 ?_
  refine LAt.moveU (T := lk tab) (ty := 56) (x := (.tmp 29)) (d := 7) (g := none) false [cL 5 r3.2 Out.row] kr kr kr kr kr ?_
  refine dA 248 104 ?_
  refine rA 3 ?_
  obtain ⟨r4,er4,H⟩ := bs H
  refine vB [.rd,.rd,.rd] [.box 3,.box 5] (zGU n r2.1 r2.2.1 r2.2.2 r4 er4) (.inr (zn (zD.row_mine _) (zn (zH (Z8 (ZQ Out.row_mine _)) zj) qa))) ?_
  refine LAt.movT tOk (ty := 57) (t := 34) (d := 30) (g := none) [(true,(zD.row r4.1)),(false,[cL 5 r4.2 Out.row])] _ kr (.inl rfl) kr kr kr kr rfl ?_
  refine lA 4 ?_
  refine LAt.moveU (T := lk tab) (ty := 56) (x := (.tmp 36)) (d := 9) (g := none) false [cL 5 r4.2 Out.row] kr kr kr kr kr ?_
  refine dA 760 104 ?_
  refine tS ?_
  refine Tr.mid (ι := Unit) (fun v => ⟨137,0,[sC 7 (cL 5 r3.2 Out.row),sA 6 6 11 0,sI 4 r2.2.1,sA 5 5 4 0,sA 3 3 11 0],[(6,(zD.row r3.1)),(5,(Frame.row r2.2.2)),(3,(zD.row r2.1))]⟩) (fun v => qh n r2 r3 = some r) ?_ ?_
  ·refine rA 1 ?_
   refine kO r3.2 Out.row ?_
   refine lA 1 ?_
   refine kO r4.2 Out.row ?_
   refine lA 2 ?_
   refine sL 4398046511352 104 ⟨137,0,[sB 42 ((r3.2.length : Int) != (r4.2.length : Int)),sC 7 (cL 5 r3.2 Out.row),sA 6 6 11 0,sI 4 r2.2.1,sA 5 5 4 0,sA 3 3 11 0],[(6,(zD.row r3.1)),(5,(Frame.row r2.2.2)),(3,(zD.row r2.1))]⟩ ?_
   cases h8 : ((r3.2.length : Int) != (r4.2.length : Int))
   ·have H := zI h8 H
    refine lA 12 ?_
    refine sL 0x400400000000f8 104 ⟨137,0,[sB 54 ((IntKind.wrap .i64 (r3.1.Ve + r3.1.Dr)) == (IntKind.wrap .i64 (r2.1.Ve + r2.1.Dr))),sB 42 false,sC 7 (cL 5 r3.2 Out.row),sA 6 6 11 0,sI 4 r2.2.1,sA 5 5 4 0,sA 3 3 11 0],[(6,(zD.row r3.1)),(5,(Frame.row r2.2.2)),(3,(zD.row r2.1))]⟩ ?_
    cases h9 : ((IntKind.wrap .i64 (r3.1.Ve + r3.1.Dr)) == (IntKind.wrap .i64 (r2.1.Ve + r2.1.Dr)))
    ·have H := zI h9 H
     refine uA 5 0x8000000000000f8 104 ?_
     refine nB_ ?_
     refine tK ?_
     exact jA () H [7,6,4,5,3] [6,5,3]
    have H := zJ h9 H
    refine uA 5 0x8000000000000f8 104 ?_
    obtain ⟨h10,H⟩ | ⟨h10,H⟩ := bC H
    ·refine nA h10 ?_
     refine tK ?_
     exact jA () H [7,6,4,5,3] [6,5,3]
    refine tA h10 ?_
    refine gA 1 4 0 ?_
    exact te (fF H)
   have H := zJ h8 H
   refine uA 17 0x8000000000000f8 104 ?_
   refine tB_ ?_
   refine gA 1 4 0 ?_
   exact te (fF H)
  rintro _ H
  have H : (qh n r2 r3) = some r := H
  unfold qh at H
  refine tS ?_
  refine tS ?_
  refine Tr.at ?_
  refine lA 1 ?_
  refine kO r3.2 Out.row ?_
  refine lA 2 ?_
  refine sL 0x80000000000000f8 104 ⟨137,0,[sB 63 ((r3.2.length : Int) == 0),sC 7 (cL 5 r3.2 Out.row),sA 6 6 11 0,sI 4 r2.2.1,sA 5 5 4 0,sA 3 3 11 0],[(6,(zD.row r3.1)),(5,(Frame.row r2.2.2)),(3,(zD.row r2.1))]⟩ ?_
  cases h2 : ((r3.2.length : Int) == 0)
  ·have H := zI h2 H
   refine uA 6 0x2000000000000000f8 104 ?_
   obtain ⟨h3,H⟩ | ⟨h3,H⟩ := bC H
   ·refine nA h3 ?_
    refine tK ?_
    refine rA 5 ?_
    obtain ⟨r5,er5,H⟩ := bs H
    refine vB [.rd,.rd,.rd] [.box 3] (zCs n r2.1.V r2.2.1 r2.2.2.Tag r5 er5) (.inr (zn (zH zM zj) (zn (zH zM zj) qa))) ?_
    refine LAt.movT tOk (ty := 60) (t := 81) (d := 75) (g := none) [(false,[cI r5.1]),(false,[cB r5.2])] _ kr (.inl rfl) kr kr kr kr rfl ?_
    refine uA 4 1272 104 ?_
    refine tS ?_
    refine rA 5 ?_
    obtain ⟨r6,er6,H⟩ := bs H
    refine vB [.rd,.rd,.rd] [.box 6] (zBo n r3.1.F r5.1 r2.2.2.Src r6 er6) (.inr (zn (zH zM zj) qa)) ?_
    refine uA 2 0x800000000000000000004f8 104 ?_
    obtain ⟨h4,H⟩ | ⟨h4,H⟩ := bC H
    ·refine nA h4 ?_
     refine tK ?_
     refine rA 1 ?_
     obtain ⟨v7,ev7,H⟩ := bs H
     refine oA Out.row ev7 ?_
     refine lA 1 ?_
     refine dE (tI 3) (.slot 7) [(0,(((0 : Int)).toNat))] 5 0 [cL 5 r3.2 Out.row] (Out.row v7) (zBZ rfl (Y3 ev7).2) ?_
     refine uA 1 5360 96 ?_
     refine rA 6 ?_
     obtain ⟨r8,er8,H⟩ := bs H
     refine vB [.rd,.rd,.rd] [.box 6] (zCt n r3.1 v7.Port (⟨r2.2.2.Src,77,r5.1,([] : List Int)⟩ : Frame) r8 er8) (.inr (zn (zD.row_mine _) (zn (zH (Z8 (ZQ Out.row_mine _)) zj) qa))) ?_
     refine LAt.movT tOk (ty := 57) (t := 116) (d := 109) (g := none) [(true,(zD.row r8.1)),(false,[cL 5 r8.2 Out.row])] _ kr (.inl rfl) kr kr kr kr rfl ?_
     refine lA 4 ?_
     refine LAt.moveU (T := lk tab) (ty := 56) (x := (.tmp 118)) (d := 14) (g := none) false [cL 5 r8.2 Out.row] kr kr kr kr kr ?_
     refine dA 16528 0 ?_
     refine rA 1 ?_
     refine kO r8.2 Out.row ?_
     refine lA 2 ?_
     refine sL 0x4000000000000000000000000004090 0 ⟨137,0,[sB 122 ((r8.2.length : Int) == 1),sC 14 (cL 5 r8.2 Out.row),sC 7 (cL 5 r3.2 Out.row),sI 4 r2.2.1],[]⟩ ?_
     cases h5 : ((r8.2.length : Int) == 1)
     ·have H := zI h5 H
      refine uA 15 4 0 ?_
      exact te (fF H)
     have H := zJ h5 H
     refine lA 1 ?_
     obtain ⟨v9,ev9,H⟩ := bs H
     refine oA Out.row ev9 ?_
     refine lA 1 ?_
     refine dE (tI 3) (.slot 14) [(0,(((0 : Int)).toNat))] 5 0 [cL 5 r8.2 Out.row] (Out.row v9) (zBZ rfl (Y3 ev9).2) ?_
     refine lA 4 ?_
     refine sL 0x400000000000000000000000000000080 0 ⟨137,0,[sB 130 (v9.Port == r2.2.1),sC 7 (cL 5 r3.2 Out.row)],[]⟩ ?_
     cases h6 : (v9.Port == r2.2.1)
     ·have H := zI h6 H
      refine uA 7 4 0 ?_
      exact te (fF H)
     have H := zJ h6 H
     refine lA 1 ?_
     obtain ⟨r10,er10,H⟩ := bs H
     refine vB [.rd] [.slot 7] (zBG n r3.2 r10 er10) (.inr (zn (zH zM zj) qa)) ?_
     refine lA 1 ?_
     obtain ⟨r11,er11,H⟩ := bs H
     refine vB [.rd] [.slot 7] (zBN n r3.2 r11 er11) (.inr (zn (zH zM zj) qa)) ?_
     refine uA 3 4 0 ?_
     exact te (fJ [(false,[cB (r10 == r11)])] H)
    refine tA h4 ?_
    refine rA 5 ?_
    obtain ⟨r12,er12,H⟩ := bs H
    refine vB [.rd,.rd,.rd] [.box 3] (zBo n r2.1.F r5.1 r2.2.2.Src r12 er12) (.inr (zn (zH zM zj) qa)) ?_
    refine lA 2 ?_
    refine sL 0x8000000000000000000000008 8 ⟨137,0,[sB 99 (decide (r12 ≥ 0)),sA 3 3 11 0],[(3,(zD.row r2.1))]⟩ ?_
    cases h7 : (decide (r12 ≥ 0))
    ·have H := zI h7 H
     refine lA 2 ?_
     refine kO r2.1.F zA.row ?_
     refine uA 3 4 0 ?_
     exact te (fJ [(false,[cB ((r2.1.F.length : Int) == 12)])] H)
    have H := zJ h7 H
    refine uA 6 4 0 ?_
    exact te (fT H)
   refine tA h3 ?_
   refine rA 1 ?_
   obtain ⟨r13,er13,H⟩ := bs H
   refine vB [.rd] [.slot 7] (zBG n r3.2 r13 er13) (.inr (zn (zH zM zj) qa)) ?_
   refine lA 1 ?_
   obtain ⟨r14,er14,H⟩ := bs H
   refine vB [.rd] [.slot 7] (zBN n r3.2 r14 er14) (.inr (zn (zH zM zj) qa)) ?_
   refine uA 2 4 0 ?_
   exact te (fJ [(false,[cB (r13 == r14)])] H)
  have H := zJ h2 H
  refine uA 6 0x2000000000000000f8 104 ?_
  refine tB_ ?_
  refine rA 1 ?_
  obtain ⟨r15,er15,H⟩ := bs H
  refine vB [.rd] [.slot 7] (zBG n r3.2 r15 er15) (.inr (zn (zH zM zj) qa)) ?_
  refine lA 1 ?_
  obtain ⟨r16,er16,H⟩ := bs H
  refine vB [.rd] [.slot 7] (zBN n r3.2 r16 er16) (.inr (zn (zH zM zj) qa)) ?_
  refine uA 2 4 0 ?_
  exact te (fJ [(false,[cB (r15 == r16)])] H)
 have H := zJ h1 H
 refine tB_ ?_
 refine gA 1 4 0 ?_
 exact te (fT H)
end Go.Proofs.Ytcegokjpmppdbaa.Tw
