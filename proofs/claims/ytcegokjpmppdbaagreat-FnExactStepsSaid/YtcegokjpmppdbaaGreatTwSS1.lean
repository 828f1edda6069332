import Derived.Test.YtcegokjpmppdbaaGreatProg
import Derived.Test.YtcegokjpmppdbaaGreatTlRule
import Derived.Test.YtcegokjpmppdbaaGreatTlU12
import Derived.Test.YtcegokjpmppdbaaGreatTwSS0
import Derived.WalkKit
set_option linter.unusedVariables false
set_option linter.unusedSimpArgs false
set_option maxRecDepth 100000
set_option maxHeartbeats 1000000
namespace Go.Proofs.YtcegokjpmppdbaaGreat.Tw
open Go Go.TL Go.Proofs
def zBe (n : Nat) (x0 : Int) (x1 : Int) : Option (Bool) :=
  ((zP n x1 0 7).bind fun r1 => (bif r1 then (bif (decide ((0 : Int) ≤ (IntKind.wrap .u64 x1))) then (some ((IntKind.wrap .i64 (BitVec.ofInt (IntKind.bits .i64) (Int.fdiv x0 (2 ^ min (((IntKind.wrap .u64 x1) : Int)).toNat (IntKind.bits .i64))) &&& BitVec.ofInt (IntKind.bits .i64) 1).toNat) == 1)) else none) else (some false)))
theorem zMc (n : Nat) (x0 : Int) (x1 : Int) (r : Bool) (H : zBe n x0 x1 = some r) : zD Tryz.prog 73 [.val false [.lit (.int .i64 x0)],.val false [.lit (.int .i64 x1)]] [.val false [.lit (.bool r)]] [] := by
 refine cW Tryz.func73 (fun g d => sl [g 0,g 1] .ret) [.tmp 4] fun cx => ?_
 unfold zBe at H
 refine gA 1 3 0 ?_
 refine rA 1 ?_
 obtain ⟨r1,er1,H⟩ := bs H
 refine vA [.rd,.rd,.rd] (zO n x1 0 7 r1 er1) ?_
 refine lA 1 ?_
 refine sL 131 0 ⟨15,0,[sB 7 r1,sI 0 x0,sI 1 x1],[]⟩ ?_
 cases h1 : r1
 ·have H := zG h1 H
  refine uA 8 16 0 ?_
  exact te (fF H)
 have H := zH h1 H
 refine lA 3 ?_
 obtain ⟨hg2,H⟩ := gs H
 refine LAt.binC tOk (op := .shr) (t := 3) (ty := 124) (ty' := 3) (x := (.tmp 8)) (y := (.tmp 10)) (d := 11) (g := (some (2,true))) (.int .i64 x0) (.int .u64 (IntKind.wrap .u64 x1)) (.int .i64 (Int.fdiv x0 (2 ^ min (((IntKind.wrap .u64 x1) : Int)).toNat (IntKind.bits .i64)))) _ kr kr kr kr kr (φ := (0 : Int) ≤ (IntKind.wrap .u64 x1)) kr (of_decide_eq_true hg2) rfl ?_
 refine uA 4 16 0 ?_
 exact te (fJ [(false,[cB ((IntKind.wrap .i64 (BitVec.ofInt (IntKind.bits .i64) (Int.fdiv x0 (2 ^ min (((IntKind.wrap .u64 x1) : Int)).toNat (IntKind.bits .i64))) &&& BitVec.ofInt (IntKind.bits .i64) 1).toNat) == 1)])] H)
def Q0 (n : Nat) (y3 : (List zB)) : Option ((List zB)) :=
  (some y3)
def qO (n : Nat) : Nat → (List zB) → Int → Int → (List zB) → Option (((List zB)) ⊕ ((List zB)))
  | 0,_,_,_,_ => none
  | mo4 + 1,x0,x1,y1,y2 => (bif (decide (y1 < (x0.length : Int))) then ((idx x0 y1).bind fun v5 => (bif v5.Sc then ((idx x0 y1).bind fun v9 => (bif (decide (y2.length + [v9].length ≤ 268435456)) then (qO n mo4 x0 x1 (IntKind.wrap .i64 (y1 + 1)) (y2 ++ [v9])) else none)) else ((idx x0 y1).bind fun v6 => (bif (v6.Port != x1) then ((idx x0 y1).bind fun v7 => (bif (decide (y2.length + [v7].length ≤ 268435456)) then (qO n mo4 x0 x1 (IntKind.wrap .i64 (y1 + 1)) (y2 ++ [v7])) else none)) else (qO n mo4 x0 x1 (IntKind.wrap .i64 (y1 + 1)) y2))))) else (some (Sum.inl y2)))
def Y5 (n : Nat) (x0 : (List zB)) (x1 : Int) : Option ((List zB)) :=
  ((qO n n x0 x1 0 ([] : List zB)).bind fun o => match o with | .inl y3 => (Q0 n y3) | .inr r => some r)
theorem zJH (n : Nat) (x0 : (List zB)) (x1 : Int) (r : (List zB)) (H : Y5 n x0 x1 = some r) : zD Tryz.prog 239 [.val false [.sl false 5 (CV.frzEs (x0.map zB.row))],.val false [.lit (.int .i64 x1)]] [.val false [.sl true 5 (r.map zB.row)]] [] := by
 refine cW Tryz.func239 (fun g d => sl [g 0,g 1,sl [g 2] (.block 0 (.loop (sl [sl [g 3] (cn 11 .skip (.exit 0)),.block 1 (sl [g 5] (cn 27 (g 6) .skip))] (g 4)))),g 7] .ret) [.tmp 4] fun cx => ?_
 unfold Y5 at H
 refine gA 1 3 0 ?_
 refine rA 1 ?_
 refine LAt.moveU (T := lk tab) (ty := 36) (x := (.tmp 7)) (d := 5) (g := none) false [cL 5 ([] : List zB) zB.row] kr kr kr kr kr ?_
 refine dA 35 0 ?_
 refine tS ?_
 refine gA 1 99 0 ?_
 obtain ⟨o4,eo4,Ho4⟩ := bs H
 clear H
 refine Tr.mid (ι := (List zB)) (fun v => ⟨36,0,[sC 5 (cL 5 v zB.row)],[]⟩) (fun v => Q0 n v = some r) ?_ ?_
 ·refine tB ?_
  refine Tr.loop (ι := Nat × (Int × (List zB))) (fun v => ⟨36,0,[sI 6 v.2.1,sC 5 (cL 5 v.2.2 zB.row),sC 0 (cF 5 x0 zB.row),sI 1 x1],[]⟩) (fun v => qO n v.1 x0 x1 v.2.1 v.2.2 = some o4) (fun v => v.1) (n,(0,([] : List zB))) eo4 (St.sub_of [6,5,0,1] [] kr) ?_
  rintro ⟨mo4,y1,y2⟩ H
  have H : qO n mo4 x0 x1 y1 y2 = some o4 := H
  obtain _ | mo4 := mo4
  ·exact nN H
  rw [qO] at H
  refine tS ?_
  refine rA 2 ?_
  refine kF x0 zB.row ?_
  refine uA 1 2147 0 ?_
  obtain ⟨h1,H⟩ | ⟨h1,H⟩ := bC H
  ·refine nA h1 ?_
   refine Tr.exit ?_
   refine aJ ?_
   obtain rfl := si H
   have H := Ho4
   dsimp only at H
   exact jA y2 H [5] []
  refine tA h1 ?_
  refine tK ?_
  refine tS ?_
  refine tB ?_
  refine tS ?_
  refine Tr.at ?_
  refine lA 2 ?_
  obtain ⟨v5,ev5,H⟩ := bs H
  refine iA zB.row ev5 ?_
  refine lA 3 ?_
  refine sL 524387 0 ⟨36,0,[sB 19 v5.Sc,sI 6 y1,sC 5 (cL 5 y2 zB.row),sC 0 (cF 5 x0 zB.row),sI 1 x1],[]⟩ ?_
  cases h2 : v5.Sc
  ·have H := zG h2 H
   refine lA 2 ?_
   obtain ⟨v6,ev6,H⟩ := bs H
   refine iA zB.row ev6 ?_
   refine uA 5 134217827 0 ?_
   obtain ⟨h3,H⟩ | ⟨h3,H⟩ := bC H
   ·refine nA h3 ?_
    refine tK ?_
    refine eA 3 99 0 ?_
    exact jB mo4 ((IntKind.wrap .i64 (y1 + 1)),y2) H [6,5,0,1] []
   refine tA h3 ?_
   refine Tr.at ?_
   refine lA 3 ?_
   obtain ⟨v7,ev7,H⟩ := bs H
   refine iA zB.row ev7 ?_
   refine lA 2 ?_
   obtain ⟨hg8,H⟩ := gs H
   refine LAt.appMU tOk (t := 36) (ty := 36) (e := 169) (x := (.tmp 28)) (y := (.tmp 33)) (d := 34) (g := none) (tI 169) zB.row y2 [v7] kr kr kr kr kr kr kr kr kr kr hg8 ?_
   refine LAt.moveU (T := lk tab) (ty := 36) (x := (.tmp 34)) (d := 5) (g := none) false [cL 5 (y2 ++ [v7]) zB.row] kr kr kr kr kr ?_
   refine dA 99 0 ?_
   refine eA 3 99 0 ?_
   exact jB mo4 ((IntKind.wrap .i64 (y1 + 1)),(y2 ++ [v7])) H [6,5,0,1] []
  have H := zH h2 H
  refine uA 8 134217827 0 ?_
  refine tB_ ?_
  refine Tr.at ?_
  refine lA 3 ?_
  obtain ⟨v9,ev9,H⟩ := bs H
  refine iA zB.row ev9 ?_
  refine lA 2 ?_
  obtain ⟨hg10,H⟩ := gs H
  refine LAt.appMU tOk (t := 36) (ty := 36) (e := 169) (x := (.tmp 28)) (y := (.tmp 33)) (d := 34) (g := none) (tI 169) zB.row y2 [v9] kr kr kr kr kr kr kr kr kr kr hg10 ?_
  refine LAt.moveU (T := lk tab) (ty := 36) (x := (.tmp 34)) (d := 5) (g := none) false [cL 5 (y2 ++ [v9]) zB.row] kr kr kr kr kr ?_
  refine dA 99 0 ?_
  refine eA 3 99 0 ?_
  exact jB mo4 ((IntKind.wrap .i64 (y1 + 1)),(y2 ++ [v9])) H [6,5,0,1] []
 rintro y3 H
 have H : (Q0 n y3) = some r := H
 unfold Q0 at H
 refine gA 2 48 0 ?_
 exact te (fJ [(false,[cL 5 y3 zB.row])] H)
def JL (n : Nat) (r1 : Int) (x0 : zA) (y5 : (List zB)) : Option (zA) :=
  (some (⟨x0.Id,x0.Name,x0.Ps,y5,x0.V,x0.Tk,x0.Pa,x0.Wo,x0.Dr,r1⟩ : zA))
def z4 (n : Nat) : Nat → Int → zA → Int → (List zB) → Option (((List zB)) ⊕ (zA))
  | 0,_,_,_,_ => none
  | mo6 + 1,r2,x0,y3,y4 => (bif (decide (y3 < (x0.Ps.length : Int))) then ((zBe n r2 y3).bind fun r7 => (bif (!r7) then ((Y5 n y4 y3).bind fun r8 => (z4 n mo6 r2 x0 (IntKind.wrap .i64 (y3 + 1)) r8)) else (z4 n mo6 r2 x0 (IntKind.wrap .i64 (y3 + 1)) y4))) else (some (Sum.inl y4)))
def qm (n : Nat) (x0 : zA) : Option (zA) :=
  ((YT n x0.Ve).bind fun r1 => ((Za n x0.Id x0.Ps).bind fun r2 => ((z4 n n r2 x0 0 x0.F).bind fun o => match o with | .inl y5 => (JL n r1 x0 y5) | .inr r => some r)))
theorem zCn (n : Nat) (x0 : zA) (r : zA) (H : qm n x0 = some r) : zD Tryz.prog 195 [.own true (zA.row x0)] [.val true (zA.row r)] [] := by
 refine cW Tryz.func195 (fun g d => sl [g 0,g 1,g 2,sl [g 3] (.block 0 (.loop (sl [sl [g 4] (cn 18 .skip (.exit 0)),.block 1 (sl [g 6] (cn 24 (g 7) .skip))] (g 5)))),g 8] .ret) [.cell 2 41] fun cx => ?_
 unfold qm at H
 refine gA 2 6 6 ?_
 refine rA 2 ?_
 obtain ⟨r1,er1,H⟩ := bs H
 refine vA [.rd] (zHG n x0.Ve r1 er1) ?_
 refine uA 2 6 6 ?_
 refine rA 4 ?_
 obtain ⟨r2,er2,H⟩ := bs H
 refine vB [.rd,.rd] [.box 1] (zMa n x0.Id x0.Ps r2 er2) (.inr (zk (zJ zM zz) zy)) ?_
 refine uA 1 14 6 ?_
 refine tS ?_
 refine gA 1 30 6 ?_
 obtain ⟨o6,eo6,Ho6⟩ := bs H
 clear H
 refine Tr.mid (ι := (List zB)) (fun v => ⟨31,0,[sA 2 2 11 0,sA 1 1 11 0],[(1,[cI x0.Id,cS x0.Name,cL 8 x0.Ps Pt.row,cL 5 v zB.row,cL 3 x0.V.Rows zC.row,cL 1 x0.V.Pv intRow,cI x0.Tk,cI x0.Pa,cI x0.Wo,cI x0.Dr,cI r1]),(2,[cI 0,cS (⟨#[]⟩ : ByteArray),cL 8 ([] : List Pt) Pt.row,cL 5 ([] : List zB) zB.row,cL 3 ([] : List zC) zC.row,cL 1 ([] : List Int) intRow,cI 0,cI 0,cI 0,cI 0,cI 0])]⟩) (fun v => JL n r1 x0 v = some r) ?_ ?_
 ·refine tB ?_
  refine Tr.loop (ι := Nat × (Int × (List zB))) (fun v => ⟨31,0,[sI 4 v.2.1,sI 3 r2,sA 2 2 11 0,sA 1 1 11 0],[(1,[cI x0.Id,cS x0.Name,cL 8 x0.Ps Pt.row,cL 5 v.2.2 zB.row,cL 3 x0.V.Rows zC.row,cL 1 x0.V.Pv intRow,cI x0.Tk,cI x0.Pa,cI x0.Wo,cI x0.Dr,cI r1]),(2,[cI 0,cS (⟨#[]⟩ : ByteArray),cL 8 ([] : List Pt) Pt.row,cL 5 ([] : List zB) zB.row,cL 3 ([] : List zC) zC.row,cL 1 ([] : List Int) intRow,cI 0,cI 0,cI 0,cI 0,cI 0])]⟩) (fun v => z4 n v.1 r2 x0 v.2.1 v.2.2 = some o6) (fun v => v.1) (n,(0,x0.F)) eo6 (St.sub_of [4,3,2,1] [1,2] kr) ?_
  rintro ⟨mo6,y3,y4⟩ H
  have H : z4 n mo6 r2 x0 y3 y4 = some o6 := H
  obtain _ | mo6 := mo6
  ·exact nN H
  rw [z4] at H
  refine tS ?_
  refine rA 3 ?_
  refine kO x0.Ps Pt.row ?_
  refine uA 1 262174 6 ?_
  obtain ⟨h1,H⟩ | ⟨h1,H⟩ := bC H
  ·refine nA h1 ?_
   refine Tr.exit ?_
   refine aJ ?_
   obtain rfl := si H
   have H := Ho6
   dsimp only at H
   exact jA y4 H [2,1] [1,2]
  refine tA h1 ?_
  refine tK ?_
  refine tS ?_
  refine tB ?_
  refine rA 2 ?_
  obtain ⟨r7,er7,H⟩ := bs H
  refine vA [.rd,.rd] (zMc n r2 y3 r7 er7) ?_
  refine uA 1 16777246 6 ?_
  obtain ⟨h2,H⟩ | ⟨h2,H⟩ := bC H
  ·refine nA h2 ?_
   refine tK ?_
   refine eA 3 30 6 ?_
   exact jB mo6 ((IntKind.wrap .i64 (y3 + 1)),y4) H [4,3,2,1] [1,2]
  refine tA h2 ?_
  refine Tr.at ?_
  refine lA 3 ?_
  obtain ⟨r8,er8,H⟩ := bs H
  refine vB [.rd,.rd] [.box 1] (zJH n y4 y3 r8 er8) (.inr (zk (zJ (Jd (Qv zB.row_mine _)) zz) zy)) ?_
  refine uA 2 30 6 ?_
  refine eA 3 30 6 ?_
  exact jB mo6 ((IntKind.wrap .i64 (y3 + 1)),r8) H [4,3,2,1] [1,2]
 rintro y5 H
 have H : (JL n r1 x0 y5) = some r := H
 unfold JL at H
 refine gA 2 4 4 ?_
 exact te (fJ [(true,[cI x0.Id,cS x0.Name,cL 8 x0.Ps Pt.row,cL 5 y5 zB.row,cL 3 x0.V.Rows zC.row,cL 1 x0.V.Pv intRow,cI x0.Tk,cI x0.Pa,cI x0.Wo,cI x0.Dr,cI r1])] H)
def zBL (n : Nat) (x0 : zA) : Option (zA) :=
  ((Z5 n x0).bind fun r1 => ((zT n x0).bind fun r2 => (bif (!r2) then (some r1) else ((YT n x0.Tk).bind fun r3 => ((YR n x0.F).bind fun r4 => ((qm n (⟨r1.Id,r1.Name,r1.Ps,r4,r1.V,r3,r1.Pa,r1.Wo,r1.Dr,r1.Ve⟩ : zA)).bind fun r5 => (some r5)))))))
theorem zNC (n : Nat) (x0 : zA) (r : zA) (H : zBL n x0 = some r) : zD Tryz.prog 108 [.val true (CV.frzRow (zA.row x0))] [.val true (zA.row r)] [] := by
 refine cW Tryz.func108 (fun g d => sl [g 0,g 1,sl [g 2] (cn 8 (sl [g 3] .ret) .skip),g 4,g 5,g 6] .ret) [.cell 2 41] fun cx => ?_
 unfold zBL at H
 refine gA 2 6 6 ?_
 refine rA 1 ?_
 obtain ⟨r1,er1,H⟩ := bs H
 refine vA [.rd] (zCW n x0 r1 er1) ?_
 refine uA 2 14 14 ?_
 refine tS ?_
 refine rA 1 ?_
 obtain ⟨r2,er2,H⟩ := bs H
 refine vA [.rd] (zDW n x0 r2 er2) ?_
 refine uA 1 270 14 ?_
 obtain ⟨h1,H⟩ | ⟨h1,H⟩ := bC H
 ·refine nA h1 ?_
  refine tK ?_
  refine rA 2 ?_
  obtain ⟨r3,er3,H⟩ := bs H
  refine vA [.rd] (zHG n x0.Tk r3 er3) ?_
  refine uA 2 14 14 ?_
  refine rA 2 ?_
  obtain ⟨r4,er4,H⟩ := bs H
  refine vA [.rd] (zLf n x0.F r4 er4) ?_
  refine uA 2 12 12 ?_
  refine rA 1 ?_
  obtain ⟨r5,er5,H⟩ := bs H
  refine vA [.own] (zCn n (⟨r1.Id,r1.Name,r1.Ps,r4,r1.V,r3,r1.Pa,r1.Wo,r1.Dr,r1.Ve⟩ : zA) r5 er5) ?_
  refine uA 1 4 4 ?_
  exact te (fJ [(true,(zA.row r5))] H)
 refine tA h1 ?_
 refine gA 2 4 4 ?_
 exact te (fJ [(true,(zA.row r1))] H)
def YA (n : Nat) (x0 : Net) (x1 : Int) (x2 : Int) : Option (Bool) :=
  ((zP n x1 0 (IntKind.wrap .i64 ((x0.Bs.length : Int) - 1))).bind fun r1 => (bif r1 then ((idx x0.Bs x1).bind fun v2 => ((zP n x2 0 (IntKind.wrap .i64 ((v2.Ps.length : Int) - 1))).bind fun r3 => (bif r3 then ((idx x0.Bs x1).bind fun v4 => ((idx v4.Ps x2).bind fun v5 => (some v5.Up))) else (some false)))) else (some false)))
theorem zIf (n : Nat) (x0 : Net) (x1 : Int) (x2 : Int) (r : Bool) (H : YA n x0 x1 x2 = some r) : zD Tryz.prog 163 [.val true (CV.frzRow (Net.row x0)),.val false [.lit (.int .i64 x1)],.val false [.lit (.int .i64 x2)]] [.val false [.lit (.bool r)]] [] := by
 refine cW Tryz.func163 (fun g d => sl [g 0,g 1] .ret) [.tmp 6] fun cx => ?_
 unfold YA at H
 refine gA 2 14 8 ?_
 refine rA 3 ?_
 refine kF x0.Bs zA.row ?_
 refine lA 1 ?_
 obtain ⟨r1,er1,H⟩ := bs H
 refine vA [.rd,.rd,.rd] (zO n x1 0 (IntKind.wrap .i64 ((x0.Bs.length : Int) - 1)) r1 er1) ?_
 refine lA 1 ?_
 refine sL 8206 8 ⟨37,0,[sB 13 r1,sA 3 3 3 0,sI 1 x1,sI 2 x2],[(3,(CV.frzRow (Net.row x0)))]⟩ ?_
 cases h1 : r1
 ·have H := zG h1 H
  refine uA 24 64 0 ?_
  exact te (fF H)
 have H := zH h1 H
 refine lA 4 ?_
 obtain ⟨v2,ev2,H⟩ := bs H
 refine iA zA.row ev2 ?_
 refine lA 2 ?_
 refine kF v2.Ps Pt.row ?_
 refine lA 1 ?_
 obtain ⟨r3,er3,H⟩ := bs H
 refine vA [.rd,.rd,.rd] (zO n x2 0 (IntKind.wrap .i64 ((v2.Ps.length : Int) - 1)) r3 er3) ?_
 refine lA 2 ?_
 refine sL 33554446 8 ⟨37,0,[sB 25 r3,sA 3 3 3 0,sI 1 x1,sI 2 x2],[(3,(CV.frzRow (Net.row x0)))]⟩ ?_
 cases h2 : r3
 ·have H := zG h2 H
  refine uA 12 64 0 ?_
  exact te (fF H)
 have H := zH h2 H
 refine lA 3 ?_
 obtain ⟨v4,ev4,H⟩ := bs H
 refine iA zA.row ev4 ?_
 refine lA 3 ?_
 obtain ⟨v5,ev5,H⟩ := bs H
 refine iA Pt.row ev5 ?_
 refine uA 4 64 0 ?_
 exact te (fJ [(false,[cB v5.Up])] H)
def ZG (n : Nat) (x0 : Net) (x1 : Int) : Option (Bool) :=
  ((zP n x1 0 (IntKind.wrap .i64 ((x0.Ls.length : Int) - 1))).bind fun r1 => (bif (!r1) then (some false) else ((idx x0.Ls x1).bind fun v2 => ((YA n x0 v2.A v2.P).bind fun r3 => (bif r3 then ((YA n x0 v2.B v2.Q).bind fun r4 => (some r4)) else (some false))))))
theorem zEi (n : Nat) (x0 : Net) (x1 : Int) (r : Bool) (H : ZG n x0 x1 = some r) : zD Tryz.prog 63 [.val true (CV.frzRow (Net.row x0)),.val false [.lit (.int .i64 x1)]] [.val false [.lit (.bool r)]] [] := by
 refine cW Tryz.func63 (fun g d => sl [g 0,sl [g 1] (cn 12 (sl [g 2] .ret) .skip),g 3,g 4] .ret) [.tmp 4] fun cx => ?_
 unfold ZG at H
 refine gA 2 6 4 ?_
 refine tS ?_
 refine rA 3 ?_
 refine kF x0.Ls Link.row ?_
 refine lA 1 ?_
 obtain ⟨r1,er1,H⟩ := bs H
 refine vA [.rd,.rd,.rd] (zO n x1 0 (IntKind.wrap .i64 ((x0.Ls.length : Int) - 1)) r1 er1) ?_
 refine uA 1 4102 4 ?_
 obtain ⟨h1,H⟩ | ⟨h1,H⟩ := bC H
 ·refine nA h1 ?_
  refine tK ?_
  refine rA 3 ?_
  obtain ⟨v2,ev2,H⟩ := bs H
  refine iA Link.row ev2 ?_
  refine uA 3 36 36 ?_
  refine rA 5 ?_
  obtain ⟨r3,er3,H⟩ := bs H
  refine vA [.rd,.rd,.rd] (zIf n x0 v2.A v2.P r3 er3) ?_
  refine lA 1 ?_
  refine sL 16777252 36 ⟨32,0,[sB 24 r3,sA 5 5 4 0,sA 2 2 3 0],[(5,(Link.row v2)),(2,(CV.frzRow (Net.row x0)))]⟩ ?_
  cases h2 : r3
  ·have H := zG h2 H
   refine uA 8 16 0 ?_
   exact te (fF H)
  have H := zH h2 H
  refine lA 5 ?_
  obtain ⟨r4,er4,H⟩ := bs H
  refine vA [.rd,.rd,.rd] (zIf n x0 v2.B v2.Q r4 er4) ?_
  refine uA 2 16 0 ?_
  exact te (fJ [(false,[cB r4])] H)
 refine tA h1 ?_
 refine gA 1 16 0 ?_
 exact te (fF H)
def Ji (n : Nat) (x0 : Net) (x1 : Int) (x2 : Bool) : Option (Vec) :=
  ((idx x0.Ls x1).bind fun v1 => (bif x2 then ((idx x0.Bs v1.B).bind fun v5 => ((idx x0.Bs v1.B).bind fun v6 => ((qI n v5.Id v6.Ps v1.Q).bind fun r7 => (some r7)))) else ((idx x0.Bs v1.A).bind fun v2 => ((idx x0.Bs v1.A).bind fun v3 => ((qI n v2.Id v3.Ps v1.P).bind fun r4 => (some r4))))))
def zOb : Tab := ⟨18,[0,1,0,4,10,16,32,0,128,0,512,1280,2048,4096,0,16384,41024,131071],[0,1,0,4,10,16,32,0,128,0,512,1280,2048,4096,0,16384,41024,65536],[0,1,0,4,15,31,63,0,128,0,512,1920,3968,8064,0,16384,65535,131071]⟩
theorem zC5 : zf (rg Tryz.f196 3) zOb = true := kr
def zOc : Tab := ⟨18,[0,1,0,4,10,16,32,0,128,0,512,1280,2048,4096,0,16384,41024,131071],[0,1,0,4,10,16,32,0,128,0,512,1280,2048,4096,0,16384,41024,65536],[0,1,0,4,15,31,63,0,128,0,512,1920,3968,8064,0,16384,65535,131071]⟩
theorem zC6 : zf (rg Tryz.f196 4) zOc = true := kr
theorem zHH (n : Nat) (x0 : Net) (x1 : Int) (x2 : Bool) (r : Vec) (H : Ji n x0 x1 x2 = some r) : zD Tryz.prog 196 [.val true (CV.frzRow (Net.row x0)),.val false [.lit (.int .i64 x1)],.val false [.lit (.bool x2)]] [.val true (Vec.row r)] [] := by
 refine cW Tryz.func196 (fun g d => sl [g 0,g 1,sl [g 2] (cn 13 (sl [d 3] .ret) .skip),d 4] .ret) [.cell 6 165] fun cx => ?_
 unfold Ji at H
 refine gA 2 78 72 ?_
 refine rA 3 ?_
 obtain ⟨v1,ev1,H⟩ := bs H
 refine iA Link.row ev1 ?_
 refine uA 3 204 200 ?_
 refine tS ?_
 refine gA 1 8392 200 ?_
 cases h1 : x2
 ·have H := zG h1 H
  refine nB_ ?_
  refine tK ?_
  obtain ⟨v2,ev2,H⟩ := bs H
  obtain ⟨v3,ev3,H⟩ := bs H
  obtain ⟨r4,er4,H⟩ := bs H
  refine Tr.draws mixed 18 kr ⟨48,0,[sA 6 6 5 0],[(6,(Vec.row r4))]⟩ (fun cx => ?_) ?_
  ·refine mA zC6 [(0,[]),(1,[16,17]),(2,[]),(3,[16,17])] 14 [⟨[16,17],3,33,34⟩,⟨[16,17],63,31,32⟩] fun cx => ?_
   refine iN zC6 4 zA.row ev2 fun cx => ?_
   refine mA zC6 [(5,[]),(6,[]),(7,[]),(8,[16,17]),(9,[]),(10,[16,17])] 7 [⟨[16,17],3,40,41⟩,⟨[16,17],63,38,39⟩,⟨[16,17],3,33,34⟩,⟨[16,17],63,31,32⟩] fun cx => ?_
   refine iN zC6 11 zA.row ev3 fun cx => ?_
   refine mA zC6 [(12,[]),(13,[]),(14,[]),(15,[16,17])] 2 [⟨[16,17],3,45,46⟩,⟨[16,17],3,40,41⟩,⟨[16,17],63,38,39⟩,⟨[16,17],3,33,34⟩,⟨[16,17],63,31,32⟩] fun cx => ?_
   refine mC zC6 16 ?_
   refine vA [.rd,.rd,.rd] (zEj n v2.Id v3.Ps v1.P r4 er4) ?_
   refine fA ?_
   refine mC zC6 17 ?_
   refine lA 1 ?_
   refine fA ?_
   exact mE zC6 [6] [6]
  exact te (fJ [(true,(Vec.row r4))] H)
 have H := zH h1 H
 refine tB_ ?_
 obtain ⟨v5,ev5,H⟩ := bs H
 obtain ⟨v6,ev6,H⟩ := bs H
 obtain ⟨r7,er7,H⟩ := bs H
 refine Tr.draws mixed 18 kr ⟨48,0,[sA 6 6 5 0],[(6,(Vec.row r7))]⟩ (fun cx => ?_) ?_
 ·refine mA zC5 [(0,[]),(1,[16,17]),(2,[]),(3,[16,17])] 14 [⟨[16,17],3,16,17⟩,⟨[16,17],63,14,15⟩] fun cx => ?_
  refine iN zC5 4 zA.row ev5 fun cx => ?_
  refine mA zC5 [(5,[]),(6,[]),(7,[]),(8,[16,17]),(9,[]),(10,[16,17])] 7 [⟨[16,17],3,23,24⟩,⟨[16,17],63,21,22⟩,⟨[16,17],3,16,17⟩,⟨[16,17],63,14,15⟩] fun cx => ?_
  refine iN zC5 11 zA.row ev6 fun cx => ?_
  refine mA zC5 [(12,[]),(13,[]),(14,[]),(15,[16,17])] 2 [⟨[16,17],3,28,29⟩,⟨[16,17],3,23,24⟩,⟨[16,17],63,21,22⟩,⟨[16,17],3,16,17⟩,⟨[16,17],63,14,15⟩] fun cx => ?_
  refine mC zC5 16 ?_
  refine vA [.rd,.rd,.rd] (zEj n v5.Id v6.Ps v1.Q r7 er7) ?_
  refine fA ?_
  refine mC zC5 17 ?_
  refine lA 1 ?_
  refine fA ?_
  exact mE zC5 [6] [6]
 exact te (fJ [(true,(Vec.row r7))] H)
def JM (n : Nat) (x0 : Net) (y3 : (List Say)) : Option (Net) :=
  (some (⟨x0.Bs,x0.Ls,y3⟩ : Net))
def Zp (n : Nat) (k : (Int × (List Say) → Option (((List Say)) ⊕ (Net)))) (x0 : Net) (x1 : Int) (y1 : Int) (y6 : (List Say)) : Option (((List Say)) ⊕ (Net)) :=
  ((idx x0.Ls y1).bind fun v7 => (bif (v7.B == x1) then ((Ji n (⟨x0.Bs,x0.Ls,y6⟩ : Net) y1 true).bind fun r8 => (bif (decide (y6.length + [(⟨y1,true,r8⟩ : Say)].length ≤ 268435456)) then (k ((IntKind.wrap .i64 (y1 + 1)),(y6 ++ [(⟨y1,true,r8⟩ : Say)]))) else none)) else (k ((IntKind.wrap .i64 (y1 + 1)),y6))))
def z5 (n : Nat) : Nat → Net → Int → Int → (List Say) → Option (((List Say)) ⊕ (Net))
  | 0,_,_,_,_ => none
  | mo4 + 1,x0,x1,y1,y2 => (bif (decide (y1 < (x0.Ls.length : Int))) then ((ZG n (⟨x0.Bs,x0.Ls,y2⟩ : Net) y1).bind fun r5 => (bif (!r5) then (z5 n mo4 x0 x1 (IntKind.wrap .i64 (y1 + 1)) y2) else (bif (decide ((y2.length : Int) ≥ 40)) then (z5 n mo4 x0 x1 (IntKind.wrap .i64 (y1 + 1)) y2) else ((idx x0.Ls y1).bind fun v10 => (bif (v10.A == x1) then ((Ji n (⟨x0.Bs,x0.Ls,y2⟩ : Net) y1 false).bind fun r11 => (bif (decide (y2.length + [(⟨y1,false,r11⟩ : Say)].length ≤ 268435456)) then (Zp n (fun v => z5 n mo4 x0 x1 v.1 v.2) x0 x1 y1 (y2 ++ [(⟨y1,false,r11⟩ : Say)])) else none)) else (Zp n (fun v => z5 n mo4 x0 x1 v.1 v.2) x0 x1 y1 y2)))))) else (some (Sum.inl y2)))
def Y7 (n : Nat) (x0 : Net) (x1 : Int) : Option (Net) :=
  ((z5 n n x0 x1 0 x0.Said).bind fun o => match o with | .inl y3 => (JM n x0 y3) | .inr r => some r)
def zOI : Tab := ⟨17,[0,0,2,4,8,0,0,64,128,0,768,1056,2048,5136,16383,32767,49151],[0,0,2,4,8,0,0,64,128,0,768,1056,2048,4112,1,16384,40960],[0,0,2,6,14,0,0,64,192,0,960,2016,4064,8190,16383,32767,65535]⟩
noncomputable abbrev zIl (k : Nat) := Rg Tryz.f109 k
noncomputable abbrev zN8 (k : Nat) := Rd Tryz.f109 k
theorem zCx : zf (rg Tryz.f109 5) zOI = true := kr
def zOJ : Tab := ⟨17,[0,0,2,4,8,0,0,64,128,0,768,1056,2048,5136,16383,32767,49151],[0,0,2,4,8,0,0,64,128,0,768,1056,2048,4112,1,16384,40960],[0,0,2,6,14,0,0,64,192,0,960,2016,4064,8190,16383,32767,65535]⟩
theorem zCy : zf (rg Tryz.f109 7) zOJ = true := kr
theorem zJP (n : Nat) (x0 : Net) (x1 : Int) (r : Net) (H : Y7 n x0 x1 = some r) : zD Tryz.prog 109 [.ptr (Net.row x0),.val false [.lit (.int .i64 x1)]] [] [(0,(Net.row r))] := by
 refine zD.of_body tOk Tryz.func109 rfl (c := (.seq (zIl 0) (.block 0 (.loop (.seq (.seq (zIl 1) (.cond (.tmp 11) .skip (.exit 0))) (.seq (.block 1 (.seq (.seq (zIl 3) (.cond (.tmp 27) (.exit 1) .skip)) (.seq (.seq (zIl 4) (.cond (.tmp 37) (zN8 5) .skip)) (.seq (zIl 6) (.cond (.tmp 63) (zN8 7) .skip))))) (zIl 2))))))) kr (Nat.le_of_ble_eq_true kr) 1 (rs := []) rfl [] .nil [] [] [(0,(Net.row r))] fun cx => ?_
 show Tr _ _ _ ⟨80,1,[sA 0 0 3 0,sI 1 x1],[(0,(Net.row x0))]⟩ _
 unfold Y7 at H
 refine gA 1 19 1 ?_
 obtain ⟨o4,eo4,Ho4⟩ := bs H
 clear H
 refine Tr.mid (ι := (List Say)) (fun v => ⟨80,1,[sA 0 0 3 0],[(0,[cL 11 x0.Bs zA.row,cL 4 x0.Ls Link.row,cL 7 v Say.row])]⟩) (fun v => JM n x0 v = some r) ?_ ?_
 ·refine tB ?_
  refine Tr.loop (ι := Nat × (Int × (List Say))) (fun v => ⟨80,1,[sI 4 v.2.1,sA 0 0 3 0,sI 1 x1],[(0,[cL 11 x0.Bs zA.row,cL 4 x0.Ls Link.row,cL 7 v.2.2 Say.row])]⟩) (fun v => z5 n v.1 x0 x1 v.2.1 v.2.2 = some o4) (fun v => v.1) (n,(0,x0.Said)) eo4 (St.sub_of [4,0,1] [0] kr) ?_
  rintro ⟨mo4,y1,y2⟩ H
  have H : z5 n mo4 x0 x1 y1 y2 = some o4 := H
  obtain _ | mo4 := mo4
  ·exact nN H
  rw [z5] at H
  refine tS ?_
  refine rA 5 ?_
  refine kO x0.Ls Link.row ?_
  refine uA 1 2067 1 ?_
  obtain ⟨h1,H⟩ | ⟨h1,H⟩ := bC H
  ·refine nA h1 ?_
   refine Tr.exit ?_
   refine aJ ?_
   obtain rfl := si H
   have H := Ho4
   dsimp only at H
   exact jA y2 H [0] [0]
  refine tA h1 ?_
  refine tK ?_
  refine tS ?_
  refine tB ?_
  refine tS ?_
  refine rA 4 ?_
  obtain ⟨r5,er5,H⟩ := bs H
  refine vB [.rd,.rd] [.box 0] (zEi n (⟨x0.Bs,x0.Ls,y2⟩ : Net) y1 r5 er5) (.inr (zk (zJ zM zz) zy)) ?_
  refine lA 2 ?_
  refine sL 1048595 1 ⟨80,1,[sB 20 (!r5),sI 4 y1,sA 0 0 3 0,sI 1 x1],[(0,[cL 11 x0.Bs zA.row,cL 4 x0.Ls Link.row,cL 7 y2 Say.row])]⟩ ?_
  cases h2 : (!r5)
  ·have H := zG h2 H
   refine lA 4 ?_
   refine kO y2 Say.row ?_
   refine uA 2 134217747 1 ?_
   obtain ⟨h3,H⟩ | ⟨h3,H⟩ := bC H
   ·refine nA h3 ?_
    refine tK ?_
    refine tS ?_
    refine Tr.mid (ι := (List Say)) (fun v => ⟨80,1,[sI 4 y1,sA 0 0 3 0,sI 1 x1],[(0,[cL 11 x0.Bs zA.row,cL 4 x0.Ls Link.row,cL 7 v Say.row])]⟩) (fun v => Zp n (fun v => z5 n mo4 x0 x1 v.1 v.2) x0 x1 y1 v = some o4) ?_ ?_
    ·refine rA 5 ?_
     obtain ⟨v10,ev10,H⟩ := bs H
     refine oA Link.row ev10 ?_
     refine lA 1 ?_
     refine dE (tI 3) (.box 0) [(0,0),(1,(y1.toNat))] 4 0 [.sl true 3 [[cL 11 x0.Bs zA.row,cL 4 x0.Ls Link.row,cL 7 y2 Say.row]]] (Link.row v10) (zt rfl (zI ev10).2) ?_
     refine uA 2 137438953491 1 ?_
     obtain ⟨h5,H⟩ | ⟨h5,H⟩ := bC H
     ·refine nA h5 ?_
      refine tK ?_
      exact jA y2 H [4,0,1] [0]
     refine tA h5 ?_
     obtain ⟨r11,er11,H⟩ := bs H
     obtain ⟨hg12,H⟩ := gs H
     refine Tr.draw mixed 17 kr ⟨80,1,[sI 4 y1,sA 0 0 3 0,sI 1 x1],[(0,[cL 11 x0.Bs zA.row,cL 4 x0.Ls Link.row,cL 7 (y2 ++ [(⟨y1,false,r11⟩ : Say)]) Say.row])]⟩ (fun cx => ?_) ?_
     ·refine mA zCx [(0,[]),(1,[]),(2,[]),(3,[]),(4,[13,16]),(5,[]),(6,[]),(7,[]),(8,[10,11,12,13,16]),(9,[])] 7 [⟨[10,11,12,13,16],67,45,46⟩,⟨[13,16],65,41,42⟩] fun cx => ?_
      refine mC zCx 10 ?_
      refine vB [.rd,.rd,.rd] [.box 0] (zHH n (⟨x0.Bs,x0.Ls,y2⟩ : Net) y1 false r11 er11) (.inr (zk (Vec.row_mine _) zy)) ?_
      refine fA ?_
      refine mC zCx 11 ?_
      refine lA 1 ?_
      refine fA ?_
      refine mC zCx 12 ?_
      refine lA 1 ?_
      refine fA ?_
      refine mC zCx 13 ?_
      refine LAt.appMU tOk (t := 65) (ty := 65) (e := 180) (x := (.tmp 42)) (y := (.tmp 50)) (d := 51) (g := none) (tI 180) Say.row y2 [(⟨y1,false,r11⟩ : Say)] kr kr kr kr kr kr kr kr kr kr hg12 ?_
      refine fA ?_
      refine mA zCx [(14,[]),(15,[])] 1 [⟨[10,11,12,13,16],67,45,46⟩,⟨[13,16],65,41,42⟩] fun cx => ?_
      refine mC zCx 16 ?_
      refine lA 1 ?_
      refine fA ?_
      exact mE zCx [4,0,1] [0]
     exact jA (y2 ++ [(⟨y1,false,r11⟩ : Say)]) H [4,0,1] [0]
    rintro y6 H
    have H : (Zp n (fun v => z5 n mo4 x0 x1 v.1 v.2) x0 x1 y1 y6) = some o4 := H
    unfold Zp at H
    refine rA 5 ?_
    obtain ⟨v7,ev7,H⟩ := bs H
    refine oA Link.row ev7 ?_
    refine lA 1 ?_
    refine dE (tI 3) (.box 0) [(0,0),(1,(y1.toNat))] 4 2 [.sl true 3 [[cL 11 x0.Bs zA.row,cL 4 x0.Ls Link.row,cL 7 y6 Say.row]]] (Link.row v7) (zt rfl (zI ev7).2) ?_
    refine uA 2 0x8000000000000013 1 ?_
    obtain ⟨h4,H⟩ | ⟨h4,H⟩ := bC H
    ·refine nA h4 ?_
     refine tK ?_
     refine eA 3 19 1 ?_
     exact jB mo4 ((IntKind.wrap .i64 (y1 + 1)),y6) H [4,0,1] [0]
    refine tA h4 ?_
    obtain ⟨r8,er8,H⟩ := bs H
    obtain ⟨hg9,H⟩ := gs H
    refine Tr.draw mixed 17 kr ⟨80,1,[sI 4 y1,sA 0 0 3 0,sI 1 x1],[(0,[cL 11 x0.Bs zA.row,cL 4 x0.Ls Link.row,cL 7 (y6 ++ [(⟨y1,true,r8⟩ : Say)]) Say.row])]⟩ (fun cx => ?_) ?_
    ·refine mA zCy [(0,[]),(1,[]),(2,[]),(3,[]),(4,[13,16]),(5,[]),(6,[]),(7,[]),(8,[10,11,12,13,16]),(9,[])] 7 [⟨[10,11,12,13,16],67,71,72⟩,⟨[13,16],65,67,68⟩] fun cx => ?_
     refine mC zCy 10 ?_
     refine vB [.rd,.rd,.rd] [.box 0] (zHH n (⟨x0.Bs,x0.Ls,y6⟩ : Net) y1 true r8 er8) (.inr (zk (Vec.row_mine _) zy)) ?_
     refine fA ?_
     refine mC zCy 11 ?_
     refine lA 1 ?_
     refine fA ?_
     refine mC zCy 12 ?_
     refine lA 1 ?_
     refine fA ?_
     refine mC zCy 13 ?_
     refine LAt.appMU tOk (t := 65) (ty := 65) (e := 180) (x := (.tmp 68)) (y := (.tmp 76)) (d := 77) (g := none) (tI 180) Say.row y6 [(⟨y1,true,r8⟩ : Say)] kr kr kr kr kr kr kr kr kr kr hg9 ?_
     refine fA ?_
     refine mA zCy [(14,[]),(15,[])] 1 [⟨[10,11,12,13,16],67,71,72⟩,⟨[13,16],65,67,68⟩] fun cx => ?_
     refine mC zCy 16 ?_
     refine lA 1 ?_
     refine fA ?_
     exact mE zCy [4,0,1] [0]
    refine eA 3 19 1 ?_
    exact jB mo4 ((IntKind.wrap .i64 (y1 + 1)),(y6 ++ [(⟨y1,true,r8⟩ : Say)])) H [4,0,1] [0]
   refine tA h3 ?_
   refine Tr.exit ?_
   refine aJ ?_
   refine eA 3 19 1 ?_
   exact jB mo4 ((IntKind.wrap .i64 (y1 + 1)),y2) H [4,0,1] [0]
  have H := zH h2 H
  refine uA 7 134217747 1 ?_
  refine tB_ ?_
  refine Tr.exit ?_
  refine aJ ?_
  refine eA 3 19 1 ?_
  exact jB mo4 ((IntKind.wrap .i64 (y1 + 1)),y2) H [4,0,1] [0]
 rintro y3 H
 have H : (JM n x0 y3) = some r := H
 unfold JM at H
 obtain rfl := si H
 exact Fin.ofY _ [] [] _ [] _ [(0,[cL 11 x0.Bs zA.row,cL 4 x0.Ls Link.row,cL 7 y3 Say.row])] kr rfl rfl rfl kr kr kr kr rfl rfl rfl
def YF (n : Nat) (x0 : zA) (x1 : Int) : Option (Bool) :=
  ((zT n x0).bind fun r1 => (bif r1 then ((zP n x1 0 (IntKind.wrap .i64 ((x0.Ps.length : Int) - 1))).bind fun r2 => (some r2)) else (some false)))
theorem zFY (n : Nat) (x0 : zA) (x1 : Int) (r : Bool) (H : YF n x0 x1 = some r) : zD Tryz.prog 69 [.val true (CV.frzRow (zA.row x0)),.val false [.lit (.int .i64 x1)]] [.val false [.lit (.bool r)]] [] := by
 refine cW Tryz.func69 (fun g d => sl [g 0,g 1] .ret) [.tmp 4] fun cx => ?_
 unfold YF at H
 refine gA 2 6 4 ?_
 refine rA 1 ?_
 obtain ⟨r1,er1,H⟩ := bs H
 refine vA [.rd] (zDW n x0 r1 er1) ?_
 refine lA 1 ?_
 refine sL 134 4 ⟨15,0,[sB 7 r1,sA 2 2 11 0,sI 1 x1],[(2,(CV.frzRow (zA.row x0)))]⟩ ?_
 cases h1 : r1
 ·have H := zG h1 H
  refine uA 8 16 0 ?_
  exact te (fF H)
 have H := zH h1 H
 refine lA 3 ?_
 refine kF x0.Ps Pt.row ?_
 refine lA 1 ?_
 obtain ⟨r2,er2,H⟩ := bs H
 refine vA [.rd,.rd,.rd] (zO n x1 0 (IntKind.wrap .i64 ((x0.Ps.length : Int) - 1)) r2 er2) ?_
 refine uA 2 16 0 ?_
 exact te (fJ [(false,[cB r2])] H)
def Z4 (n : Nat) (x0 : zA) (x1 : Int) (x2 : Vec) : Option (zA) :=
  ((Z5 n x0).bind fun r1 => ((YF n x0 x1).bind fun r2 => (bif (!r2) then (some r1) else ((idx x0.Ps x1).bind fun v3 => (bif (!v3.Up) then (some r1) else ((zq n x2).bind fun r4 => (bif (!r4) then (some r1) else ((idx r1.Ps x1).bind fun v5 => ((idx (r1.Ps.set (x1.toNat) (⟨v5.Up,v5.Co,true,v5.Hd⟩ : Pt)) x1).bind fun v6 => ((qm n (⟨r1.Id,r1.Name,((r1.Ps.set (x1.toNat) (⟨v5.Up,v5.Co,true,v5.Hd⟩ : Pt)).set (x1.toNat) (⟨v6.Up,v6.Co,v6.Has,x2⟩ : Pt)),r1.F,r1.V,r1.Tk,r1.Pa,r1.Wo,r1.Dr,r1.Ve⟩ : zA)).bind fun r7 => (some r7)))))))))))
theorem zGJ (n : Nat) (x0 : zA) (x1 : Int) (x2 : Vec) (r : zA) (H : Z4 n x0 x1 x2 = some r) : zD Tryz.prog 240 [.val true (CV.frzRow (zA.row x0)),.val false [.lit (.int .i64 x1)],.val true (CV.frzRow (Vec.row x2))] [.val true (zA.row r)] [] := by
 refine cW Tryz.func240 (fun g d => sl [g 0,g 1,sl [g 2] (cn 27 (sl [g 3] .ret) .skip),g 4,g 5,g 6] .ret) [.cell 6 41] fun cx => ?_
 unfold Z4 at H
 refine gA 3 106 104 ?_
 refine rA 1 ?_
 obtain ⟨r1,er1,H⟩ := bs H
 refine vA [.rd] (zCW n x0 r1 er1) ?_
 refine uA 2 234 232 ?_
 refine tS ?_
 refine rA 2 ?_
 obtain ⟨r2,er2,H⟩ := bs H
 refine vA [.rd,.rd] (zFY n x0 x1 r2 er2) ?_
 refine lA 2 ?_
 refine sL 16618 232 ⟨42,0,[sB 14 (!r2),sA 7 7 11 0,sA 6 6 11 0,sA 5 5 5 0,sA 3 3 11 0,sI 1 x1],[(7,(zA.row r1)),(6,[cI 0,cS (⟨#[]⟩ : ByteArray),cL 8 ([] : List Pt) Pt.row,cL 5 ([] : List zB) zB.row,cL 3 ([] : List zC) zC.row,cL 1 ([] : List Int) intRow,cI 0,cI 0,cI 0,cI 0,cI 0]),(5,(Vec.row x2)),(3,(CV.frzRow (zA.row x0)))]⟩ ?_
 cases h1 : (!r2)
 ·have H := zG h1 H
  refine lA 3 ?_
  obtain ⟨v3,ev3,H⟩ := bs H
  refine iA Pt.row ev3 ?_
  refine lA 5 ?_
  refine sL 8388834 224 ⟨42,0,[sB 23 (!v3.Up),sA 7 7 11 0,sA 6 6 11 0,sA 5 5 5 0,sI 1 x1],[(7,(zA.row r1)),(6,[cI 0,cS (⟨#[]⟩ : ByteArray),cL 8 ([] : List Pt) Pt.row,cL 5 ([] : List zB) zB.row,cL 3 ([] : List zC) zC.row,cL 1 ([] : List Int) intRow,cI 0,cI 0,cI 0,cI 0,cI 0]),(5,(Vec.row x2))]⟩ ?_
  cases h2 : (!v3.Up)
  ·have H := zG h2 H
   refine lA 1 ?_
   obtain ⟨r4,er4,H⟩ := bs H
   refine vA [.rd] (zCU n x2 r4 er4) ?_
   refine uA 2 134217954 224 ?_
   obtain ⟨h3,H⟩ | ⟨h3,H⟩ := bC H
   ·refine nA h3 ?_
    refine tK ?_
    refine rA 3 ?_
    obtain ⟨v5,ev5,H⟩ := bs H
    refine oA Pt.row ev5 ?_
    refine lA 1 ?_
    refine LAt.storeB tOk (t := 4) (ty := 0) (ad := (.tmp 33)) (x := (.const (.bool true))) (g := none) (tI 4) false [cB true] 7 2 (x1.toNat) 8 2 8 r1.Ps Pt.row v5 (⟨v5.Up,v5.Co,true,v5.Hd⟩ : Pt) kr kr kr kr kr kr kr kr (zI ev5).2 kr kr kr kr ?_
    refine dA 226 224 ?_
    refine rA 4 ?_
    obtain ⟨v6,ev6,H⟩ := bs H
    refine oA Pt.row ev6 ?_
    refine lA 1 ?_
    refine LAt.storeB tOk (t := 165) (ty := 0) (ad := (.tmp 39)) (x := (.tmp 37)) (g := none) (tI 165) true (Vec.row x2) 7 2 (x1.toNat) 8 3 8 (r1.Ps.set (x1.toNat) (⟨v5.Up,v5.Co,true,v5.Hd⟩ : Pt)) Pt.row v6 (⟨v6.Up,v6.Co,v6.Has,x2⟩ : Pt) kr kr kr kr kr kr kr kr (zI ev6).2 kr kr kr kr ?_
    refine dA 192 192 ?_
    refine rA 1 ?_
    obtain ⟨r7,er7,H⟩ := bs H
    refine vA [.own] (zCn n (⟨r1.Id,r1.Name,((r1.Ps.set (x1.toNat) (⟨v5.Up,v5.Co,true,v5.Hd⟩ : Pt)).set (x1.toNat) (⟨v6.Up,v6.Co,v6.Has,x2⟩ : Pt)),r1.F,r1.V,r1.Tk,r1.Pa,r1.Wo,r1.Dr,r1.Ve⟩ : zA) r7 er7) ?_
    refine uA 1 64 64 ?_
    exact te (fJ [(true,(zA.row r7))] H)
   refine tA h3 ?_
   refine gA 2 64 64 ?_
   exact te (fJ [(true,(zA.row r1))] H)
  have H := zH h2 H
  refine uA 4 134217954 224 ?_
  refine tB_ ?_
  refine gA 2 64 64 ?_
  exact te (fJ [(true,(zA.row r1))] H)
 have H := zH h1 H
 refine uA 13 134217954 224 ?_
 refine tB_ ?_
 refine gA 2 64 64 ?_
 exact te (fJ [(true,(zA.row r1))] H)
def Yl (n : Nat) (x0 : Net) (x1 : Int) (x2 : Bool) (x3 : Vec) : Option (Net) :=
  ((idx x0.Ls x1).bind fun v1 => (bif x2 then ((idx x0.Bs v1.A).bind fun v4 => ((Z4 n v4 v1.P x3).bind fun r5 => (some (⟨(x0.Bs.set (v1.A.toNat) r5),x0.Ls,x0.Said⟩ : Net)))) else ((idx x0.Bs v1.B).bind fun v2 => ((Z4 n v2 v1.Q x3).bind fun r3 => (some (⟨(x0.Bs.set (v1.B.toNat) r3),x0.Ls,x0.Said⟩ : Net))))))
def zOd : Tab := ⟨20,[0,1,2,4,0,16,0,64,128,256,0,1024,2560,4096,0,16384,0,106496,262143,524287],[0,1,2,4,0,16,0,64,128,256,0,1024,2560,4096,0,16384,0,106496,40,393216],[0,1,3,7,0,16,0,64,192,448,0,1024,4032,8128,0,16384,0,131008,262143,524287]⟩
noncomputable abbrev zNI (k : Nat) := Rg Tryz.f197 k
noncomputable abbrev zOC (k : Nat) := Rd Tryz.f197 k
theorem zC7 : zf (rg Tryz.f197 3) zOd = true := kr
def zOe : Tab := ⟨20,[0,1,2,4,0,16,0,64,128,256,0,1024,2560,4096,0,16384,0,106496,262143,524287],[0,1,2,4,0,16,0,64,128,256,0,1024,2560,4096,0,16384,0,106496,40,393216],[0,1,3,7,0,16,0,64,192,448,0,1024,4032,8128,0,16384,0,131008,262143,524287]⟩
theorem zC8 : zf (rg Tryz.f197 4) zOe = true := kr
theorem zK6 (n : Nat) (x0 : Net) (x1 : Int) (x2 : Bool) (x3 : Vec) (r : Net) (H : Yl n x0 x1 x2 x3 = some r) : zD Tryz.prog 197 [.ptr (Net.row x0),.val false [.lit (.int .i64 x1)],.val false [.lit (.bool x2)],.val true (CV.frzRow (Vec.row x3))] [] [(0,(Net.row r))] := by
 refine zD.of_body tOk Tryz.func197 rfl (c := (.seq (zNI 0) (.seq (zNI 1) (.seq (.seq (zNI 2) (.cond (.tmp 16) (.seq (zOC 3) .ret) .skip)) (zOC 4))))) kr (Nat.le_of_ble_eq_true kr) 1 (rs := []) rfl [] .nil [] [] [(0,(Net.row r))] fun cx => ?_
 show Tr _ _ _ ⟨55,1,[sA 0 0 3 0,sI 1 x1,sB 2 x2,sV 3 (Vec.row x3)],[(0,(Net.row x0))]⟩ _
 unfold Yl at H
 refine gA 1 135 129 ?_
 refine rA 5 ?_
 obtain ⟨v1,ev1,H⟩ := bs H
 refine oA Link.row ev1 ?_
 refine dE (tI 114) (.box 0) [(0,0),(1,(x1.toNat))] 4 0 [.sl true 3 [(Net.row x0)]] (Link.row v1) (zt rfl (zI ev1).2) ?_
 refine uA 2 389 385 ?_
 refine tS ?_
 refine gA 1 65921 385 ?_
 cases h1 : x2
 ·have H := zG h1 H
  refine nB_ ?_
  refine tK ?_
  obtain ⟨v2,ev2,H⟩ := bs H
  obtain ⟨r3,er3,H⟩ := bs H
  refine Tr.draw mixed 20 kr ⟨55,1,[sA 0 0 3 0],[(0,[cL 11 (x0.Bs.set (v1.B.toNat) r3) zA.row,cL 4 x0.Ls Link.row,cL 7 x0.Said Say.row])]⟩ (fun cx => ?_) ?_
  ·refine mA zC8 [(0,[]),(1,[]),(2,[]),(3,[19]),(4,[]),(5,[19]),(6,[]),(7,[]),(8,[]),(9,[17,19]),(10,[]),(11,[17,19])] 8 [⟨[17,19],3,46,47⟩,⟨[17,19],63,44,45⟩,⟨[19],3,40,41⟩,⟨[19],63,38,39⟩] fun cx => ?_
   refine oN zC8 12 zA.row ev2 fun cx => ?_
   refine mA zC8 [(14,[]),(15,[17,19]),(16,[17,19])] 4 [⟨[17,19],165,7,52⟩,⟨[17,19],3,50,51⟩,⟨[17,19],3,46,47⟩,⟨[17,19],63,44,45⟩,⟨[19],3,40,41⟩,⟨[19],63,38,39⟩] fun cx => ?_
   refine mC zC8 13 ?_
   refine dE (tI 41) (.box 0) [(0,0),(0,(v1.B.toNat))] 11 0 [.sl true 3 [(Net.row x0)]] (zA.row v2) (zt rfl (zI ev2).2) ?_
   refine fA ?_
   refine mC zC8 17 ?_
   refine LAt.callO tOk [.rd,.rd,.rd] (f := 240) (av := #[.tmp 49,.tmp 51,.tmp 52]) (ats := #[41,3,165]) (d := (some 53)) (ty := 41) (g := none) [(49,zA.row v2)] none kr kr kr [.box 0] (zGJ n v2 v1.Q x3 r3 er3) (YQ (row := [.sl true 3 [(Net.row x0)]]) (q := [(0,0),(0,(v1.B.toNat))]) kr (zt rfl (zI ev2).2) Je) kr zCl (.inr (And.intro (zk (zA.row_mine _) zy) zB5)) ?_
   refine fA ?_
   refine oN zC8 18 zA.row ev2 fun cx => ?_
   refine mC zC8 19 ?_
   refine LAt.storeB tOk (t := 41) (ty := 0) (ad := (.tmp 54)) (x := (.tmp 53)) (g := none) (tI 41) true (zA.row r3) 0 0 (v1.B.toNat) 11 0 11 x0.Bs zA.row v2 r3 kr kr kr kr kr kr kr kr (zI ev2).2 kr kr kr kr ?_
   refine fA ?_
   exact mE zC8 [0] [0]
  obtain rfl := si H
  exact Fin.ofY _ [] [] _ [] _ [(0,[cL 11 (x0.Bs.set (v1.B.toNat) r3) zA.row,cL 4 x0.Ls Link.row,cL 7 x0.Said Say.row])] kr rfl rfl rfl kr kr kr kr rfl rfl rfl
 have H := zH h1 H
 refine tB_ ?_
 obtain ⟨v4,ev4,H⟩ := bs H
 obtain ⟨r5,er5,H⟩ := bs H
 refine Tr.draws mixed 20 kr ⟨55,1,[sA 0 0 3 0],[(0,[cL 11 (x0.Bs.set (v1.A.toNat) r5) zA.row,cL 4 x0.Ls Link.row,cL 7 x0.Said Say.row])]⟩ (fun cx => ?_) ?_
 ·refine mA zC7 [(0,[]),(1,[]),(2,[]),(3,[19]),(4,[]),(5,[19]),(6,[]),(7,[]),(8,[]),(9,[17,19]),(10,[]),(11,[17,19])] 8 [⟨[17,19],3,27,28⟩,⟨[17,19],63,25,26⟩,⟨[19],3,21,22⟩,⟨[19],63,19,20⟩] fun cx => ?_
  refine oN zC7 12 zA.row ev4 fun cx => ?_
  refine mA zC7 [(14,[]),(15,[17,19]),(16,[17,19])] 4 [⟨[17,19],165,7,33⟩,⟨[17,19],3,31,32⟩,⟨[17,19],3,27,28⟩,⟨[17,19],63,25,26⟩,⟨[19],3,21,22⟩,⟨[19],63,19,20⟩] fun cx => ?_
  refine mC zC7 13 ?_
  refine dE (tI 41) (.box 0) [(0,0),(0,(v1.A.toNat))] 11 0 [.sl true 3 [(Net.row x0)]] (zA.row v4) (zt rfl (zI ev4).2) ?_
  refine fA ?_
  refine mC zC7 17 ?_
  refine LAt.callO tOk [.rd,.rd,.rd] (f := 240) (av := #[.tmp 30,.tmp 32,.tmp 33]) (ats := #[41,3,165]) (d := (some 34)) (ty := 41) (g := none) [(30,zA.row v4)] none kr kr kr [.box 0] (zGJ n v4 v1.P x3 r5 er5) (YQ (row := [.sl true 3 [(Net.row x0)]]) (q := [(0,0),(0,(v1.A.toNat))]) kr (zt rfl (zI ev4).2) Je) kr zCl (.inr (And.intro (zk (zA.row_mine _) zy) zB5)) ?_
  refine fA ?_
  refine oN zC7 18 zA.row ev4 fun cx => ?_
  refine mC zC7 19 ?_
  refine LAt.storeB tOk (t := 41) (ty := 0) (ad := (.tmp 35)) (x := (.tmp 34)) (g := none) (tI 41) true (zA.row r5) 0 0 (v1.A.toNat) 11 0 11 x0.Bs zA.row v4 r5 kr kr kr kr kr kr kr kr (zI ev4).2 kr kr kr kr ?_
  refine fA ?_
  exact mE zC7 [0] [0]
 refine te ?_
 obtain rfl := si H
 exact Fin.ofY _ [] [] _ [] _ [(0,[cL 11 (x0.Bs.set (v1.A.toNat) r5) zA.row,cL 4 x0.Ls Link.row,cL 7 x0.Said Say.row])] kr rfl rfl rfl kr kr kr kr rfl rfl rfl
def Ym (n : Nat) (x0 : Net) (x1 : Event) : Option (Net) :=
  ((idx x0.Said x1.At).bind fun v1 => (bif (decide ((0 : Int) ≤ 0) && (decide ((0 : Int) ≤ x1.At) && decide ((x1.At : Int) ≤ (x0.Said.length : Int)))) then (bif (decide (([] : List Say).length + ((x0.Said.drop ((0 : Int)).toNat).take (((x1.At : Int)).toNat - ((0 : Int)).toNat)).length ≤ 268435456)) then (bif (decide ((0 : Int) ≤ (IntKind.wrap .i64 (x1.At + 1))) && (decide (((IntKind.wrap .i64 (x1.At + 1)) : Int) ≤ (x0.Said.length : Int)) && decide (((x0.Said.length : Int) : Int) ≤ (x0.Said.length : Int)))) then (bif (decide ((([] : List Say) ++ ((x0.Said.drop ((0 : Int)).toNat).take (((x1.At : Int)).toNat - ((0 : Int)).toNat))).length + ((x0.Said.drop (((IntKind.wrap .i64 (x1.At + 1)) : Int)).toNat).take ((((x0.Said.length : Int) : Int)).toNat - (((IntKind.wrap .i64 (x1.At + 1)) : Int)).toNat)).length ≤ 268435456)) then (bif (x1.Ki == 2) then ((ZG n (⟨x0.Bs,x0.Ls,((([] : List Say) ++ ((x0.Said.drop ((0 : Int)).toNat).take (((x1.At : Int)).toNat - ((0 : Int)).toNat))) ++ ((x0.Said.drop (((IntKind.wrap .i64 (x1.At + 1)) : Int)).toNat).take ((((x0.Said.length : Int) : Int)).toNat - (((IntKind.wrap .i64 (x1.At + 1)) : Int)).toNat)))⟩ : Net) v1.Link).bind fun r6 => (bif r6 then ((Yl n (⟨x0.Bs,x0.Ls,((([] : List Say) ++ ((x0.Said.drop ((0 : Int)).toNat).take (((x1.At : Int)).toNat - ((0 : Int)).toNat))) ++ ((x0.Said.drop (((IntKind.wrap .i64 (x1.At + 1)) : Int)).toNat).take ((((x0.Said.length : Int) : Int)).toNat - (((IntKind.wrap .i64 (x1.At + 1)) : Int)).toNat)))⟩ : Net) v1.Link v1.Back v1.V).bind fun r7 => (some r7)) else (some (⟨x0.Bs,x0.Ls,((([] : List Say) ++ ((x0.Said.drop ((0 : Int)).toNat).take (((x1.At : Int)).toNat - ((0 : Int)).toNat))) ++ ((x0.Said.drop (((IntKind.wrap .i64 (x1.At + 1)) : Int)).toNat).take ((((x0.Said.length : Int) : Int)).toNat - (((IntKind.wrap .i64 (x1.At + 1)) : Int)).toNat)))⟩ : Net)))) else (some (⟨x0.Bs,x0.Ls,((([] : List Say) ++ ((x0.Said.drop ((0 : Int)).toNat).take (((x1.At : Int)).toNat - ((0 : Int)).toNat))) ++ ((x0.Said.drop (((IntKind.wrap .i64 (x1.At + 1)) : Int)).toNat).take ((((x0.Said.length : Int) : Int)).toNat - (((IntKind.wrap .i64 (x1.At + 1)) : Int)).toNat)))⟩ : Net))) else none) else none) else none) else none))
def zOK : Tab := ⟨22,[0,0,0,4,8,16,0,64,160,258,0,1024,2048,4096,0,16384,32768,73728,131584,524287,1048575,1572863],[0,0,0,4,8,16,0,64,160,258,0,1024,2048,4096,0,16384,32768,73728,131584,1,524288,1310720],[0,0,0,4,12,28,0,64,252,510,0,1024,3072,7168,0,16384,49152,130048,262142,524287,1048575,2097151]⟩
noncomputable abbrev zOD (k : Nat) := Rg Tryz.f110 k
noncomputable abbrev zNG (k : Nat) := Rd Tryz.f110 k
theorem zg : zf (rg Tryz.f110 2) zOK = true := kr
theorem zIg (n : Nat) (x0 : Net) (x1 : Event) (v1 : Say) (hg2 : (decide ((0 : Int) ≤ 0) && (decide ((0 : Int) ≤ x1.At) && decide ((x1.At : Int) ≤ (x0.Said.length : Int)))) = true) (hg3 : (decide (([] : List Say).length + ((x0.Said.drop ((0 : Int)).toNat).take (((x1.At : Int)).toNat - ((0 : Int)).toNat)).length ≤ 268435456)) = true) (hg4 : (decide ((0 : Int) ≤ (IntKind.wrap .i64 (x1.At + 1))) && (decide (((IntKind.wrap .i64 (x1.At + 1)) : Int) ≤ (x0.Said.length : Int)) && decide (((x0.Said.length : Int) : Int) ≤ (x0.Said.length : Int)))) = true) (hg5 : (decide ((([] : List Say) ++ ((x0.Said.drop ((0 : Int)).toNat).take (((x1.At : Int)).toNat - ((0 : Int)).toNat))).length + ((x0.Said.drop (((IntKind.wrap .i64 (x1.At + 1)) : Int)).toNat).take ((((x0.Said.length : Int) : Int)).toNat - (((IntKind.wrap .i64 (x1.At + 1)) : Int)).toNat)).length ≤ 268435456)) = true) (cx : Cx) : AT Tryz.prog cx (rg Tryz.f110 2) [] 22 [] ⟨53,1,[sA 4 4 7 0,sA 3 3 2 0,sA 0 0 3 0],[(0,[cL 11 x0.Bs zA.row,cL 4 x0.Ls Link.row,cF 7 x0.Said Say.row]),(4,(Say.row v1)),(3,(Event.row x1))]⟩ (fun s => s = ⟨53,1,[sA 4 4 7 0,sA 3 3 2 0,sA 0 0 3 0],[(0,[cL 11 x0.Bs zA.row,cL 4 x0.Ls Link.row,cL 7 ((([] : List Say) ++ ((x0.Said.drop ((0 : Int)).toNat).take (((x1.At : Int)).toNat - ((0 : Int)).toNat))) ++ ((x0.Said.drop (((IntKind.wrap .i64 (x1.At + 1)) : Int)).toNat).take ((((x0.Said.length : Int) : Int)).toNat - (((IntKind.wrap .i64 (x1.At + 1)) : Int)).toNat))) Say.row]),(4,(Say.row v1)),(3,(Event.row x1))]⟩) := by
 refine mA zg [(0,[]),(2,[]),(3,[]),(4,[]),(5,[8,9,18,21]),(6,[]),(7,[8,9,18,21]),(10,[]),(11,[]),(12,[]),(13,[17,18,21]),(14,[]),(15,[17,18,21]),(16,[])] 8 [⟨[17,18,21],3,27,28⟩,⟨[17,18,21],65,25,26⟩,⟨[8,9,18,21],3,19,20⟩,⟨[8,9,18,21],65,17,18⟩] fun cx => ?_
 refine mB3 tOk zg 1 8 17 kr (And.intro kr ?_) (And.intro kr ?_) (And.intro kr ?_)
 ·refine lA 1 ?_
  refine fA ?_
  refine mB2 tOk zg 8 17 kr (And.intro kr ?_) (And.intro kr ?_)
  ·refine LAt.cutG tOk (t := 65) (ty := 65) (e := 180) (x := (.tmp 18)) (lo := none) (hi := (some (.tmp 20))) (d := 21) (g := none) (tI 180) Say.row x0.Said ⟨(.box 0),[(0,0)],2,false,7,(CV.frzEs (x0.Said.map Say.row))⟩ 0 x1.At kr kr kr kr kr kr rfl kr rfl kr kr hg2 ?_
   refine fA ?_
   refine mB2 tOk zg 9 17 kr (And.intro kr ?_) (And.intro kr ?_)
   ·refine pD Say.row hg3 ?_
    refine fA ?_
    refine mC zg 17 ?_
    refine LAt.cutG tOk (t := 65) (ty := 65) (e := 180) (x := (.tmp 26)) (lo := (some (.tmp 29))) (hi := none) (d := 30) (g := none) (tI 180) Say.row x0.Said ⟨(.box 0),[(0,0)],2,false,7,(CV.frzEs (x0.Said.map Say.row))⟩ (IntKind.wrap .i64 (x1.At + 1)) (x0.Said.length : Int) kr kr kr kr kr kr rfl kr rfl kr kr hg4 ?_
    refine fA ?_
    refine mC zg 18 ?_
    refine pD Say.row hg5 ?_
    refine fA ?_
    refine mA zg [(19,[]),(20,[])] 1 [⟨[17,18,21],3,27,28⟩,⟨[17,18,21],65,25,26⟩,⟨[8,9,18,21],3,19,20⟩,⟨[8,9,18,21],65,17,18⟩] fun cx => ?_
    refine mC zg 21 ?_
    refine lA 1 ?_
    refine fA ?_
    exact mE zg [4,3,0] [0,4,3]
   ·refine LAt.cutG tOk (t := 65) (ty := 65) (e := 180) (x := (.tmp 26)) (lo := (some (.tmp 29))) (hi := none) (d := 30) (g := none) (tI 180) Say.row x0.Said ⟨(.box 0),[(0,0)],2,false,7,(CV.frzEs (x0.Said.map Say.row))⟩ (IntKind.wrap .i64 (x1.At + 1)) (x0.Said.length : Int) kr kr kr kr kr kr rfl kr rfl kr kr hg4 ?_
    refine fA ?_
    refine mC zg 9 ?_
    refine pD Say.row hg3 ?_
    refine fA ?_
    refine mC zg 18 ?_
    refine pD Say.row hg5 ?_
    refine fA ?_
    refine mA zg [(19,[]),(20,[])] 1 [⟨[17,18,21],3,27,28⟩,⟨[17,18,21],65,25,26⟩,⟨[8,9,18,21],3,19,20⟩,⟨[8,9,18,21],65,17,18⟩] fun cx => ?_
    refine mC zg 21 ?_
    refine lA 1 ?_
    refine fA ?_
    exact mE zg [4,3,0] [0,4,3]
  ·refine LAt.cutG tOk (t := 65) (ty := 65) (e := 180) (x := (.tmp 26)) (lo := (some (.tmp 29))) (hi := none) (d := 30) (g := none) (tI 180) Say.row x0.Said ⟨(.box 0),[(0,0)],2,false,7,(CV.frzEs (x0.Said.map Say.row))⟩ (IntKind.wrap .i64 (x1.At + 1)) (x0.Said.length : Int) kr kr kr kr kr kr rfl kr rfl kr kr hg4 ?_
   refine fA ?_
   refine mC zg 8 ?_
   refine LAt.cutG tOk (t := 65) (ty := 65) (e := 180) (x := (.tmp 18)) (lo := none) (hi := (some (.tmp 20))) (d := 21) (g := none) (tI 180) Say.row x0.Said ⟨(.box 0),[(0,0)],2,false,7,(CV.frzEs (x0.Said.map Say.row))⟩ 0 x1.At kr kr kr kr kr kr rfl kr rfl kr kr hg2 ?_
   refine fA ?_
   refine mC zg 9 ?_
   refine pD Say.row hg3 ?_
   refine fA ?_
   refine mC zg 18 ?_
   refine pD Say.row hg5 ?_
   refine fA ?_
   refine mA zg [(19,[]),(20,[])] 1 [⟨[17,18,21],3,27,28⟩,⟨[17,18,21],65,25,26⟩,⟨[8,9,18,21],3,19,20⟩,⟨[8,9,18,21],65,17,18⟩] fun cx => ?_
   refine mC zg 21 ?_
   refine lA 1 ?_
   refine fA ?_
   exact mE zg [4,3,0] [0,4,3]
 ·refine LAt.cutG tOk (t := 65) (ty := 65) (e := 180) (x := (.tmp 18)) (lo := none) (hi := (some (.tmp 20))) (d := 21) (g := none) (tI 180) Say.row x0.Said ⟨(.box 0),[(0,0)],2,false,7,(CV.frzEs (x0.Said.map Say.row))⟩ 0 x1.At kr kr kr kr kr kr rfl kr rfl kr kr hg2 ?_
  refine fA ?_
  refine mB2 tOk zg 1 17 kr (And.intro kr ?_) (And.intro kr ?_)
  ·refine lA 1 ?_
   refine fA ?_
   refine mB2 tOk zg 9 17 kr (And.intro kr ?_) (And.intro kr ?_)
   ·refine pD Say.row hg3 ?_
    refine fA ?_
    refine mC zg 17 ?_
    refine LAt.cutG tOk (t := 65) (ty := 65) (e := 180) (x := (.tmp 26)) (lo := (some (.tmp 29))) (hi := none) (d := 30) (g := none) (tI 180) Say.row x0.Said ⟨(.box 0),[(0,0)],2,false,7,(CV.frzEs (x0.Said.map Say.row))⟩ (IntKind.wrap .i64 (x1.At + 1)) (x0.Said.length : Int) kr kr kr kr kr kr rfl kr rfl kr kr hg4 ?_
    refine fA ?_
    refine mC zg 18 ?_
    refine pD Say.row hg5 ?_
    refine fA ?_
    refine mA zg [(19,[]),(20,[])] 1 [⟨[17,18,21],3,27,28⟩,⟨[17,18,21],65,25,26⟩,⟨[8,9,18,21],3,19,20⟩,⟨[8,9,18,21],65,17,18⟩] fun cx => ?_
    refine mC zg 21 ?_
    refine lA 1 ?_
    refine fA ?_
    exact mE zg [4,3,0] [0,4,3]
   ·refine LAt.cutG tOk (t := 65) (ty := 65) (e := 180) (x := (.tmp 26)) (lo := (some (.tmp 29))) (hi := none) (d := 30) (g := none) (tI 180) Say.row x0.Said ⟨(.box 0),[(0,0)],2,false,7,(CV.frzEs (x0.Said.map Say.row))⟩ (IntKind.wrap .i64 (x1.At + 1)) (x0.Said.length : Int) kr kr kr kr kr kr rfl kr rfl kr kr hg4 ?_
    refine fA ?_
    refine mC zg 9 ?_
    refine pD Say.row hg3 ?_
    refine fA ?_
    refine mC zg 18 ?_
    refine pD Say.row hg5 ?_
    refine fA ?_
    refine mA zg [(19,[]),(20,[])] 1 [⟨[17,18,21],3,27,28⟩,⟨[17,18,21],65,25,26⟩,⟨[8,9,18,21],3,19,20⟩,⟨[8,9,18,21],65,17,18⟩] fun cx => ?_
    refine mC zg 21 ?_
    refine lA 1 ?_
    refine fA ?_
    exact mE zg [4,3,0] [0,4,3]
  ·refine LAt.cutG tOk (t := 65) (ty := 65) (e := 180) (x := (.tmp 26)) (lo := (some (.tmp 29))) (hi := none) (d := 30) (g := none) (tI 180) Say.row x0.Said ⟨(.box 0),[(0,0)],2,false,7,(CV.frzEs (x0.Said.map Say.row))⟩ (IntKind.wrap .i64 (x1.At + 1)) (x0.Said.length : Int) kr kr kr kr kr kr rfl kr rfl kr kr hg4 ?_
   refine fA ?_
   refine mC zg 1 ?_
   refine lA 1 ?_
   refine fA ?_
   refine mC zg 9 ?_
   refine pD Say.row hg3 ?_
   refine fA ?_
   refine mC zg 18 ?_
   refine pD Say.row hg5 ?_
   refine fA ?_
   refine mA zg [(19,[]),(20,[])] 1 [⟨[17,18,21],3,27,28⟩,⟨[17,18,21],65,25,26⟩,⟨[8,9,18,21],3,19,20⟩,⟨[8,9,18,21],65,17,18⟩] fun cx => ?_
   refine mC zg 21 ?_
   refine lA 1 ?_
   refine fA ?_
   exact mE zg [4,3,0] [0,4,3]
 ·refine LAt.cutG tOk (t := 65) (ty := 65) (e := 180) (x := (.tmp 26)) (lo := (some (.tmp 29))) (hi := none) (d := 30) (g := none) (tI 180) Say.row x0.Said ⟨(.box 0),[(0,0)],2,false,7,(CV.frzEs (x0.Said.map Say.row))⟩ (IntKind.wrap .i64 (x1.At + 1)) (x0.Said.length : Int) kr kr kr kr kr kr rfl kr rfl kr kr hg4 ?_
  refine fA ?_
  refine mB2 tOk zg 1 8 kr (And.intro kr ?_) (And.intro kr ?_)
  ·refine lA 1 ?_
   refine fA ?_
   refine mC zg 8 ?_
   refine LAt.cutG tOk (t := 65) (ty := 65) (e := 180) (x := (.tmp 18)) (lo := none) (hi := (some (.tmp 20))) (d := 21) (g := none) (tI 180) Say.row x0.Said ⟨(.box 0),[(0,0)],2,false,7,(CV.frzEs (x0.Said.map Say.row))⟩ 0 x1.At kr kr kr kr kr kr rfl kr rfl kr kr hg2 ?_
   refine fA ?_
   refine mC zg 9 ?_
   refine pD Say.row hg3 ?_
   refine fA ?_
   refine mC zg 18 ?_
   refine pD Say.row hg5 ?_
   refine fA ?_
   refine mA zg [(19,[]),(20,[])] 1 [⟨[17,18,21],3,27,28⟩,⟨[17,18,21],65,25,26⟩,⟨[8,9,18,21],3,19,20⟩,⟨[8,9,18,21],65,17,18⟩] fun cx => ?_
   refine mC zg 21 ?_
   refine lA 1 ?_
   refine fA ?_
   exact mE zg [4,3,0] [0,4,3]
  ·refine LAt.cutG tOk (t := 65) (ty := 65) (e := 180) (x := (.tmp 18)) (lo := none) (hi := (some (.tmp 20))) (d := 21) (g := none) (tI 180) Say.row x0.Said ⟨(.box 0),[(0,0)],2,false,7,(CV.frzEs (x0.Said.map Say.row))⟩ 0 x1.At kr kr kr kr kr kr rfl kr rfl kr kr hg2 ?_
   refine fA ?_
   refine mC zg 1 ?_
   refine lA 1 ?_
   refine fA ?_
   refine mC zg 9 ?_
   refine pD Say.row hg3 ?_
   refine fA ?_
   refine mC zg 18 ?_
   refine pD Say.row hg5 ?_
   refine fA ?_
   refine mA zg [(19,[]),(20,[])] 1 [⟨[17,18,21],3,27,28⟩,⟨[17,18,21],65,25,26⟩,⟨[8,9,18,21],3,19,20⟩,⟨[8,9,18,21],65,17,18⟩] fun cx => ?_
   refine mC zg 21 ?_
   refine lA 1 ?_
   refine fA ?_
   exact mE zg [4,3,0] [0,4,3]
theorem zK8 (n : Nat) (x0 : Net) (x1 : Event) (r : Net) (H : Ym n x0 x1 = some r) : zD Tryz.prog 110 [.ptr (Net.row x0),.val true (CV.frzRow (Event.row x1))] [] [(0,(Net.row r))] := by
 refine zD.of_body tOk Tryz.func110 rfl (c := (.seq (zOD 0) (.seq (zNG 1) (.seq (zNG 2) (.seq (zNG 3) (.cond (.tmp 44) (zOD 4) .skip)))))) kr (Nat.le_of_ble_eq_true kr) 1 (rs := []) rfl [] .nil [] [] [(0,(Net.row r))] fun cx => ?_
 show Tr _ _ _ ⟨53,1,[sA 0 0 3 0,sV 1 (Event.row x1)],[(0,(Net.row x0))]⟩ _
 unfold Ym at H
 refine gA 1 9 9 ?_
 obtain ⟨v1,ev1,H⟩ := bs H
 refine Tr.draws mixed 10 kr ⟨53,1,[sA 4 4 7 0,sA 3 3 2 0,sA 0 0 3 0],[(4,(Say.row v1)),(3,(Event.row x1)),(0,(Net.row x0))]⟩ (fun cx => ?_) ?_
 ·refine aA [(0,[]),(1,[]),(2,[]),(3,[9]),(4,[]),(5,[9])] 4 [⟨[9],3,9,10⟩,⟨[9],65,7,8⟩] fun cx => ?_
  refine aO tOk 6 65 0 8 10 11 none ⟨(.box 0),[(0,0)],2,true,7,(x0.Said.map Say.row)⟩ x1.At (x1.At.toNat) (Say.row v1) _ kr kr kr kr kr kr rfl kr (zEr ev1) rfl rfl (fun cx => ?_)
  refine AT.big2 tOk 7 8 kr (And.intro kr ?_) (And.intro kr ?_)
  ·refine dE (tI 180) (.box 0) [(0,0),(2,(x1.At.toNat))] 7 0 [.sl true 3 [(Net.row x0)]] (Say.row v1) (zt rfl (zI ev1).2) ?_
   refine fA ?_
   refine bA 8 ?_
   refine lA 1 ?_
   refine fA ?_
   refine bA 9 ?_
   refine lA 1 ?_
   refine fA ?_
   exact eE [4,3,0] [4,3,0]
  ·refine lA 1 ?_
   refine fA ?_
   refine bA 7 ?_
   refine dE (tI 180) (.box 0) [(0,0),(2,(x1.At.toNat))] 7 0 [.sl true 3 [(Net.row x0)]] (Say.row v1) (zt rfl (zI ev1).2) ?_
   refine fA ?_
   refine bA 9 ?_
   refine lA 1 ?_
   refine fA ?_
   exact eE [4,3,0] [4,3,0]
 refine Tr.frzP 0 2 1 ?_
 obtain ⟨hg2,H⟩ := gs H
 obtain ⟨hg3,H⟩ := gs H
 obtain ⟨hg4,H⟩ := gs H
 obtain ⟨hg5,H⟩ := gs H
 refine sT ⟨53,1,[sA 4 4 7 0,sA 3 3 2 0,sA 0 0 3 0],[(0,[cL 11 x0.Bs zA.row,cL 4 x0.Ls Link.row,cF 7 x0.Said Say.row]),(4,(Say.row v1)),(3,(Event.row x1))]⟩ ?_
 refine Tr.draws mixed 22 kr ⟨53,1,[sA 4 4 7 0,sA 3 3 2 0,sA 0 0 3 0],[(0,[cL 11 x0.Bs zA.row,cL 4 x0.Ls Link.row,cL 7 ((([] : List Say) ++ ((x0.Said.drop ((0 : Int)).toNat).take (((x1.At : Int)).toNat - ((0 : Int)).toNat))) ++ ((x0.Said.drop (((IntKind.wrap .i64 (x1.At + 1)) : Int)).toNat).take ((((x0.Said.length : Int) : Int)).toNat - (((IntKind.wrap .i64 (x1.At + 1)) : Int)).toNat))) Say.row]),(4,(Say.row v1)),(3,(Event.row x1))]⟩ (zIg n x0 x1 v1 hg2 hg3 hg4 hg5) ?_
 refine tS ?_
 refine sT ⟨53,1,[sA 4 4 7 0,sA 3 3 2 0,sA 0 0 3 0],[(0,[cL 11 x0.Bs zA.row,cL 4 x0.Ls Link.row,cL 7 ((([] : List Say) ++ ((x0.Said.drop ((0 : Int)).toNat).take (((x1.At : Int)).toNat - ((0 : Int)).toNat))) ++ ((x0.Said.drop (((IntKind.wrap .i64 (x1.At + 1)) : Int)).toNat).take ((((x0.Said.length : Int) : Int)).toNat - (((IntKind.wrap .i64 (x1.At + 1)) : Int)).toNat))) Say.row]),(4,(Say.row v1)),(3,(Event.row x1))]⟩ ?_
 cases h1 : (x1.Ki == 2)
 ·have H := zG h1 H
  refine Tr.draw mixed 11 kr ⟨53,1,[sB 44 false,sA 4 4 7 0,sA 0 0 3 0],[(0,[cL 11 x0.Bs zA.row,cL 4 x0.Ls Link.row,cL 7 ((([] : List Say) ++ ((x0.Said.drop ((0 : Int)).toNat).take (((x1.At : Int)).toNat - ((0 : Int)).toNat))) ++ ((x0.Said.drop (((IntKind.wrap .i64 (x1.At + 1)) : Int)).toNat).take ((((x0.Said.length : Int) : Int)).toNat - (((IntKind.wrap .i64 (x1.At + 1)) : Int)).toNat))) Say.row]),(4,(Say.row v1))]⟩ (fun cx => ?_) ?_
  ·refine aA [(0,[]),(1,[]),(2,[]),(3,[])] 7 [⟨[],3,34,35⟩] fun cx => ?_
   refine sA_ 188978561041 25 ⟨53,1,[sB 37 (x1.Ki == 2),sI 35 x1.Ki,sA 34 3 2 0,sA 4 4 7 0,sA 0 0 3 0],[(0,[cL 11 x0.Bs zA.row,cL 4 x0.Ls Link.row,cL 7 ((([] : List Say) ++ ((x0.Said.drop ((0 : Int)).toNat).take (((x1.At : Int)).toNat - ((0 : Int)).toNat))) ++ ((x0.Said.drop (((IntKind.wrap .i64 (x1.At + 1)) : Int)).toNat).take ((((x0.Said.length : Int) : Int)).toNat - (((IntKind.wrap .i64 (x1.At + 1)) : Int)).toNat))) Say.row]),(4,(Say.row v1)),(3,(Event.row x1))]⟩ ?_
   rw [h1]
   refine aA [(4,[]),(5,[]),(6,[]),(7,[]),(8,[]),(9,[]),(10,[])] 0 [⟨[],3,34,35⟩] fun cx => ?_
   exact eE [44,4,0] [0,4]
  refine nB_ ?_
  refine tK ?_
  obtain rfl := si H
  exact Fin.ofY _ [] [] _ [] _ [(0,[cL 11 x0.Bs zA.row,cL 4 x0.Ls Link.row,cL 7 ((([] : List Say) ++ ((x0.Said.drop ((0 : Int)).toNat).take (((x1.At : Int)).toNat - ((0 : Int)).toNat))) ++ ((x0.Said.drop (((IntKind.wrap .i64 (x1.At + 1)) : Int)).toNat).take ((((x0.Said.length : Int) : Int)).toNat - (((IntKind.wrap .i64 (x1.At + 1)) : Int)).toNat))) Say.row])] kr rfl rfl rfl kr kr kr kr rfl rfl rfl
 have H := zH h1 H
 obtain ⟨r6,er6,H⟩ := bs H
 refine Tr.draw mixed 11 kr ⟨53,1,[sB 44 r6,sA 4 4 7 0,sA 0 0 3 0],[(0,[cL 11 x0.Bs zA.row,cL 4 x0.Ls Link.row,cL 7 ((([] : List Say) ++ ((x0.Said.drop ((0 : Int)).toNat).take (((x1.At : Int)).toNat - ((0 : Int)).toNat))) ++ ((x0.Said.drop (((IntKind.wrap .i64 (x1.At + 1)) : Int)).toNat).take ((((x0.Said.length : Int) : Int)).toNat - (((IntKind.wrap .i64 (x1.At + 1)) : Int)).toNat))) Say.row]),(4,(Say.row v1))]⟩ (fun cx => ?_) ?_
 ·refine aA [(0,[]),(1,[9]),(2,[]),(3,[])] 7 [⟨[9],3,34,35⟩] fun cx => ?_
  refine sA_ 188978561041 25 ⟨53,1,[sB 37 (x1.Ki == 2),sI 35 x1.Ki,sA 34 3 2 0,sA 4 4 7 0,sA 0 0 3 0],[(0,[cL 11 x0.Bs zA.row,cL 4 x0.Ls Link.row,cL 7 ((([] : List Say) ++ ((x0.Said.drop ((0 : Int)).toNat).take (((x1.At : Int)).toNat - ((0 : Int)).toNat))) ++ ((x0.Said.drop (((IntKind.wrap .i64 (x1.At + 1)) : Int)).toNat).take ((((x0.Said.length : Int) : Int)).toNat - (((IntKind.wrap .i64 (x1.At + 1)) : Int)).toNat))) Say.row]),(4,(Say.row v1)),(3,(Event.row x1))]⟩ ?_
  rw [h1]
  refine aA [(4,[]),(5,[]),(6,[9]),(7,[]),(8,[9])] 2 [⟨[9],3,41,42⟩,⟨[9],67,39,40⟩,⟨[9],3,34,35⟩] fun cx => ?_
  refine bA 9 ?_
  refine vB [.rd,.rd] [.box 0] (zEi n (⟨x0.Bs,x0.Ls,((([] : List Say) ++ ((x0.Said.drop ((0 : Int)).toNat).take (((x1.At : Int)).toNat - ((0 : Int)).toNat))) ++ ((x0.Said.drop (((IntKind.wrap .i64 (x1.At + 1)) : Int)).toNat).take ((((x0.Said.length : Int) : Int)).toNat - (((IntKind.wrap .i64 (x1.At + 1)) : Int)).toNat)))⟩ : Net) v1.Link r6 er6) (.inr (zk (zJ zM zz) zy)) ?_
  refine fA ?_
  refine aA [(10,[])] 0 [⟨[9],3,41,42⟩,⟨[9],67,39,40⟩,⟨[9],3,34,35⟩] fun cx => ?_
  exact eE [44,4,0] [0,4]
 cases h2 : r6
 ·have H := zG h2 H
  refine nB_ ?_
  refine tK ?_
  obtain rfl := si H
  exact Fin.ofY _ [] [] _ [] _ [(0,[cL 11 x0.Bs zA.row,cL 4 x0.Ls Link.row,cL 7 ((([] : List Say) ++ ((x0.Said.drop ((0 : Int)).toNat).take (((x1.At : Int)).toNat - ((0 : Int)).toNat))) ++ ((x0.Said.drop (((IntKind.wrap .i64 (x1.At + 1)) : Int)).toNat).take ((((x0.Said.length : Int) : Int)).toNat - (((IntKind.wrap .i64 (x1.At + 1)) : Int)).toNat))) Say.row])] kr rfl rfl rfl kr kr kr kr rfl rfl rfl
 have H := zH h2 H
 refine tB_ ?_
 refine Tr.at ?_
 refine lA 7 ?_
 obtain ⟨r7,er7,H⟩ := bs H
 refine LAt.callL tOk [.lend,.rd,.rd,.rd] (f := 197) (av := #[.tmp 45,.tmp 47,.tmp 49,.tmp 51]) (ats := #[142,3,4,165]) (d := (some 52)) (ty := 0) (g := none) kr kr kr [] (zK6 n (⟨x0.Bs,x0.Ls,((([] : List Say) ++ ((x0.Said.drop ((0 : Int)).toNat).take (((x1.At : Int)).toNat - ((0 : Int)).toNat))) ++ ((x0.Said.drop (((IntKind.wrap .i64 (x1.At + 1)) : Int)).toNat).take ((((x0.Said.length : Int) : Int)).toNat - (((IntKind.wrap .i64 (x1.At + 1)) : Int)).toNat)))⟩ : Net) v1.Link v1.Back v1.V r7 er7) kr (.inl rfl) ?_
 refine dA 1 1 ?_
 obtain rfl := si H
 exact Fin.ofY _ [] [] _ [] _ [(0,(Net.row r7))] kr rfl rfl rfl kr kr kr kr rfl rfl rfl
def Yh (n : Nat) (x0 : zA) (x1 : Int) (x2 : Bool) : Option (zA) :=
  ((Z5 n x0).bind fun r1 => ((YF n x0 x1).bind fun r2 => (bif (!r2) then (some r1) else ((idx x0.Ps x1).bind fun v3 => ((idx r1.Ps x1).bind fun v4 => ((qm n (⟨r1.Id,r1.Name,(r1.Ps.set (x1.toNat) (⟨x2,v3.Co,false,(⟨0,0,0,0,0⟩ : Vec)⟩ : Pt)),r1.F,r1.V,r1.Tk,r1.Pa,r1.Wo,r1.Dr,r1.Ve⟩ : zA)).bind fun r5 => (some r5)))))))
def zOX : Tab := ⟨13,[0,1,0,0,0,16,0,96,128,256,520,2047,4095],[0,1,0,0,0,16,0,96,128,256,520,6,3072],[0,1,0,0,0,16,0,112,240,496,1016,2047,4095]⟩
theorem zDt : zf (rg Tryz.f158 4) zOX = true := kr
theorem zGL (n : Nat) (x0 : zA) (x1 : Int) (x2 : Bool) (r : zA) (H : Yh n x0 x1 x2 = some r) : zD Tryz.prog 158 [.val true (CV.frzRow (zA.row x0)),.val false [.lit (.int .i64 x1)],.val false [.lit (.bool x2)]] [.val true (zA.row r)] [] := by
 refine cW Tryz.func158 (fun g d => sl [g 0,g 1,sl [g 2] (cn 13 (sl [g 3] .ret) .skip),d 4,g 5] .ret) [.cell 6 41] fun cx => ?_
 unfold Yh at H
 refine gA 2 78 72 ?_
 refine rA 1 ?_
 obtain ⟨r1,er1,H⟩ := bs H
 refine vA [.rd] (zCW n x0 r1 er1) ?_
 refine uA 2 206 200 ?_
 refine tS ?_
 refine rA 2 ?_
 obtain ⟨r2,er2,H⟩ := bs H
 refine vA [.rd,.rd] (zFY n x0 x1 r2 er2) ?_
 refine uA 1 8398 200 ?_
 obtain ⟨h1,H⟩ | ⟨h1,H⟩ := bC H
 ·refine nA h1 ?_
  refine tK ?_
  obtain ⟨v3,ev3,H⟩ := bs H
  obtain ⟨v4,ev4,H⟩ := bs H
  refine Tr.draws mixed 13 kr ⟨29,0,[sA 7 7 11 0,sA 6 6 11 0],[(7,[cI r1.Id,cS r1.Name,cL 8 (r1.Ps.set (x1.toNat) (⟨x2,v3.Co,false,(⟨0,0,0,0,0⟩ : Vec)⟩ : Pt)) Pt.row,cL 5 r1.F zB.row,cL 3 r1.V.Rows zC.row,cL 1 r1.V.Pv intRow,cI r1.Tk,cI r1.Pa,cI r1.Wo,cI r1.Dr,cI r1.Ve]),(6,[cI 0,cS (⟨#[]⟩ : ByteArray),cL 8 ([] : List Pt) Pt.row,cL 5 ([] : List zB) zB.row,cL 3 ([] : List zC) zC.row,cL 1 ([] : List Int) intRow,cI 0,cI 0,cI 0,cI 0,cI 0])]⟩ (fun cx => ?_) ?_
  ·refine mA zDt [(0,[]),(1,[12]),(2,[]),(3,[]),(4,[]),(5,[10,12]),(6,[])] 6 [⟨[10,12],35,19,20⟩,⟨[12],35,15,16⟩] fun cx => ?_
   refine iN zDt 7 Pt.row ev3 fun cx => ?_
   refine mA zDt [(8,[]),(9,[])] 3 [⟨[10,12],35,19,20⟩,⟨[12],35,15,16⟩] fun cx => ?_
   refine mC zDt 10 ?_
   refine lA 1 ?_
   refine fA ?_
   refine oN zDt 11 Pt.row ev4 fun cx => ?_
   refine mC zDt 12 ?_
   refine LAt.storeB tOk (t := 167) (ty := 0) (ad := (.tmp 26)) (x := (.tmp 25)) (g := none) (tI 167) true [cB x2,cI v3.Co,cB false,cI 0,cI 0,cI 0,cI 0,cI 0] 7 2 (x1.toNat) 8 0 8 r1.Ps Pt.row v4 (⟨x2,v3.Co,false,(⟨0,0,0,0,0⟩ : Vec)⟩ : Pt) kr kr kr kr kr kr kr kr (zI ev4).2 kr kr kr kr ?_
   refine fA ?_
   exact mE zDt [7,6] [7,6]
  refine rA 1 ?_
  obtain ⟨r5,er5,H⟩ := bs H
  refine vA [.own] (zCn n (⟨r1.Id,r1.Name,(r1.Ps.set (x1.toNat) (⟨x2,v3.Co,false,(⟨0,0,0,0,0⟩ : Vec)⟩ : Pt)),r1.F,r1.V,r1.Tk,r1.Pa,r1.Wo,r1.Dr,r1.Ve⟩ : zA) r5 er5) ?_
  refine uA 1 64 64 ?_
  exact te (fJ [(true,(zA.row r5))] H)
 refine tA h1 ?_
 refine gA 2 64 64 ?_
 exact te (fJ [(true,(zA.row r1))] H)
def zAI (n : Nat) (x0 : Net) (x1 : Int) (x2 : Bool) : Option (Net) :=
  ((ZG n x0 x1).bind fun r1 => (bif (r1 == x2) then (some x0) else ((idx x0.Ls x1).bind fun v2 => ((idx x0.Bs v2.A).bind fun v3 => ((Yh n v3 v2.P x2).bind fun r4 => ((idx (x0.Bs.set (v2.A.toNat) r4) v2.B).bind fun v5 => ((Yh n v5 v2.Q x2).bind fun r6 => (some (⟨((x0.Bs.set (v2.A.toNat) r4).set (v2.B.toNat) r6),x0.Ls,x0.Said⟩ : Net)))))))))
def zOL : Tab := ⟨20,[0,1,2,4,0,16,0,64,128,256,0,1024,2560,4096,0,16384,0,106496,262143,524287],[0,1,2,4,0,16,0,64,128,256,0,1024,2560,4096,0,16384,0,106496,40,393216],[0,1,3,7,0,16,0,64,192,448,0,1024,4032,8128,0,16384,0,131008,262143,524287]⟩
noncomputable abbrev zOE (k : Nat) := Rg Tryz.f111 k
noncomputable abbrev zN9 (k : Nat) := Rd Tryz.f111 k
theorem zCz : zf (rg Tryz.f111 2) zOL = true := kr
def zOM : Tab := ⟨20,[0,1,2,4,0,16,0,64,128,256,0,1024,2560,4096,0,16384,0,106496,262143,524287],[0,1,2,4,0,16,0,64,128,256,0,1024,2560,4096,0,16384,0,106496,40,393216],[0,1,3,7,0,16,0,64,192,448,0,1024,4032,8128,0,16384,0,131008,262143,524287]⟩
theorem zC0 : zf (rg Tryz.f111 3) zOM = true := kr
theorem zK7 (n : Nat) (x0 : Net) (x1 : Int) (x2 : Bool) (r : Net) (H : zAI n x0 x1 x2 = some r) : zD Tryz.prog 111 [.ptr (Net.row x0),.val false [.lit (.int .i64 x1)],.val false [.lit (.bool x2)]] [] [(0,(Net.row r))] := by
 refine zD.of_body tOk Tryz.func111 rfl (c := (.seq (.seq (zOE 0) (.cond (.tmp 13) .ret .skip)) (.seq (zOE 1) (.seq (zN9 2) (zN9 3))))) kr (Nat.le_of_ble_eq_true kr) 1 (rs := []) rfl [] .nil [] [] [(0,(Net.row r))] fun cx => ?_
 show Tr _ _ _ ⟨59,1,[sA 0 0 3 0,sI 1 x1,sB 2 x2],[(0,(Net.row x0))]⟩ _
 unfold zAI at H
 refine tS ?_
 refine rA 4 ?_
 obtain ⟨r1,er1,H⟩ := bs H
 refine vB [.rd,.rd] [.box 0] (zEi n x0 x1 r1 er1) (.inr (zk (zJ zM zz) zy)) ?_
 refine uA 2 8199 1 ?_
 obtain ⟨h1,H⟩ | ⟨h1,H⟩ := bC H
 ·refine nA h1 ?_
  refine tK ?_
  refine rA 5 ?_
  obtain ⟨v2,ev2,H⟩ := bs H
  refine oA Link.row ev2 ?_
  refine dE (tI 114) (.box 0) [(0,0),(1,(x1.toNat))] 4 0 [.sl true 3 [(Net.row x0)]] (Link.row v2) (zt rfl (zI ev2).2) ?_
  refine uA 2 69 65 ?_
  obtain ⟨v3,ev3,H⟩ := bs H
  obtain ⟨r4,er4,H⟩ := bs H
  refine Tr.draws mixed 20 kr ⟨59,1,[sA 6 6 4 0,sA 0 0 3 0,sB 2 x2],[(0,[cL 11 (x0.Bs.set (v2.A.toNat) r4) zA.row,cL 4 x0.Ls Link.row,cL 7 x0.Said Say.row]),(6,(Link.row v2))]⟩ (fun cx => ?_) ?_
  ·refine mA zCz [(0,[]),(1,[]),(2,[]),(3,[19]),(4,[]),(5,[19]),(6,[]),(7,[]),(8,[]),(9,[17,19]),(10,[]),(11,[17,19])] 8 [⟨[17,19],3,31,32⟩,⟨[17,19],63,29,30⟩,⟨[19],3,25,26⟩,⟨[19],63,23,24⟩] fun cx => ?_
   refine oN zCz 12 zA.row ev3 fun cx => ?_
   refine mA zCz [(14,[]),(15,[17,19]),(16,[])] 4 [⟨[17,19],3,35,36⟩,⟨[17,19],3,31,32⟩,⟨[17,19],63,29,30⟩,⟨[19],3,25,26⟩,⟨[19],63,23,24⟩] fun cx => ?_
   refine mC zCz 13 ?_
   refine dE (tI 41) (.box 0) [(0,0),(0,(v2.A.toNat))] 11 0 [.sl true 3 [(Net.row x0)]] (zA.row v3) (zt rfl (zI ev3).2) ?_
   refine fA ?_
   refine mC zCz 17 ?_
   refine LAt.callO tOk [.rd,.rd,.rd] (f := 158) (av := #[.tmp 34,.tmp 36,.tmp 37]) (ats := #[41,3,4]) (d := (some 38)) (ty := 41) (g := none) [(34,zA.row v3)] none kr kr kr [.box 0] (zGL n v3 v2.P x2 r4 er4) (YQ (row := [.sl true 3 [(Net.row x0)]]) (q := [(0,0),(0,(v2.A.toNat))]) kr (zt rfl (zI ev3).2) Je) kr zCl (.inr (And.intro (zk (zA.row_mine _) zy) zB5)) ?_
   refine fA ?_
   refine oN zCz 18 zA.row ev3 fun cx => ?_
   refine mC zCz 19 ?_
   refine LAt.storeB tOk (t := 41) (ty := 0) (ad := (.tmp 39)) (x := (.tmp 38)) (g := none) (tI 41) true (zA.row r4) 0 0 (v2.A.toNat) 11 0 11 x0.Bs zA.row v3 r4 kr kr kr kr kr kr kr kr (zI ev3).2 kr kr kr kr ?_
   refine fA ?_
   exact mE zCz [6,0,2] [0,6]
  obtain ⟨v5,ev5,H⟩ := bs H
  obtain ⟨r6,er6,H⟩ := bs H
  refine Tr.draw mixed 20 kr ⟨59,1,[sA 0 0 3 0],[(0,[cL 11 ((x0.Bs.set (v2.A.toNat) r4).set (v2.B.toNat) r6) zA.row,cL 4 x0.Ls Link.row,cL 7 x0.Said Say.row])]⟩ (fun cx => ?_) ?_
  ·refine mA zC0 [(0,[]),(1,[]),(2,[]),(3,[19]),(4,[]),(5,[19]),(6,[]),(7,[]),(8,[]),(9,[17,19]),(10,[]),(11,[17,19])] 8 [⟨[17,19],3,50,51⟩,⟨[17,19],63,48,49⟩,⟨[19],3,44,45⟩,⟨[19],63,42,43⟩] fun cx => ?_
   refine oN zC0 12 zA.row ev5 fun cx => ?_
   refine mA zC0 [(14,[]),(15,[17,19]),(16,[])] 4 [⟨[17,19],3,54,55⟩,⟨[17,19],3,50,51⟩,⟨[17,19],63,48,49⟩,⟨[19],3,44,45⟩,⟨[19],63,42,43⟩] fun cx => ?_
   refine mC zC0 13 ?_
   refine dE (tI 41) (.box 0) [(0,0),(0,(v2.B.toNat))] 11 0 [.sl true 3 [[cL 11 (x0.Bs.set (v2.A.toNat) r4) zA.row,cL 4 x0.Ls Link.row,cL 7 x0.Said Say.row]]] (zA.row v5) (zt rfl (zI ev5).2) ?_
   refine fA ?_
   refine mC zC0 17 ?_
   refine LAt.callO tOk [.rd,.rd,.rd] (f := 158) (av := #[.tmp 53,.tmp 55,.tmp 56]) (ats := #[41,3,4]) (d := (some 57)) (ty := 41) (g := none) [(53,zA.row v5)] none kr kr kr [.box 0] (zGL n v5 v2.Q x2 r6 er6) (YQ (row := [.sl true 3 [[cL 11 (x0.Bs.set (v2.A.toNat) r4) zA.row,cL 4 x0.Ls Link.row,cL 7 x0.Said Say.row]]]) (q := [(0,0),(0,(v2.B.toNat))]) kr (zt rfl (zI ev5).2) Je) kr zCl (.inr (And.intro (zk (zA.row_mine _) zy) zB5)) ?_
   refine fA ?_
   refine oN zC0 18 zA.row ev5 fun cx => ?_
   refine mC zC0 19 ?_
   refine LAt.storeB tOk (t := 41) (ty := 0) (ad := (.tmp 58)) (x := (.tmp 57)) (g := none) (tI 41) true (zA.row r6) 0 0 (v2.B.toNat) 11 0 11 (x0.Bs.set (v2.A.toNat) r4) zA.row v5 r6 kr kr kr kr kr kr kr kr (zI ev5).2 kr kr kr kr ?_
   refine fA ?_
   exact mE zC0 [0] [0]
  obtain rfl := si H
  exact Fin.ofY _ [] [] _ [] _ [(0,[cL 11 ((x0.Bs.set (v2.A.toNat) r4).set (v2.B.toNat) r6) zA.row,cL 4 x0.Ls Link.row,cL 7 x0.Said Say.row])] kr rfl rfl rfl kr kr kr kr rfl rfl rfl
 refine tA h1 ?_
 refine te ?_
 obtain rfl := si H
 exact Fin.ofY _ [] [] _ [] _ [(0,(Net.row x0))] kr rfl rfl rfl kr kr kr kr rfl rfl rfl
def Qi (n : Nat) (r1 : Net) (x0 : Net) (x1 : Event) (y5 : Bool) : Option (Net × Bool) :=
  (bif y5 then ((zP n x1.At 0 (IntKind.wrap .i64 ((x0.Ls.length : Int) - 1))).bind fun r6 => (bif (!r6) then (some (r1,false)) else ((zAI n r1 x1.At (x1.Ki == 5)).bind fun r7 => (some (r7,true))))) else (some (r1,false)))
def Qh (n : Nat) (r1 : Net) (x0 : Net) (x1 : Event) (y4 : Bool) : Option (Net × Bool) :=
  (bif y4 then ((zP n x1.At 0 (IntKind.wrap .i64 ((x0.Said.length : Int) - 1))).bind fun r8 => (bif (!r8) then (some (r1,false)) else ((Ym n r1 x1).bind fun r9 => (some (r9,true))))) else (bif (x1.Ki == 4) then (Qi n r1 x0 x1 true) else (Qi n r1 x0 x1 (x1.Ki == 5))))
def ZH (n : Nat) (r1 : Net) (x0 : Net) (x1 : Event) (y3 : Bool) : Option (Net × Bool) :=
  (bif y3 then ((zP n x1.At 0 (IntKind.wrap .i64 ((x0.Bs.length : Int) - 1))).bind fun r10 => (bif (!r10) then (some (r1,false)) else (bif (x1.Ki == 6) then ((idx x0.Bs x1.At).bind fun v12 => ((zBL n v12).bind fun r13 => ((idx r1.Bs x1.At).bind fun v14 => (some ((⟨(r1.Bs.set (x1.At.toNat) r13),r1.Ls,r1.Said⟩ : Net),true))))) else ((Y7 n r1 x1.At).bind fun r11 => (some (r11,true)))))) else (bif (x1.Ki == 2) then (Qh n r1 x0 x1 true) else (Qh n r1 x0 x1 (x1.Ki == 3))))
def Y6 (n : Nat) (x0 : Net) (x1 : Event) : Option (Net × Bool) :=
  ((Yj n x0).bind fun r1 => ((Q9 n x0).bind fun r2 => (bif (!r2) then (some (r1,false)) else (bif (x1.Ki == 1) then (ZH n r1 x0 x1 true) else (ZH n r1 x0 x1 (x1.Ki == 6))))))
def zOl : Tab := ⟨13,[0,1,0,4,0,16,0,64,160,256,512,2047,4095],[0,1,0,4,0,16,0,64,160,256,512,10,3072],[0,1,0,4,0,16,0,64,240,496,1008,2047,4095]⟩
theorem zDu : zf (rg Tryz.f24 10) zOl = true := kr
theorem zNB (n : Nat) (x0 : Net) (x1 : Event) (r : Net × Bool) (H : Y6 n x0 x1 = some r) : zD Tryz.prog 24 [.val true (CV.frzRow (Net.row x0)),.val true (CV.frzRow (Event.row x1))] [.val true (Net.row r.1),.val false [.lit (.bool r.2)]] [] := by
 refine cW Tryz.func24 (fun g d => sl [g 0,g 1,sl [g 2] (cn 11 (sl [g 3] .ret) .skip),sl [g 4] (.block 0 (sl [sl [g 5] (cn 15 .skip (g 6))] (cn 15 (sl [sl [g 7] (cn 25 (sl [g 8] .ret) .skip),sl [g 9] (cn 29 (d 10) (g 11)),g 12] .ret) (sl [sl [g 13] (cn 46 .skip (g 14))] (cn 46 (sl [sl [g 15] (cn 56 (sl [g 16] .ret) .skip),g 17,g 18] .ret) (sl [sl [g 19] (cn 61 .skip (g 20))] (cn 61 (sl [sl [g 21] (cn 71 (sl [g 22] .ret) .skip),g 23,g 24] .ret) .skip))))))),g 25] .ret) [.cell 4 67,.tmp 5] fun cx => ?_
 unfold Y6 at H
 refine gA 4 28 28 ?_
 refine rA 1 ?_
 obtain ⟨r1,er1,H⟩ := bs H
 refine vA [.rd] (zGN n x0 r1 er1) ?_
 refine uA 2 92 92 ?_
 refine tS ?_
 refine rA 1 ?_
 obtain ⟨r2,er2,H⟩ := bs H
 refine vA [.rd] (zMY n x0 r2 er2) ?_
 refine uA 1 2140 92 ?_
 obtain ⟨h1,H⟩ | ⟨h1,H⟩ := bC H
 ·refine nA h1 ?_
  refine tK ?_
  refine tS ?_
  refine gA 2 16476 92 ?_
  refine tB ?_
  refine tS ?_
  refine Tr.mid (ι := Bool) (fun v => ⟨81,0,[sB 15 v,sI 14 x1.Ki,sA 6 6 3 0,sA 4 4 3 0,sA 3 3 2 0,sA 2 2 3 0],[(6,(Net.row r1)),(4,[cL 11 ([] : List zA) zA.row,cL 4 ([] : List Link) Link.row,cL 7 ([] : List Say) Say.row]),(3,(Event.row x1)),(2,(CV.frzRow (Net.row x0)))]⟩) (fun v => ZH n r1 x0 x1 v = some r) ?_ ?_
  ·refine gA 2 49244 92 ?_
   refine sT ⟨81,0,[sB 15 (x1.Ki == 1),sI 14 x1.Ki,sA 6 6 3 0,sA 4 4 3 0,sA 3 3 2 0,sA 2 2 3 0],[(6,(Net.row r1)),(4,[cL 11 ([] : List zA) zA.row,cL 4 ([] : List Link) Link.row,cL 7 ([] : List Say) Say.row]),(3,(Event.row x1)),(2,(CV.frzRow (Net.row x0)))]⟩ ?_
   cases h11 : (x1.Ki == 1)
   ·have H := zG h11 H
    refine nB_ ?_
    refine eA 2 49244 92 ?_
    exact jA (x1.Ki == 6) H [15,14,6,4,3,2] [6,4,3,2]
   have H := zH h11 H
   refine tB_ ?_
   refine tK ?_
   exact jA true H [15,14,6,4,3,2] [6,4,3,2]
  rintro y3 H
  have H : (ZH n r1 x0 x1 y3) = some r := H
  unfold ZH at H
  cases h2 : y3
  ·have H := zG h2 H
   refine nB_ ?_
   refine tS ?_
   refine Tr.mid (ι := Bool) (fun v => ⟨81,0,[sB 46 v,sI 14 x1.Ki,sA 6 6 3 0,sA 4 4 3 0,sA 3 3 2 0,sA 2 2 3 0],[(6,(Net.row r1)),(4,[cL 11 ([] : List zA) zA.row,cL 4 ([] : List Link) Link.row,cL 7 ([] : List Say) Say.row]),(3,(Event.row x1)),(2,(CV.frzRow (Net.row x0)))]⟩) (fun v => Qh n r1 x0 x1 v = some r) ?_ ?_
   ·refine gA 2 70368744194140 92 ?_
    refine sT ⟨81,0,[sB 46 (x1.Ki == 2),sI 14 x1.Ki,sA 6 6 3 0,sA 4 4 3 0,sA 3 3 2 0,sA 2 2 3 0],[(6,(Net.row r1)),(4,[cL 11 ([] : List zA) zA.row,cL 4 ([] : List Link) Link.row,cL 7 ([] : List Say) Say.row]),(3,(Event.row x1)),(2,(CV.frzRow (Net.row x0)))]⟩ ?_
    cases h8 : (x1.Ki == 2)
    ·have H := zG h8 H
     refine nB_ ?_
     refine eA 2 70368744194140 92 ?_
     exact jA (x1.Ki == 3) H [46,14,6,4,3,2] [6,4,3,2]
    have H := zH h8 H
    refine tB_ ?_
    refine tK ?_
    exact jA true H [46,14,6,4,3,2] [6,4,3,2]
   rintro y4 H
   have H : (Qh n r1 x0 x1 y4) = some r := H
   unfold Qh at H
   cases h3 : y4
   ·have H := zG h3 H
    refine nB_ ?_
    refine tS ?_
    refine Tr.mid (ι := Bool) (fun v => ⟨81,0,[sB 61 v,sA 6 6 3 0,sA 4 4 3 0,sA 3 3 2 0,sA 2 2 3 0],[(6,(Net.row r1)),(4,[cL 11 ([] : List zA) zA.row,cL 4 ([] : List Link) Link.row,cL 7 ([] : List Say) Say.row]),(3,(Event.row x1)),(2,(CV.frzRow (Net.row x0)))]⟩) (fun v => Qi n r1 x0 x1 v = some r) ?_ ?_
    ·refine gA 2 0x200000000000405c 92 ?_
     refine sT ⟨81,0,[sB 61 (x1.Ki == 4),sI 14 x1.Ki,sA 6 6 3 0,sA 4 4 3 0,sA 3 3 2 0,sA 2 2 3 0],[(6,(Net.row r1)),(4,[cL 11 ([] : List zA) zA.row,cL 4 ([] : List Link) Link.row,cL 7 ([] : List Say) Say.row]),(3,(Event.row x1)),(2,(CV.frzRow (Net.row x0)))]⟩ ?_
     cases h6 : (x1.Ki == 4)
     ·have H := zG h6 H
      refine nB_ ?_
      refine eA 2 0x200000000000005c 92 ?_
      exact jA (x1.Ki == 5) H [61,6,4,3,2] [6,4,3,2]
     have H := zH h6 H
     refine tB_ ?_
     refine tK ?_
     exact jA true H [61,6,4,3,2] [6,4,3,2]
    rintro y5 H
    have H : (Qi n r1 x0 x1 y5) = some r := H
    unfold Qi at H
    cases h4 : y5
    ·have H := zG h4 H
     refine nB_ ?_
     refine tK ?_
     refine gA 3 48 16 ?_
     exact te (fJ [(true,(Net.row r1)),(false,[cB false])] H)
    have H := zH h4 H
    refine tB_ ?_
    refine tS ?_
    refine rA 4 ?_
    refine kF x0.Ls Link.row ?_
    refine lA 1 ?_
    obtain ⟨r6,er6,H⟩ := bs H
    refine vA [.rd,.rd,.rd] (zO n x1.At 0 (IntKind.wrap .i64 ((x0.Ls.length : Int) - 1)) r6 er6) ?_
    refine uA 1 0x800000000000000058 88 ?_
    obtain ⟨h5,H⟩ | ⟨h5,H⟩ := bC H
    ·refine nA h5 ?_
     refine tK ?_
     refine rA 5 ?_
     obtain ⟨r7,er7,H⟩ := bs H
     refine LAt.callL tOk [.lend,.rd,.rd] (f := 111) (av := #[.tmp 6,.tmp 74,.tmp 77]) (ats := #[142,3,4]) (d := (some 78)) (ty := 0) (g := none) kr kr kr [] (zK7 n r1 x1.At (x1.Ki == 5) r7 er7) kr (.inl rfl) ?_
     refine dA 80 80 ?_
     refine gA 3 48 16 ?_
     exact te (fJ [(true,(Net.row r7)),(false,[cB true])] H)
    refine tA h5 ?_
    refine gA 3 48 16 ?_
    exact te (fJ [(true,(Net.row r1)),(false,[cB false])] H)
   have H := zH h3 H
   refine tB_ ?_
   refine tS ?_
   refine rA 4 ?_
   refine kF x0.Said Say.row ?_
   refine lA 1 ?_
   obtain ⟨r8,er8,H⟩ := bs H
   refine vA [.rd,.rd,.rd] (zO n x1.At 0 (IntKind.wrap .i64 ((x0.Said.length : Int) - 1)) r8 er8) ?_
   refine uA 1 72057594037928024 88 ?_
   obtain ⟨h7,H⟩ | ⟨h7,H⟩ := bC H
   ·refine nA h7 ?_
    refine tK ?_
    refine rA 1 ?_
    obtain ⟨r9,er9,H⟩ := bs H
    refine LAt.callL tOk [.lend,.rd] (f := 110) (av := #[.tmp 6,.tmp 58]) (ats := #[142,71]) (d := (some 59)) (ty := 0) (g := none) kr kr kr [] (zK8 n r1 x1 r9 er9) kr (.inl rfl) ?_
    refine dA 80 80 ?_
    refine gA 3 48 16 ?_
    exact te (fJ [(true,(Net.row r9)),(false,[cB true])] H)
   refine tA h7 ?_
   refine gA 3 48 16 ?_
   exact te (fJ [(true,(Net.row r1)),(false,[cB false])] H)
  have H := zH h2 H
  refine tB_ ?_
  refine tS ?_
  refine rA 4 ?_
  refine kF x0.Bs zA.row ?_
  refine lA 1 ?_
  obtain ⟨r10,er10,H⟩ := bs H
  refine vA [.rd,.rd,.rd] (zO n x1.At 0 (IntKind.wrap .i64 ((x0.Bs.length : Int) - 1)) r10 er10) ?_
  refine uA 1 33554524 92 ?_
  obtain ⟨h9,H⟩ | ⟨h9,H⟩ := bC H
  ·refine nA h9 ?_
   refine tK ?_
   refine tS ?_
   refine gA 3 536871004 92 ?_
   obtain ⟨h10,H⟩ | ⟨h10,H⟩ := bC H
   ·refine nA h10 ?_
    refine Tr.at ?_
    refine lA 2 ?_
    obtain ⟨r11,er11,H⟩ := bs H
    refine LAt.callL tOk [.lend,.rd] (f := 109) (av := #[.tmp 6,.tmp 43]) (ats := #[142,3]) (d := (some 44)) (ty := 0) (g := none) kr kr kr [] (zJP n r1 x1.At r11 er11) kr (.inl rfl) ?_
    refine dA 80 80 ?_
    refine gA 3 48 16 ?_
    exact te (fJ [(true,(Net.row r11)),(false,[cB true])] H)
   refine tA h10 ?_
   obtain ⟨v12,ev12,H⟩ := bs H
   obtain ⟨r13,er13,H⟩ := bs H
   obtain ⟨v14,ev14,H⟩ := bs H
   refine Tr.draw mixed 13 kr ⟨81,0,[sA 6 6 3 0,sA 4 4 3 0],[(6,[cL 11 (r1.Bs.set (x1.At.toNat) r13) zA.row,cL 4 r1.Ls Link.row,cL 7 r1.Said Say.row]),(4,[cL 11 ([] : List zA) zA.row,cL 4 ([] : List Link) Link.row,cL 7 ([] : List Say) Say.row])]⟩ (fun cx => ?_) ?_
   ·refine mA zDu [(0,[]),(1,[12]),(2,[]),(3,[12]),(4,[]),(5,[10,12]),(6,[]),(7,[10,12])] 5 [⟨[10,12],3,36,37⟩,⟨[10,12],63,34,35⟩,⟨[12],3,32,33⟩,⟨[12],63,30,31⟩] fun cx => ?_
    refine iN zDu 8 zA.row ev12 fun cx => ?_
    refine mA zDu [(9,[])] 3 [⟨[10,12],3,36,37⟩,⟨[10,12],63,34,35⟩,⟨[12],3,32,33⟩,⟨[12],63,30,31⟩] fun cx => ?_
    refine mC zDu 10 ?_
    refine vA [.rd] (zNC n v12 r13 er13) ?_
    refine fA ?_
    refine oN zDu 11 zA.row ev14 fun cx => ?_
    refine mC zDu 12 ?_
    refine LAt.storeB tOk (t := 41) (ty := 0) (ad := (.tmp 41)) (x := (.tmp 40)) (g := none) (tI 41) true (zA.row r13) 6 0 (x1.At.toNat) 11 0 11 r1.Bs zA.row v14 r13 kr kr kr kr kr kr kr kr (zI ev14).2 kr kr kr kr ?_
    refine fA ?_
    exact mE zDu [6,4] [6,4]
   refine gA 3 48 16 ?_
   exact te (fJ [(true,[cL 11 (r1.Bs.set (x1.At.toNat) r13) zA.row,cL 4 r1.Ls Link.row,cL 7 r1.Said Say.row]),(false,[cB true])] H)
  refine tA h9 ?_
  refine gA 3 48 16 ?_
  exact te (fJ [(true,(Net.row r1)),(false,[cB false])] H)
 refine tA h1 ?_
 refine gA 3 48 16 ?_
 exact te (fJ [(true,(Net.row r1)),(false,[cB false])] H)
def zB0 (n : Nat) (y6 : (List zA)) (y7 : (List Link)) (y8 : (List Say)) : Option (Net) :=
  (some (⟨y6,y7,y8⟩ : Net))
def QW (n : Nat) : Nat → (List Event) → Int → (List zA) → (List Link) → (List Say) → Option (((List zA) × (List Link) × (List Say)) ⊕ (Net))
  | 0,_,_,_,_,_ => none
  | mo9 + 1,x1,y2,y3,y4,y5 => (bif (decide (y2 < (x1.length : Int))) then (bif (decide (y2 < 60)) then ((idx x1 y2).bind fun v10 => ((Y6 n (⟨y3,y4,y5⟩ : Net) v10).bind fun r11 => (QW n mo9 x1 (IntKind.wrap .i64 (y2 + 1)) r11.1.Bs r11.1.Ls r11.1.Said))) else (some (Sum.inl (y3,y4,y5)))) else (some (Sum.inl (y3,y4,y5))))
def zBc (n : Nat) (x0 : Net) (x1 : (List Event)) : Option (Net) :=
  ((Yj n x0).bind fun r1 => ((QW n n x1 0 r1.Bs r1.Ls r1.Said).bind fun o => match o with | .inl (y6,y7,y8) => (zB0 n y6 y7 y8) | .inr r => some r))
theorem zMb (n : Nat) (x0 : Net) (x1 : (List Event)) (r : Net) (H : zBc n x0 x1 = some r) : zD Tryz.prog 32 [.val true (CV.frzRow (Net.row x0)),.val false [.sl false 2 (CV.frzEs (x1.map Event.row))]] [.val true (Net.row r)] [] := by
 refine cW Tryz.func32 (fun g d => sl [g 0,g 1,sl [g 2] (.block 0 (.loop (sl [sl [g 3] (cn 16 .skip (.exit 0)),.block 1 (d 5)] (g 4)))),g 6] .ret) [.cell 4 67] fun cx => ?_
 unfold zBc at H
 refine gA 2 22 20 ?_
 refine rA 1 ?_
 obtain ⟨r1,er1,H⟩ := bs H
 refine vA [.rd] (zGN n x0 r1 er1) ?_
 refine uA 2 50 48 ?_
 refine tS ?_
 refine gA 1 114 48 ?_
 obtain ⟨o9,eo9,Ho9⟩ := bs H
 clear H
 refine Tr.mid (ι := (List zA) × (List Link) × (List Say)) (fun v => ⟨29,0,[sA 5 5 3 0,sA 4 4 3 0],[(5,[cL 11 v.1 zA.row,cL 4 v.2.1 Link.row,cL 7 v.2.2 Say.row]),(4,[cL 11 ([] : List zA) zA.row,cL 4 ([] : List Link) Link.row,cL 7 ([] : List Say) Say.row])]⟩) (fun v => zB0 n v.1 v.2.1 v.2.2 = some r) ?_ ?_
 ·refine tB ?_
  refine Tr.loop (ι := Nat × (Int × (List zA) × (List Link) × (List Say))) (fun v => ⟨29,0,[sI 6 v.2.1,sA 5 5 3 0,sA 4 4 3 0,sC 1 (cF 2 x1 Event.row)],[(5,[cL 11 v.2.2.1 zA.row,cL 4 v.2.2.2.1 Link.row,cL 7 v.2.2.2.2 Say.row]),(4,[cL 11 ([] : List zA) zA.row,cL 4 ([] : List Link) Link.row,cL 7 ([] : List Say) Say.row])]⟩) (fun v => QW n v.1 x1 v.2.1 v.2.2.1 v.2.2.2.1 v.2.2.2.2 = some o9) (fun v => v.1) (n,(0,r1.Bs,r1.Ls,r1.Said)) eo9 (St.sub_of [6,5,4,1] [5,4] kr) ?_
  rintro ⟨mo9,y2,y3,y4,y5⟩ H
  have H : QW n mo9 x1 y2 y3 y4 y5 = some o9 := H
  obtain _ | mo9 := mo9
  ·exact nN H
  rw [QW] at H
  refine tS ?_
  refine rA 2 ?_
  refine kF x1 Event.row ?_
  refine lA 2 ?_
  refine sL 8306 48 ⟨29,0,[sB 13 (decide (y2 < (x1.length : Int))),sI 6 y2,sA 5 5 3 0,sA 4 4 3 0,sC 1 (cF 2 x1 Event.row)],[(5,[cL 11 y3 zA.row,cL 4 y4 Link.row,cL 7 y5 Say.row]),(4,[cL 11 ([] : List zA) zA.row,cL 4 ([] : List Link) Link.row,cL 7 ([] : List Say) Say.row])]⟩ ?_
  cases h1 : (decide (y2 < (x1.length : Int)))
  ·have H := zG h1 H
   refine uA 3 65650 48 ?_
   refine nB_ ?_
   refine Tr.exit ?_
   refine aJ ?_
   obtain rfl := si H
   have H := Ho9
   dsimp only at H
   exact jA (y3,y4,y5) H [5,4] [5,4]
  have H := zH h1 H
  refine uA 3 65650 48 ?_
  obtain ⟨h2,H⟩ | ⟨h2,H⟩ := bC H
  ·refine nA h2 ?_
   refine Tr.exit ?_
   refine aJ ?_
   obtain rfl := si H
   have H := Ho9
   dsimp only at H
   exact jA (y3,y4,y5) H [5,4] [5,4]
  refine tA h2 ?_
  refine tK ?_
  refine tS ?_
  refine tB ?_
  obtain ⟨v10,ev10,H⟩ := bs H
  obtain ⟨r11,er11,H⟩ := bs H
  refine Tr.draw mixed 10 kr ⟨29,0,[sI 6 y2,sA 5 5 3 0,sA 4 4 3 0,sC 1 (cF 2 x1 Event.row)],[(5,(Net.row r11.1)),(4,[cL 11 ([] : List zA) zA.row,cL 4 ([] : List Link) Link.row,cL 7 ([] : List Say) Say.row])]⟩ (fun cx => ?_) ?_
  ·refine aA [(0,[5,9]),(1,[]),(2,[])] 7 [⟨[5,9],67,5,20⟩] fun cx => ?_
   refine aI tOk 3 79 0 21 22 23 none ⟨(.slot 21),[],0,false,2,(CV.frzEs (x1.map Event.row))⟩ y2 (Event.row v10) _ kr kr kr kr kr kr rfl (ZI ev10) rfl (fun cx => ?_)
   refine aA [(4,[])] 5 [⟨[5,9],67,5,20⟩] fun cx => ?_
   refine bA 5 ?_
   refine vB [.rd,.rd] [.box 5] (zNB n (⟨y3,y4,y5⟩ : Net) v10 r11 er11) (.inr (zk (Net.row_mine _) (zk (zJ zM zz) zy))) ?_
   refine fA ?_
   refine AT.movT tOk 6 (ty := 68) (t := 25) (d := 19) (g := none) [(true,(Net.row r11.1)),(false,[cB r11.2])] _ kr kr kr (.inl rfl) kr kr kr kr rfl (fun cx => ?_)
   refine aA [(7,[]),(8,[])] 1 [⟨[5,9],67,5,20⟩] fun cx => ?_
   refine bA 9 ?_
   refine lA 1 ?_
   refine fA ?_
   exact eE [6,5,4,1] [5,4]
  refine eA 3 114 48 ?_
  exact jB mo9 ((IntKind.wrap .i64 (y2 + 1)),r11.1.Bs,r11.1.Ls,r11.1.Said) H [6,5,4,1] [5,4]
 rintro ⟨y6,y7,y8⟩ H
 have H : (zB0 n y6 y7 y8) = some r := H
 unfold zB0 at H
 refine gA 2 16 16 ?_
 exact te (fJ [(true,[cL 11 y6 zA.row,cL 4 y7 Link.row,cL 7 y8 Say.row])] H)
def zBo (n : Nat) (x0 : (List zB)) : Option ((List zB)) :=
  (bif (decide (([] : List zB).length + x0.length ≤ 268435456)) then (some (([] : List zB) ++ x0)) else none)
theorem zKZ (n : Nat) (x0 : (List zB)) (r : (List zB)) (H : zBo n x0 = some r) : zD Tryz.prog 181 [.val false [.sl false 5 (CV.frzEs (x0.map zB.row))]] [.val false [.sl true 5 (r.map zB.row)]] [] := by
 refine cW Tryz.func181 (fun g d => sl [g 0,g 1] .ret) [.tmp 2] fun cx => ?_
 unfold zBo at H
 refine gA 1 1 0 ?_
 refine rA 1 ?_
 obtain ⟨hg1,H⟩ := gs H
 refine LAt.appCU tOk (t := 36) (ty := 36) (e := 169) (x := (.const (.slice none 0 0))) (y := (.tmp 3)) (d := 4) (g := none) (tI 169) zB.row ([] : List zB) x0 ⟨(.slot 3),[],0,false,5,(CV.frzEs (x0.map zB.row))⟩ kr kr kr kr kr kr kr kr kr kr kr (.inr rfl) (fun _ => rfl) (fun _ => rfl) hg1 ?_
 refine LAt.moveU (T := lk tab) (ty := 36) (x := (.tmp 4)) (d := 2) (g := none) false [cL 5 (([] : List zB) ++ x0) zB.row] kr kr kr kr kr ?_
 refine dA 4 0 ?_
 exact te (fJ [(false,[cL 5 (([] : List zB) ++ x0) zB.row])] H)
def zBA (n : Nat) (x0 : (List Int)) : Option ((List Int)) :=
  (bif (decide (([] : List Int).length + x0.length ≤ 268435456)) then (some (([] : List Int) ++ x0)) else none)
theorem zJv (n : Nat) (x0 : (List Int)) (r : (List Int)) (H : zBA n x0 = some r) : zD Tryz.prog 236 [.val false [.sl false 1 (CV.frzEs (x0.map intRow))]] [.val false [.sl true 1 (r.map intRow)]] [] := by
 refine cW Tryz.func236 (fun g d => sl [g 0,g 1] .ret) [.tmp 2] fun cx => ?_
 unfold zBA at H
 refine gA 1 1 0 ?_
 refine rA 1 ?_
 obtain ⟨hg1,H⟩ := gs H
 refine LAt.appCU tOk (t := 25) (ty := 25) (e := 3) (x := (.const (.slice none 0 0))) (y := (.tmp 3)) (d := 4) (g := none) (tI 3) intRow ([] : List Int) x0 ⟨(.slot 3),[],0,false,1,(CV.frzEs (x0.map intRow))⟩ kr kr kr kr kr kr kr kr kr kr kr (.inr rfl) (fun _ => rfl) (fun _ => rfl) hg1 ?_
 refine LAt.moveU (T := lk tab) (ty := 25) (x := (.tmp 4)) (d := 2) (g := none) false [cL 1 (([] : List Int) ++ x0) intRow] kr kr kr kr kr ?_
 refine dA 4 0 ?_
 exact te (fJ [(false,[cL 1 (([] : List Int) ++ x0) intRow])] H)
def JT (n : Nat) (x0 : zF) : Option (zF) :=
  (bif (decide (([] : List zC).length + x0.Rows.length ≤ 268435456)) then ((zBA n x0.Pv).bind fun r2 => (some (⟨(([] : List zC) ++ x0.Rows),r2⟩ : zF))) else none)
theorem zJw (n : Nat) (x0 : zF) (r : zF) (H : JT n x0 = some r) : zD Tryz.prog 182 [.val true (CV.frzRow (zF.row x0))] [.val true (zF.row r)] [] := by
 refine cW Tryz.func182 (fun g d => sl [g 0,d 1] .ret) [.cell 2 39] fun cx => ?_
 unfold JT at H
 refine gA 2 6 6 ?_
 obtain ⟨hg1,H⟩ := gs H
 obtain ⟨r2,er2,H⟩ := bs H
 refine Tr.draws mixed 8 kr ⟨10,0,[sA 2 2 2 0],[(2,[cL 3 (([] : List zC) ++ x0.Rows) zC.row,cL 1 r2 intRow])]⟩ (fun cx => ?_) ?_
 ·refine aA [(0,[]),(1,[2,5,6,7]),(3,[]),(4,[5,6,7])] 4 [⟨[5,6,7],25,6,7⟩,⟨[2,5,6,7],37,3,4⟩] fun cx => ?_
  refine bA 2 ?_
  refine LAt.appCU tOk (t := 37) (ty := 37) (e := 175) (x := (.const (.slice none 0 0))) (y := (.tmp 4)) (d := 5) (g := none) (tI 175) zC.row ([] : List zC) x0.Rows ⟨(.box 1),[(0,0)],0,false,3,(CV.frzEs (x0.Rows.map zC.row))⟩ kr kr kr kr kr kr kr kr kr kr kr (.inr rfl) (fun _ => rfl) (fun _ => rfl) hg1 ?_
  refine fA ?_
  refine bA 5 ?_
  refine vA [.rd] (zJv n x0.Pv r2 er2) ?_
  refine fA ?_
  refine bA 6 ?_
  refine lA 1 ?_
  refine fA ?_
  refine bA 7 ?_
  refine lA 1 ?_
  refine fA ?_
  exact eE [2] [2]
 exact te (fJ [(true,[cL 3 (([] : List zC) ++ x0.Rows) zC.row,cL 1 r2 intRow])] H)
def q7 (n : Nat) (x0 : zA) : Option (zA) :=
  (bif (decide (([] : List Pt).length + x0.Ps.length ≤ 268435456)) then ((zBo n x0.F).bind fun r2 => ((JT n x0.V).bind fun r3 => (some (⟨x0.Id,x0.Name,(([] : List Pt) ++ x0.Ps),r2,r3,x0.Tk,x0.Pa,x0.Wo,x0.Dr,x0.Ve⟩ : zA)))) else none)
theorem zAS (n : Nat) (x0 : zA) (r : zA) (H : q7 n x0 = some r) : zD Tryz.prog 83 [.val true (CV.frzRow (zA.row x0))] [.val true (zA.row r)] [] := by
 refine cW Tryz.func83 (fun g d => sl [g 0,g 1,d 2,g 3] .ret) [.cell 2 41] fun cx => ?_
 unfold q7 at H
 refine gA 2 6 6 ?_
 refine rA 2 ?_
 obtain ⟨hg1,H⟩ := gs H
 refine LAt.appCU tOk (t := 35) (ty := 35) (e := 167) (x := (.const (.slice none 0 0))) (y := (.tmp 4)) (d := 5) (g := none) (tI 167) Pt.row ([] : List Pt) x0.Ps ⟨(.slot 4),[],0,false,8,(CV.frzEs (x0.Ps.map Pt.row))⟩ kr kr kr kr kr kr kr kr kr kr kr (.inr rfl) (fun _ => rfl) (fun _ => rfl) hg1 ?_
 refine uA 2 6 6 ?_
 obtain ⟨r2,er2,H⟩ := bs H
 obtain ⟨r3,er3,H⟩ := bs H
 refine Tr.draws mixed 10 kr ⟨16,0,[sA 2 2 11 0,sA 1 1 11 0],[(1,[cI x0.Id,cS x0.Name,cL 8 (([] : List Pt) ++ x0.Ps) Pt.row,cL 5 r2 zB.row,cL 3 r3.Rows zC.row,cL 1 r3.Pv intRow,cI x0.Tk,cI x0.Pa,cI x0.Wo,cI x0.Dr,cI x0.Ve]),(2,[cI 0,cS (⟨#[]⟩ : ByteArray),cL 8 ([] : List Pt) Pt.row,cL 5 ([] : List zB) zB.row,cL 3 ([] : List zC) zC.row,cL 1 ([] : List Int) intRow,cI 0,cI 0,cI 0,cI 0,cI 0])]⟩ (fun cx => ?_) ?_
 ·refine aA [(0,[]),(1,[2,5,7,9]),(3,[]),(4,[5,7,9])] 6 [⟨[5,7,9],39,10,11⟩,⟨[2,5,7,9],36,7,8⟩] fun cx => ?_
  refine bA 2 ?_
  refine vA [.rd] (zKZ n x0.F r2 er2) ?_
  refine fA ?_
  refine aA [(6,[])] 4 [⟨[5,7,9],39,10,11⟩,⟨[2,5,7,9],36,7,8⟩] fun cx => ?_
  refine bA 5 ?_
  refine vA [.rd] (zJw n x0.V r3 er3) ?_
  refine fA ?_
  refine bA 7 ?_
  refine LAt.storeO tOk (t := 36) (ty := 0) (ad := (.tmp 13)) (x := (.tmp 9)) (g := none) (tI 36) false [cL 5 r2 zB.row] 1 3 [cI x0.Id,cS x0.Name,cL 8 (([] : List Pt) ++ x0.Ps) Pt.row,cF 5 x0.F zB.row,cF 3 x0.V.Rows zC.row,cF 1 x0.V.Pv intRow,cI x0.Tk,cI x0.Pa,cI x0.Wo,cI x0.Dr,cI x0.Ve] kr kr kr kr kr kr kr kr ?_
  refine fA ?_
  refine aA [(8,[])] 1 [⟨[5,7,9],39,10,11⟩,⟨[2,5,7,9],36,7,8⟩] fun cx => ?_
  refine bA 9 ?_
  refine lA 1 ?_
  refine fA ?_
  exact eE [2,1] [1,2]
 refine gA 2 4 4 ?_
 exact te (fJ [(true,[cI x0.Id,cS x0.Name,cL 8 (([] : List Pt) ++ x0.Ps) Pt.row,cL 5 r2 zB.row,cL 3 r3.Rows zC.row,cL 1 r3.Pv intRow,cI x0.Tk,cI x0.Pa,cI x0.Wo,cI x0.Dr,cI x0.Ve])] H)
def zAT (n : Nat) (x0 : Net) (y5 : (List zA)) : Option (Net) :=
  (some (⟨y5,(([] : List Link) ++ x0.Ls),(([] : List Say) ++ x0.Said)⟩ : Net))
def Zr (n : Nat) : Nat → Net → Int → (List zA) → Option (((List zA)) ⊕ (Net))
  | 0,_,_,_ => none
  | mo6 + 1,x0,y3,y4 => (bif (decide (y3 < (x0.Bs.length : Int))) then ((idx x0.Bs y3).bind fun v7 => ((q7 n v7).bind fun r8 => (bif (decide (y4.length + [r8].length ≤ 268435456)) then (Zr n mo6 x0 (IntKind.wrap .i64 (y3 + 1)) (y4 ++ [r8])) else none))) else (some (Sum.inl y4)))
def Ye (n : Nat) (x0 : Net) : Option (Net) :=
  (bif (decide (([] : List Link).length + x0.Ls.length ≤ 268435456)) then (bif (decide (([] : List Say).length + x0.Said.length ≤ 268435456)) then ((Zr n n x0 0 ([] : List zA)).bind fun o => match o with | .inl y5 => (zAT n x0 y5) | .inr r => some r) else none) else none)
theorem zFs (n : Nat) (x0 : Net) (r : Net) (H : Ye n x0 = some r) : zD Tryz.prog 115 [.val true (CV.frzRow (Net.row x0))] [.val true (Net.row r)] [] := by
 refine cW Tryz.func115 (fun g d => sl [g 0,d 1,sl [g 2] (.block 0 (.loop (sl [g 3,cn 17 .skip (.exit 0),.block 1 (sl [g 4] (d 5))] (g 6)))),g 7] .ret) [.cell 2 67] fun cx => ?_
 unfold Ye at H
 refine gA 2 6 6 ?_
 obtain ⟨hg1,H⟩ := gs H
 obtain ⟨hg2,H⟩ := gs H
 refine Tr.draws mixed 9 kr ⟨29,0,[sA 3 3 3 0,sA 2 2 3 0,sA 1 1 3 0],[(3,[cL 11 ([] : List zA) zA.row,cL 4 (([] : List Link) ++ x0.Ls) Link.row,cL 7 (([] : List Say) ++ x0.Said) Say.row]),(2,[cL 11 ([] : List zA) zA.row,cL 4 ([] : List Link) Link.row,cL 7 ([] : List Say) Say.row]),(1,(CV.frzRow (Net.row x0)))]⟩ (fun cx => ?_) ?_
 ·refine aA [(0,[]),(1,[2,5,6,8]),(3,[]),(4,[5,6,8])] 5 [⟨[5,6,8],65,9,10⟩,⟨[2,5,6,8],64,6,7⟩] fun cx => ?_
  refine AT.big2 tOk 2 7 kr (And.intro kr ?_) (And.intro kr ?_)
  ·refine LAt.appCU tOk (t := 64) (ty := 64) (e := 114) (x := (.const (.slice none 0 0))) (y := (.tmp 7)) (d := 8) (g := none) (tI 114) Link.row ([] : List Link) x0.Ls ⟨(.box 1),[(0,0)],1,false,4,(CV.frzEs (x0.Ls.map Link.row))⟩ kr kr kr kr kr kr kr kr kr kr kr (.inr rfl) (fun _ => rfl) (fun _ => rfl) hg1 ?_
   refine fA ?_
   refine AT.big2 tOk 5 7 kr (And.intro kr ?_) (And.intro kr ?_)
   ·refine LAt.appCU tOk (t := 65) (ty := 65) (e := 180) (x := (.const (.slice none 0 0))) (y := (.tmp 10)) (d := 11) (g := none) (tI 180) Say.row ([] : List Say) x0.Said ⟨(.box 1),[(0,0)],2,false,7,(CV.frzEs (x0.Said.map Say.row))⟩ kr kr kr kr kr kr kr kr kr kr kr (.inr rfl) (fun _ => rfl) (fun _ => rfl) hg2 ?_
    refine fA ?_
    refine AT.big2 tOk 6 7 kr (And.intro kr ?_) (And.intro kr ?_)
    ·refine lA 1 ?_
     refine fA ?_
     refine bA 7 ?_
     refine lA 1 ?_
     refine fA ?_
     refine bA 8 ?_
     refine lA 1 ?_
     refine fA ?_
     exact eE [3,2,1] [3,2,1]
    ·refine lA 1 ?_
     refine fA ?_
     refine bA 6 ?_
     refine lA 1 ?_
     refine fA ?_
     refine bA 8 ?_
     refine lA 1 ?_
     refine fA ?_
     exact eE [3,2,1] [3,2,1]
   ·refine lA 1 ?_
    refine fA ?_
    refine bA 5 ?_
    refine LAt.appCU tOk (t := 65) (ty := 65) (e := 180) (x := (.const (.slice none 0 0))) (y := (.tmp 10)) (d := 11) (g := none) (tI 180) Say.row ([] : List Say) x0.Said ⟨(.box 1),[(0,0)],2,false,7,(CV.frzEs (x0.Said.map Say.row))⟩ kr kr kr kr kr kr kr kr kr kr kr (.inr rfl) (fun _ => rfl) (fun _ => rfl) hg2 ?_
    refine fA ?_
    refine bA 6 ?_
    refine lA 1 ?_
    refine fA ?_
    refine bA 8 ?_
    refine lA 1 ?_
    refine fA ?_
    exact eE [3,2,1] [3,2,1]
  ·refine lA 1 ?_
   refine fA ?_
   refine bA 2 ?_
   refine LAt.appCU tOk (t := 64) (ty := 64) (e := 114) (x := (.const (.slice none 0 0))) (y := (.tmp 7)) (d := 8) (g := none) (tI 114) Link.row ([] : List Link) x0.Ls ⟨(.box 1),[(0,0)],1,false,4,(CV.frzEs (x0.Ls.map Link.row))⟩ kr kr kr kr kr kr kr kr kr kr kr (.inr rfl) (fun _ => rfl) (fun _ => rfl) hg1 ?_
   refine fA ?_
   refine bA 5 ?_
   refine LAt.appCU tOk (t := 65) (ty := 65) (e := 180) (x := (.const (.slice none 0 0))) (y := (.tmp 10)) (d := 11) (g := none) (tI 180) Say.row ([] : List Say) x0.Said ⟨(.box 1),[(0,0)],2,false,7,(CV.frzEs (x0.Said.map Say.row))⟩ kr kr kr kr kr kr kr kr kr kr kr (.inr rfl) (fun _ => rfl) (fun _ => rfl) hg2 ?_
   refine fA ?_
   refine bA 6 ?_
   refine lA 1 ?_
   refine fA ?_
   refine bA 8 ?_
   refine lA 1 ?_
   refine fA ?_
   exact eE [3,2,1] [3,2,1]
 refine tS ?_
 refine rA 2 ?_
 refine kF x0.Bs zA.row ?_
 refine uA 1 114700 12 ?_
 obtain ⟨o6,eo6,Ho6⟩ := bs H
 clear H
 refine Tr.mid (ι := (List zA)) (fun v => ⟨29,0,[sA 3 3 3 0,sA 2 2 3 0],[(3,[cL 11 v zA.row,cL 4 (([] : List Link) ++ x0.Ls) Link.row,cL 7 (([] : List Say) ++ x0.Said) Say.row]),(2,[cL 11 ([] : List zA) zA.row,cL 4 ([] : List Link) Link.row,cL 7 ([] : List Say) Say.row])]⟩) (fun v => zAT n x0 v = some r) ?_ ?_
 ·refine tB ?_
  refine Tr.loop (ι := Nat × (Int × (List zA))) (fun v => ⟨29,0,[sI 16 v.2.1,sI 15 (x0.Bs.length : Int),sC 14 (cF 11 x0.Bs zA.row),sA 3 3 3 0,sA 2 2 3 0],[(3,[cL 11 v.2.2 zA.row,cL 4 (([] : List Link) ++ x0.Ls) Link.row,cL 7 (([] : List Say) ++ x0.Said) Say.row]),(2,[cL 11 ([] : List zA) zA.row,cL 4 ([] : List Link) Link.row,cL 7 ([] : List Say) Say.row])]⟩) (fun v => Zr n v.1 x0 v.2.1 v.2.2 = some o6) (fun v => v.1) (n,(0,([] : List zA))) eo6 (St.sub_of [16,15,14,3,2] [3,2] kr) ?_
  rintro ⟨mo6,y3,y4⟩ H
  have H : Zr n mo6 x0 y3 y4 = some o6 := H
  obtain _ | mo6 := mo6
  ·exact nN H
  rw [Zr] at H
  refine gA 1 245772 12 ?_
  refine tS ?_
  obtain ⟨h1,H⟩ | ⟨h1,H⟩ := bC H
  ·refine nA h1 ?_
   refine Tr.exit ?_
   refine aJ ?_
   obtain rfl := si H
   have H := Ho6
   dsimp only at H
   exact jA y4 H [3,2] [3,2]
  refine tA h1 ?_
  refine tK ?_
  refine tS ?_
  refine tB ?_
  refine tR ?_
  obtain ⟨v7,ev7,H⟩ := bs H
  refine iA zA.row ev7 ?_
  refine uA 3 114732 44 ?_
  obtain ⟨r8,er8,H⟩ := bs H
  obtain ⟨hg9,H⟩ := gs H
  refine Tr.draw mixed 8 kr ⟨29,0,[sI 16 y3,sI 15 (x0.Bs.length : Int),sC 14 (cF 11 x0.Bs zA.row),sA 3 3 3 0,sA 2 2 3 0],[(3,[cL 11 (y4 ++ [r8]) zA.row,cL 4 (([] : List Link) ++ x0.Ls) Link.row,cL 7 (([] : List Say) ++ x0.Said) Say.row]),(2,[cL 11 ([] : List zA) zA.row,cL 4 ([] : List Link) Link.row,cL 7 ([] : List Say) Say.row])]⟩ (fun cx => ?_) ?_
  ·refine aA [(0,[]),(1,[5,7]),(2,[3,4,5,7])] 5 [⟨[3,4,5,7],41,5,22⟩,⟨[5,7],63,20,21⟩] fun cx => ?_
   refine bA 3 ?_
   refine vA [.rd] (zAS n v7 r8 er8) ?_
   refine fA ?_
   refine bA 4 ?_
   refine lA 1 ?_
   refine fA ?_
   refine bA 5 ?_
   refine LAt.appMU tOk (t := 63) (ty := 63) (e := 41) (x := (.tmp 21)) (y := (.tmp 24)) (d := 25) (g := none) (tI 41) zA.row y4 [r8] kr kr kr kr kr kr kr kr kr kr hg9 ?_
   refine fA ?_
   refine aA [(6,[])] 1 [⟨[3,4,5,7],41,5,22⟩,⟨[5,7],63,20,21⟩] fun cx => ?_
   refine bA 7 ?_
   refine lA 1 ?_
   refine fA ?_
   exact eE [16,15,14,3,2] [3,2]
  refine eA 2 114700 12 ?_
  exact jB mo6 ((IntKind.wrap .i64 (y3 + 1)),(y4 ++ [r8])) H [16,15,14,3,2] [3,2]
 rintro y5 H
 have H : (zAT n x0 y5) = some r := H
 unfold zAT at H
 refine gA 2 4 4 ?_
 exact te (fJ [(true,[cL 11 y5 zA.row,cL 4 (([] : List Link) ++ x0.Ls) Link.row,cL 7 (([] : List Say) ++ x0.Said) Say.row])] H)
def zw (n : Nat) (x0 : Int) (x1 : Int) (x2 : Int) : Option (Bool) :=
  (bif (decide (x0 ≥ x1)) then (some (decide (x0 ≤ x2))) else (some false))
theorem z3 (n : Nat) (x0 : Int) (x1 : Int) (x2 : Int) (r : Bool) (H : zw n x0 x1 x2 = some r) : zD Tryz.prog 116 [.val false [.lit (.int .i64 x0)],.val false [.lit (.int .i64 x1)],.val false [.lit (.int .i64 x2)]] [.val false [.lit (.bool r)]] [] := by
 refine cW Tryz.func116 (fun g d => sl [g 0,g 1] .ret) [.tmp 6] fun cx => ?_
 unfold zw at H
 refine gA 1 7 0 ?_
 refine rA 4 ?_
 refine sL 1029 0 ⟨15,0,[sB 10 (decide (x0 ≥ x1)),sI 0 x0,sI 2 x2],[]⟩ ?_
 cases h1 : (decide (x0 ≥ x1))
 ·have H := zG h1 H
  refine uA 5 64 0 ?_
  exact te (fF H)
 have H := zH h1 H
 refine uA 5 64 0 ?_
 exact te (fJ [(false,[cB (decide (x0 ≤ x2))])] H)
def Q5 (n : Nat) (x0 : Vec) : Option (Bool) :=
  ((zw n x0.Root 1 99).bind fun r1 => (bif r1 then ((zw n x0.Co 0 100000).bind fun r2 => (bif r2 then ((zw n x0.Hops 0 10).bind fun r3 => (bif r3 then ((zw n x0.Bridge 1 99).bind fun r4 => (bif r4 then ((zw n x0.Port 0 7).bind fun r5 => (some r5)) else (some false))) else (some false))) else (some false))) else (some false)))
theorem zCK (n : Nat) (x0 : Vec) (r : Bool) (H : Q5 n x0 = some r) : zD Tryz.prog 149 [.val true (CV.frzRow (Vec.row x0))] [.val false [.lit (.bool r)]] [] := by
 refine cW Tryz.func149 (fun g d => sl [g 0,g 1] .ret) [.tmp 2] fun cx => ?_
 unfold Q5 at H
 refine gA 2 2 2 ?_
 refine rA 2 ?_
 obtain ⟨r1,er1,H⟩ := bs H
 refine vA [.rd,.rd,.rd] (z3 n x0.Root 1 99 r1 er1) ?_
 refine lA 1 ?_
 refine sL 66 2 ⟨26,0,[sB 6 r1,sA 1 1 5 0],[(1,(Vec.row x0))]⟩ ?_
 cases h1 : r1
 ·have H := zG h1 H
  refine uA 20 4 0 ?_
  exact te (fF H)
 have H := zH h1 H
 refine lA 2 ?_
 obtain ⟨r2,er2,H⟩ := bs H
 refine vA [.rd,.rd,.rd] (z3 n x0.Co 0 100000 r2 er2) ?_
 refine lA 2 ?_
 refine sL 2050 2 ⟨26,0,[sB 11 r2,sA 1 1 5 0],[(1,(Vec.row x0))]⟩ ?_
 cases h2 : r2
 ·have H := zG h2 H
  refine uA 15 4 0 ?_
  exact te (fF H)
 have H := zH h2 H
 refine lA 2 ?_
 obtain ⟨r3,er3,H⟩ := bs H
 refine vA [.rd,.rd,.rd] (z3 n x0.Hops 0 10 r3 er3) ?_
 refine lA 2 ?_
 refine sL 65538 2 ⟨26,0,[sB 16 r3,sA 1 1 5 0],[(1,(Vec.row x0))]⟩ ?_
 cases h3 : r3
 ·have H := zG h3 H
  refine uA 10 4 0 ?_
  exact te (fF H)
 have H := zH h3 H
 refine lA 2 ?_
 obtain ⟨r4,er4,H⟩ := bs H
 refine vA [.rd,.rd,.rd] (z3 n x0.Bridge 1 99 r4 er4) ?_
 refine lA 2 ?_
 refine sL 2097154 2 ⟨26,0,[sB 21 r4,sA 1 1 5 0],[(1,(Vec.row x0))]⟩ ?_
 cases h4 : r4
 ·have H := zG h4 H
  refine uA 5 4 0 ?_
  exact te (fF H)
 have H := zH h4 H
 refine lA 2 ?_
 obtain ⟨r5,er5,H⟩ := bs H
 refine vA [.rd,.rd,.rd] (z3 n x0.Port 0 7 r5 er5) ?_
 refine uA 2 4 0 ?_
 exact te (fJ [(false,[cB r5])] H)
def zCJ (n : Nat) (x0 : Pt) : Option (Bool) :=
  ((zw n x0.Co 1 1000).bind fun r1 => (bif (!r1) then (some false) else (bif x0.Has then (bif (!x0.Up) then (some false) else ((Q5 n x0.Hd).bind fun r2 => (some r2))) else (some ((x0.Hd.Root == 0) && ((x0.Hd.Co == 0) && ((x0.Hd.Hops == 0) && ((x0.Hd.Bridge == 0) && ((x0.Hd.Port == 0) && true)))))))))
theorem zMv (n : Nat) (x0 : Pt) (r : Bool) (H : zCJ n x0 = some r) : zD Tryz.prog 138 [.val true (CV.frzRow (Pt.row x0))] [.val false [.lit (.bool r)]] [] := by
 refine cW Tryz.func138 (fun g d => sl [g 0,sl [g 1] (cn 15 (sl [g 2] .ret) .skip),sl [g 3] (cn 17 (sl [g 4] .ret) .skip),g 5] .ret) [.tmp 2] fun cx => ?_
 unfold zCJ at H
 refine gA 2 2 2 ?_
 refine tS ?_
 refine rA 2 ?_
 obtain ⟨r1,er1,H⟩ := bs H
 refine vA [.rd,.rd,.rd] (z3 n x0.Co 1 1000 r1 er1) ?_
 refine lA 2 ?_
 refine sL 130 2 ⟨25,0,[sB 7 (!r1),sA 1 1 8 0],[(1,(Pt.row x0))]⟩ ?_
 cases h1 : (!r1)
 ·have H := zG h1 H
  refine lA 3 ?_
  refine sL 1154 2 ⟨25,0,[sB 10 x0.Has,sB 7 false,sA 1 1 8 0],[(1,(Pt.row x0))]⟩ ?_
  cases h2 : x0.Has
  ·have H := zG h2 H
   refine uA 5 32770 2 ?_
   refine nB_ ?_
   refine tK ?_
   refine tS ?_
   refine gA 2 131074 2 ?_
   refine sT ⟨25,0,[sB 17 x0.Has,sA 1 1 8 0],[(1,(Pt.row x0))]⟩ ?_
   rw [h2]
   refine nB_ ?_
   refine tK ?_
   refine rA 3 ?_
   refine LAt.eqSG false (t := 165) (ty := 165) (ty' := 4) (x := (.tmp 22)) (y := (.tmp 23)) (d := 24) (g := none) ((x0.Hd.Root == 0) && ((x0.Hd.Co == 0) && ((x0.Hd.Hops == 0) && ((x0.Hd.Bridge == 0) && ((x0.Hd.Port == 0) && true))))) _ kr kr kr kr rfl ?_
   refine uA 1 4 0 ?_
   exact te (fJ [(false,[cB ((x0.Hd.Root == 0) && ((x0.Hd.Co == 0) && ((x0.Hd.Hops == 0) && ((x0.Hd.Bridge == 0) && ((x0.Hd.Port == 0) && true)))))])] H)
  have H := zH h2 H
  refine uA 5 32770 2 ?_
  obtain ⟨h3,H⟩ | ⟨h3,H⟩ := bC H
  ·refine nA h3 ?_
   refine tK ?_
   refine tS ?_
   refine gA 2 131074 2 ?_
   refine sT ⟨25,0,[sB 17 x0.Has,sA 1 1 8 0],[(1,(Pt.row x0))]⟩ ?_
   rw [h2]
   refine tB_ ?_
   refine rA 2 ?_
   obtain ⟨r2,er2,H⟩ := bs H
   refine vA [.rd] (zCK n x0.Hd r2 er2) ?_
   refine uA 1 4 0 ?_
   exact te (fJ [(false,[cB r2])] H)
  refine tA h3 ?_
  refine gA 1 4 0 ?_
  exact te (fF H)
 have H := zH h1 H
 refine uA 8 32770 2 ?_
 refine tB_ ?_
 refine gA 1 4 0 ?_
 exact te (fF H)
def zCM (n : Nat) (x0 : zB) : Option (Bool) :=
  ((zw n x0.Tag 1 99).bind fun r1 => (bif r1 then ((zw n x0.Mac 1 9999).bind fun r2 => (bif r2 then ((zw n x0.Port 0 7).bind fun r3 => (bif r3 then ((zw n x0.Age 0 4).bind fun r4 => (bif r4 then (bif (!x0.Sc) then (some true) else (some (x0.Age == 0))) else (some false))) else (some false))) else (some false))) else (some false)))
theorem zEd (n : Nat) (x0 : zB) (r : Bool) (H : zCM n x0 = some r) : zD Tryz.prog 183 [.val true (CV.frzRow (zB.row x0))] [.val false [.lit (.bool r)]] [] := by
 refine cW Tryz.func183 (fun g d => sl [g 0,g 1] .ret) [.tmp 2] fun cx => ?_
 unfold zCM at H
 refine gA 2 2 2 ?_
 refine rA 2 ?_
 obtain ⟨r1,er1,H⟩ := bs H
 refine vA [.rd,.rd,.rd] (z3 n x0.Tag 1 99 r1 er1) ?_
 refine lA 1 ?_
 refine sL 66 2 ⟨31,0,[sB 6 r1,sA 1 1 5 0],[(1,(zB.row x0))]⟩ ?_
 cases h1 : r1
 ·have H := zG h1 H
  refine uA 25 4 0 ?_
  exact te (fF H)
 have H := zH h1 H
 refine lA 2 ?_
 obtain ⟨r2,er2,H⟩ := bs H
 refine vA [.rd,.rd,.rd] (z3 n x0.Mac 1 9999 r2 er2) ?_
 refine lA 2 ?_
 refine sL 2050 2 ⟨31,0,[sB 11 r2,sA 1 1 5 0],[(1,(zB.row x0))]⟩ ?_
 cases h2 : r2
 ·have H := zG h2 H
  refine uA 20 4 0 ?_
  exact te (fF H)
 have H := zH h2 H
 refine lA 2 ?_
 obtain ⟨r3,er3,H⟩ := bs H
 refine vA [.rd,.rd,.rd] (z3 n x0.Port 0 7 r3 er3) ?_
 refine lA 2 ?_
 refine sL 65538 2 ⟨31,0,[sB 16 r3,sA 1 1 5 0],[(1,(zB.row x0))]⟩ ?_
 cases h3 : r3
 ·have H := zG h3 H
  refine uA 15 4 0 ?_
  exact te (fF H)
 have H := zH h3 H
 refine lA 2 ?_
 obtain ⟨r4,er4,H⟩ := bs H
 refine vA [.rd,.rd,.rd] (z3 n x0.Age 0 4 r4 er4) ?_
 refine lA 2 ?_
 refine sL 2097154 2 ⟨31,0,[sB 21 r4,sA 1 1 5 0],[(1,(zB.row x0))]⟩ ?_
 cases h4 : r4
 ·have H := zG h4 H
  refine uA 10 4 0 ?_
  exact te (fF H)
 have H := zH h4 H
 refine lA 4 ?_
 refine sL 35651586 2 ⟨31,0,[sB 25 (!x0.Sc),sB 21 true,sA 1 1 5 0],[(1,(zB.row x0))]⟩ ?_
 cases h5 : (!x0.Sc)
 ·have H := zG h5 H
  refine uA 6 4 0 ?_
  exact te (fJ [(false,[cB (x0.Age == 0)])] H)
 have H := zH h5 H
 refine uA 6 4 0 ?_
 exact te (fT H)
def zAn (n : Nat) (x0 : zB) (x1 : Int) (x2 : Int) : Option (Bool) :=
  (bif (decide (x0.Tag > x1)) then (some true) else (bif (x0.Tag == x1) then (some (decide (x0.Mac > x2))) else (some false)))
theorem zLI (n : Nat) (x0 : zB) (x1 : Int) (x2 : Int) (r : Bool) (H : zAn n x0 x1 x2 = some r) : zD Tryz.prog 215 [.val true (CV.frzRow (zB.row x0)),.val false [.lit (.int .i64 x1)],.val false [.lit (.int .i64 x2)]] [.val false [.lit (.bool r)]] [] := by
 refine cW Tryz.func215 (fun g d => sl [g 0,g 1] .ret) [.tmp 6] fun cx => ?_
 unfold zAn at H
 refine gA 2 14 8 ?_
 refine rA 5 ?_
 refine sL 2062 8 ⟨23,0,[sB 11 (decide (x0.Tag > x1)),sA 3 3 5 0,sI 1 x1,sI 2 x2],[(3,(zB.row x0))]⟩ ?_
 cases h1 : (decide (x0.Tag > x1))
 ·have H := zG h1 H
  refine lA 5 ?_
  refine sL 67596 8 ⟨23,0,[sB 16 (x0.Tag == x1),sB 11 false,sA 3 3 5 0,sI 2 x2],[(3,(zB.row x0))]⟩ ?_
  cases h2 : (x0.Tag == x1)
  ·have H := zG h2 H
   refine uA 7 64 0 ?_
   exact te (fF H)
  have H := zH h2 H
  refine uA 7 64 0 ?_
  exact te (fJ [(false,[cB (decide (x0.Mac > x2))])] H)
 have H := zH h1 H
 refine uA 12 64 0 ?_
 exact te (fT H)
def zBi (n : Nat) (x0 : (List zB)) : Option (Bool) :=
  (some (decide ((x0.length : Int) ≤ 12)))
def Zz (n : Nat) : Nat → (List zB) → Int → Option ((Unit) ⊕ (Bool))
  | 0,_,_ => none
  | mo2 + 1,x0,y1 => (bif (decide (y1 < (x0.length : Int))) then ((idx x0 y1).bind fun v3 => ((zCM n v3).bind fun r4 => (bif (!r4) then (some (Sum.inr false)) else (bif (decide (y1 > 0)) then ((idx x0 (IntKind.wrap .i64 (y1 - 1))).bind fun v5 => ((idx x0 (IntKind.wrap .i64 (y1 - 1))).bind fun v6 => ((zAn n v3 v5.Tag v6.Mac).bind fun r7 => (bif (!r7) then (some (Sum.inr false)) else (Zz n mo2 x0 (IntKind.wrap .i64 (y1 + 1))))))) else (Zz n mo2 x0 (IntKind.wrap .i64 (y1 + 1))))))) else (some (Sum.inl ())))
def zBT (n : Nat) (x0 : (List zB)) : Option (Bool) :=
  ((Zz n n x0 0).bind fun o => match o with | .inl _ => (zBi n x0) | .inr r => some r)
def zOS : Tab := ⟨24,[0,1,2,6,8,24,40,64,64,64,576,1344,2112,4160,64,64,32832,81984,131136,262208,532672,1048640,2097224,4194312],[0,1,2,4,8,24,40,64,64,64,576,1344,2112,4160,64,64,32832,81984,131136,262208,532672,1048640,2097224,4194312],[0,1,3,7,15,31,63,127,127,127,639,1919,3967,8063,127,127,32895,114815,245887,508031,1048575,2097151,4194303,8388607]⟩
theorem ZU : zf (rg Tryz.f139 4) zOS = true := kr
theorem zMG (n : Nat) (x0 : (List zB)) (r : Bool) (H : zBT n x0 = some r) : zD Tryz.prog 139 [.val false [.sl false 5 (CV.frzEs (x0.map zB.row))]] [.val false [.lit (.bool r)]] [] := by
 refine cW Tryz.func139 (fun g d => sl [g 0,sl [g 1] (.block 0 (.loop (sl [g 2,cn 8 .skip (.exit 0),.block 1 (sl [g 3,d 4] (cn 35 (sl [g 5] .ret) .skip))] (g 6)))),g 7] .ret) [.tmp 2] fun cx => ?_
 unfold zBT at H
 refine gA 1 1 0 ?_
 refine tS ?_
 refine rA 1 ?_
 refine kF x0 zB.row ?_
 refine uA 1 225 0 ?_
 obtain ⟨o2,eo2,Ho2⟩ := bs H
 clear H
 refine Tr.mid (ι := Unit) (fun v => ⟨40,0,[sC 0 (cF 5 x0 zB.row)],[]⟩) (fun v => zBi n x0 = some r) ?_ ?_
 ·refine tB ?_
  refine Tr.loop (ι := Nat × (Int)) (fun v => ⟨40,0,[sI 7 v.2,sI 6 (x0.length : Int),sC 5 (cF 5 x0 zB.row),sC 0 (cF 5 x0 zB.row)],[]⟩) (fun v => Zz n v.1 x0 v.2 = some o2) (fun v => v.1) (n,0) eo2 (St.sub_of [7,6,5,0] [] kr) ?_
  rintro ⟨mo2,y1⟩ H
  have H : Zz n mo2 x0 y1 = some o2 := H
  obtain _ | mo2 := mo2
  ·exact nN H
  rw [Zz] at H
  refine gA 1 481 0 ?_
  refine tS ?_
  obtain ⟨h1,H⟩ | ⟨h1,H⟩ := bC H
  ·refine nA h1 ?_
   refine Tr.exit ?_
   refine aJ ?_
   obtain rfl := si H
   have H := Ho2
   dsimp only at H
   exact jA () H [0] []
  refine tA h1 ?_
  refine tK ?_
  refine tS ?_
  refine tB ?_
  refine rA 1 ?_
  obtain ⟨v3,ev3,H⟩ := bs H
  refine iA zB.row ev3 ?_
  refine uA 4 249 16 ?_
  obtain ⟨r4,er4,H⟩ := bs H
  refine sT ⟨40,0,[sI 3 y1,sA 4 4 5 0,sI 7 y1,sI 6 (x0.length : Int),sC 5 (cF 5 x0 zB.row),sC 0 (cF 5 x0 zB.row)],[(4,(zB.row v3))]⟩ ?_
  cases h2 : (!r4)
  ·have H := zG h2 H
   refine sT ⟨40,0,[sI 3 y1,sA 4 4 5 0,sI 7 y1,sI 6 (x0.length : Int),sC 5 (cF 5 x0 zB.row),sC 0 (cF 5 x0 zB.row)],[(4,(zB.row v3))]⟩ ?_
   cases h3 : (decide (y1 > 0))
   ·have H := zG h3 H
    refine Tr.draws mixed 24 kr ⟨40,0,[sB 35 false,sI 7 y1,sI 6 (x0.length : Int),sC 5 (cF 5 x0 zB.row),sC 0 (cF 5 x0 zB.row)],[]⟩ (fun cx => ?_) ?_
    ·refine mA ZU [(0,[1])] 23 [⟨[1],169,4,12⟩] fun cx => ?_
     refine mC ZU 1 ?_
     refine vA [.rd] (zEd n v3 r4 er4) ?_
     refine fA ?_
     refine mA ZU [(2,[]),(3,[])] 20 [⟨[1],169,4,12⟩] fun cx => ?_
     refine sA_ 37113 16 ⟨40,0,[sB 15 (!r4),sV 12 (zB.row v3),sI 3 y1,sA 4 4 5 0,sI 7 y1,sI 6 (x0.length : Int),sC 5 (cF 5 x0 zB.row),sC 0 (cF 5 x0 zB.row)],[(4,(zB.row v3))]⟩ ?_
     rw [h2]
     refine mA ZU [(4,[]),(5,[]),(6,[])] 17 [⟨[1],169,4,12⟩] fun cx => ?_
     refine sA_ 299257 16 ⟨40,0,[sB 18 (decide (y1 > 0)),sB 15 false,sV 12 (zB.row v3),sI 3 y1,sA 4 4 5 0,sI 7 y1,sI 6 (x0.length : Int),sC 5 (cF 5 x0 zB.row),sC 0 (cF 5 x0 zB.row)],[(4,(zB.row v3))]⟩ ?_
     rw [h3]
     refine mA ZU [(7,[]),(8,[]),(9,[]),(10,[]),(11,[]),(12,[]),(13,[]),(14,[]),(15,[]),(16,[]),(17,[]),(18,[]),(19,[]),(20,[]),(21,[]),(22,[]),(23,[])] 0 [⟨[1],169,4,12⟩] fun cx => ?_
     exact mE ZU [35,7,6,5,0] []
    refine nB_ ?_
    refine tK ?_
    refine eA 2 225 0 ?_
    exact jB mo2 (IntKind.wrap .i64 (y1 + 1)) H [7,6,5,0] []
   have H := zH h3 H
   obtain ⟨v5,ev5,H⟩ := bs H
   obtain ⟨v6,ev6,H⟩ := bs H
   obtain ⟨r7,er7,H⟩ := bs H
   refine Tr.draws mixed 24 kr ⟨40,0,[sB 35 (!r7),sI 7 y1,sI 6 (x0.length : Int),sC 5 (cF 5 x0 zB.row),sC 0 (cF 5 x0 zB.row)],[]⟩ (fun cx => ?_) ?_
   ·refine mA ZU [(0,[1,20])] 23 [⟨[1,20],169,4,12⟩] fun cx => ?_
    refine mC ZU 1 ?_
    refine vA [.rd] (zEd n v3 r4 er4) ?_
    refine fA ?_
    refine mA ZU [(2,[]),(3,[])] 20 [⟨[1,20],169,4,12⟩] fun cx => ?_
    refine sA_ 37113 16 ⟨40,0,[sB 15 (!r4),sV 12 (zB.row v3),sI 3 y1,sA 4 4 5 0,sI 7 y1,sI 6 (x0.length : Int),sC 5 (cF 5 x0 zB.row),sC 0 (cF 5 x0 zB.row)],[(4,(zB.row v3))]⟩ ?_
    rw [h2]
    refine mA ZU [(4,[]),(5,[]),(6,[])] 17 [⟨[1,20],169,4,12⟩] fun cx => ?_
    refine sA_ 299257 16 ⟨40,0,[sB 18 (decide (y1 > 0)),sB 15 false,sV 12 (zB.row v3),sI 3 y1,sA 4 4 5 0,sI 7 y1,sI 6 (x0.length : Int),sC 5 (cF 5 x0 zB.row),sC 0 (cF 5 x0 zB.row)],[(4,(zB.row v3))]⟩ ?_
    rw [h3]
    refine mA ZU [(7,[20]),(8,[]),(9,[]),(10,[])] 13 [⟨[20],169,4,19⟩,⟨[1,20],169,4,12⟩] fun cx => ?_
    refine iN ZU 11 zB.row ev5 fun cx => ?_
    refine mA ZU [(12,[]),(13,[]),(14,[]),(15,[]),(16,[])] 7 [⟨[20],169,4,19⟩,⟨[1,20],169,4,12⟩] fun cx => ?_
    refine iN ZU 17 zB.row ev6 fun cx => ?_
    refine mA ZU [(18,[]),(19,[])] 4 [⟨[20],169,4,19⟩,⟨[1,20],169,4,12⟩] fun cx => ?_
    refine mC ZU 20 ?_
    refine vA [.rd,.rd,.rd] (zLI n v3 v5.Tag v6.Mac r7 er7) ?_
    refine fA ?_
    refine mA ZU [(21,[]),(22,[]),(23,[])] 0 [⟨[20],169,4,19⟩,⟨[1,20],169,4,12⟩] fun cx => ?_
    exact mE ZU [35,7,6,5,0] []
   refine sT ⟨40,0,[sB 35 (!r7),sI 7 y1,sI 6 (x0.length : Int),sC 5 (cF 5 x0 zB.row),sC 0 (cF 5 x0 zB.row)],[]⟩ ?_
   cases h4 : (!r7)
   ·have H := zG h4 H
    refine nB_ ?_
    refine tK ?_
    refine eA 2 225 0 ?_
    exact jB mo2 (IntKind.wrap .i64 (y1 + 1)) H [7,6,5,0] []
   have H := zH h4 H
   refine tB_ ?_
   refine gA 1 4 0 ?_
   refine te ?_
   obtain rfl := si H
   have H := Ho2
   dsimp only at H
   exact fF H
  have H := zH h2 H
  refine Tr.draws mixed 24 kr ⟨40,0,[sB 35 true,sI 7 y1,sI 6 (x0.length : Int),sC 5 (cF 5 x0 zB.row),sC 0 (cF 5 x0 zB.row)],[]⟩ (fun cx => ?_) ?_
  ·refine mA ZU [(0,[1])] 23 [⟨[1],169,4,12⟩] fun cx => ?_
   refine mC ZU 1 ?_
   refine vA [.rd] (zEd n v3 r4 er4) ?_
   refine fA ?_
   refine mA ZU [(2,[]),(3,[])] 20 [⟨[1],169,4,12⟩] fun cx => ?_
   refine sA_ 37113 16 ⟨40,0,[sB 15 (!r4),sV 12 (zB.row v3),sI 3 y1,sA 4 4 5 0,sI 7 y1,sI 6 (x0.length : Int),sC 5 (cF 5 x0 zB.row),sC 0 (cF 5 x0 zB.row)],[(4,(zB.row v3))]⟩ ?_
   rw [h2]
   refine mA ZU [(4,[]),(5,[]),(6,[]),(7,[]),(8,[]),(9,[]),(10,[]),(11,[]),(12,[]),(13,[]),(14,[]),(15,[]),(16,[]),(17,[]),(18,[]),(19,[]),(20,[]),(21,[]),(22,[]),(23,[])] 0 [⟨[1],169,4,12⟩] fun cx => ?_
   exact mE ZU [35,7,6,5,0] []
  refine tB_ ?_
  refine gA 1 4 0 ?_
  refine te ?_
  obtain rfl := si H
  have H := Ho2
  dsimp only at H
  exact fF H
 rintro _ H
 have H : (zBi n x0) = some r := H
 unfold zBi at H
 refine rA 1 ?_
 refine kF x0 zB.row ?_
 refine uA 2 4 0 ?_
 exact te (fJ [(false,[cB (decide ((x0.length : Int) ≤ 12))])] H)
def QH (n : Nat) (x0 : Int) : Option (Int) :=
  (bif (decide ((0 : Int) ≤ x0)) then (some (IntKind.wrap .i64 ((IntKind.wrap .i64 (1 * 2 ^ min ((x0 : Int)).toNat (IntKind.bits .i64))) - 1))) else none)
theorem zBn (n : Nat) (x0 : Int) (r : Int) (H : QH n x0 = some r) : zD Tryz.prog 216 [.val false [.lit (.int .i64 x0)]] [.val false [.lit (.int .i64 r)]] [] := by
 refine cW Tryz.func216 (fun g d => sl [g 0,g 1] .ret) [.tmp 2] fun cx => ?_
 unfold QH at H
 refine gA 1 1 0 ?_
 refine rA 1 ?_
 obtain ⟨hg1,H⟩ := gs H
 refine LAt.binC tOk (op := .shl) (t := 3) (ty := 3) (ty' := 3) (x := (.const (.int .i64 1))) (y := (.tmp 3)) (d := 4) (g := none) (.int .i64 1) (.int .i64 x0) (.int .i64 (IntKind.wrap .i64 (1 * 2 ^ min ((x0 : Int)).toNat (IntKind.bits .i64)))) _ kr kr kr kr kr (φ := (0 : Int) ≤ x0) kr (of_decide_eq_true hg1) rfl ?_
 refine uA 2 4 0 ?_
 exact te (fJ [(false,[cI (IntKind.wrap .i64 ((IntKind.wrap .i64 (1 * 2 ^ min ((x0 : Int)).toNat (IntKind.bits .i64))) - 1))])] H)
def zBj (n : Nat) : Option (Int) :=
  (some (-1))
def Qs (n : Nat) : Nat → zF → Int → Int → Option ((Unit) ⊕ (Int))
  | 0,_,_,_ => none
  | mo2 + 1,x0,x1,y1 => (bif (decide (y1 < (x0.Rows.length : Int))) then ((idx x0.Rows y1).bind fun v3 => (bif (v3.Id == x1) then (some (Sum.inr y1)) else (Qs n mo2 x0 x1 (IntKind.wrap .i64 (y1 + 1))))) else (some (Sum.inl ())))
def zBU (n : Nat) (x0 : zF) (x1 : Int) : Option (Int) :=
  ((Qs n n x0 x1 0).bind fun o => match o with | .inl _ => (zBj n) | .inr r => some r)
theorem zMI (n : Nat) (x0 : zF) (x1 : Int) (r : Int) (H : zBU n x0 x1 = some r) : zD Tryz.prog 142 [.val true (CV.frzRow (zF.row x0)),.val false [.lit (.int .i64 x1)]] [.val false [.lit (.int .i64 r)]] [] := by
 refine cW Tryz.func142 (fun g d => sl [g 0,sl [g 1] (.block 0 (.loop (sl [g 2,cn 11 .skip (.exit 0),.block 1 (sl [g 3,g 4] (cn 18 (sl [g 5] .ret) .skip))] (g 6)))),g 7] .ret) [.tmp 4] fun cx => ?_
 unfold zBU at H
 refine gA 2 6 4 ?_
 refine tS ?_
 refine rA 2 ?_
 refine kF x0.Rows zC.row ?_
 refine uA 1 1794 0 ?_
 obtain ⟨o2,eo2,Ho2⟩ := bs H
 clear H
 refine Tr.mid (ι := Unit) (fun v => ⟨21,0,[],[]⟩) (fun v => zBj n = some r) ?_ ?_
 ·refine tB ?_
  refine Tr.loop (ι := Nat × (Int)) (fun v => ⟨21,0,[sI 10 v.2,sI 9 (x0.Rows.length : Int),sC 8 (cF 3 x0.Rows zC.row),sI 1 x1],[]⟩) (fun v => Qs n v.1 x0 x1 v.2 = some o2) (fun v => v.1) (n,0) eo2 (St.sub_of [10,9,8,1] [] kr) ?_
  rintro ⟨mo2,y1⟩ H
  have H : Qs n mo2 x0 x1 y1 = some o2 := H
  obtain _ | mo2 := mo2
  ·exact nN H
  rw [Qs] at H
  refine gA 1 3842 0 ?_
  refine tS ?_
  obtain ⟨h1,H⟩ | ⟨h1,H⟩ := bC H
  ·refine nA h1 ?_
   refine Tr.exit ?_
   refine aJ ?_
   obtain rfl := si H
   have H := Ho2
   dsimp only at H
   exact jA () H [] []
  refine tA h1 ?_
  refine tK ?_
  refine tS ?_
  refine tB ?_
  refine rA 1 ?_
  obtain ⟨v3,ev3,H⟩ := bs H
  refine iA zC.row ev3 ?_
  refine uA 4 1890 64 ?_
  refine gA 4 263970 0 ?_
  obtain ⟨h2,H⟩ | ⟨h2,H⟩ := bC H
  ·refine nA h2 ?_
   refine tK ?_
   refine eA 2 1794 0 ?_
   exact jB mo2 (IntKind.wrap .i64 (y1 + 1)) H [10,9,8,1] []
  refine tA h2 ?_
  refine gA 2 16 0 ?_
  refine te ?_
  obtain rfl := si H
  have H := Ho2
  dsimp only at H
  exact fJ [(false,[cI y1])] H
 rintro _ H
 have H : (zBj n) = some r := H
 unfold zBj at H
 refine gA 1 16 0 ?_
 exact te (fJ [(false,[cI (-1)])] H)
def zA9 (n : Nat) : Option (Bool) :=
  (some true)
def QG (n : Nat) : Nat → zF → Int → Option ((Unit) ⊕ (Bool))
  | 0,_,_ => none
  | mo4 + 1,x0,y3 => (bif (decide (y3 < (x0.Pv.length : Int))) then ((idx x0.Pv y3).bind fun v5 => ((zBU n x0 v5).bind fun r6 => (bif (decide (r6 < 0)) then (some (Sum.inr false)) else (QG n mo4 x0 (IntKind.wrap .i64 (y3 + 1)))))) else (some (Sum.inl ())))
def JS (n : Nat) (x0 : zF) : Option (Bool) :=
  ((QG n n x0 0).bind fun o => match o with | .inl _ => (zA9 n) | .inr r => some r)
def Zg (n : Nat) : Nat → zF → Int → Int → Option ((Unit) ⊕ (Bool))
  | 0,_,_,_ => none
  | mo7 + 1,x0,x1,y2 => (bif (decide (y2 < (x0.Rows.length : Int))) then ((idx x0.Rows y2).bind fun v8 => ((zw n v8.Id 1 99).bind fun r9 => (bif (!r9) then (some (Sum.inr false)) else (bif (decide (y2 > 0)) then ((idx x0.Rows (IntKind.wrap .i64 (y2 - 1))).bind fun v12 => (bif (decide (v12.Id ≥ v8.Id)) then (some (Sum.inr false)) else ((QH n x1).bind fun r13 => ((zw n v8.Members 0 r13).bind fun r14 => (bif (!r14) then (some (Sum.inr false)) else (bif ((IntKind.wrap .i64 (BitVec.ofInt (IntKind.bits .i64) v8.Bare &&& ~~~BitVec.ofInt (IntKind.bits .i64) v8.Members).toNat) != 0) then (some (Sum.inr false)) else (Zg n mo7 x0 x1 (IntKind.wrap .i64 (y2 + 1))))))))) else ((QH n x1).bind fun r10 => ((zw n v8.Members 0 r10).bind fun r11 => (bif (!r11) then (some (Sum.inr false)) else (bif ((IntKind.wrap .i64 (BitVec.ofInt (IntKind.bits .i64) v8.Bare &&& ~~~BitVec.ofInt (IntKind.bits .i64) v8.Members).toNat) != 0) then (some (Sum.inr false)) else (Zg n mo7 x0 x1 (IntKind.wrap .i64 (y2 + 1))))))))))) else (some (Sum.inl ())))
def zAm (n : Nat) (x0 : zF) (x1 : Int) : Option (Bool) :=
  ((zw n x1 1 6).bind fun r1 => (bif (!r1) then (some false) else (bif ((x0.Pv.length : Int) != x1) then (some false) else (bif (decide ((x0.Rows.length : Int) > 6)) then (some false) else ((Zg n n x0 x1 0).bind fun o => match o with | .inl _ => (JS n x0) | .inr r => some r)))))
def zOT : Tab := ⟨36,[0,1,2,4,12,16,48,80,128,384,128,1152,2688,4224,8320,128,32896,82048,131216,262160,524416,1048576,3145728,1048576,9437184,22020096,34603008,68157440,167772160,268435456,805306368,268435456,2415919104,5637144576,8858370048,17448304640],[0,1,2,4,8,16,48,80,128,384,128,1152,2688,4224,8320,128,32896,82048,131216,262160,524288,1048576,3145728,1048576,9437184,22020096,34603008,68157440,134217728,268435456,805306368,268435456,2415919104,5637144576,8858370048,17448304640],[0,1,3,7,15,31,63,127,255,511,255,1279,4095,8191,16383,255,33023,131071,262143,524287,1048575,2097151,4194303,2097151,10485759,33554431,67108863,134217727,268435455,536870911,1073741823,536870911,2684354559,8589934591,17179869183,34359738367]⟩
theorem zX : zf (rg Tryz.f140 6) zOT = true := kr
theorem zIv (n : Nat) (x1 : Int) (r13 : Int) (v8 : zC) (r14 : Bool) (y2 : Int) (x0 : zF) (er13 : (QH n x1) = some r13) (er14 : (zw n v8.Members 0 r13) = some r14) (h12 : (!r14) = false) (cx : Cx) : AT Tryz.prog cx (rg Tryz.f140 6) [⟨[24,25],3,48,49⟩,⟨[24,25],37,41,42⟩,⟨[2,24,25],3,33,34⟩] 15 [20,19,18,17,16,15,14,13,12,11,10,9,8,7,6,5,4,3,2,1,0] ⟨82,0,[sB 53 false,sI 49 v8.Id,sA 48 6 3 0,sR 42 2 2 0 1 false,sA 41 2 2 0,sI 34 v8.Id,sA 33 6 3 0,sA 6 6 3 0,sI 28 y2,sI 27 (x0.Rows.length : Int),sC 26 (cF 3 x0.Rows zC.row),sA 2 2 2 0,sI 1 x1],[(6,(zC.row v8)),(2,(CV.frzRow (zF.row x0)))]⟩ (fun s => s = ⟨82,0,[sB 68 ((IntKind.wrap .i64 (BitVec.ofInt (IntKind.bits .i64) v8.Bare &&& ~~~BitVec.ofInt (IntKind.bits .i64) v8.Members).toNat) != 0),sI 28 y2,sI 27 (x0.Rows.length : Int),sC 26 (cF 3 x0.Rows zC.row),sA 2 2 2 0,sI 1 x1],[(2,(CV.frzRow (zF.row x0)))]⟩) := by
 refine mA zX [(21,[]),(22,[25]),(23,[])] 12 [⟨[25],3,54,55⟩,⟨[24,25],3,48,49⟩,⟨[24,25],37,41,42⟩,⟨[2,24,25],3,33,34⟩] fun cx => ?_
 refine mC zX 24 ?_
 refine vA [.rd] (zBn n x1 r13 er13) ?_
 refine fA ?_
 refine mC zX 25 ?_
 refine vA [.rd,.rd,.rd] (z3 n v8.Members 0 r13 r14 er14) ?_
 refine fA ?_
 refine mA zX [(26,[]),(27,[]),(28,[])] 7 [⟨[25],3,54,55⟩,⟨[24,25],3,48,49⟩,⟨[24,25],37,41,42⟩,⟨[2,24,25],3,33,34⟩] fun cx => ?_
 refine sA_ 0x20c306061c000046 68 ⟨82,0,[sB 61 (!r14),sI 55 v8.Members,sA 54 6 3 1,sI 49 v8.Id,sA 48 6 3 0,sR 42 2 2 0 1 false,sA 41 2 2 0,sI 34 v8.Id,sA 33 6 3 0,sA 6 6 3 0,sI 28 y2,sI 27 (x0.Rows.length : Int),sC 26 (cF 3 x0.Rows zC.row),sA 2 2 2 0,sI 1 x1],[(6,(zC.row v8)),(2,(CV.frzRow (zF.row x0)))]⟩ ?_
 rw [h12]
 refine mA zX [(29,[]),(30,[]),(31,[]),(32,[]),(33,[]),(34,[]),(35,[])] 0 [⟨[],3,64,65⟩,⟨[],3,62,63⟩,⟨[25],3,54,55⟩,⟨[24,25],3,48,49⟩,⟨[24,25],37,41,42⟩,⟨[2,24,25],3,33,34⟩] fun cx => ?_
 exact mE zX [68,28,27,26,2,1] [2]
theorem zIw (n : Nat) (x1 : Int) (r13 : Int) (v8 : zC) (r14 : Bool) (y2 : Int) (x0 : zF) (er13 : (QH n x1) = some r13) (er14 : (zw n v8.Members 0 r13) = some r14) (h12 : (!r14) = true) (cx : Cx) : AT Tryz.prog cx (rg Tryz.f140 6) [⟨[24,25],3,48,49⟩,⟨[24,25],37,41,42⟩,⟨[2,24,25],3,33,34⟩] 15 [20,19,18,17,16,15,14,13,12,11,10,9,8,7,6,5,4,3,2,1,0] ⟨82,0,[sB 53 false,sI 49 v8.Id,sA 48 6 3 0,sR 42 2 2 0 1 false,sA 41 2 2 0,sI 34 v8.Id,sA 33 6 3 0,sA 6 6 3 0,sI 28 y2,sI 27 (x0.Rows.length : Int),sC 26 (cF 3 x0.Rows zC.row),sA 2 2 2 0,sI 1 x1],[(6,(zC.row v8)),(2,(CV.frzRow (zF.row x0)))]⟩ (fun s => s = ⟨82,0,[sB 68 true,sI 28 y2,sI 27 (x0.Rows.length : Int),sC 26 (cF 3 x0.Rows zC.row),sA 2 2 2 0,sI 1 x1],[(2,(CV.frzRow (zF.row x0)))]⟩) := by
 refine mA zX [(21,[]),(22,[25]),(23,[])] 12 [⟨[25],3,54,55⟩,⟨[24,25],3,48,49⟩,⟨[24,25],37,41,42⟩,⟨[2,24,25],3,33,34⟩] fun cx => ?_
 refine mC zX 24 ?_
 refine vA [.rd] (zBn n x1 r13 er13) ?_
 refine fA ?_
 refine mC zX 25 ?_
 refine vA [.rd,.rd,.rd] (z3 n v8.Members 0 r13 r14 er14) ?_
 refine fA ?_
 refine mA zX [(26,[]),(27,[]),(28,[])] 7 [⟨[25],3,54,55⟩,⟨[24,25],3,48,49⟩,⟨[24,25],37,41,42⟩,⟨[2,24,25],3,33,34⟩] fun cx => ?_
 refine sA_ 0x20c306061c000046 68 ⟨82,0,[sB 61 (!r14),sI 55 v8.Members,sA 54 6 3 1,sI 49 v8.Id,sA 48 6 3 0,sR 42 2 2 0 1 false,sA 41 2 2 0,sI 34 v8.Id,sA 33 6 3 0,sA 6 6 3 0,sI 28 y2,sI 27 (x0.Rows.length : Int),sC 26 (cF 3 x0.Rows zC.row),sA 2 2 2 0,sI 1 x1],[(6,(zC.row v8)),(2,(CV.frzRow (zF.row x0)))]⟩ ?_
 rw [h12]
 refine mA zX [(29,[]),(30,[]),(31,[]),(32,[]),(33,[]),(34,[]),(35,[])] 0 [⟨[25],3,54,55⟩,⟨[24,25],3,48,49⟩,⟨[24,25],37,41,42⟩,⟨[2,24,25],3,33,34⟩] fun cx => ?_
 exact mE zX [68,28,27,26,2,1] [2]
theorem zIx (n : Nat) (v8 : zC) (y2 : Int) (x0 : zF) (x1 : Int) (cx : Cx) : AT Tryz.prog cx (rg Tryz.f140 6) [⟨[],3,48,49⟩,⟨[],37,41,42⟩,⟨[2],3,33,34⟩] 15 [20,19,18,17,16,15,14,13,12,11,10,9,8,7,6,5,4,3,2,1,0] ⟨82,0,[sB 53 true,sI 49 v8.Id,sA 48 6 3 0,sR 42 2 2 0 1 false,sA 41 2 2 0,sI 34 v8.Id,sA 33 6 3 0,sA 6 6 3 0,sI 28 y2,sI 27 (x0.Rows.length : Int),sC 26 (cF 3 x0.Rows zC.row),sA 2 2 2 0,sI 1 x1],[(6,(zC.row v8)),(2,(CV.frzRow (zF.row x0)))]⟩ (fun s => s = ⟨82,0,[sB 68 true,sI 28 y2,sI 27 (x0.Rows.length : Int),sC 26 (cF 3 x0.Rows zC.row),sA 2 2 2 0,sI 1 x1],[(2,(CV.frzRow (zF.row x0)))]⟩) := by
 refine mA zX [(21,[]),(22,[]),(23,[]),(24,[]),(25,[]),(26,[]),(27,[]),(28,[]),(29,[]),(30,[]),(31,[]),(32,[]),(33,[]),(34,[]),(35,[])] 0 [⟨[],3,48,49⟩,⟨[],37,41,42⟩,⟨[2],3,33,34⟩] fun cx => ?_
 exact mE zX [68,28,27,26,2,1] [2]
theorem zLH (n : Nat) (x0 : zF) (x1 : Int) (r : Bool) (H : zAm n x0 x1 = some r) : zD Tryz.prog 140 [.val true (CV.frzRow (zF.row x0)),.val false [.lit (.int .i64 x1)]] [.val false [.lit (.bool r)]] [] := by
 refine cW Tryz.func140 (fun g d => sl [g 0,sl [g 1] (cn 24 (sl [g 2] .ret) .skip),sl [g 3] (.block 0 (.loop (sl [g 4,cn 29 .skip (.exit 0),.block 1 (sl [g 5,d 6] (cn 68 (sl [g 7] .ret) .skip))] (g 8)))),sl [g 9] (.block 2 (.loop (sl [g 10,cn 74 .skip (.exit 2),.block 3 (sl [g 11,g 12] (cn 80 (sl [g 13] .ret) .skip))] (g 14)))),g 15] .ret) [.tmp 4] fun cx => ?_
 unfold zAm at H
 refine gA 2 6 4 ?_
 refine tS ?_
 refine rA 1 ?_
 obtain ⟨r1,er1,H⟩ := bs H
 refine vA [.rd,.rd,.rd] (z3 n x1 1 6 r1 er1) ?_
 refine lA 2 ?_
 refine sL 4102 4 ⟨82,0,[sB 12 (!r1),sA 2 2 2 0,sI 1 x1],[(2,(CV.frzRow (zF.row x0)))]⟩ ?_
 cases h1 : (!r1)
 ·have H := zG h1 H
  refine lA 2 ?_
  refine kF x0.Pv intRow ?_
  refine lA 4 ?_
  refine sL 524294 4 ⟨82,0,[sB 19 ((x0.Pv.length : Int) != x1),sA 2 2 2 0,sI 1 x1],[(2,(CV.frzRow (zF.row x0)))]⟩ ?_
  cases h2 : ((x0.Pv.length : Int) != x1)
  ·have H := zG h2 H
   refine lA 2 ?_
   refine kF x0.Rows zC.row ?_
   refine uA 2 16777222 4 ?_
   obtain ⟨h3,H⟩ | ⟨h3,H⟩ := bC H
   ·refine nA h3 ?_
    refine tK ?_
    refine tS ?_
    refine rA 2 ?_
    refine kF x0.Rows zC.row ?_
    refine uA 1 469762054 4 ?_
    obtain ⟨o7,eo7,Ho7⟩ := bs H
    clear H
    refine Tr.mid (ι := Unit) (fun v => ⟨82,0,[sA 2 2 2 0],[(2,(CV.frzRow (zF.row x0)))]⟩) (fun v => JS n x0 = some r) ?_ ?_
    ·refine tB ?_
     refine Tr.loop (ι := Nat × (Int)) (fun v => ⟨82,0,[sI 28 v.2,sI 27 (x0.Rows.length : Int),sC 26 (cF 3 x0.Rows zC.row),sA 2 2 2 0,sI 1 x1],[(2,(CV.frzRow (zF.row x0)))]⟩) (fun v => Zg n v.1 x0 x1 v.2 = some o7) (fun v => v.1) (n,0) eo7 (St.sub_of [28,27,26,2,1] [2] kr) ?_
     rintro ⟨mo7,y2⟩ H
     have H : Zg n mo7 x0 x1 y2 = some o7 := H
     obtain _ | mo7 := mo7
     ·exact nN H
     rw [Zg] at H
     refine gA 1 1006632966 4 ?_
     refine tS ?_
     obtain ⟨h6,H⟩ | ⟨h6,H⟩ := bC H
     ·refine nA h6 ?_
      refine Tr.exit ?_
      refine aJ ?_
      obtain rfl := si H
      have H := Ho7
      dsimp only at H
      exact jA () H [2] [2]
     refine tA h6 ?_
     refine tK ?_
     refine tS ?_
     refine tB ?_
     refine rA 1 ?_
     obtain ⟨v8,ev8,H⟩ := bs H
     refine iA zC.row ev8 ?_
     refine uA 4 469762150 68 ?_
     obtain ⟨r9,er9,H⟩ := bs H
     refine sT ⟨82,0,[sI 5 y2,sA 6 6 3 0,sI 28 y2,sI 27 (x0.Rows.length : Int),sC 26 (cF 3 x0.Rows zC.row),sA 2 2 2 0,sI 1 x1],[(6,(zC.row v8)),(2,(CV.frzRow (zF.row x0)))]⟩ ?_
     cases h7 : (!r9)
     ·have H := zG h7 H
      refine sT ⟨82,0,[sI 5 y2,sA 6 6 3 0,sI 28 y2,sI 27 (x0.Rows.length : Int),sC 26 (cF 3 x0.Rows zC.row),sA 2 2 2 0,sI 1 x1],[(6,(zC.row v8)),(2,(CV.frzRow (zF.row x0)))]⟩ ?_
      cases h8 : (decide (y2 > 0))
      ·have H := zG h8 H
       obtain ⟨r10,er10,H⟩ := bs H
       obtain ⟨r11,er11,H⟩ := bs H
       refine sT ⟨82,0,[sI 5 y2,sA 6 6 3 0,sI 28 y2,sI 27 (x0.Rows.length : Int),sC 26 (cF 3 x0.Rows zC.row),sA 2 2 2 0,sI 1 x1],[(6,(zC.row v8)),(2,(CV.frzRow (zF.row x0)))]⟩ ?_
       cases h9 : (!r11)
       ·have H := zG h9 H
        refine Tr.draws mixed 36 kr ⟨82,0,[sB 68 ((IntKind.wrap .i64 (BitVec.ofInt (IntKind.bits .i64) v8.Bare &&& ~~~BitVec.ofInt (IntKind.bits .i64) v8.Members).toNat) != 0),sI 28 y2,sI 27 (x0.Rows.length : Int),sC 26 (cF 3 x0.Rows zC.row),sA 2 2 2 0,sI 1 x1],[(2,(CV.frzRow (zF.row x0)))]⟩ (fun cx => ?_) ?_
        ·refine mA zX [(0,[]),(1,[2,24,25])] 34 [⟨[2,24,25],3,33,34⟩] fun cx => ?_
         refine mC zX 2 ?_
         refine vA [.rd,.rd,.rd] (z3 n v8.Id 1 99 r9 er9) ?_
         refine fA ?_
         refine mA zX [(3,[]),(4,[])] 31 [⟨[2,24,25],3,33,34⟩] fun cx => ?_
         refine sA_ 163678519398 68 ⟨82,0,[sB 37 (!r9),sI 34 v8.Id,sA 33 6 3 0,sI 5 y2,sA 6 6 3 0,sI 28 y2,sI 27 (x0.Rows.length : Int),sC 26 (cF 3 x0.Rows zC.row),sA 2 2 2 0,sI 1 x1],[(6,(zC.row v8)),(2,(CV.frzRow (zF.row x0)))]⟩ ?_
         rw [h7]
         refine mA zX [(5,[]),(6,[]),(7,[])] 28 [⟨[2,24,25],3,33,34⟩] fun cx => ?_
         refine sA_ 1263190147174 68 ⟨82,0,[sB 40 (decide (y2 > 0)),sB 37 false,sI 34 v8.Id,sA 33 6 3 0,sI 5 y2,sA 6 6 3 0,sI 28 y2,sI 27 (x0.Rows.length : Int),sC 26 (cF 3 x0.Rows zC.row),sA 2 2 2 0,sI 1 x1],[(6,(zC.row v8)),(2,(CV.frzRow (zF.row x0)))]⟩ ?_
         rw [h8]
         refine mA zX [(8,[]),(9,[]),(10,[]),(11,[]),(12,[]),(13,[]),(14,[]),(15,[]),(16,[]),(17,[]),(18,[]),(19,[]),(20,[]),(21,[]),(22,[25]),(23,[])] 12 [⟨[25],3,54,55⟩,⟨[2,24,25],3,33,34⟩] fun cx => ?_
         refine mC zX 24 ?_
         refine vA [.rd] (zBn n x1 r10 er10) ?_
         refine fA ?_
         refine mC zX 25 ?_
         refine vA [.rd,.rd,.rd] (z3 n v8.Members 0 r10 r11 er11) ?_
         refine fA ?_
         refine mA zX [(26,[]),(27,[]),(28,[])] 7 [⟨[25],3,54,55⟩,⟨[2,24,25],3,33,34⟩] fun cx => ?_
         refine sA_ 0x20c000061c000046 68 ⟨82,0,[sB 61 (!r11),sI 55 v8.Members,sA 54 6 3 1,sI 34 v8.Id,sA 33 6 3 0,sA 6 6 3 0,sI 28 y2,sI 27 (x0.Rows.length : Int),sC 26 (cF 3 x0.Rows zC.row),sA 2 2 2 0,sI 1 x1],[(6,(zC.row v8)),(2,(CV.frzRow (zF.row x0)))]⟩ ?_
         rw [h9]
         refine mA zX [(29,[]),(30,[]),(31,[]),(32,[]),(33,[]),(34,[]),(35,[])] 0 [⟨[],3,64,65⟩,⟨[],3,62,63⟩,⟨[25],3,54,55⟩,⟨[2,24,25],3,33,34⟩] fun cx => ?_
         exact mE zX [68,28,27,26,2,1] [2]
        refine sT ⟨82,0,[sB 68 ((IntKind.wrap .i64 (BitVec.ofInt (IntKind.bits .i64) v8.Bare &&& ~~~BitVec.ofInt (IntKind.bits .i64) v8.Members).toNat) != 0),sI 28 y2,sI 27 (x0.Rows.length : Int),sC 26 (cF 3 x0.Rows zC.row),sA 2 2 2 0,sI 1 x1],[(2,(CV.frzRow (zF.row x0)))]⟩ ?_
        cases h10 : ((IntKind.wrap .i64 (BitVec.ofInt (IntKind.bits .i64) v8.Bare &&& ~~~BitVec.ofInt (IntKind.bits .i64) v8.Members).toNat) != 0)
        ·have H := zG h10 H
         refine nB_ ?_
         refine tK ?_
         refine eA 2 469762054 4 ?_
         exact jB mo7 (IntKind.wrap .i64 (y2 + 1)) H [28,27,26,2,1] [2]
        have H := zH h10 H
        refine tB_ ?_
        refine gA 1 16 0 ?_
        refine te ?_
        obtain rfl := si H
        have H := Ho7
        dsimp only at H
        exact fF H
       have H := zH h9 H
       refine Tr.draws mixed 36 kr ⟨82,0,[sB 68 true,sI 28 y2,sI 27 (x0.Rows.length : Int),sC 26 (cF 3 x0.Rows zC.row),sA 2 2 2 0,sI 1 x1],[(2,(CV.frzRow (zF.row x0)))]⟩ (fun cx => ?_) ?_
       ·refine mA zX [(0,[]),(1,[2,24,25])] 34 [⟨[2,24,25],3,33,34⟩] fun cx => ?_
        refine mC zX 2 ?_
        refine vA [.rd,.rd,.rd] (z3 n v8.Id 1 99 r9 er9) ?_
        refine fA ?_
        refine mA zX [(3,[]),(4,[])] 31 [⟨[2,24,25],3,33,34⟩] fun cx => ?_
        refine sA_ 163678519398 68 ⟨82,0,[sB 37 (!r9),sI 34 v8.Id,sA 33 6 3 0,sI 5 y2,sA 6 6 3 0,sI 28 y2,sI 27 (x0.Rows.length : Int),sC 26 (cF 3 x0.Rows zC.row),sA 2 2 2 0,sI 1 x1],[(6,(zC.row v8)),(2,(CV.frzRow (zF.row x0)))]⟩ ?_
        rw [h7]
        refine mA zX [(5,[]),(6,[]),(7,[])] 28 [⟨[2,24,25],3,33,34⟩] fun cx => ?_
        refine sA_ 1263190147174 68 ⟨82,0,[sB 40 (decide (y2 > 0)),sB 37 false,sI 34 v8.Id,sA 33 6 3 0,sI 5 y2,sA 6 6 3 0,sI 28 y2,sI 27 (x0.Rows.length : Int),sC 26 (cF 3 x0.Rows zC.row),sA 2 2 2 0,sI 1 x1],[(6,(zC.row v8)),(2,(CV.frzRow (zF.row x0)))]⟩ ?_
        rw [h8]
        refine mA zX [(8,[]),(9,[]),(10,[]),(11,[]),(12,[]),(13,[]),(14,[]),(15,[]),(16,[]),(17,[]),(18,[]),(19,[]),(20,[]),(21,[]),(22,[25]),(23,[])] 12 [⟨[25],3,54,55⟩,⟨[2,24,25],3,33,34⟩] fun cx => ?_
        refine mC zX 24 ?_
        refine vA [.rd] (zBn n x1 r10 er10) ?_
        refine fA ?_
        refine mC zX 25 ?_
        refine vA [.rd,.rd,.rd] (z3 n v8.Members 0 r10 r11 er11) ?_
        refine fA ?_
        refine mA zX [(26,[]),(27,[]),(28,[])] 7 [⟨[25],3,54,55⟩,⟨[2,24,25],3,33,34⟩] fun cx => ?_
        refine sA_ 0x20c000061c000046 68 ⟨82,0,[sB 61 (!r11),sI 55 v8.Members,sA 54 6 3 1,sI 34 v8.Id,sA 33 6 3 0,sA 6 6 3 0,sI 28 y2,sI 27 (x0.Rows.length : Int),sC 26 (cF 3 x0.Rows zC.row),sA 2 2 2 0,sI 1 x1],[(6,(zC.row v8)),(2,(CV.frzRow (zF.row x0)))]⟩ ?_
        rw [h9]
        refine mA zX [(29,[]),(30,[]),(31,[]),(32,[]),(33,[]),(34,[]),(35,[])] 0 [⟨[25],3,54,55⟩,⟨[2,24,25],3,33,34⟩] fun cx => ?_
        exact mE zX [68,28,27,26,2,1] [2]
       refine tB_ ?_
       refine gA 1 16 0 ?_
       refine te ?_
       obtain rfl := si H
       have H := Ho7
       dsimp only at H
       exact fF H
      have H := zH h8 H
      obtain ⟨v12,ev12,H⟩ := bs H
      refine sT ⟨82,0,[sI 5 y2,sA 6 6 3 0,sI 28 y2,sI 27 (x0.Rows.length : Int),sC 26 (cF 3 x0.Rows zC.row),sA 2 2 2 0,sI 1 x1],[(6,(zC.row v8)),(2,(CV.frzRow (zF.row x0)))]⟩ ?_
      cases h11 : (decide (v12.Id ≥ v8.Id))
      ·have H := zG h11 H
       obtain ⟨r13,er13,H⟩ := bs H
       obtain ⟨r14,er14,H⟩ := bs H
       refine sT ⟨82,0,[sI 5 y2,sA 6 6 3 0,sI 28 y2,sI 27 (x0.Rows.length : Int),sC 26 (cF 3 x0.Rows zC.row),sA 2 2 2 0,sI 1 x1],[(6,(zC.row v8)),(2,(CV.frzRow (zF.row x0)))]⟩ ?_
       cases h12 : (!r14)
       ·have H := zG h12 H
        refine Tr.draws mixed 36 kr ⟨82,0,[sB 68 ((IntKind.wrap .i64 (BitVec.ofInt (IntKind.bits .i64) v8.Bare &&& ~~~BitVec.ofInt (IntKind.bits .i64) v8.Members).toNat) != 0),sI 28 y2,sI 27 (x0.Rows.length : Int),sC 26 (cF 3 x0.Rows zC.row),sA 2 2 2 0,sI 1 x1],[(2,(CV.frzRow (zF.row x0)))]⟩ (fun cx => ?_) ?_
        ·refine mA zX [(0,[]),(1,[2,24,25])] 34 [⟨[2,24,25],3,33,34⟩] fun cx => ?_
         refine mC zX 2 ?_
         refine vA [.rd,.rd,.rd] (z3 n v8.Id 1 99 r9 er9) ?_
         refine fA ?_
         refine mA zX [(3,[]),(4,[])] 31 [⟨[2,24,25],3,33,34⟩] fun cx => ?_
         refine sA_ 163678519398 68 ⟨82,0,[sB 37 (!r9),sI 34 v8.Id,sA 33 6 3 0,sI 5 y2,sA 6 6 3 0,sI 28 y2,sI 27 (x0.Rows.length : Int),sC 26 (cF 3 x0.Rows zC.row),sA 2 2 2 0,sI 1 x1],[(6,(zC.row v8)),(2,(CV.frzRow (zF.row x0)))]⟩ ?_
         rw [h7]
         refine mA zX [(5,[]),(6,[]),(7,[])] 28 [⟨[2,24,25],3,33,34⟩] fun cx => ?_
         refine sA_ 1263190147174 68 ⟨82,0,[sB 40 (decide (y2 > 0)),sB 37 false,sI 34 v8.Id,sA 33 6 3 0,sI 5 y2,sA 6 6 3 0,sI 28 y2,sI 27 (x0.Rows.length : Int),sC 26 (cF 3 x0.Rows zC.row),sA 2 2 2 0,sI 1 x1],[(6,(zC.row v8)),(2,(CV.frzRow (zF.row x0)))]⟩ ?_
         rw [h8]
         refine mA zX [(8,[]),(9,[24,25]),(10,[]),(11,[])] 24 [⟨[24,25],37,41,42⟩,⟨[2,24,25],3,33,34⟩] fun cx => ?_
         refine iN zX 12 zC.row ev12 fun cx => ?_
         refine mA zX [(13,[]),(14,[]),(15,[]),(16,[24,25]),(17,[]),(18,[]),(19,[]),(20,[])] 15 [⟨[24,25],3,48,49⟩,⟨[24,25],37,41,42⟩,⟨[2,24,25],3,33,34⟩] fun cx => ?_
         refine sA_ 9858247494205510 68 ⟨82,0,[sB 53 (decide (v12.Id ≥ v8.Id)),sI 49 v8.Id,sA 48 6 3 0,sR 42 2 2 0 1 false,sA 41 2 2 0,sI 34 v8.Id,sA 33 6 3 0,sA 6 6 3 0,sI 28 y2,sI 27 (x0.Rows.length : Int),sC 26 (cF 3 x0.Rows zC.row),sA 2 2 2 0,sI 1 x1],[(6,(zC.row v8)),(2,(CV.frzRow (zF.row x0)))]⟩ ?_
         rw [h11]
         exact zIv n x1 r13 v8 r14 y2 x0 er13 er14 h12 cx
        refine sT ⟨82,0,[sB 68 ((IntKind.wrap .i64 (BitVec.ofInt (IntKind.bits .i64) v8.Bare &&& ~~~BitVec.ofInt (IntKind.bits .i64) v8.Members).toNat) != 0),sI 28 y2,sI 27 (x0.Rows.length : Int),sC 26 (cF 3 x0.Rows zC.row),sA 2 2 2 0,sI 1 x1],[(2,(CV.frzRow (zF.row x0)))]⟩ ?_
        cases h13 : ((IntKind.wrap .i64 (BitVec.ofInt (IntKind.bits .i64) v8.Bare &&& ~~~BitVec.ofInt (IntKind.bits .i64) v8.Members).toNat) != 0)
        ·have H := zG h13 H
         refine nB_ ?_
         refine tK ?_
         refine eA 2 469762054 4 ?_
         exact jB mo7 (IntKind.wrap .i64 (y2 + 1)) H [28,27,26,2,1] [2]
        have H := zH h13 H
        refine tB_ ?_
        refine gA 1 16 0 ?_
        refine te ?_
        obtain rfl := si H
        have H := Ho7
        dsimp only at H
        exact fF H
       have H := zH h12 H
       refine Tr.draws mixed 36 kr ⟨82,0,[sB 68 true,sI 28 y2,sI 27 (x0.Rows.length : Int),sC 26 (cF 3 x0.Rows zC.row),sA 2 2 2 0,sI 1 x1],[(2,(CV.frzRow (zF.row x0)))]⟩ (fun cx => ?_) ?_
       ·refine mA zX [(0,[]),(1,[2,24,25])] 34 [⟨[2,24,25],3,33,34⟩] fun cx => ?_
        refine mC zX 2 ?_
        refine vA [.rd,.rd,.rd] (z3 n v8.Id 1 99 r9 er9) ?_
        refine fA ?_
        refine mA zX [(3,[]),(4,[])] 31 [⟨[2,24,25],3,33,34⟩] fun cx => ?_
        refine sA_ 163678519398 68 ⟨82,0,[sB 37 (!r9),sI 34 v8.Id,sA 33 6 3 0,sI 5 y2,sA 6 6 3 0,sI 28 y2,sI 27 (x0.Rows.length : Int),sC 26 (cF 3 x0.Rows zC.row),sA 2 2 2 0,sI 1 x1],[(6,(zC.row v8)),(2,(CV.frzRow (zF.row x0)))]⟩ ?_
        rw [h7]
        refine mA zX [(5,[]),(6,[]),(7,[])] 28 [⟨[2,24,25],3,33,34⟩] fun cx => ?_
        refine sA_ 1263190147174 68 ⟨82,0,[sB 40 (decide (y2 > 0)),sB 37 false,sI 34 v8.Id,sA 33 6 3 0,sI 5 y2,sA 6 6 3 0,sI 28 y2,sI 27 (x0.Rows.length : Int),sC 26 (cF 3 x0.Rows zC.row),sA 2 2 2 0,sI 1 x1],[(6,(zC.row v8)),(2,(CV.frzRow (zF.row x0)))]⟩ ?_
        rw [h8]
        refine mA zX [(8,[]),(9,[24,25]),(10,[]),(11,[])] 24 [⟨[24,25],37,41,42⟩,⟨[2,24,25],3,33,34⟩] fun cx => ?_
        refine iN zX 12 zC.row ev12 fun cx => ?_
        refine mA zX [(13,[]),(14,[]),(15,[]),(16,[24,25]),(17,[]),(18,[]),(19,[]),(20,[])] 15 [⟨[24,25],3,48,49⟩,⟨[24,25],37,41,42⟩,⟨[2,24,25],3,33,34⟩] fun cx => ?_
        refine sA_ 9858247494205510 68 ⟨82,0,[sB 53 (decide (v12.Id ≥ v8.Id)),sI 49 v8.Id,sA 48 6 3 0,sR 42 2 2 0 1 false,sA 41 2 2 0,sI 34 v8.Id,sA 33 6 3 0,sA 6 6 3 0,sI 28 y2,sI 27 (x0.Rows.length : Int),sC 26 (cF 3 x0.Rows zC.row),sA 2 2 2 0,sI 1 x1],[(6,(zC.row v8)),(2,(CV.frzRow (zF.row x0)))]⟩ ?_
        rw [h11]
        exact zIw n x1 r13 v8 r14 y2 x0 er13 er14 h12 cx
       refine tB_ ?_
       refine gA 1 16 0 ?_
       refine te ?_
       obtain rfl := si H
       have H := Ho7
       dsimp only at H
       exact fF H
      have H := zH h11 H
      refine Tr.draws mixed 36 kr ⟨82,0,[sB 68 true,sI 28 y2,sI 27 (x0.Rows.length : Int),sC 26 (cF 3 x0.Rows zC.row),sA 2 2 2 0,sI 1 x1],[(2,(CV.frzRow (zF.row x0)))]⟩ (fun cx => ?_) ?_
      ·refine mA zX [(0,[]),(1,[2])] 34 [⟨[2],3,33,34⟩] fun cx => ?_
       refine mC zX 2 ?_
       refine vA [.rd,.rd,.rd] (z3 n v8.Id 1 99 r9 er9) ?_
       refine fA ?_
       refine mA zX [(3,[]),(4,[])] 31 [⟨[2],3,33,34⟩] fun cx => ?_
       refine sA_ 163678519398 68 ⟨82,0,[sB 37 (!r9),sI 34 v8.Id,sA 33 6 3 0,sI 5 y2,sA 6 6 3 0,sI 28 y2,sI 27 (x0.Rows.length : Int),sC 26 (cF 3 x0.Rows zC.row),sA 2 2 2 0,sI 1 x1],[(6,(zC.row v8)),(2,(CV.frzRow (zF.row x0)))]⟩ ?_
       rw [h7]
       refine mA zX [(5,[]),(6,[]),(7,[])] 28 [⟨[2],3,33,34⟩] fun cx => ?_
       refine sA_ 1263190147174 68 ⟨82,0,[sB 40 (decide (y2 > 0)),sB 37 false,sI 34 v8.Id,sA 33 6 3 0,sI 5 y2,sA 6 6 3 0,sI 28 y2,sI 27 (x0.Rows.length : Int),sC 26 (cF 3 x0.Rows zC.row),sA 2 2 2 0,sI 1 x1],[(6,(zC.row v8)),(2,(CV.frzRow (zF.row x0)))]⟩ ?_
       rw [h8]
       refine mA zX [(8,[]),(9,[]),(10,[]),(11,[])] 24 [⟨[],37,41,42⟩,⟨[2],3,33,34⟩] fun cx => ?_
       refine iN zX 12 zC.row ev12 fun cx => ?_
       refine mA zX [(13,[]),(14,[]),(15,[]),(16,[]),(17,[]),(18,[]),(19,[]),(20,[])] 15 [⟨[],3,48,49⟩,⟨[],37,41,42⟩,⟨[2],3,33,34⟩] fun cx => ?_
       refine sA_ 9858247494205510 68 ⟨82,0,[sB 53 (decide (v12.Id ≥ v8.Id)),sI 49 v8.Id,sA 48 6 3 0,sR 42 2 2 0 1 false,sA 41 2 2 0,sI 34 v8.Id,sA 33 6 3 0,sA 6 6 3 0,sI 28 y2,sI 27 (x0.Rows.length : Int),sC 26 (cF 3 x0.Rows zC.row),sA 2 2 2 0,sI 1 x1],[(6,(zC.row v8)),(2,(CV.frzRow (zF.row x0)))]⟩ ?_
       rw [h11]
       exact zIx n v8 y2 x0 x1 cx
      refine tB_ ?_
      refine gA 1 16 0 ?_
      refine te ?_
      obtain rfl := si H
      have H := Ho7
      dsimp only at H
      exact fF H
     have H := zH h7 H
     refine Tr.draws mixed 36 kr ⟨82,0,[sB 68 true,sI 28 y2,sI 27 (x0.Rows.length : Int),sC 26 (cF 3 x0.Rows zC.row),sA 2 2 2 0,sI 1 x1],[(2,(CV.frzRow (zF.row x0)))]⟩ (fun cx => ?_) ?_
     ·refine mA zX [(0,[]),(1,[2])] 34 [⟨[2],3,33,34⟩] fun cx => ?_
      refine mC zX 2 ?_
      refine vA [.rd,.rd,.rd] (z3 n v8.Id 1 99 r9 er9) ?_
      refine fA ?_
      refine mA zX [(3,[]),(4,[])] 31 [⟨[2],3,33,34⟩] fun cx => ?_
      refine sA_ 163678519398 68 ⟨82,0,[sB 37 (!r9),sI 34 v8.Id,sA 33 6 3 0,sI 5 y2,sA 6 6 3 0,sI 28 y2,sI 27 (x0.Rows.length : Int),sC 26 (cF 3 x0.Rows zC.row),sA 2 2 2 0,sI 1 x1],[(6,(zC.row v8)),(2,(CV.frzRow (zF.row x0)))]⟩ ?_
      rw [h7]
      refine mA zX [(5,[]),(6,[]),(7,[]),(8,[]),(9,[]),(10,[]),(11,[]),(12,[]),(13,[]),(14,[]),(15,[]),(16,[]),(17,[]),(18,[]),(19,[]),(20,[]),(21,[]),(22,[]),(23,[]),(24,[]),(25,[]),(26,[]),(27,[]),(28,[]),(29,[]),(30,[]),(31,[]),(32,[]),(33,[]),(34,[]),(35,[])] 0 [⟨[2],3,33,34⟩] fun cx => ?_
      exact mE zX [68,28,27,26,2,1] [2]
     refine tB_ ?_
     refine gA 1 16 0 ?_
     refine te ?_
     obtain rfl := si H
     have H := Ho7
     dsimp only at H
     exact fF H
    rintro _ H
    have H : (JS n x0) = some r := H
    unfold JS at H
    refine tS ?_
    refine rA 2 ?_
    refine kF x0.Pv intRow ?_
    refine uA 1 0x3800000000000000004 4 ?_
    obtain ⟨o4,eo4,Ho4⟩ := bs H
    clear H
    refine Tr.mid (ι := Unit) (fun v => ⟨82,0,[],[]⟩) (fun v => zA9 n = some r) ?_ ?_
    ·refine tB ?_
     refine Tr.loop (ι := Nat × (Int)) (fun v => ⟨82,0,[sI 73 v.2,sI 72 (x0.Pv.length : Int),sC 71 (cF 1 x0.Pv intRow),sA 2 2 2 0],[(2,(CV.frzRow (zF.row x0)))]⟩) (fun v => QG n v.1 x0 v.2 = some o4) (fun v => v.1) (n,0) eo4 (St.sub_of [73,72,71,2] [2] kr) ?_
     rintro ⟨mo4,y3⟩ H
     have H : QG n mo4 x0 y3 = some o4 := H
     obtain _ | mo4 := mo4
     ·exact nN H
     rw [QG] at H
     refine gA 1 0x7800000000000000004 4 ?_
     refine tS ?_
     obtain ⟨h4,H⟩ | ⟨h4,H⟩ := bC H
     ·refine nA h4 ?_
      refine Tr.exit ?_
      refine aJ ?_
      obtain rfl := si H
      have H := Ho4
      dsimp only at H
      exact jA () H [] []
     refine tA h4 ?_
     refine tK ?_
     refine tS ?_
     refine tB ?_
     refine tR ?_
     obtain ⟨v5,ev5,H⟩ := bs H
     refine iA intRow ev5 ?_
     refine uA 2 0x3800000000000000104 4 ?_
     refine rA 2 ?_
     obtain ⟨r6,er6,H⟩ := bs H
     refine vA [.rd,.rd] (zMI n x0 v5 r6 er6) ?_
     refine uA 1 0x103800000000000000004 4 ?_
     obtain ⟨h5,H⟩ | ⟨h5,H⟩ := bC H
     ·refine nA h5 ?_
      refine tK ?_
      refine eA 2 0x3800000000000000004 4 ?_
      exact jB mo4 (IntKind.wrap .i64 (y3 + 1)) H [73,72,71,2] [2]
     refine tA h5 ?_
     refine gA 1 16 0 ?_
     refine te ?_
     obtain rfl := si H
     have H := Ho4
     dsimp only at H
     exact fF H
    rintro _ H
    have H : (zA9 n) = some r := H
    unfold zA9 at H
    refine gA 1 16 0 ?_
    exact te (fT H)
   refine tA h3 ?_
   refine gA 1 16 0 ?_
   exact te (fF H)
  have H := zH h2 H
  refine uA 5 16777222 4 ?_
  refine tB_ ?_
  refine gA 1 16 0 ?_
  exact te (fF H)
 have H := zH h1 H
 refine uA 12 16777222 4 ?_
 refine tB_ ?_
 refine gA 1 16 0 ?_
 exact te (fF H)
def QU (n : Nat) (x0 : Int) : Option (Bool) :=
  ((zw n x0 0 1000000).bind fun r1 => (some r1))
theorem zAo (n : Nat) (x0 : Int) (r : Bool) (H : QU n x0 = some r) : zD Tryz.prog 141 [.val false [.lit (.int .i64 x0)]] [.val false [.lit (.bool r)]] [] := by
 refine cW Tryz.func141 (fun g d => sl [g 0,g 1] .ret) [.tmp 2] fun cx => ?_
 unfold QU at H
 refine gA 1 1 0 ?_
 refine rA 1 ?_
 obtain ⟨r1,er1,H⟩ := bs H
 refine vA [.rd,.rd,.rd] (z3 n x0 0 1000000 r1 er1) ?_
 refine uA 1 4 0 ?_
 exact te (fJ [(false,[cB r1])] H)
def YL (n : Nat) (x0 : zA) : Option (Bool) :=
  ((zw n x0.Id 1 99).bind fun r2 => (bif (!r2) then (some false) else (bif (decide ((x0.Name.size : Int) > 10)) then (some false) else ((zw n (x0.Ps.length : Int) 1 6).bind fun r3 => (bif (!r3) then (some false) else ((zBT n x0.F).bind fun r4 => (bif (!r4) then (some false) else ((zAm n x0.V (x0.Ps.length : Int)).bind fun r5 => (bif (!r5) then (some false) else ((QU n x0.Tk).bind fun r6 => (bif r6 then ((QU n x0.Pa).bind fun r7 => (bif r7 then ((QU n x0.Wo).bind fun r8 => (bif r8 then ((QU n x0.Dr).bind fun r9 => (bif r9 then ((QU n x0.Ve).bind fun r10 => (some r10)) else (some false))) else (some false))) else (some false))) else (some false))))))))))))
def Z7 (n : Nat) : Nat → zA → Int → Option ((Unit) ⊕ (Bool))
  | 0,_,_ => none
  | mo11 + 1,x0,y1 => (bif (decide (y1 < (x0.Ps.length : Int))) then ((idx x0.Ps y1).bind fun v12 => ((zCJ n v12).bind fun r13 => (bif (!r13) then (some (Sum.inr false)) else (Z7 n mo11 x0 (IntKind.wrap .i64 (y1 + 1)))))) else (some (Sum.inl ())))
def QF (n : Nat) (x0 : zA) : Option (Bool) :=
  ((Z7 n n x0 0).bind fun o => match o with | .inl _ => (YL n x0) | .inr r => some r)
theorem zDT (n : Nat) (x0 : zA) (r : Bool) (H : QF n x0 = some r) : zD Tryz.prog 41 [.val true (CV.frzRow (zA.row x0))] [.val false [.lit (.bool r)]] [] := by
 refine cW Tryz.func41 (fun g d => sl [g 0,sl [g 1] (.block 0 (.loop (sl [g 2,cn 9 .skip (.exit 0),.block 1 (sl [g 3,g 4] (cn 14 (sl [g 5] .ret) .skip))] (g 6)))),sl [g 7] (cn 47 (sl [g 8] .ret) .skip),g 9] .ret) [.tmp 2] fun cx => ?_
 unfold QF at H
 refine gA 2 2 2 ?_
 refine tS ?_
 refine rA 2 ?_
 refine kF x0.Ps Pt.row ?_
 refine uA 1 450 2 ?_
 obtain ⟨o11,eo11,Ho11⟩ := bs H
 clear H
 refine Tr.mid (ι := Unit) (fun v => ⟨71,0,[sA 1 1 11 0],[(1,(CV.frzRow (zA.row x0)))]⟩) (fun v => YL n x0 = some r) ?_ ?_
 ·refine tB ?_
  refine Tr.loop (ι := Nat × (Int)) (fun v => ⟨71,0,[sI 8 v.2,sI 7 (x0.Ps.length : Int),sC 6 (cF 8 x0.Ps Pt.row),sA 1 1 11 0],[(1,(CV.frzRow (zA.row x0)))]⟩) (fun v => Z7 n v.1 x0 v.2 = some o11) (fun v => v.1) (n,0) eo11 (St.sub_of [8,7,6,1] [1] kr) ?_
  rintro ⟨mo11,y1⟩ H
  have H : Z7 n mo11 x0 y1 = some o11 := H
  obtain _ | mo11 := mo11
  ·exact nN H
  rw [Z7] at H
  refine gA 1 962 2 ?_
  refine tS ?_
  obtain ⟨h10,H⟩ | ⟨h10,H⟩ := bC H
  ·refine nA h10 ?_
   refine Tr.exit ?_
   refine aJ ?_
   obtain rfl := si H
   have H := Ho11
   dsimp only at H
   exact jA () H [1] [1]
  refine tA h10 ?_
  refine tK ?_
  refine tS ?_
  refine tB ?_
  refine tR ?_
  obtain ⟨v12,ev12,H⟩ := bs H
  refine iA Pt.row ev12 ?_
  refine uA 3 466 18 ?_
  refine rA 1 ?_
  obtain ⟨r13,er13,H⟩ := bs H
  refine vA [.rd] (zMv n v12 r13 er13) ?_
  refine uA 1 16834 2 ?_
  obtain ⟨h11,H⟩ | ⟨h11,H⟩ := bC H
  ·refine nA h11 ?_
   refine tK ?_
   refine eA 2 450 2 ?_
   exact jB mo11 (IntKind.wrap .i64 (y1 + 1)) H [8,7,6,1] [1]
  refine tA h11 ?_
  refine gA 1 4 0 ?_
  refine te ?_
  obtain rfl := si H
  have H := Ho11
  dsimp only at H
  exact fF H
 rintro _ H
 have H : (YL n x0) = some r := H
 unfold YL at H
 refine tS ?_
 refine rA 2 ?_
 obtain ⟨r2,er2,H⟩ := bs H
 refine vA [.rd,.rd,.rd] (z3 n x0.Id 1 99 r2 er2) ?_
 refine lA 2 ?_
 refine sL 1048578 2 ⟨71,0,[sB 20 (!r2),sA 1 1 11 0],[(1,(CV.frzRow (zA.row x0)))]⟩ ?_
 cases h1 : (!r2)
 ·have H := zG h1 H
  refine lA 6 ?_
  refine sL 67108866 2 ⟨71,0,[sB 26 (decide ((x0.Name.size : Int) > 10)),sA 1 1 11 0],[(1,(CV.frzRow (zA.row x0)))]⟩ ?_
  cases h2 : (decide ((x0.Name.size : Int) > 10))
  ·have H := zG h2 H
   refine lA 2 ?_
   refine kF x0.Ps Pt.row ?_
   obtain ⟨r3,er3,H⟩ := bs H
   refine vA [.rd,.rd,.rd] (z3 n (x0.Ps.length : Int) 1 6 r3 er3) ?_
   refine lA 3 ?_
   refine sL 8589934594 2 ⟨71,0,[sB 33 (!r3),sA 1 1 11 0],[(1,(CV.frzRow (zA.row x0)))]⟩ ?_
   cases h3 : (!r3)
   ·have H := zG h3 H
    refine lA 2 ?_
    obtain ⟨r4,er4,H⟩ := bs H
    refine vA [.rd] (zMG n x0.F r4 er4) ?_
    refine lA 3 ?_
    refine sL 549755813890 2 ⟨71,0,[sB 39 (!r4),sA 1 1 11 0],[(1,(CV.frzRow (zA.row x0)))]⟩ ?_
    cases h4 : (!r4)
    ·have H := zG h4 H
     refine lA 4 ?_
     refine kF x0.Ps Pt.row ?_
     obtain ⟨r5,er5,H⟩ := bs H
     refine vA [.rd,.rd] (zLH n x0.V (x0.Ps.length : Int) r5 er5) ?_
     refine uA 2 0x800000000002 2 ?_
     obtain ⟨h5,H⟩ | ⟨h5,H⟩ := bC H
     ·refine nA h5 ?_
      refine tK ?_
      refine rA 2 ?_
      obtain ⟨r6,er6,H⟩ := bs H
      refine vA [.rd] (zAo n x0.Tk r6 er6) ?_
      refine lA 1 ?_
      refine sL 0x8000000000002 2 ⟨71,0,[sB 51 r6,sA 1 1 11 0],[(1,(CV.frzRow (zA.row x0)))]⟩ ?_
      cases h6 : r6
      ·have H := zG h6 H
       refine uA 20 4 0 ?_
       exact te (fF H)
      have H := zH h6 H
      refine lA 2 ?_
      obtain ⟨r7,er7,H⟩ := bs H
      refine vA [.rd] (zAo n x0.Pa r7 er7) ?_
      refine lA 2 ?_
      refine sL 72057594037927938 2 ⟨71,0,[sB 56 r7,sA 1 1 11 0],[(1,(CV.frzRow (zA.row x0)))]⟩ ?_
      cases h7 : r7
      ·have H := zG h7 H
       refine uA 15 4 0 ?_
       exact te (fF H)
      have H := zH h7 H
      refine lA 2 ?_
      obtain ⟨r8,er8,H⟩ := bs H
      refine vA [.rd] (zAo n x0.Wo r8 er8) ?_
      refine lA 2 ?_
      refine sL 0x2000000000000002 2 ⟨71,0,[sB 61 r8,sA 1 1 11 0],[(1,(CV.frzRow (zA.row x0)))]⟩ ?_
      cases h8 : r8
      ·have H := zG h8 H
       refine uA 10 4 0 ?_
       exact te (fF H)
      have H := zH h8 H
      refine lA 2 ?_
      obtain ⟨r9,er9,H⟩ := bs H
      refine vA [.rd] (zAo n x0.Dr r9 er9) ?_
      refine lA 2 ?_
      refine sL 0x40000000000000002 2 ⟨71,0,[sB 66 r9,sA 1 1 11 0],[(1,(CV.frzRow (zA.row x0)))]⟩ ?_
      cases h9 : r9
      ·have H := zG h9 H
       refine uA 5 4 0 ?_
       exact te (fF H)
      have H := zH h9 H
      refine lA 2 ?_
      obtain ⟨r10,er10,H⟩ := bs H
      refine vA [.rd] (zAo n x0.Ve r10 er10) ?_
      refine uA 2 4 0 ?_
      exact te (fJ [(false,[cB r10])] H)
     refine tA h5 ?_
     refine gA 1 4 0 ?_
     exact te (fF H)
    have H := zH h4 H
    refine uA 8 0x800000000002 2 ?_
    refine tB_ ?_
    refine gA 1 4 0 ?_
    exact te (fF H)
   have H := zH h3 H
   refine uA 14 0x800000000002 2 ?_
   refine tB_ ?_
   refine gA 1 4 0 ?_
   exact te (fF H)
  have H := zH h2 H
  refine uA 21 0x800000000002 2 ?_
  refine tB_ ?_
  refine gA 1 4 0 ?_
  exact te (fF H)
 have H := zH h1 H
 refine uA 27 0x800000000002 2 ?_
 refine tB_ ?_
 refine gA 1 4 0 ?_
 exact te (fF H)
def zCL (n : Nat) : Option (Bool) :=
  (some false)
def ZV (n : Nat) : Nat → (List Link) → Int → Int → Int → Option ((Unit) ⊕ (Bool))
  | 0,_,_,_,_ => none
  | mo2 + 1,x0,x1,x2,y1 => (bif (decide (y1 < (x0.length : Int))) then ((idx x0 y1).bind fun v3 => (bif (v3.A == x1) then (bif (v3.P == x2) then (some (Sum.inr true)) else (bif (v3.B == x1) then (bif (v3.Q == x2) then (some (Sum.inr true)) else (ZV n mo2 x0 x1 x2 (IntKind.wrap .i64 (y1 + 1)))) else (ZV n mo2 x0 x1 x2 (IntKind.wrap .i64 (y1 + 1))))) else (bif (v3.B == x1) then (bif (v3.Q == x2) then (some (Sum.inr true)) else (ZV n mo2 x0 x1 x2 (IntKind.wrap .i64 (y1 + 1)))) else (ZV n mo2 x0 x1 x2 (IntKind.wrap .i64 (y1 + 1)))))) else (some (Sum.inl ())))
def Js (n : Nat) (x0 : (List Link)) (x1 : Int) (x2 : Int) : Option (Bool) :=
  ((ZV n n x0 x1 x2 0).bind fun o => match o with | .inl _ => (zCL n) | .inr r => some r)
theorem zEQ (n : Nat) (x0 : (List Link)) (x1 : Int) (x2 : Int) (r : Bool) (H : Js n x0 x1 x2 = some r) : zD Tryz.prog 148 [.val false [.sl false 4 (CV.frzEs (x0.map Link.row))],.val false [.lit (.int .i64 x1)],.val false [.lit (.int .i64 x2)]] [.val false [.lit (.bool r)]] [] := by
 refine cW Tryz.func148 (fun g d => sl [g 0,sl [g 1] (.block 0 (.loop (sl [g 2,cn 12 .skip (.exit 0),.block 1 (sl [g 3,g 4] (cn 36 (sl [g 5] .ret) .skip))] (g 6)))),g 7] .ret) [.tmp 6] fun cx => ?_
 unfold Js at H
 refine gA 1 7 0 ?_
 refine tS ?_
 refine rA 1 ?_
 refine kF x0 Link.row ?_
 refine uA 1 3590 0 ?_
 obtain ⟨o2,eo2,Ho2⟩ := bs H
 clear H
 refine Tr.mid (ι := Unit) (fun v => ⟨38,0,[],[]⟩) (fun v => zCL n = some r) ?_ ?_
 ·refine tB ?_
  refine Tr.loop (ι := Nat × (Int)) (fun v => ⟨38,0,[sI 11 v.2,sI 10 (x0.length : Int),sC 9 (cF 4 x0 Link.row),sI 1 x1,sI 2 x2],[]⟩) (fun v => ZV n v.1 x0 x1 x2 v.2 = some o2) (fun v => v.1) (n,0) eo2 (St.sub_of [11,10,9,1,2] [] kr) ?_
  rintro ⟨mo2,y1⟩ H
  have H : ZV n mo2 x0 x1 x2 y1 = some o2 := H
  obtain _ | mo2 := mo2
  ·exact nN H
  rw [ZV] at H
  refine gA 1 7686 0 ?_
  refine tS ?_
  obtain ⟨h1,H⟩ | ⟨h1,H⟩ := bC H
  ·refine nA h1 ?_
   refine Tr.exit ?_
   refine aJ ?_
   obtain rfl := si H
   have H := Ho2
   dsimp only at H
   exact jA () H [] []
  refine tA h1 ?_
  refine tK ?_
  refine tS ?_
  refine tB ?_
  refine tR ?_
  obtain ⟨v3,ev3,H⟩ := bs H
  refine iA Link.row ev3 ?_
  refine uA 3 3846 256 ?_
  refine rA 5 ?_
  refine sL 528134 256 ⟨38,0,[sB 19 (v3.A == x1),sA 8 8 4 0,sI 11 y1,sI 10 (x0.length : Int),sC 9 (cF 4 x0 Link.row),sI 1 x1,sI 2 x2],[(8,(Link.row v3))]⟩ ?_
  cases h2 : (v3.A == x1)
  ·have H := zG h2 H
   refine lA 11 ?_
   refine sL 1107300102 256 ⟨38,0,[sB 30 (v3.B == x1),sB 25 false,sA 8 8 4 0,sI 11 y1,sI 10 (x0.length : Int),sC 9 (cF 4 x0 Link.row),sI 1 x1,sI 2 x2],[(8,(Link.row v3))]⟩ ?_
   cases h3 : (v3.B == x1)
   ·have H := zG h3 H
    refine uA 6 68719480326 0 ?_
    refine nB_ ?_
    refine tK ?_
    refine eA 2 3590 0 ?_
    exact jB mo2 (IntKind.wrap .i64 (y1 + 1)) H [11,10,9,1,2] []
   have H := zH h3 H
   refine uA 6 68719480326 0 ?_
   obtain ⟨h4,H⟩ | ⟨h4,H⟩ := bC H
   ·refine nA h4 ?_
    refine tK ?_
    refine eA 2 3590 0 ?_
    exact jB mo2 (IntKind.wrap .i64 (y1 + 1)) H [11,10,9,1,2] []
   refine tA h4 ?_
   refine gA 1 64 0 ?_
   refine te ?_
   obtain rfl := si H
   have H := Ho2
   dsimp only at H
   exact fT H
  have H := zH h2 H
  refine lA 6 ?_
  refine sL 33558278 256 ⟨38,0,[sB 25 (v3.P == x2),sA 8 8 4 0,sI 11 y1,sI 10 (x0.length : Int),sC 9 (cF 4 x0 Link.row),sI 1 x1,sI 2 x2],[(8,(Link.row v3))]⟩ ?_
  cases h5 : (v3.P == x2)
  ·have H := zG h5 H
   refine lA 5 ?_
   refine sL 1107300102 256 ⟨38,0,[sB 30 (v3.B == x1),sB 25 false,sA 8 8 4 0,sI 11 y1,sI 10 (x0.length : Int),sC 9 (cF 4 x0 Link.row),sI 1 x1,sI 2 x2],[(8,(Link.row v3))]⟩ ?_
   cases h6 : (v3.B == x1)
   ·have H := zG h6 H
    refine uA 6 68719480326 0 ?_
    refine nB_ ?_
    refine tK ?_
    refine eA 2 3590 0 ?_
    exact jB mo2 (IntKind.wrap .i64 (y1 + 1)) H [11,10,9,1,2] []
   have H := zH h6 H
   refine uA 6 68719480326 0 ?_
   obtain ⟨h7,H⟩ | ⟨h7,H⟩ := bC H
   ·refine nA h7 ?_
    refine tK ?_
    refine eA 2 3590 0 ?_
    exact jB mo2 (IntKind.wrap .i64 (y1 + 1)) H [11,10,9,1,2] []
   refine tA h7 ?_
   refine gA 1 64 0 ?_
   refine te ?_
   obtain rfl := si H
   have H := Ho2
   dsimp only at H
   exact fT H
  have H := zH h5 H
  refine uA 11 68719480326 0 ?_
  refine tB_ ?_
  refine gA 1 64 0 ?_
  refine te ?_
  obtain rfl := si H
  have H := Ho2
  dsimp only at H
  exact fT H
 rintro _ H
 have H : (zCL n) = some r := H
 unfold zCL at H
 refine gA 1 64 0 ?_
 exact te (fF H)
def Zu (n : Nat) (x0 : Net) (x1 : Int) (x2 : Int) : Option (Pt × Bool) :=
  ((zw n x1 0 (IntKind.wrap .i64 ((x0.Bs.length : Int) - 1))).bind fun r1 => (bif (!r1) then (some ((⟨false,0,false,(⟨0,0,0,0,0⟩ : Vec)⟩ : Pt),false)) else ((idx x0.Bs x1).bind fun v2 => ((zw n x2 0 (IntKind.wrap .i64 ((v2.Ps.length : Int) - 1))).bind fun r3 => (bif (!r3) then (some ((⟨false,0,false,(⟨0,0,0,0,0⟩ : Vec)⟩ : Pt),false)) else ((idx x0.Bs x1).bind fun v4 => ((idx v4.Ps x2).bind fun v5 => (some (v5,true)))))))))
theorem zAK (n : Nat) (x0 : Net) (x1 : Int) (x2 : Int) (r : Pt × Bool) (H : Zu n x0 x1 x2 = some r) : zD Tryz.prog 162 [.val true (CV.frzRow (Net.row x0)),.val false [.lit (.int .i64 x1)],.val false [.lit (.int .i64 x2)]] [.val true (Pt.row r.1),.val false [.lit (.bool r.2)]] [] := by
 refine cW Tryz.func162 (fun g d => sl [g 0,sl [g 1] (cn 27 (sl [g 2] .ret) .skip),g 3] .ret) [.cell 6 167,.tmp 7] fun cx => ?_
 unfold Zu at H
 refine gA 3 78 72 ?_
 refine tS ?_
 refine rA 3 ?_
 refine kF x0.Bs zA.row ?_
 refine lA 1 ?_
 obtain ⟨r1,er1,H⟩ := bs H
 refine vA [.rd,.rd,.rd] (z3 n x1 0 (IntKind.wrap .i64 ((x0.Bs.length : Int) - 1)) r1 er1) ?_
 refine lA 2 ?_
 refine sL 32846 72 ⟨38,0,[sB 15 (!r1),sA 6 6 8 0,sA 3 3 3 0,sI 1 x1,sI 2 x2],[(6,[cB false,cI 0,cB false,cI 0,cI 0,cI 0,cI 0,cI 0]),(3,(CV.frzRow (Net.row x0)))]⟩ ?_
 cases h1 : (!r1)
 ·have H := zG h1 H
  refine lA 4 ?_
  obtain ⟨v2,ev2,H⟩ := bs H
  refine iA zA.row ev2 ?_
  refine lA 2 ?_
  refine kF v2.Ps Pt.row ?_
  refine lA 1 ?_
  obtain ⟨r3,er3,H⟩ := bs H
  refine vA [.rd,.rd,.rd] (z3 n x2 0 (IntKind.wrap .i64 ((v2.Ps.length : Int) - 1)) r3 er3) ?_
  refine uA 2 134217806 72 ?_
  obtain ⟨h2,H⟩ | ⟨h2,H⟩ := bC H
  ·refine nA h2 ?_
   refine tK ?_
   refine rA 3 ?_
   obtain ⟨v4,ev4,H⟩ := bs H
   refine iA zA.row ev4 ?_
   refine lA 3 ?_
   obtain ⟨v5,ev5,H⟩ := bs H
   refine iA Pt.row ev5 ?_
   refine uA 3 192 64 ?_
   exact te (fJ [(true,(Pt.row v5)),(false,[cB true])] H)
  refine tA h2 ?_
  refine gA 3 192 64 ?_
  exact te (fJ [(true,[cB false,cI 0,cB false,cI 0,cI 0,cI 0,cI 0,cI 0]),(false,[cB false])] H)
 have H := zH h1 H
 refine uA 12 134217806 72 ?_
 refine tB_ ?_
 refine gA 3 192 64 ?_
 exact te (fJ [(true,[cB false,cI 0,cB false,cI 0,cI 0,cI 0,cI 0,cI 0]),(false,[cB false])] H)
def zAU (n : Nat) : Option (Bool) :=
  (some true)
def qM (n : Nat) : Nat → Net → Int → Option ((Unit) ⊕ (Bool))
  | 0,_,_ => none
  | mo2 + 1,x0,y1 => (bif (decide (y1 < (x0.Ls.length : Int))) then ((idx x0.Ls y1).bind fun v3 => ((Zu n x0 v3.A v3.P).bind fun r4 => ((Zu n x0 v3.B v3.Q).bind fun r5 => (bif (decide (y1 ≥ 9)) then (some (Sum.inr false)) else (bif (!r4.2) then (some (Sum.inr false)) else (bif (!r5.2) then (some (Sum.inr false)) else (bif (v3.A == v3.B) then (some (Sum.inr false)) else (bif (!(r4.1.Up == r5.1.Up)) then (some (Sum.inr false)) else (bif (decide ((0 : Int) ≤ 0) && (decide ((0 : Int) ≤ y1) && decide ((y1 : Int) ≤ (x0.Ls.length : Int)))) then ((Js n ((x0.Ls.drop ((0 : Int)).toNat).take (((y1 : Int)).toNat - ((0 : Int)).toNat)) v3.A v3.P).bind fun r7 => (bif r7 then (some (Sum.inr false)) else (bif (decide ((0 : Int) ≤ 0) && (decide ((0 : Int) ≤ y1) && decide ((y1 : Int) ≤ (x0.Ls.length : Int)))) then ((Js n ((x0.Ls.drop ((0 : Int)).toNat).take (((y1 : Int)).toNat - ((0 : Int)).toNat)) v3.B v3.Q).bind fun r9 => (bif r9 then (some (Sum.inr false)) else (qM n mo2 x0 (IntKind.wrap .i64 (y1 + 1))))) else none))) else none))))))))) else (some (Sum.inl ())))
def J7 (n : Nat) (x0 : Net) : Option (Bool) :=
  ((qM n n x0 0).bind fun o => match o with | .inl _ => (zAU n) | .inr r => some r)
def zOV : Tab := ⟨20,[0,1,0,6,0,16,0,64,168,256,512,1536,512,6656,512,16896,512,66048,172544,262656],[0,1,0,6,0,16,0,64,168,256,512,1536,512,6656,512,16896,512,66048,172544,262656],[0,1,0,7,0,16,0,64,255,511,1023,2047,1023,8191,1023,17407,1023,66559,262143,524287]⟩
theorem YJ : zf (rg Tryz.f150 8) zOV = true := kr
theorem zKb (n : Nat) (x0 : Net) (r : Bool) (H : J7 n x0 = some r) : zD Tryz.prog 150 [.val true (CV.frzRow (Net.row x0))] [.val false [.lit (.bool r)]] [] := by
 refine cW Tryz.func150 (fun g d => sl [g 0,sl [g 1] (.block 0 (.loop (sl [g 2,cn 13 .skip (.exit 0),.block 1 (sl [g 3,g 4,g 5,sl [g 6] (cn 58 (sl [g 7] .ret) .skip),d 8] (cn 78 (sl [g 9] .ret) .skip))] (g 10)))),g 11] .ret) [.tmp 2] fun cx => ?_
 unfold J7 at H
 refine gA 2 2 2 ?_
 refine tS ?_
 refine rA 2 ?_
 refine kF x0.Ls Link.row ?_
 refine uA 1 7170 2 ?_
 obtain ⟨o2,eo2,Ho2⟩ := bs H
 clear H
 refine Tr.mid (ι := Unit) (fun v => ⟨80,0,[],[]⟩) (fun v => zAU n = some r) ?_ ?_
 ·refine tB ?_
  refine Tr.loop (ι := Nat × (Int)) (fun v => ⟨80,0,[sI 12 v.2,sI 11 (x0.Ls.length : Int),sC 10 (cF 4 x0.Ls Link.row),sA 1 1 3 0],[(1,(CV.frzRow (Net.row x0)))]⟩) (fun v => qM n v.1 x0 v.2 = some o2) (fun v => v.1) (n,0) eo2 (St.sub_of [12,11,10,1] [1] kr) ?_
  rintro ⟨mo2,y1⟩ H
  have H : qM n mo2 x0 y1 = some o2 := H
  obtain _ | mo2 := mo2
  ·exact nN H
  rw [qM] at H
  refine gA 1 15362 2 ?_
  refine tS ?_
  obtain ⟨h1,H⟩ | ⟨h1,H⟩ := bC H
  ·refine nA h1 ?_
   refine Tr.exit ?_
   refine aJ ?_
   obtain rfl := si H
   have H := Ho2
   dsimp only at H
   exact jA () H [] []
  refine tA h1 ?_
  refine tK ?_
  refine tS ?_
  refine tB ?_
  refine rA 1 ?_
  obtain ⟨v3,ev3,H⟩ := bs H
  refine iA Link.row ev3 ?_
  refine uA 4 7194 18 ?_
  refine rA 5 ?_
  obtain ⟨r4,er4,H⟩ := bs H
  refine vA [.rd,.rd,.rd] (zAK n x0 v3.A v3.P r4 er4) ?_
  refine LAt.movT tOk (ty := 189) (t := 23) (d := 17) (g := none) [(true,(Pt.row r4.1)),(false,[cB r4.2])] _ kr (.inl rfl) kr kr kr kr rfl ?_
  refine uA 5 7290 50 ?_
  refine rA 5 ?_
  obtain ⟨r5,er5,H⟩ := bs H
  refine vA [.rd,.rd,.rd] (zAK n x0 v3.B v3.Q r5 er5) ?_
  refine LAt.movT tOk (ty := 189) (t := 32) (d := 26) (g := none) [(true,(Pt.row r5.1)),(false,[cB r5.2])] _ kr (.inl rfl) kr kr kr kr rfl ?_
  refine uA 5 7674 178 ?_
  refine tS ?_
  refine rA 3 ?_
  refine sL 137438961146 178 ⟨80,0,[sB 37 (decide (y1 ≥ 9)),sB 8 r5.2,sA 7 7 8 0,sB 6 r4.2,sA 5 5 8 0,sI 3 y1,sA 4 4 4 0,sI 12 y1,sI 11 (x0.Ls.length : Int),sC 10 (cF 4 x0.Ls Link.row),sA 1 1 3 0],[(7,(Pt.row r5.1)),(5,(Pt.row r4.1)),(4,(Link.row v3)),(1,(CV.frzRow (Net.row x0)))]⟩ ?_
  cases h2 : (decide (y1 ≥ 9))
  ·have H := zG h2 H
   refine lA 4 ?_
   refine sL 2199023263162 178 ⟨80,0,[sB 41 (!r4.2),sB 8 r5.2,sA 7 7 8 0,sA 5 5 8 0,sI 3 y1,sA 4 4 4 0,sI 12 y1,sI 11 (x0.Ls.length : Int),sC 10 (cF 4 x0.Ls Link.row),sA 1 1 3 0],[(7,(Pt.row r5.1)),(5,(Pt.row r4.1)),(4,(Link.row v3)),(1,(CV.frzRow (Net.row x0)))]⟩ ?_
   cases h3 : (!r4.2)
   ·have H := zG h3 H
    refine lA 4 ?_
    refine sL 35184372096186 178 ⟨80,0,[sB 45 (!r5.2),sA 7 7 8 0,sA 5 5 8 0,sI 3 y1,sA 4 4 4 0,sI 12 y1,sI 11 (x0.Ls.length : Int),sC 10 (cF 4 x0.Ls Link.row),sA 1 1 3 0],[(7,(Pt.row r5.1)),(5,(Pt.row r4.1)),(4,(Link.row v3)),(1,(CV.frzRow (Net.row x0)))]⟩ ?_
    cases h4 : (!r5.2)
    ·have H := zG h4 H
     refine lA 7 ?_
     refine sL 4503599627377850 178 ⟨80,0,[sB 52 (v3.A == v3.B),sA 7 7 8 0,sA 5 5 8 0,sI 3 y1,sA 4 4 4 0,sI 12 y1,sI 11 (x0.Ls.length : Int),sC 10 (cF 4 x0.Ls Link.row),sA 1 1 3 0],[(7,(Pt.row r5.1)),(5,(Pt.row r4.1)),(4,(Link.row v3)),(1,(CV.frzRow (Net.row x0)))]⟩ ?_
     cases h5 : (v3.A == v3.B)
     ·have H := zG h5 H
      refine uA 6 0x400000000001c1a 18 ?_
      obtain ⟨h6,H⟩ | ⟨h6,H⟩ := bC H
      ·refine nA h6 ?_
       refine tK ?_
       obtain ⟨hg6,H⟩ := gs H
       obtain ⟨r7,er7,H⟩ := bs H
       refine sT ⟨80,0,[sB 58 (!(r4.1.Up == r5.1.Up)),sI 3 y1,sA 4 4 4 0,sI 12 y1,sI 11 (x0.Ls.length : Int),sC 10 (cF 4 x0.Ls Link.row),sA 1 1 3 0],[(4,(Link.row v3)),(1,(CV.frzRow (Net.row x0)))]⟩ ?_
       cases h7 : r7
       ·have H := zG h7 H
        obtain ⟨hg8,H⟩ := gs H
        obtain ⟨r9,er9,H⟩ := bs H
        refine Tr.draws mixed 20 kr ⟨80,0,[sB 78 r9,sI 12 y1,sI 11 (x0.Ls.length : Int),sC 10 (cF 4 x0.Ls Link.row),sA 1 1 3 0],[(1,(CV.frzRow (Net.row x0)))]⟩ (fun cx => ?_) ?_
        ·refine mA YJ [(0,[]),(1,[3,8,13,18]),(2,[]),(4,[]),(5,[8,13,18]),(6,[]),(7,[8,13,18])] 13 [⟨[8,13,18],3,65,66⟩,⟨[8,13,18],3,63,64⟩,⟨[3,8,13,18],64,59,60⟩] fun cx => ?_
         refine mC YJ 3 ?_
         refine LAt.cutG tOk (t := 64) (ty := 64) (e := 114) (x := (.tmp 60)) (lo := none) (hi := (some (.tmp 61))) (d := 62) (g := none) (tI 114) Link.row x0.Ls ⟨(.box 1),[(0,0)],1,false,4,(CV.frzEs (x0.Ls.map Link.row))⟩ 0 y1 kr kr kr kr kr kr rfl kr rfl kr kr hg6 ?_
         refine fA ?_
         refine mC YJ 8 ?_
         refine vA [.rd,.rd,.rd] (zEQ n ((x0.Ls.drop ((0 : Int)).toNat).take (((y1 : Int)).toNat - ((0 : Int)).toNat)) v3.A v3.P r7 er7) ?_
         refine fA ?_
         refine mA YJ [(9,[])] 10 [⟨[8,13,18],3,65,66⟩,⟨[8,13,18],3,63,64⟩,⟨[3,8,13,18],64,59,60⟩] fun cx => ?_
         refine sA_ 0x179800000000001c1a 18 ⟨80,0,[sB 68 r7,sI 66 v3.P,sA 65 4 4 1,sI 64 v3.A,sA 63 4 4 0,sR 60 1 3 1 1 false,sA 59 1 3 1,sI 3 y1,sA 4 4 4 0,sI 12 y1,sI 11 (x0.Ls.length : Int),sC 10 (cF 4 x0.Ls Link.row),sA 1 1 3 0],[(4,(Link.row v3)),(1,(CV.frzRow (Net.row x0)))]⟩ ?_
         rw [h7]
         refine mA YJ [(10,[]),(11,[13,18]),(12,[]),(14,[]),(15,[18]),(16,[]),(17,[18])] 3 [⟨[18],3,75,76⟩,⟨[18],3,73,74⟩,⟨[13,18],64,69,70⟩,⟨[8,13,18],3,65,66⟩,⟨[8,13,18],3,63,64⟩,⟨[3,8,13,18],64,59,60⟩] fun cx => ?_
         refine mC YJ 13 ?_
         refine LAt.cutG tOk (t := 64) (ty := 64) (e := 114) (x := (.tmp 70)) (lo := none) (hi := (some (.tmp 71))) (d := 72) (g := (some (9,false))) (tI 114) Link.row x0.Ls ⟨(.box 1),[(0,0)],1,false,4,(CV.frzEs (x0.Ls.map Link.row))⟩ 0 y1 kr kr kr kr kr kr rfl kr rfl kr kr hg8 ?_
         refine fA ?_
         refine mC YJ 18 ?_
         refine vA [.rd,.rd,.rd] (zEQ n ((x0.Ls.drop ((0 : Int)).toNat).take (((y1 : Int)).toNat - ((0 : Int)).toNat)) v3.B v3.Q r9 er9) ?_
         refine fA ?_
         refine mA YJ [(19,[])] 0 [⟨[18],3,75,76⟩,⟨[18],3,73,74⟩,⟨[13,18],64,69,70⟩,⟨[8,13,18],3,65,66⟩,⟨[8,13,18],3,63,64⟩,⟨[3,8,13,18],64,59,60⟩] fun cx => ?_
         exact mE YJ [78,12,11,10,1] [1]
        cases h8 : r9
        ·have H := zG h8 H
         refine nB_ ?_
         refine tK ?_
         refine eA 2 7170 2 ?_
         exact jB mo2 (IntKind.wrap .i64 (y1 + 1)) H [12,11,10,1] [1]
        have H := zH h8 H
        refine tB_ ?_
        refine gA 1 4 0 ?_
        refine te ?_
        obtain rfl := si H
        have H := Ho2
        dsimp only at H
        exact fF H
       have H := zH h7 H
       refine Tr.draws mixed 20 kr ⟨80,0,[sB 78 true,sI 12 y1,sI 11 (x0.Ls.length : Int),sC 10 (cF 4 x0.Ls Link.row),sA 1 1 3 0],[(1,(CV.frzRow (Net.row x0)))]⟩ (fun cx => ?_) ?_
       ·refine mA YJ [(0,[]),(1,[3,8]),(2,[]),(4,[]),(5,[8]),(6,[]),(7,[8])] 13 [⟨[8],3,65,66⟩,⟨[8],3,63,64⟩,⟨[3,8],64,59,60⟩] fun cx => ?_
        refine mC YJ 3 ?_
        refine LAt.cutG tOk (t := 64) (ty := 64) (e := 114) (x := (.tmp 60)) (lo := none) (hi := (some (.tmp 61))) (d := 62) (g := none) (tI 114) Link.row x0.Ls ⟨(.box 1),[(0,0)],1,false,4,(CV.frzEs (x0.Ls.map Link.row))⟩ 0 y1 kr kr kr kr kr kr rfl kr rfl kr kr hg6 ?_
        refine fA ?_
        refine mC YJ 8 ?_
        refine vA [.rd,.rd,.rd] (zEQ n ((x0.Ls.drop ((0 : Int)).toNat).take (((y1 : Int)).toNat - ((0 : Int)).toNat)) v3.A v3.P r7 er7) ?_
        refine fA ?_
        refine mA YJ [(9,[])] 10 [⟨[8],3,65,66⟩,⟨[8],3,63,64⟩,⟨[3,8],64,59,60⟩] fun cx => ?_
        refine sA_ 0x179800000000001c1a 18 ⟨80,0,[sB 68 r7,sI 66 v3.P,sA 65 4 4 1,sI 64 v3.A,sA 63 4 4 0,sR 60 1 3 1 1 false,sA 59 1 3 1,sI 3 y1,sA 4 4 4 0,sI 12 y1,sI 11 (x0.Ls.length : Int),sC 10 (cF 4 x0.Ls Link.row),sA 1 1 3 0],[(4,(Link.row v3)),(1,(CV.frzRow (Net.row x0)))]⟩ ?_
        rw [h7]
        refine mA YJ [(10,[]),(11,[]),(12,[]),(13,[]),(14,[]),(15,[]),(16,[]),(17,[]),(18,[]),(19,[])] 0 [⟨[8],3,65,66⟩,⟨[8],3,63,64⟩,⟨[3,8],64,59,60⟩] fun cx => ?_
        exact mE YJ [78,12,11,10,1] [1]
       refine tB_ ?_
       refine gA 1 4 0 ?_
       refine te ?_
       obtain rfl := si H
       have H := Ho2
       dsimp only at H
       exact fF H
      refine tA h6 ?_
      refine gA 1 4 0 ?_
      refine te ?_
      obtain rfl := si H
      have H := Ho2
      dsimp only at H
      exact fF H
     have H := zH h5 H
     refine uA 6 0x400000000001c1a 18 ?_
     refine tB_ ?_
     refine gA 1 4 0 ?_
     refine te ?_
     obtain rfl := si H
     have H := Ho2
     dsimp only at H
     exact fF H
    have H := zH h4 H
    refine uA 13 0x400000000001c1a 18 ?_
    refine tB_ ?_
    refine gA 1 4 0 ?_
    refine te ?_
    obtain rfl := si H
    have H := Ho2
    dsimp only at H
    exact fF H
   have H := zH h3 H
   refine uA 17 0x400000000001c1a 18 ?_
   refine tB_ ?_
   refine gA 1 4 0 ?_
   refine te ?_
   obtain rfl := si H
   have H := Ho2
   dsimp only at H
   exact fF H
  have H := zH h2 H
  refine uA 21 0x400000000001c1a 18 ?_
  refine tB_ ?_
  refine gA 1 4 0 ?_
  refine te ?_
  obtain rfl := si H
  have H := Ho2
  dsimp only at H
  exact fF H
 rintro _ H
 have H : (zAU n) = some r := H
 unfold zAU at H
 refine gA 1 4 0 ?_
 exact te (fT H)
def J3 (n : Nat) (x0 : Net) : Option (Bool) :=
  ((J7 n x0).bind fun r4 => (some r4))
def qz (n : Nat) : Nat → Net → Int → Option ((Unit) ⊕ (Bool))
  | 0,_,_ => none
  | mo5 + 1,x0,y3 => (bif (decide (y3 < (x0.Said.length : Int))) then ((idx x0.Said y3).bind fun v6 => ((zw n v6.Link 0 (IntKind.wrap .i64 ((x0.Ls.length : Int) - 1))).bind fun r7 => (bif (!r7) then (some (Sum.inr false)) else ((Q5 n v6.V).bind fun r8 => (bif (!r8) then (some (Sum.inr false)) else (qz n mo5 x0 (IntKind.wrap .i64 (y3 + 1)))))))) else (some (Sum.inl ())))
def Yd (n : Nat) (x0 : Net) : Option (Bool) :=
  ((qz n n x0 0).bind fun o => match o with | .inl _ => (J3 n x0) | .inr r => some r)
def J5 (n : Nat) (k : (Int → Option ((Unit) ⊕ (Bool)))) (y2 : Int) (y16 : Int) : Option ((Unit) ⊕ (Bool)) :=
  (k (IntKind.wrap .i64 (y2 + 1)))
def ZD (n : Nat) : Nat → zA → Net → Int → Int → Option ((Int) ⊕ (Bool))
  | 0,_,_,_,_ => none
  | mo17 + 1,v10,x0,y2,y15 => (bif (decide (y15 < (v10.Ps.length : Int))) then ((idx v10.Ps y15).bind fun v18 => (bif v18.Has then ((Js n x0.Ls y2 y15).bind fun r19 => (bif (!r19) then (some (Sum.inr false)) else (ZD n mo17 v10 x0 y2 (IntKind.wrap .i64 (y15 + 1))))) else (ZD n mo17 v10 x0 y2 (IntKind.wrap .i64 (y15 + 1))))) else (some (Sum.inl y15)))
def J4 (n : Nat) (k : (Int → Option ((Unit) ⊕ (Bool)))) (v10 : zA) (x0 : Net) (y2 : Int) (y14 : Int) : Option ((Unit) ⊕ (Bool)) :=
  ((ZD n n v10 x0 y2 0).bind fun o => match o with | .inl y16 => (J5 n k y2 y16) | .inr r => some (Sum.inr r))
def ZW (n : Nat) : Nat → zA → Net → Int → Int → Option ((Int) ⊕ (Bool))
  | 0,_,_,_,_ => none
  | mo20 + 1,v10,x0,y2,y13 => (bif (decide (y13 < (((x0.Bs.drop ((0 : Int)).toNat).take (((y2 : Int)).toNat - ((0 : Int)).toNat)).length : Int))) then ((idx ((x0.Bs.drop ((0 : Int)).toNat).take (((y2 : Int)).toNat - ((0 : Int)).toNat)) y13).bind fun v21 => (bif (v21.Id == v10.Id) then (some (Sum.inr false)) else (ZW n mo20 v10 x0 y2 (IntKind.wrap .i64 (y13 + 1))))) else (some (Sum.inl y13)))
def z7 (n : Nat) : Nat → Net → Int → Option ((Unit) ⊕ (Bool))
  | 0,_,_ => none
  | mo9 + 1,x0,y2 => (bif (decide (y2 < (x0.Bs.length : Int))) then ((idx x0.Bs y2).bind fun v10 => ((QF n v10).bind fun r11 => (bif (!r11) then (some (Sum.inr false)) else (bif (decide ((0 : Int) ≤ 0) && (decide ((0 : Int) ≤ y2) && decide ((y2 : Int) ≤ (x0.Bs.length : Int)))) then ((ZW n n v10 x0 y2 0).bind fun o => match o with | .inl y14 => (J4 n (fun v => z7 n mo9 x0 v) v10 x0 y2 y14) | .inr r => some (Sum.inr r)) else none)))) else (some (Sum.inl ())))
def Y9 (n : Nat) (x0 : Net) : Option (Bool) :=
  ((zw n (x0.Bs.length : Int) 1 6).bind fun r1 => (bif (!r1) then (some false) else (bif (decide ((x0.Said.length : Int) > 40)) then (some false) else ((z7 n n x0 0).bind fun o => match o with | .inl _ => (Yd n x0) | .inr r => some r))))
theorem zMH (n : Nat) (x0 : Net) (r : Bool) (H : Y9 n x0 = some r) : zD Tryz.prog 52 [.val true (CV.frzRow (Net.row x0))] [.val false [.lit (.bool r)]] [] := by
 refine cW Tryz.func52 (fun g d => sl [g 0,sl [g 1] (cn 21 (sl [g 2] .ret) .skip),sl [g 3] (.block 0 (.loop (sl [g 4,cn 26 .skip (.exit 0),.block 1 (sl [g 5,sl [g 6] (cn 32 (sl [g 7] .ret) .skip),sl [g 8] (.block 2 (.loop (sl [g 9,cn 39 .skip (.exit 2),.block 3 (sl [g 10,g 11] (cn 46 (sl [g 12] .ret) .skip))] (g 13)))),g 14] (.block 4 (.loop (sl [g 15,cn 52 .skip (.exit 4),.block 5 (sl [g 16,g 17] (cn 65 (sl [g 18] .ret) .skip))] (g 19)))))] (g 20)))),sl [g 21] (.block 6 (.loop (sl [g 22,cn 72 .skip (.exit 6),.block 7 (sl [g 23,g 24] (cn 88 (sl [g 25] .ret) .skip))] (g 26)))),g 27] .ret) [.tmp 2] fun cx => ?_
 unfold Y9 at H
 refine gA 2 6 2 ?_
 refine tS ?_
 refine rA 2 ?_
 refine kF x0.Bs zA.row ?_
 obtain ⟨r1,er1,H⟩ := bs H
 refine vA [.rd,.rd,.rd] (z3 n (x0.Bs.length : Int) 1 6 r1 er1) ?_
 refine lA 2 ?_
 refine sL 65542 2 ⟨92,0,[sB 16 (!r1),sB 2 false,sA 1 1 3 0],[(1,(CV.frzRow (Net.row x0)))]⟩ ?_
 cases h1 : (!r1)
 ·have H := zG h1 H
  refine lA 2 ?_
  refine kF x0.Said Say.row ?_
  refine uA 2 2097158 2 ?_
  obtain ⟨h2,H⟩ | ⟨h2,H⟩ := bC H
  ·refine nA h2 ?_
   refine tK ?_
   refine tS ?_
   refine rA 2 ?_
   refine kF x0.Bs zA.row ?_
   refine uA 1 58720262 2 ?_
   obtain ⟨o9,eo9,Ho9⟩ := bs H
   clear H
   refine Tr.mid (ι := Unit) (fun v => ⟨92,0,[sB 2 false,sA 1 1 3 0],[(1,(CV.frzRow (Net.row x0)))]⟩) (fun v => Yd n x0 = some r) ?_ ?_
   ·refine tB ?_
    refine Tr.loop (ι := Nat × (Int)) (fun v => ⟨92,0,[sI 25 v.2,sI 24 (x0.Bs.length : Int),sC 23 (cF 11 x0.Bs zA.row),sB 2 false,sA 1 1 3 0],[(1,(CV.frzRow (Net.row x0)))]⟩) (fun v => z7 n v.1 x0 v.2 = some o9) (fun v => v.1) (n,0) eo9 (St.sub_of [25,24,23,2,1] [1] kr) ?_
    rintro ⟨mo9,y2⟩ H
    have H : z7 n mo9 x0 y2 = some o9 := H
    obtain _ | mo9 := mo9
    ·exact nN H
    rw [z7] at H
    refine gA 1 125829126 2 ?_
    refine tS ?_
    obtain ⟨h6,H⟩ | ⟨h6,H⟩ := bC H
    ·refine nA h6 ?_
     refine Tr.exit ?_
     refine aJ ?_
     obtain rfl := si H
     have H := Ho9
     dsimp only at H
     exact jA () H [2,1] [1]
    refine tA h6 ?_
    refine tK ?_
    refine tS ?_
    refine tB ?_
    refine rA 1 ?_
    obtain ⟨v10,ev10,H⟩ := bs H
    refine iA zA.row ev10 ?_
    refine uA 4 1065353246 18 ?_
    refine tS ?_
    refine rA 1 ?_
    obtain ⟨r11,er11,H⟩ := bs H
    refine vA [.rd] (zDT n v10 r11 er11) ?_
    refine uA 1 8581546014 18 ?_
    obtain ⟨h7,H⟩ | ⟨h7,H⟩ := bC H
    ·refine nA h7 ?_
     refine tK ?_
     refine tS ?_
     refine rA 3 ?_
     obtain ⟨hg12,H⟩ := gs H
     refine LAt.cutG tOk (t := 63) (ty := 63) (e := 41) (x := (.tmp 34)) (lo := none) (hi := (some (.tmp 35))) (d := 36) (g := none) (tI 41) zA.row x0.Bs ⟨(.slot 34),[],0,false,11,(CV.frzEs (x0.Bs.map zA.row))⟩ 0 y2 kr kr kr kr kr kr rfl kr rfl kr kr hg12 ?_
     refine kF ((x0.Bs.drop ((0 : Int)).toNat).take (((y2 : Int)).toNat - ((0 : Int)).toNat)) zA.row ?_
     refine uA 1 549747425310 18 ?_
     refine sT ⟨92,0,[sI 38 0,sI 37 (((x0.Bs.drop ((0 : Int)).toNat).take (((y2 : Int)).toNat - ((0 : Int)).toNat)).length : Int),sC 36 (cF 11 ((x0.Bs.drop ((0 : Int)).toNat).take (((y2 : Int)).toNat - ((0 : Int)).toNat)) zA.row),sI 35 y2,sC 34 (cF 11 x0.Bs zA.row),sA 33 1 3 0,sB 32 (!r11),sB 31 r11,sV 30 (CV.frzRow (zA.row v10)),sI 3 y2,sA 4 4 11 0,sV 29 (CV.frzRow (zA.row v10)),(28,.fad ((CV.frzRow (zA.row v10)))),sI 27 y2,sB 26 (decide (y2 < (x0.Bs.length : Int))),sI 25 y2,sI 24 (x0.Bs.length : Int),sC 23 (cF 11 x0.Bs zA.row),sB 2 false,sA 1 1 3 0],[(4,(CV.frzRow (zA.row v10))),(1,(CV.frzRow (Net.row x0)))]⟩ ?_
     rw [h6]
     rw [h7]
     obtain ⟨o20,eo20,Ho20⟩ := bs H
     clear H
     refine Tr.mid (ι := Int) (fun v => ⟨92,0,[sB 39 false,sI 38 v,sI 37 (((x0.Bs.drop ((0 : Int)).toNat).take (((y2 : Int)).toNat - ((0 : Int)).toNat)).length : Int),sC 36 (cF 11 ((x0.Bs.drop ((0 : Int)).toNat).take (((y2 : Int)).toNat - ((0 : Int)).toNat)) zA.row),sI 35 y2,sC 34 (cF 11 x0.Bs zA.row),sA 33 1 3 0,sB 32 false,sB 31 r11,sV 30 (CV.frzRow (zA.row v10)),sI 3 y2,sA 4 4 11 0,sV 29 (CV.frzRow (zA.row v10)),(28,.fad ((CV.frzRow (zA.row v10)))),sI 27 y2,sB 26 true,sI 25 y2,sI 24 (x0.Bs.length : Int),sC 23 (cF 11 x0.Bs zA.row),sB 2 false,sA 1 1 3 0],[(4,(CV.frzRow (zA.row v10))),(1,(CV.frzRow (Net.row x0)))]⟩) (fun v => J4 n (fun v => z7 n mo9 x0 v) v10 x0 y2 v = some o9) ?_ ?_
     ·refine tB ?_
      refine Tr.loop (ι := Nat × (Int)) (fun v => ⟨92,0,[sI 38 v.2,sI 37 (((x0.Bs.drop ((0 : Int)).toNat).take (((y2 : Int)).toNat - ((0 : Int)).toNat)).length : Int),sC 36 (cF 11 ((x0.Bs.drop ((0 : Int)).toNat).take (((y2 : Int)).toNat - ((0 : Int)).toNat)) zA.row),sI 35 y2,sC 34 (cF 11 x0.Bs zA.row),sA 33 1 3 0,sB 32 false,sB 31 r11,sV 30 (CV.frzRow (zA.row v10)),sI 3 y2,sA 4 4 11 0,sV 29 (CV.frzRow (zA.row v10)),(28,.fad ((CV.frzRow (zA.row v10)))),sI 27 y2,sB 26 true,sI 25 y2,sI 24 (x0.Bs.length : Int),sC 23 (cF 11 x0.Bs zA.row),sB 2 false,sA 1 1 3 0],[(4,(CV.frzRow (zA.row v10))),(1,(CV.frzRow (Net.row x0)))]⟩) (fun v => ZW n v.1 v10 x0 y2 v.2 = some o20) (fun v => v.1) (n,0) eo20 (St.sub_of [38,37,36,35,34,33,32,31,30,3,4,29,28,27,26,25,24,23,2,1] [4,1] kr) ?_
      rintro ⟨mo20,y13⟩ H
      have H : ZW n mo20 v10 x0 y2 y13 = some o20 := H
      obtain _ | mo20 := mo20
      ·exact nN H
      rw [ZW] at H
      refine gA 1 0xffff80001e 18 ?_
      refine tS ?_
      obtain ⟨h11,H⟩ | ⟨h11,H⟩ := bC H
      ·refine nA h11 ?_
       refine Tr.exit ?_
       refine aJ ?_
       obtain rfl := si H
       have H := Ho20
       dsimp only at H
       refine sB' 0xffff80001e 18 ⟨92,0,[sB 39 (decide (y13 < (((x0.Bs.drop ((0 : Int)).toNat).take (((y2 : Int)).toNat - ((0 : Int)).toNat)).length : Int))),sI 38 y13,sI 37 (((x0.Bs.drop ((0 : Int)).toNat).take (((y2 : Int)).toNat - ((0 : Int)).toNat)).length : Int),sC 36 (cF 11 ((x0.Bs.drop ((0 : Int)).toNat).take (((y2 : Int)).toNat - ((0 : Int)).toNat)) zA.row),sI 35 y2,sC 34 (cF 11 x0.Bs zA.row),sA 33 1 3 0,sB 32 false,sB 31 r11,sV 30 (CV.frzRow (zA.row v10)),sI 3 y2,sA 4 4 11 0,sV 29 (CV.frzRow (zA.row v10)),(28,.fad ((CV.frzRow (zA.row v10)))),sI 27 y2,sB 26 true,sI 25 y2,sI 24 (x0.Bs.length : Int),sC 23 (cF 11 x0.Bs zA.row),sB 2 false,sA 1 1 3 0],[(4,(CV.frzRow (zA.row v10))),(1,(CV.frzRow (Net.row x0)))]⟩ ?_
       rw [h11]
       exact jA y13 H [39,38,37,36,35,34,33,32,31,30,3,4,29,28,27,26,25,24,23,2,1] [4,1]
      refine tA h11 ?_
      refine tK ?_
      refine tS ?_
      refine tB ?_
      refine tR ?_
      obtain ⟨v21,ev21,H⟩ := bs H
      refine iA zA.row ev21 ?_
      refine uA 3 4398038122590 82 ?_
      refine gA 5 0x7fffff80005e 82 ?_
      obtain ⟨h12,H⟩ | ⟨h12,H⟩ := bC H
      ·refine nA h12 ?_
       refine tK ?_
       refine eA 2 0xffffff80005e 82 ?_
       exact jB mo20 (IntKind.wrap .i64 (y13 + 1)) H [38,37,36,35,34,33,32,31,30,3,4,29,28,27,26,25,24,23,2,1] [4,1]
      refine tA h12 ?_
      refine gA 1 0x7fffff80005e 82 ?_
      refine te ?_
      obtain rfl := si H
      have H := Ho20
      dsimp only at H
      obtain rfl := si H
      have H := Ho9
      dsimp only at H
      exact fF H
     rintro y14 H
     have H : (J4 n (fun v => z7 n mo9 x0 v) v10 x0 y2 y14) = some o9 := H
     unfold J4 at H
     refine rA 2 ?_
     refine kF v10.Ps Pt.row ?_
     refine uA 1 0xf00ffff80001e 18 ?_
     obtain ⟨o17,eo17,Ho17⟩ := bs H
     clear H
     refine Tr.mid (ι := Int) (fun v => ⟨92,0,[sB 52 false,sI 51 v,sI 50 (v10.Ps.length : Int),sC 49 (cF 8 v10.Ps Pt.row),sA 48 4 11 2,sB 39 false,sI 38 y14,sI 37 (((x0.Bs.drop ((0 : Int)).toNat).take (((y2 : Int)).toNat - ((0 : Int)).toNat)).length : Int),sC 36 (cF 11 ((x0.Bs.drop ((0 : Int)).toNat).take (((y2 : Int)).toNat - ((0 : Int)).toNat)) zA.row),sI 35 y2,sC 34 (cF 11 x0.Bs zA.row),sA 33 1 3 0,sB 32 false,sB 31 r11,sV 30 (CV.frzRow (zA.row v10)),sI 3 y2,sA 4 4 11 0,sV 29 (CV.frzRow (zA.row v10)),(28,.fad ((CV.frzRow (zA.row v10)))),sI 27 y2,sB 26 true,sI 25 y2,sI 24 (x0.Bs.length : Int),sC 23 (cF 11 x0.Bs zA.row),sB 2 false,sA 1 1 3 0],[(4,(CV.frzRow (zA.row v10))),(1,(CV.frzRow (Net.row x0)))]⟩) (fun v => J5 n (fun v => z7 n mo9 x0 v) y2 v = some o9) ?_ ?_
     ·refine tB ?_
      refine Tr.loop (ι := Nat × (Int)) (fun v => ⟨92,0,[sI 51 v.2,sI 50 (v10.Ps.length : Int),sC 49 (cF 8 v10.Ps Pt.row),sA 48 4 11 2,sB 39 false,sI 38 y14,sI 37 (((x0.Bs.drop ((0 : Int)).toNat).take (((y2 : Int)).toNat - ((0 : Int)).toNat)).length : Int),sC 36 (cF 11 ((x0.Bs.drop ((0 : Int)).toNat).take (((y2 : Int)).toNat - ((0 : Int)).toNat)) zA.row),sI 35 y2,sC 34 (cF 11 x0.Bs zA.row),sA 33 1 3 0,sB 32 false,sB 31 r11,sV 30 (CV.frzRow (zA.row v10)),sI 3 y2,sA 4 4 11 0,sV 29 (CV.frzRow (zA.row v10)),(28,.fad ((CV.frzRow (zA.row v10)))),sI 27 y2,sB 26 true,sI 25 y2,sI 24 (x0.Bs.length : Int),sC 23 (cF 11 x0.Bs zA.row),sB 2 false,sA 1 1 3 0],[(4,(CV.frzRow (zA.row v10))),(1,(CV.frzRow (Net.row x0)))]⟩) (fun v => ZD n v.1 v10 x0 y2 v.2 = some o17) (fun v => v.1) (n,0) eo17 (St.sub_of [51,50,49,48,39,38,37,36,35,34,33,32,31,30,3,4,29,28,27,26,25,24,23,2,1] [4,1] kr) ?_
      rintro ⟨mo17,y15⟩ H
      have H : ZD n mo17 v10 x0 y2 y15 = some o17 := H
      obtain _ | mo17 := mo17
      ·exact nN H
      rw [ZD] at H
      refine gA 1 8726823781269534 18 ?_
      refine tS ?_
      obtain ⟨h8,H⟩ | ⟨h8,H⟩ := bC H
      ·refine nA h8 ?_
       refine Tr.exit ?_
       refine aJ ?_
       obtain rfl := si H
       have H := Ho17
       dsimp only at H
       refine sB' 8726823781269534 18 ⟨92,0,[sB 52 (decide (y15 < (v10.Ps.length : Int))),sI 51 y15,sI 50 (v10.Ps.length : Int),sC 49 (cF 8 v10.Ps Pt.row),sA 48 4 11 2,sB 39 false,sI 38 y14,sI 37 (((x0.Bs.drop ((0 : Int)).toNat).take (((y2 : Int)).toNat - ((0 : Int)).toNat)).length : Int),sC 36 (cF 11 ((x0.Bs.drop ((0 : Int)).toNat).take (((y2 : Int)).toNat - ((0 : Int)).toNat)) zA.row),sI 35 y2,sC 34 (cF 11 x0.Bs zA.row),sA 33 1 3 0,sB 32 false,sB 31 r11,sV 30 (CV.frzRow (zA.row v10)),sI 3 y2,sA 4 4 11 0,sV 29 (CV.frzRow (zA.row v10)),(28,.fad ((CV.frzRow (zA.row v10)))),sI 27 y2,sB 26 true,sI 25 y2,sI 24 (x0.Bs.length : Int),sC 23 (cF 11 x0.Bs zA.row),sB 2 false,sA 1 1 3 0],[(4,(CV.frzRow (zA.row v10))),(1,(CV.frzRow (Net.row x0)))]⟩ ?_
       rw [h8]
       exact jA y15 H [52,51,50,49,48,39,38,37,36,35,34,33,32,31,30,3,4,29,28,27,26,25,24,23,2,1] [4,1]
      refine tA h8 ?_
      refine tK ?_
      refine tS ?_
      refine tB ?_
      refine rA 1 ?_
      obtain ⟨v18,ev18,H⟩ := bs H
      refine iA Pt.row ev18 ?_
      refine uA 4 0xff00ffff80019e 274 ?_
      refine rA 3 ?_
      refine sL 0x7ff00ffff80019e 274 ⟨92,0,[sB 58 v18.Has,sB 57 v18.Has,sA 56 8 8 2,sI 7 y15,sA 8 8 8 0,sV 55 (Pt.row v18),(54,.fad ((Pt.row v18))),sI 53 y15,sB 52 (decide (y15 < (v10.Ps.length : Int))),sI 51 y15,sI 50 (v10.Ps.length : Int),sC 49 (cF 8 v10.Ps Pt.row),sA 48 4 11 2,sB 39 false,sI 38 y14,sI 37 (((x0.Bs.drop ((0 : Int)).toNat).take (((y2 : Int)).toNat - ((0 : Int)).toNat)).length : Int),sC 36 (cF 11 ((x0.Bs.drop ((0 : Int)).toNat).take (((y2 : Int)).toNat - ((0 : Int)).toNat)) zA.row),sI 35 y2,sC 34 (cF 11 x0.Bs zA.row),sA 33 1 3 0,sB 32 false,sB 31 r11,sV 30 (CV.frzRow (zA.row v10)),sI 3 y2,sA 4 4 11 0,sV 29 (CV.frzRow (zA.row v10)),(28,.fad ((CV.frzRow (zA.row v10)))),sI 27 y2,sB 26 true,sI 25 y2,sI 24 (x0.Bs.length : Int),sC 23 (cF 11 x0.Bs zA.row),sB 2 false,sA 1 1 3 0],[(8,(Pt.row v18)),(4,(CV.frzRow (zA.row v10))),(1,(CV.frzRow (Net.row x0)))]⟩ ?_
      cases h9 : v18.Has
      ·have H := zG h9 H
       refine uA 7 0x3ffff00ffff80019e 274 ?_
       refine nB_ ?_
       refine tK ?_
       refine eA 2 0x7ffff00ffff80019e 274 ?_
       exact jB mo17 (IntKind.wrap .i64 (y15 + 1)) H [51,50,49,48,39,38,37,36,35,34,33,32,31,30,3,4,29,28,27,26,25,24,23,2,1] [4,1]
      have H := zH h9 H
      refine lA 4 ?_
      obtain ⟨r19,er19,H⟩ := bs H
      refine vA [.rd,.rd,.rd] (zEQ n x0.Ls y2 y15 r19 er19) ?_
      refine uA 2 0x3ffff00ffff80019e 274 ?_
      obtain ⟨h10,H⟩ | ⟨h10,H⟩ := bC H
      ·refine nA h10 ?_
       refine tK ?_
       refine eA 2 0x7ffff00ffff80019e 274 ?_
       exact jB mo17 (IntKind.wrap .i64 (y15 + 1)) H [51,50,49,48,39,38,37,36,35,34,33,32,31,30,3,4,29,28,27,26,25,24,23,2,1] [4,1]
      refine tA h10 ?_
      refine gA 1 0x3ffff00ffff80019e 274 ?_
      refine te ?_
      obtain rfl := si H
      have H := Ho17
      dsimp only at H
      obtain rfl := si H
      have H := Ho9
      dsimp only at H
      exact fF H
     rintro y16 H
     have H : (J5 n (fun v => z7 n mo9 x0 v) y2 y16) = some o9 := H
     unfold J5 at H
     refine eA 2 0x8001f00ffff80001e 18 ?_
     exact jB mo9 (IntKind.wrap .i64 (y2 + 1)) H [25,24,23,2,1] [1]
    refine tA h7 ?_
    refine gA 1 8581546014 18 ?_
    refine te ?_
    obtain rfl := si H
    have H := Ho9
    dsimp only at H
    exact fF H
   rintro _ H
   have H : (Yd n x0) = some r := H
   unfold Yd at H
   refine tS ?_
   refine rA 2 ?_
   refine kF x0.Said Say.row ?_
   refine uA 1 0xe00000000000000006 2 ?_
   obtain ⟨o5,eo5,Ho5⟩ := bs H
   clear H
   refine Tr.mid (ι := Unit) (fun v => ⟨92,0,[sB 2 false,sA 1 1 3 0],[(1,(CV.frzRow (Net.row x0)))]⟩) (fun v => J3 n x0 = some r) ?_ ?_
   ·refine tB ?_
    refine Tr.loop (ι := Nat × (Int)) (fun v => ⟨92,0,[sI 71 v.2,sI 70 (x0.Said.length : Int),sC 69 (cF 7 x0.Said Say.row),sB 2 false,sA 1 1 3 0],[(1,(CV.frzRow (Net.row x0)))]⟩) (fun v => qz n v.1 x0 v.2 = some o5) (fun v => v.1) (n,0) eo5 (St.sub_of [71,70,69,2,1] [1] kr) ?_
    rintro ⟨mo5,y3⟩ H
    have H : qz n mo5 x0 y3 = some o5 := H
    obtain _ | mo5 := mo5
    ·exact nN H
    rw [qz] at H
    refine gA 1 0x1e00000000000000006 2 ?_
    refine tS ?_
    obtain ⟨h3,H⟩ | ⟨h3,H⟩ := bC H
    ·refine nA h3 ?_
     refine Tr.exit ?_
     refine aJ ?_
     obtain rfl := si H
     have H := Ho5
     dsimp only at H
     exact jA () H [2,1] [1]
    refine tA h3 ?_
    refine tK ?_
    refine tS ?_
    refine tB ?_
    refine tR ?_
    obtain ⟨v6,ev6,H⟩ := bs H
    refine iA Say.row ev6 ?_
    refine uA 3 0x7e00000000000000406 1026 ?_
    refine rA 4 ?_
    refine kF x0.Ls Link.row ?_
    refine lA 1 ?_
    obtain ⟨r7,er7,H⟩ := bs H
    refine vA [.rd,.rd,.rd] (z3 n v6.Link 0 (IntKind.wrap .i64 ((x0.Ls.length : Int) - 1)) r7 er7) ?_
    refine lA 2 ?_
    refine sL 0xfffe00000000000000406 1026 ⟨92,0,[sB 83 (!r7),sB 82 (!r7),sB 81 r7,sI 80 (IntKind.wrap .i64 ((x0.Ls.length : Int) - 1)),sI 79 (x0.Ls.length : Int),sC 78 (cF 4 x0.Ls Link.row),sA 77 1 3 1,sI 76 v6.Link,sA 75 10 7 0,sA 10 10 7 0,sV 74 (Say.row v6),(73,.fad ((Say.row v6))),sB 72 (decide (y3 < (x0.Said.length : Int))),sI 71 y3,sI 70 (x0.Said.length : Int),sC 69 (cF 7 x0.Said Say.row),sB 2 false,sA 1 1 3 0],[(10,(Say.row v6)),(1,(CV.frzRow (Net.row x0)))]⟩ ?_
    cases h4 : (!r7)
    ·have H := zG h4 H
     refine lA 2 ?_
     obtain ⟨r8,er8,H⟩ := bs H
     refine vA [.rd] (zCK n v6.V r8 er8) ?_
     refine uA 2 0x1ffffe00000000000000406 1026 ?_
     obtain ⟨h5,H⟩ | ⟨h5,H⟩ := bC H
     ·refine nA h5 ?_
      refine tK ?_
      refine eA 2 0x3ffffe00000000000000406 1026 ?_
      exact jB mo5 (IntKind.wrap .i64 (y3 + 1)) H [71,70,69,2,1] [1]
     refine tA h5 ?_
     refine gA 1 0x1ffffe00000000000000406 1026 ?_
     refine te ?_
     obtain rfl := si H
     have H := Ho5
     dsimp only at H
     exact fF H
    have H := zH h4 H
    refine uA 5 0x1ffffe00000000000000406 1026 ?_
    refine tB_ ?_
    refine gA 1 0x1ffffe00000000000000406 1026 ?_
    refine te ?_
    obtain rfl := si H
    have H := Ho5
    dsimp only at H
    exact fF H
   rintro _ H
   have H : (J3 n x0) = some r := H
   unfold J3 at H
   refine rA 1 ?_
   obtain ⟨r4,er4,H⟩ := bs H
   refine vA [.rd] (zKb n x0 r4 er4) ?_
   refine uA 1 4 0 ?_
   exact te (fJ [(false,[cB r4])] H)
  refine tA h2 ?_
  refine gA 1 6 2 ?_
  exact te (fF H)
 have H := zH h1 H
 refine uA 5 2097158 2 ?_
 refine tB_ ?_
 refine gA 1 6 2 ?_
 exact te (fF H)
def Zt (n : Nat) (x0 : Net) (x1 : Int) : Option (Bool) :=
  ((zw n x1 0 (IntKind.wrap .i64 ((x0.Ls.length : Int) - 1))).bind fun r1 => (bif (!r1) then (some false) else ((idx x0.Ls x1).bind fun v2 => ((idx x0.Ls x1).bind fun v3 => ((Zu n x0 v2.A v3.P).bind fun r4 => ((idx x0.Ls x1).bind fun v5 => ((idx x0.Ls x1).bind fun v6 => ((Zu n x0 v5.B v6.Q).bind fun r7 => (bif r4.2 then (bif r7.2 then (bif r4.1.Up then (some r7.1.Up) else (some false)) else (some false)) else (some false))))))))))
def zO3 : Tab := ⟨20,[0,0,2,0,12,16,32,0,128,0,768,1024,2048,4161,8192,16384,16384,0,196607,524287],[0,0,2,0,12,16,32,0,128,0,768,1024,2048,4161,8192,16384,16384,0,163840,65536],[0,0,2,0,14,30,62,0,128,0,896,1920,3968,8191,16383,32767,32767,0,196607,524287]⟩
theorem Qm : zf (rg Tryz.f62 3) zO3 = true := kr
def zO4 : Tab := ⟨20,[0,0,2,0,12,16,32,0,128,0,768,1024,2048,4161,8192,16384,16384,0,196607,524287],[0,0,2,0,12,16,32,0,128,0,768,1024,2048,4161,8192,16384,16384,0,163840,65536],[0,0,2,0,14,30,62,0,128,0,896,1920,3968,8191,16383,32767,32767,0,196607,524287]⟩
theorem Qn : zf (rg Tryz.f62 4) zO4 = true := kr
theorem zEc (n : Nat) (x0 : Net) (x1 : Int) (r : Bool) (H : Zt n x0 x1 = some r) : zD Tryz.prog 62 [.val true (CV.frzRow (Net.row x0)),.val false [.lit (.int .i64 x1)]] [.val false [.lit (.bool r)]] [] := by
 refine cW Tryz.func62 (fun g d => sl [g 0,sl [g 1] (cn 15 (sl [g 2] .ret) .skip),d 3,d 4,g 5] .ret) [.tmp 4] fun cx => ?_
 unfold Zt at H
 refine gA 2 6 4 ?_
 refine tS ?_
 refine rA 3 ?_
 refine kF x0.Ls Link.row ?_
 refine lA 1 ?_
 obtain ⟨r1,er1,H⟩ := bs H
 refine vA [.rd,.rd,.rd] (z3 n x1 0 (IntKind.wrap .i64 ((x0.Ls.length : Int) - 1)) r1 er1) ?_
 refine uA 1 32774 4 ?_
 obtain ⟨h1,H⟩ | ⟨h1,H⟩ := bC H
 ·refine nA h1 ?_
  refine tK ?_
  obtain ⟨v2,ev2,H⟩ := bs H
  obtain ⟨v3,ev3,H⟩ := bs H
  obtain ⟨r4,er4,H⟩ := bs H
  refine Tr.draws mixed 20 kr ⟨62,0,[sB 6 r4.2,sA 5 5 8 0,sA 2 2 3 0,sI 1 x1],[(5,(Pt.row r4.1)),(2,(CV.frzRow (Net.row x0)))]⟩ (fun cx => ?_) ?_
  ·refine mA Qm [(0,[13,18]),(1,[]),(2,[13,18]),(3,[])] 16 [⟨[13,18],64,18,19⟩,⟨[13,18],67,2,17⟩] fun cx => ?_
   refine iN Qm 4 Link.row ev2 fun cx => ?_
   refine mA Qm [(5,[]),(6,[]),(7,[]),(8,[13,18]),(9,[])] 10 [⟨[13,18],64,24,25⟩,⟨[13,18],64,18,19⟩,⟨[13,18],67,2,17⟩] fun cx => ?_
   refine iN Qm 10 Link.row ev3 fun cx => ?_
   refine mA Qm [(11,[]),(12,[])] 7 [⟨[13,18],64,24,25⟩,⟨[13,18],64,18,19⟩,⟨[13,18],67,2,17⟩] fun cx => ?_
   refine mB2 tOk Qm 13 17 kr (And.intro kr ?_) (And.intro kr ?_)
   ·refine vA [.rd,.rd,.rd] (zAK n x0 v2.A v3.P r4 er4) ?_
    refine fA ?_
    refine AT.movT tOk 14 (ty := 189) (t := 30) (d := 16) (g := none) [(true,(Pt.row r4.1)),(false,[cB r4.2])] _ kr (oM Qm kr) (dM Qm kr) (.inl rfl) kr kr kr kr rfl (fun cx => ?_)
    refine mA Qm [(15,[]),(16,[])] 3 [⟨[13,18],64,24,25⟩,⟨[13,18],64,18,19⟩,⟨[13,18],67,2,17⟩] fun cx => ?_
    refine mC Qm 17 ?_
    refine lA 1 ?_
    refine fA ?_
    refine mC Qm 18 ?_
    refine lA 1 ?_
    refine fA ?_
    refine mA Qm [(19,[])] 0 [⟨[13,18],64,24,25⟩,⟨[13,18],64,18,19⟩,⟨[13,18],67,2,17⟩] fun cx => ?_
    exact mE Qm [6,5,2,1] [5,2]
   ·refine lA 1 ?_
    refine fA ?_
    refine mC Qm 13 ?_
    refine vA [.rd,.rd,.rd] (zAK n x0 v2.A v3.P r4 er4) ?_
    refine fA ?_
    refine AT.movT tOk 14 (ty := 189) (t := 30) (d := 16) (g := none) [(true,(Pt.row r4.1)),(false,[cB r4.2])] _ kr (oM Qm kr) (dM Qm kr) (.inl rfl) kr kr kr kr rfl (fun cx => ?_)
    refine mA Qm [(15,[]),(16,[])] 2 [⟨[13,18],64,24,25⟩,⟨[13,18],64,18,19⟩,⟨[13,18],67,2,17⟩] fun cx => ?_
    refine mC Qm 18 ?_
    refine lA 1 ?_
    refine fA ?_
    refine mA Qm [(19,[])] 0 [⟨[13,18],64,24,25⟩,⟨[13,18],64,18,19⟩,⟨[13,18],67,2,17⟩] fun cx => ?_
    exact mE Qm [6,5,2,1] [5,2]
  obtain ⟨v5,ev5,H⟩ := bs H
  obtain ⟨v6,ev6,H⟩ := bs H
  obtain ⟨r7,er7,H⟩ := bs H
  refine Tr.draws mixed 20 kr ⟨62,0,[sB 8 r7.2,sA 7 7 8 0,sB 6 r4.2,sA 5 5 8 0],[(7,(Pt.row r7.1)),(5,(Pt.row r4.1))]⟩ (fun cx => ?_) ?_
  ·refine mA Qn [(0,[13,18]),(1,[]),(2,[13,18]),(3,[])] 16 [⟨[13,18],64,35,36⟩,⟨[13,18],67,2,34⟩] fun cx => ?_
   refine iN Qn 4 Link.row ev5 fun cx => ?_
   refine mA Qn [(5,[]),(6,[]),(7,[]),(8,[13,18]),(9,[])] 10 [⟨[13,18],64,41,42⟩,⟨[13,18],64,35,36⟩,⟨[13,18],67,2,34⟩] fun cx => ?_
   refine iN Qn 10 Link.row ev6 fun cx => ?_
   refine mA Qn [(11,[]),(12,[])] 7 [⟨[13,18],64,41,42⟩,⟨[13,18],64,35,36⟩,⟨[13,18],67,2,34⟩] fun cx => ?_
   refine mB2 tOk Qn 13 17 kr (And.intro kr ?_) (And.intro kr ?_)
   ·refine vA [.rd,.rd,.rd] (zAK n x0 v5.B v6.Q r7 er7) ?_
    refine fA ?_
    refine AT.movT tOk 14 (ty := 189) (t := 47) (d := 33) (g := none) [(true,(Pt.row r7.1)),(false,[cB r7.2])] _ kr (oM Qn kr) (dM Qn kr) (.inl rfl) kr kr kr kr rfl (fun cx => ?_)
    refine mA Qn [(15,[]),(16,[])] 3 [⟨[13,18],64,41,42⟩,⟨[13,18],64,35,36⟩,⟨[13,18],67,2,34⟩] fun cx => ?_
    refine mC Qn 17 ?_
    refine lA 1 ?_
    refine fA ?_
    refine mC Qn 18 ?_
    refine lA 1 ?_
    refine fA ?_
    refine mA Qn [(19,[])] 0 [⟨[13,18],64,41,42⟩,⟨[13,18],64,35,36⟩,⟨[13,18],67,2,34⟩] fun cx => ?_
    exact mE Qn [8,7,6,5] [7,5]
   ·refine lA 1 ?_
    refine fA ?_
    refine mC Qn 13 ?_
    refine vA [.rd,.rd,.rd] (zAK n x0 v5.B v6.Q r7 er7) ?_
    refine fA ?_
    refine AT.movT tOk 14 (ty := 189) (t := 47) (d := 33) (g := none) [(true,(Pt.row r7.1)),(false,[cB r7.2])] _ kr (oM Qn kr) (dM Qn kr) (.inl rfl) kr kr kr kr rfl (fun cx => ?_)
    refine mA Qn [(15,[]),(16,[])] 2 [⟨[13,18],64,41,42⟩,⟨[13,18],64,35,36⟩,⟨[13,18],67,2,34⟩] fun cx => ?_
    refine mC Qn 18 ?_
    refine lA 1 ?_
    refine fA ?_
    refine mA Qn [(19,[])] 0 [⟨[13,18],64,41,42⟩,⟨[13,18],64,35,36⟩,⟨[13,18],67,2,34⟩] fun cx => ?_
    exact mE Qn [8,7,6,5] [7,5]
  refine rA 2 ?_
  refine sL 0x80000000001a0 160 ⟨62,0,[sB 51 r4.2,sB 8 r7.2,sA 7 7 8 0,sA 5 5 8 0],[(7,(Pt.row r7.1)),(5,(Pt.row r4.1))]⟩ ?_
  cases h2 : r4.2
  ·have H := zG h2 H
   refine uA 11 16 0 ?_
   exact te (fF H)
  have H := zH h2 H
  refine lA 3 ?_
  refine sL 0x400000000000a0 160 ⟨62,0,[sB 54 r7.2,sA 7 7 8 0,sA 5 5 8 0],[(7,(Pt.row r7.1)),(5,(Pt.row r4.1))]⟩ ?_
  cases h3 : r7.2
  ·have H := zG h3 H
   refine uA 8 16 0 ?_
   exact te (fF H)
  have H := zH h3 H
  refine lA 4 ?_
  refine sL 0x400000000000080 128 ⟨62,0,[sB 58 r4.1.Up,sA 7 7 8 0],[(7,(Pt.row r7.1))]⟩ ?_
  cases h4 : r4.1.Up
  ·have H := zG h4 H
   refine uA 4 16 0 ?_
   exact te (fF H)
  have H := zH h4 H
  refine uA 4 16 0 ?_
  exact te (fJ [(false,[cB r7.1.Up])] H)
 refine tA h1 ?_
 refine gA 1 16 0 ?_
 exact te (fF H)
def zBl (n : Nat) (x0 : Vec) (x1 : Int) : Option (Vec × Bool) :=
  ((Q5 n x0).bind fun r1 => (bif (!r1) then (some (x0,false)) else ((zw n x1 1 1000).bind fun r2 => (bif (!r2) then (some (x0,false)) else ((Q5 n (⟨x0.Root,(IntKind.wrap .i64 (x0.Co + x1)),(IntKind.wrap .i64 (x0.Hops + 1)),x0.Bridge,x0.Port⟩ : Vec)).bind fun r3 => (bif (!r3) then (some (x0,false)) else (some ((⟨x0.Root,(IntKind.wrap .i64 (x0.Co + x1)),(IntKind.wrap .i64 (x0.Hops + 1)),x0.Bridge,x0.Port⟩ : Vec),true))))))))
theorem zKY (n : Nat) (x0 : Vec) (x1 : Int) (r : Vec × Bool) (H : zBl n x0 x1 = some r) : zD Tryz.prog 249 [.val true (CV.frzRow (Vec.row x0)),.val false [.lit (.int .i64 x1)]] [.val true (Vec.row r.1),.val false [.lit (.bool r.2)]] [] := by
 refine cW Tryz.func249 (fun g d => sl [g 0,sl [g 1] (cn 14 (sl [g 2] .ret) .skip),g 3,g 4,g 5,sl [g 6] (cn 28 (sl [g 7] .ret) .skip),g 8] .ret) [.cell 4 165,.tmp 5] fun cx => ?_
 unfold zBl at H
 refine gA 3 22 20 ?_
 refine tS ?_
 refine rA 1 ?_
 obtain ⟨r1,er1,H⟩ := bs H
 refine vA [.rd] (zCK n x0 r1 er1) ?_
 refine lA 2 ?_
 refine sL 1046 20 ⟨31,0,[sB 10 (!r1),sA 4 4 5 0,sA 2 2 5 0,sI 1 x1],[(4,[cI 0,cI 0,cI 0,cI 0,cI 0]),(2,(Vec.row x0))]⟩ ?_
 cases h1 : (!r1)
 ·have H := zG h1 H
  refine lA 1 ?_
  obtain ⟨r2,er2,H⟩ := bs H
  refine vA [.rd,.rd,.rd] (z3 n x1 1 1000 r2 er2) ?_
  refine uA 2 16406 20 ?_
  obtain ⟨h2,H⟩ | ⟨h2,H⟩ := bC H
  ·refine nA h2 ?_
   refine tK ?_
   refine gA 3 86 84 ?_
   refine gA 6 84 84 ?_
   refine gA 5 84 84 ?_
   refine tS ?_
   refine rA 1 ?_
   obtain ⟨r3,er3,H⟩ := bs H
   refine vA [.rd] (zCK n (⟨x0.Root,(IntKind.wrap .i64 (x0.Co + x1)),(IntKind.wrap .i64 (x0.Hops + 1)),x0.Bridge,x0.Port⟩ : Vec) r3 er3) ?_
   refine uA 1 268435540 84 ?_
   obtain ⟨h3,H⟩ | ⟨h3,H⟩ := bC H
   ·refine nA h3 ?_
    refine tK ?_
    refine gA 3 48 16 ?_
    exact te (fJ [(true,[cI x0.Root,cI (IntKind.wrap .i64 (x0.Co + x1)),cI (IntKind.wrap .i64 (x0.Hops + 1)),cI x0.Bridge,cI x0.Port]),(false,[cB true])] H)
   refine tA h3 ?_
   refine gA 3 48 16 ?_
   exact te (fJ [(true,(Vec.row x0)),(false,[cB false])] H)
  refine tA h2 ?_
  refine gA 3 48 16 ?_
  exact te (fJ [(true,(Vec.row x0)),(false,[cB false])] H)
 have H := zH h1 H
 refine uA 4 16406 20 ?_
 refine tB_ ?_
 refine gA 3 48 16 ?_
 exact te (fJ [(true,(Vec.row x0)),(false,[cB false])] H)
def J2 (n : Nat) (x0 : Vec) (x1 : Vec) : Option (Bool) :=
  (bif (x0.Root != x1.Root) then (some (decide (x0.Root < x1.Root))) else (bif (x0.Co != x1.Co) then (some (decide (x0.Co < x1.Co))) else (bif (x0.Bridge != x1.Bridge) then (some (decide (x0.Bridge < x1.Bridge))) else (some (decide (x0.Port < x1.Port))))))
theorem zFq (n : Nat) (x0 : Vec) (x1 : Vec) (r : Bool) (H : J2 n x0 x1 = some r) : zD Tryz.prog 218 [.val true (CV.frzRow (Vec.row x0)),.val true (CV.frzRow (Vec.row x1))] [.val false [.lit (.bool r)]] [] := by
 refine cW Tryz.func218 (fun g d => sl [g 0,.block 0 (sl [g 1] (cn 5 (sl [g 2] .ret) (sl [g 3] (cn 16 (sl [g 4] .ret) (sl [g 5] (cn 27 (sl [g 6] .ret) .skip)))))),g 7] .ret) [.tmp 4] fun cx => ?_
 unfold J2 at H
 refine gA 3 12 12 ?_
 refine tS ?_
 refine tB ?_
 refine gA 6 44 12 ?_
 obtain ⟨h1,H⟩ | ⟨h1,H⟩ := bC H
 ·refine nA h1 ?_
  refine gA 6 65548 12 ?_
  obtain ⟨h2,H⟩ | ⟨h2,H⟩ := bC H
  ·refine nA h2 ?_
   refine gA 6 134217740 12 ?_
   obtain ⟨h3,H⟩ | ⟨h3,H⟩ := bC H
   ·refine nA h3 ?_
    refine tK ?_
    refine gA 6 16 0 ?_
    exact te (fJ [(false,[cB (decide (x0.Port < x1.Port))])] H)
   refine tA h3 ?_
   refine gA 6 16 0 ?_
   exact te (fJ [(false,[cB (decide (x0.Bridge < x1.Bridge))])] H)
  refine tA h2 ?_
  refine gA 6 16 0 ?_
  exact te (fJ [(false,[cB (decide (x0.Co < x1.Co))])] H)
 refine tA h1 ?_
 refine gA 6 16 0 ?_
 exact te (fJ [(false,[cB (decide (x0.Root < x1.Root))])] H)
def zAR (n : Nat) (x0 : Int) (y11 : Int) (y12 : Int) (y13 : Int) (y14 : Int) : Option (Vec × Int) :=
  (some ((⟨y12,y13,y14,x0,0⟩ : Vec),y11))
def Zq (n : Nat) (k : (Int × Int × Int × Int × Int × Int × Int × Int × Int × Int → Option ((Int × Int × Int × Int) ⊕ (Vec × Int)))) (r17 : Vec × Bool) (y1 : Int) (y10 : Int) (y2 : Int) (y3 : Int) (y4 : Int) (y5 : Int) (y6 : Int) (y7 : Int) (y8 : Int) (y9 : Int) (y18 : Bool) (y19 : Bool) (y20 : Bool) (y21 : Bool) (y22 : Bool) (y23 : Bool) (y24 : Bool) : Option ((Int × Int × Int × Int) ⊕ (Vec × Int)) :=
  (bif y18 then (k ((IntKind.wrap .i64 (y1 + 1)),y1,r17.1.Root,r17.1.Co,r17.1.Hops,r17.1.Bridge,r17.1.Port,r17.1.Root,r17.1.Co,r17.1.Hops)) else (k ((IntKind.wrap .i64 (y1 + 1)),y2,y3,y4,y5,y6,y7,y8,y9,y10)))
def qD (n : Nat) : Nat → Int → (List Pt) → Int → Int → Int → Int → Int → Int → Int → Int → Int → Int → Option ((Int × Int × Int × Int) ⊕ (Vec × Int))
  | 0,_,_,_,_,_,_,_,_,_,_,_,_ => none
  | mo15 + 1,x0,x1,y1,y2,y3,y4,y5,y6,y7,y8,y9,y10 => (bif (decide (y1 < (x1.length : Int))) then ((idx x1 y1).bind fun v16 => (bif (!v16.Up) then (qD n mo15 x0 x1 (IntKind.wrap .i64 (y1 + 1)) y2 y3 y4 y5 y6 y7 y8 y9 y10) else (bif (!v16.Has) then (qD n mo15 x0 x1 (IntKind.wrap .i64 (y1 + 1)) y2 y3 y4 y5 y6 y7 y8 y9 y10) else ((zBl n v16.Hd v16.Co).bind fun r17 => (bif r17.2 then (bif (decide (r17.1.Root < x0)) then (bif (decide (y2 < 0)) then (Zq n (fun v => qD n mo15 x0 x1 v.1 v.2.1 v.2.2.1 v.2.2.2.1 v.2.2.2.2.1 v.2.2.2.2.2.1 v.2.2.2.2.2.2.1 v.2.2.2.2.2.2.2.1 v.2.2.2.2.2.2.2.2.1 v.2.2.2.2.2.2.2.2.2) r17 y1 y10 y2 y3 y4 y5 y6 y7 y8 y9 true true true true true true true) else ((J2 n r17.1 (⟨y3,y4,y5,y6,y7⟩ : Vec)).bind fun r25 => (Zq n (fun v => qD n mo15 x0 x1 v.1 v.2.1 v.2.2.1 v.2.2.2.1 v.2.2.2.2.1 v.2.2.2.2.2.1 v.2.2.2.2.2.2.1 v.2.2.2.2.2.2.2.1 v.2.2.2.2.2.2.2.2.1 v.2.2.2.2.2.2.2.2.2) r17 y1 y10 y2 y3 y4 y5 y6 y7 y8 y9 r25 true true true true true true))) else (Zq n (fun v => qD n mo15 x0 x1 v.1 v.2.1 v.2.2.1 v.2.2.2.1 v.2.2.2.2.1 v.2.2.2.2.2.1 v.2.2.2.2.2.2.1 v.2.2.2.2.2.2.2.1 v.2.2.2.2.2.2.2.2.1 v.2.2.2.2.2.2.2.2.2) r17 y1 y10 y2 y3 y4 y5 y6 y7 y8 y9 false false false true true true true)) else (Zq n (fun v => qD n mo15 x0 x1 v.1 v.2.1 v.2.2.1 v.2.2.2.1 v.2.2.2.2.1 v.2.2.2.2.2.1 v.2.2.2.2.2.2.1 v.2.2.2.2.2.2.2.1 v.2.2.2.2.2.2.2.2.1 v.2.2.2.2.2.2.2.2.2) r17 y1 y10 y2 y3 y4 y5 y6 y7 y8 y9 false false false false false false false)))))) else (some (Sum.inl (y2,y8,y9,y10))))
def Yb (n : Nat) (x0 : Int) (x1 : (List Pt)) : Option (Vec × Int) :=
  ((qD n n x0 x1 0 (-1) 0 0 0 0 0 x0 0 0).bind fun o => match o with | .inl (y11,y12,y13,y14) => (zAR n x0 y11 y12 y13 y14) | .inr r => some r)
theorem zFo (n : Nat) (x0 : Int) (x1 : (List Pt)) (r : Vec × Int) (H : Yb n x0 x1 = some r) : zD Tryz.prog 217 [.val false [.lit (.int .i64 x0)],.val false [.sl false 8 (CV.frzEs (x1.map Pt.row))]] [.val true (Vec.row r.1),.val false [.lit (.int .i64 r.2)]] [] := by
 refine cW Tryz.func217 (fun g d => sl [g 0,g 1,g 2,sl [g 3] (.block 0 (.loop (sl [g 4,cn 19 .skip (.exit 0),.block 1 (sl [g 5,sl [g 6] (cn 30 (.exit 1) .skip),g 7,g 8] (cn 54 (sl [g 9] (g 10)) .skip))] (g 11)))),g 12] .ret) [.cell 4 165,.tmp 5] fun cx => ?_
 unfold Yb at H
 refine gA 2 51 16 ?_
 refine gA 6 243 80 ?_
 refine gA 1 499 336 ?_
 refine tS ?_
 refine rA 1 ?_
 refine kF x1 Pt.row ?_
 refine uA 1 459249 336 ?_
 obtain ⟨o15,eo15,Ho15⟩ := bs H
 clear H
 refine Tr.mid (ι := Int × Int × Int × Int) (fun v => ⟨68,0,[sI 7 v.1,sA 6 6 5 0,sI 5 0,sA 4 4 5 0],[(6,[cI v.2.1,cI v.2.2.1,cI v.2.2.2,cI x0,cI 0]),(4,[cI 0,cI 0,cI 0,cI 0,cI 0])]⟩) (fun v => zAR n x0 v.1 v.2.1 v.2.2.1 v.2.2.2 = some r) ?_ ?_
 ·refine tB ?_
  refine Tr.loop (ι := Nat × (Int × Int × Int × Int × Int × Int × Int × Int × Int × Int)) (fun v => ⟨68,0,[sI 18 v.2.1,sI 17 (x1.length : Int),sC 16 (cF 8 x1 Pt.row),sA 8 8 5 0,sI 7 v.2.2.1,sA 6 6 5 0,sI 5 0,sA 4 4 5 0,sI 0 x0],[(8,[cI v.2.2.2.1,cI v.2.2.2.2.1,cI v.2.2.2.2.2.1,cI v.2.2.2.2.2.2.1,cI v.2.2.2.2.2.2.2.1]),(6,[cI v.2.2.2.2.2.2.2.2.1,cI v.2.2.2.2.2.2.2.2.2.1,cI v.2.2.2.2.2.2.2.2.2.2,cI x0,cI 0]),(4,[cI 0,cI 0,cI 0,cI 0,cI 0])]⟩) (fun v => qD n v.1 x0 x1 v.2.1 v.2.2.1 v.2.2.2.1 v.2.2.2.2.1 v.2.2.2.2.2.1 v.2.2.2.2.2.2.1 v.2.2.2.2.2.2.2.1 v.2.2.2.2.2.2.2.2.1 v.2.2.2.2.2.2.2.2.2.1 v.2.2.2.2.2.2.2.2.2.2 = some o15) (fun v => v.1) (n,(0,(-1),0,0,0,0,0,x0,0,0)) eo15 (St.sub_of [18,17,16,8,7,6,5,4,0] [8,6,4] kr) ?_
  rintro ⟨mo15,y1,y2,y3,y4,y5,y6,y7,y8,y9,y10⟩ H
  have H : qD n mo15 x0 x1 y1 y2 y3 y4 y5 y6 y7 y8 y9 y10 = some o15 := H
  obtain _ | mo15 := mo15
  ·exact nN H
  rw [qD] at H
  refine gA 1 983537 336 ?_
  refine tS ?_
  obtain ⟨h1,H⟩ | ⟨h1,H⟩ := bC H
  ·refine nA h1 ?_
   refine Tr.exit ?_
   refine aJ ?_
   obtain rfl := si H
   have H := Ho15
   dsimp only at H
   exact jA (y2,y8,y9,y10) H [7,6,5,4] [6,4]
  refine tA h1 ?_
  refine tK ?_
  refine tS ?_
  refine tB ?_
  refine rA 1 ?_
  obtain ⟨v16,ev16,H⟩ := bs H
  refine iA Pt.row ev16 ?_
  refine uA 4 8325105 1360 ?_
  refine tS ?_
  refine rA 4 ?_
  refine sL 134154225 1360 ⟨68,0,[sB 26 (!v16.Up),sB 25 (!v16.Up),sB 24 v16.Up,sA 23 10 8 0,sI 9 y1,sA 10 10 8 0,sV 22 (Pt.row v16),(21,.fad ((Pt.row v16))),sI 20 y1,sB 19 (decide (y1 < (x1.length : Int))),sI 18 y1,sI 17 (x1.length : Int),sC 16 (cF 8 x1 Pt.row),sA 8 8 5 0,sI 7 y2,sA 6 6 5 0,sI 5 0,sA 4 4 5 0,sI 0 x0],[(10,(Pt.row v16)),(8,[cI y3,cI y4,cI y5,cI y6,cI y7]),(6,[cI y8,cI y9,cI y10,cI x0,cI 0]),(4,[cI 0,cI 0,cI 0,cI 0,cI 0])]⟩ ?_
  cases h2 : (!v16.Up)
  ·have H := zG h2 H
   refine uA 4 2147420145 1360 ?_
   obtain ⟨h3,H⟩ | ⟨h3,H⟩ := bC H
   ·refine nA h3 ?_
    refine tK ?_
    refine rA 4 ?_
    obtain ⟨r17,er17,H⟩ := bs H
    refine vA [.rd,.rd] (zKY n v16.Hd v16.Co r17 er17) ?_
    refine LAt.movT tOk (ty := 255) (t := 36) (d := 31) (g := none) [(true,(Vec.row r17.1)),(false,[cB r17.2])] _ kr (.inl rfl) kr kr kr kr rfl ?_
    refine uA 5 481036279793 3408 ?_
    refine tS ?_
    refine Tr.mid (ι := Bool × Bool × Bool × Bool × Bool × Bool × Bool) (fun v => ⟨68,0,[sB 54 v.1,sB 46 v.2.1,sB 45 v.2.2.1,sB 40 v.2.2.2.1,sB 39 v.2.2.2.2.1,sB 12 v.2.2.2.2.2.1,sA 11 11 5 0,sB 38 v.2.2.2.2.2.2,(31,.tup [(true,[.dead,.dead,.dead,.dead,.dead]),(false,[.dead])]),sV 37 (Vec.row r17.1),sI 35 v16.Co,sA 34 10 8 1,sV 33 ((Pt.row v16).drop 3),sA 32 10 8 3,sB 30 false,sB 29 false,sB 28 v16.Has,sA 27 10 8 2,sB 26 false,sB 25 false,sB 24 v16.Up,sA 23 10 8 0,sI 9 y1,sA 10 10 8 0,sV 22 (Pt.row v16),(21,.fad ((Pt.row v16))),sI 20 y1,sB 19 true,sI 18 y1,sI 17 (x1.length : Int),sC 16 (cF 8 x1 Pt.row),sA 8 8 5 0,sI 7 y2,sA 6 6 5 0,sI 5 0,sA 4 4 5 0,sI 0 x0],[(11,(Vec.row r17.1)),(10,(Pt.row v16)),(8,[cI y3,cI y4,cI y5,cI y6,cI y7]),(6,[cI y8,cI y9,cI y10,cI x0,cI 0]),(4,[cI 0,cI 0,cI 0,cI 0,cI 0])]⟩) (fun v => Zq n (fun v => qD n mo15 x0 x1 v.1 v.2.1 v.2.2.1 v.2.2.2.1 v.2.2.2.2.1 v.2.2.2.2.2.1 v.2.2.2.2.2.2.1 v.2.2.2.2.2.2.2.1 v.2.2.2.2.2.2.2.2.1 v.2.2.2.2.2.2.2.2.2) r17 y1 y10 y2 y3 y4 y5 y6 y7 y8 y9 v.1 v.2.1 v.2.2.1 v.2.2.2.1 v.2.2.2.2.1 v.2.2.2.2.2.1 v.2.2.2.2.2.2 = some o15) ?_ ?_
    ·refine Tr.at ?_
     refine lA 2 ?_
     refine sL 2130303721457 3408 ⟨68,0,[sB 40 r17.2,sB 39 r17.2,sB 12 r17.2,sA 11 11 5 0,sB 38 r17.2,(31,.tup [(true,[.dead,.dead,.dead,.dead,.dead]),(false,[.dead])]),sV 37 (Vec.row r17.1),sI 35 v16.Co,sA 34 10 8 1,sV 33 ((Pt.row v16).drop 3),sA 32 10 8 3,sB 30 (!v16.Has),sB 29 (!v16.Has),sB 28 v16.Has,sA 27 10 8 2,sB 26 false,sB 25 false,sB 24 v16.Up,sA 23 10 8 0,sI 9 y1,sA 10 10 8 0,sV 22 (Pt.row v16),(21,.fad ((Pt.row v16))),sI 20 y1,sB 19 (decide (y1 < (x1.length : Int))),sI 18 y1,sI 17 (x1.length : Int),sC 16 (cF 8 x1 Pt.row),sA 8 8 5 0,sI 7 y2,sA 6 6 5 0,sI 5 0,sA 4 4 5 0,sI 0 x0],[(11,(Vec.row r17.1)),(10,(Pt.row v16)),(8,[cI y3,cI y4,cI y5,cI y6,cI y7]),(6,[cI y8,cI y9,cI y10,cI x0,cI 0]),(4,[cI 0,cI 0,cI 0,cI 0,cI 0])]⟩ ?_
     cases h5 : r17.2
     ·have H := zG h5 H
      refine uA 14 0x7fffefffff1ff1 3408 ?_
      refine sB' 0x7fffefffff1ff1 3408 ⟨68,0,[sB 54 false,(53,.tup []),(52,.tup []),(51,.tup []),(50,.tup []),(49,.tup []),(48,.tup []),(47,.tup []),sB 46 false,sB 45 false,(44,.tup []),(43,.tup []),(42,.tup []),(41,.tup []),sB 40 false,sB 39 false,sB 12 false,sA 11 11 5 0,sB 38 false,(31,.tup [(true,[.dead,.dead,.dead,.dead,.dead]),(false,[.dead])]),sV 37 (Vec.row r17.1),sI 35 v16.Co,sA 34 10 8 1,sV 33 ((Pt.row v16).drop 3),sA 32 10 8 3,sB 30 (!v16.Has),sB 29 (!v16.Has),sB 28 v16.Has,sA 27 10 8 2,sB 26 false,sB 25 false,sB 24 v16.Up,sA 23 10 8 0,sI 9 y1,sA 10 10 8 0,sV 22 (Pt.row v16),(21,.fad ((Pt.row v16))),sI 20 y1,sB 19 (decide (y1 < (x1.length : Int))),sI 18 y1,sI 17 (x1.length : Int),sC 16 (cF 8 x1 Pt.row),sA 8 8 5 0,sI 7 y2,sA 6 6 5 0,sI 5 0,sA 4 4 5 0,sI 0 x0],[(11,(Vec.row r17.1)),(10,(Pt.row v16)),(8,[cI y3,cI y4,cI y5,cI y6,cI y7]),(6,[cI y8,cI y9,cI y10,cI x0,cI 0]),(4,[cI 0,cI 0,cI 0,cI 0,cI 0])]⟩ ?_
      rw [h1]
      rw [h3]
      exact jA (false,false,false,false,false,false,false) H [54,46,45,40,39,12,11,38,31,37,35,34,33,32,30,29,28,27,26,25,24,23,9,10,22,21,20,19,18,17,16,8,7,6,5,4,0] [11,10,8,6,4]
     have H := zH h5 H
     refine lA 6 ?_
     refine sL 0x7fefffff1ff1 3408 ⟨68,0,[sB 46 (decide (r17.1.Root < x0)),sB 45 (decide (r17.1.Root < x0)),sB 44 (decide (r17.1.Root < x0)),sI 43 x0,sI 42 r17.1.Root,sA 41 11 5 0,sB 40 true,sB 39 true,sB 12 true,sA 11 11 5 0,sB 38 true,(31,.tup [(true,[.dead,.dead,.dead,.dead,.dead]),(false,[.dead])]),sV 37 (Vec.row r17.1),sI 35 v16.Co,sA 34 10 8 1,sV 33 ((Pt.row v16).drop 3),sA 32 10 8 3,sB 30 (!v16.Has),sB 29 (!v16.Has),sB 28 v16.Has,sA 27 10 8 2,sB 26 false,sB 25 false,sB 24 v16.Up,sA 23 10 8 0,sI 9 y1,sA 10 10 8 0,sV 22 (Pt.row v16),(21,.fad ((Pt.row v16))),sI 20 y1,sB 19 (decide (y1 < (x1.length : Int))),sI 18 y1,sI 17 (x1.length : Int),sC 16 (cF 8 x1 Pt.row),sA 8 8 5 0,sI 7 y2,sA 6 6 5 0,sI 5 0,sA 4 4 5 0,sI 0 x0],[(11,(Vec.row r17.1)),(10,(Pt.row v16)),(8,[cI y3,cI y4,cI y5,cI y6,cI y7]),(6,[cI y8,cI y9,cI y10,cI x0,cI 0]),(4,[cI 0,cI 0,cI 0,cI 0,cI 0])]⟩ ?_
     cases h6 : (decide (r17.1.Root < x0))
     ·have H := zG h6 H
      refine uA 8 0x7fffefffff1ff1 3408 ?_
      refine sB' 0x7fffefffff1ff1 3408 ⟨68,0,[sB 54 false,(53,.tup []),(52,.tup []),(51,.tup []),(50,.tup []),(49,.tup []),(48,.tup []),(47,.tup []),sB 46 false,sB 45 false,sB 44 false,sI 43 x0,sI 42 r17.1.Root,sA 41 11 5 0,sB 40 true,sB 39 true,sB 12 true,sA 11 11 5 0,sB 38 true,(31,.tup [(true,[.dead,.dead,.dead,.dead,.dead]),(false,[.dead])]),sV 37 (Vec.row r17.1),sI 35 v16.Co,sA 34 10 8 1,sV 33 ((Pt.row v16).drop 3),sA 32 10 8 3,sB 30 (!v16.Has),sB 29 (!v16.Has),sB 28 v16.Has,sA 27 10 8 2,sB 26 false,sB 25 false,sB 24 v16.Up,sA 23 10 8 0,sI 9 y1,sA 10 10 8 0,sV 22 (Pt.row v16),(21,.fad ((Pt.row v16))),sI 20 y1,sB 19 (decide (y1 < (x1.length : Int))),sI 18 y1,sI 17 (x1.length : Int),sC 16 (cF 8 x1 Pt.row),sA 8 8 5 0,sI 7 y2,sA 6 6 5 0,sI 5 0,sA 4 4 5 0,sI 0 x0],[(11,(Vec.row r17.1)),(10,(Pt.row v16)),(8,[cI y3,cI y4,cI y5,cI y6,cI y7]),(6,[cI y8,cI y9,cI y10,cI x0,cI 0]),(4,[cI 0,cI 0,cI 0,cI 0,cI 0])]⟩ ?_
      rw [h1]
      rw [h3]
      exact jA (false,false,false,true,true,true,true) H [54,46,45,40,39,12,11,38,31,37,35,34,33,32,30,29,28,27,26,25,24,23,9,10,22,21,20,19,18,17,16,8,7,6,5,4,0] [11,10,8,6,4]
     have H := zH h6 H
     refine lA 3 ?_
     refine sL 0x3ffefffff1ff1 3408 ⟨68,0,[sB 49 (decide (y2 < 0)),sB 48 (decide (y2 < 0)),sI 47 y2,sB 46 true,sB 45 true,sB 44 true,sI 43 x0,sI 42 r17.1.Root,sA 41 11 5 0,sB 40 true,sB 39 true,sB 12 true,sA 11 11 5 0,sB 38 true,(31,.tup [(true,[.dead,.dead,.dead,.dead,.dead]),(false,[.dead])]),sV 37 (Vec.row r17.1),sI 35 v16.Co,sA 34 10 8 1,sV 33 ((Pt.row v16).drop 3),sA 32 10 8 3,sB 30 (!v16.Has),sB 29 (!v16.Has),sB 28 v16.Has,sA 27 10 8 2,sB 26 false,sB 25 false,sB 24 v16.Up,sA 23 10 8 0,sI 9 y1,sA 10 10 8 0,sV 22 (Pt.row v16),(21,.fad ((Pt.row v16))),sI 20 y1,sB 19 (decide (y1 < (x1.length : Int))),sI 18 y1,sI 17 (x1.length : Int),sC 16 (cF 8 x1 Pt.row),sA 8 8 5 0,sI 7 y2,sA 6 6 5 0,sI 5 0,sA 4 4 5 0,sI 0 x0],[(11,(Vec.row r17.1)),(10,(Pt.row v16)),(8,[cI y3,cI y4,cI y5,cI y6,cI y7]),(6,[cI y8,cI y9,cI y10,cI x0,cI 0]),(4,[cI 0,cI 0,cI 0,cI 0,cI 0])]⟩ ?_
     cases h7 : (decide (y2 < 0))
     ·have H := zG h7 H
      refine lA 2 ?_
      obtain ⟨r25,er25,H⟩ := bs H
      refine vA [.rd,.rd] (zFq n r17.1 (⟨y3,y4,y5,y6,y7⟩ : Vec) r25 er25) ?_
      refine uA 2 0x7fffefffff1ff1 3408 ?_
      refine sB' 0x7fffefffff1ff1 3408 ⟨68,0,[sB 54 r25,sB 53 r25,sB 52 r25,sV 51 [cI y3,cI y4,cI y5,cI y6,cI y7],sV 50 (Vec.row r17.1),sB 49 false,sB 48 false,sI 47 y2,sB 46 true,sB 45 true,sB 44 true,sI 43 x0,sI 42 r17.1.Root,sA 41 11 5 0,sB 40 true,sB 39 true,sB 12 true,sA 11 11 5 0,sB 38 true,(31,.tup [(true,[.dead,.dead,.dead,.dead,.dead]),(false,[.dead])]),sV 37 (Vec.row r17.1),sI 35 v16.Co,sA 34 10 8 1,sV 33 ((Pt.row v16).drop 3),sA 32 10 8 3,sB 30 (!v16.Has),sB 29 (!v16.Has),sB 28 v16.Has,sA 27 10 8 2,sB 26 false,sB 25 false,sB 24 v16.Up,sA 23 10 8 0,sI 9 y1,sA 10 10 8 0,sV 22 (Pt.row v16),(21,.fad ((Pt.row v16))),sI 20 y1,sB 19 (decide (y1 < (x1.length : Int))),sI 18 y1,sI 17 (x1.length : Int),sC 16 (cF 8 x1 Pt.row),sA 8 8 5 0,sI 7 y2,sA 6 6 5 0,sI 5 0,sA 4 4 5 0,sI 0 x0],[(11,(Vec.row r17.1)),(10,(Pt.row v16)),(8,[cI y3,cI y4,cI y5,cI y6,cI y7]),(6,[cI y8,cI y9,cI y10,cI x0,cI 0]),(4,[cI 0,cI 0,cI 0,cI 0,cI 0])]⟩ ?_
      rw [h1]
      rw [h3]
      exact jA (r25,true,true,true,true,true,true) H [54,46,45,40,39,12,11,38,31,37,35,34,33,32,30,29,28,27,26,25,24,23,9,10,22,21,20,19,18,17,16,8,7,6,5,4,0] [11,10,8,6,4]
     have H := zH h7 H
     refine uA 5 0x7fffefffff1ff1 3408 ?_
     refine sB' 0x7fffefffff1ff1 3408 ⟨68,0,[sB 54 true,sB 53 true,(52,.tup []),(51,.tup []),(50,.tup []),sB 49 true,sB 48 true,sI 47 y2,sB 46 true,sB 45 true,sB 44 true,sI 43 x0,sI 42 r17.1.Root,sA 41 11 5 0,sB 40 true,sB 39 true,sB 12 true,sA 11 11 5 0,sB 38 true,(31,.tup [(true,[.dead,.dead,.dead,.dead,.dead]),(false,[.dead])]),sV 37 (Vec.row r17.1),sI 35 v16.Co,sA 34 10 8 1,sV 33 ((Pt.row v16).drop 3),sA 32 10 8 3,sB 30 (!v16.Has),sB 29 (!v16.Has),sB 28 v16.Has,sA 27 10 8 2,sB 26 false,sB 25 false,sB 24 v16.Up,sA 23 10 8 0,sI 9 y1,sA 10 10 8 0,sV 22 (Pt.row v16),(21,.fad ((Pt.row v16))),sI 20 y1,sB 19 (decide (y1 < (x1.length : Int))),sI 18 y1,sI 17 (x1.length : Int),sC 16 (cF 8 x1 Pt.row),sA 8 8 5 0,sI 7 y2,sA 6 6 5 0,sI 5 0,sA 4 4 5 0,sI 0 x0],[(11,(Vec.row r17.1)),(10,(Pt.row v16)),(8,[cI y3,cI y4,cI y5,cI y6,cI y7]),(6,[cI y8,cI y9,cI y10,cI x0,cI 0]),(4,[cI 0,cI 0,cI 0,cI 0,cI 0])]⟩ ?_
     rw [h1]
     rw [h3]
     exact jA (true,true,true,true,true,true,true) H [54,46,45,40,39,12,11,38,31,37,35,34,33,32,30,29,28,27,26,25,24,23,9,10,22,21,20,19,18,17,16,8,7,6,5,4,0] [11,10,8,6,4]
    rintro ⟨y18,y19,y20,y21,y22,y23,y24⟩ H
    have H : (Zq n (fun v => qD n mo15 x0 x1 v.1 v.2.1 v.2.2.1 v.2.2.2.1 v.2.2.2.2.1 v.2.2.2.2.2.1 v.2.2.2.2.2.2.1 v.2.2.2.2.2.2.2.1 v.2.2.2.2.2.2.2.2.1 v.2.2.2.2.2.2.2.2.2) r17 y1 y10 y2 y3 y4 y5 y6 y7 y8 y9 y18 y19 y20 y21 y22 y23 y24) = some o15 := H
    unfold Zq at H
    cases h4 : y18
    ·have H := zG h4 H
     refine nB_ ?_
     refine tK ?_
     refine eA 2 0x2004061efffff1ff1 3408 ?_
     exact jB mo15 ((IntKind.wrap .i64 (y1 + 1)),y2,y3,y4,y5,y6,y7,y8,y9,y10) H [18,17,16,8,7,6,5,4,0] [8,6,4]
    have H := zH h4 H
    refine tB_ ?_
    refine gA 4 0x1c061efffff1ff1 3408 ?_
    refine eA 9 0x1ffc061efffff1ff1 3408 ?_
    refine eA 2 0x3ffc061efffff1ff1 3408 ?_
    exact jB mo15 ((IntKind.wrap .i64 (y1 + 1)),y1,r17.1.Root,r17.1.Co,r17.1.Hops,r17.1.Bridge,r17.1.Port,r17.1.Root,r17.1.Co,r17.1.Hops) H [18,17,16,8,7,6,5,4,0] [8,6,4]
   refine tA h3 ?_
   refine Tr.exit ?_
   refine aJ ?_
   refine eA 2 0x2000000007fff07f1 1360 ?_
   exact jB mo15 ((IntKind.wrap .i64 (y1 + 1)),y2,y3,y4,y5,y6,y7,y8,y9,y10) H [18,17,16,8,7,6,5,4,0] [8,6,4]
  have H := zH h2 H
  refine uA 4 2147420145 1360 ?_
  refine tB_ ?_
  refine Tr.exit ?_
  refine aJ ?_
  refine eA 2 0x2000000007fff07f1 1360 ?_
  exact jB mo15 ((IntKind.wrap .i64 (y1 + 1)),y2,y3,y4,y5,y6,y7,y8,y9,y10) H [18,17,16,8,7,6,5,4,0] [8,6,4]
 rintro ⟨y11,y12,y13,y14⟩ H
 have H : (zAR n x0 y11 y12 y13 y14) = some r := H
 unfold zAR at H
 refine gA 4 48 16 ?_
 exact te (fJ [(true,[cI y12,cI y13,cI y14,cI x0,cI 0]),(false,[cI y11])] H)
def JR (n : Nat) (x0 : Int) (x1 : (List Pt)) (x2 : Int) : Option (Vec) :=
  ((Yb n x0 x1).bind fun r1 => (some (⟨r1.1.Root,r1.1.Co,r1.1.Hops,r1.1.Bridge,x2⟩ : Vec)))
theorem zG6 (n : Nat) (x0 : Int) (x1 : (List Pt)) (x2 : Int) (r : Vec) (H : JR n x0 x1 x2 = some r) : zD Tryz.prog 219 [.val false [.lit (.int .i64 x0)],.val false [.sl false 8 (CV.frzEs (x1.map Pt.row))],.val false [.lit (.int .i64 x2)]] [.val true (Vec.row r)] [] := by
 refine cW Tryz.func219 (fun g d => sl [g 0,g 1,g 2,g 3] .ret) [.cell 6 165] fun cx => ?_
 unfold JR at H
 refine gA 1 71 64 ?_
 refine rA 2 ?_
 obtain ⟨r1,er1,H⟩ := bs H
 refine vA [.rd,.rd] (zFo n x0 x1 r1 er1) ?_
 refine LAt.movT tOk (ty := 233) (t := 12) (d := 9) (g := none) [(true,(Vec.row r1.1)),(false,[cI r1.2])] _ kr (.inl rfl) kr kr kr kr rfl ?_
 refine uA 5 196 192 ?_
 refine gA 3 192 192 ?_
 refine gA 2 64 64 ?_
 exact te (fJ [(true,[cI r1.1.Root,cI r1.1.Co,cI r1.1.Hops,cI r1.1.Bridge,cI x2])] H)
def zBC (n : Nat) (x0 : Net) (x1 : Int) (x2 : Int) : Option (Vec) :=
  ((idx x0.Bs x1).bind fun v1 => ((idx x0.Bs x1).bind fun v2 => ((JR n v1.Id v2.Ps x2).bind fun r3 => (some r3))))
def zOf : Tab := ⟨15,[0,1,0,6,8,16,0,64,0,384,512,1024,0,6176,16383],[0,1,0,6,8,16,0,64,0,384,512,1024,0,6176,8192],[0,1,0,7,15,31,0,64,0,448,960,1984,0,8191,16383]⟩
theorem zC9 : zf (rg Tryz.f200 1) zOf = true := kr
theorem zJi (n : Nat) (x0 : Net) (x1 : Int) (x2 : Int) (r : Vec) (H : zBC n x0 x1 x2 = some r) : zD Tryz.prog 200 [.val true (CV.frzRow (Net.row x0)),.val false [.lit (.int .i64 x1)],.val false [.lit (.int .i64 x2)]] [.val true (Vec.row r)] [] := by
 refine cW Tryz.func200 (fun g d => sl [g 0,d 1] .ret) [.cell 6 165] fun cx => ?_
 unfold zBC at H
 refine gA 2 78 72 ?_
 obtain ⟨v1,ev1,H⟩ := bs H
 obtain ⟨v2,ev2,H⟩ := bs H
 obtain ⟨r3,er3,H⟩ := bs H
 refine Tr.draws mixed 15 kr ⟨21,0,[sA 6 6 5 0],[(6,(Vec.row r3))]⟩ (fun cx => ?_) ?_
 ·refine mA zC9 [(0,[]),(1,[13,14]),(2,[])] 12 [⟨[13,14],63,7,8⟩] fun cx => ?_
  refine iN zC9 3 zA.row ev1 fun cx => ?_
  refine mA zC9 [(4,[]),(5,[]),(6,[]),(7,[13,14]),(8,[])] 6 [⟨[13,14],63,13,14⟩,⟨[13,14],63,7,8⟩] fun cx => ?_
  refine iN zC9 9 zA.row ev2 fun cx => ?_
  refine mA zC9 [(10,[]),(11,[]),(12,[])] 2 [⟨[13,14],63,13,14⟩,⟨[13,14],63,7,8⟩] fun cx => ?_
  refine mC zC9 13 ?_
  refine vA [.rd,.rd,.rd] (zG6 n v1.Id v2.Ps x2 r3 er3) ?_
  refine fA ?_
  refine mC zC9 14 ?_
  refine lA 1 ?_
  refine fA ?_
  exact mE zC9 [6] [6]
 exact te (fJ [(true,(Vec.row r3))] H)
end Go.Proofs.YtcegokjpmppdbaaGreat.Tw
