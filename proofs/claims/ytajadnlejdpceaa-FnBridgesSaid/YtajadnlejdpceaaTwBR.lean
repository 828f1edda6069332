import Derived.Test.YtajadnlejdpceaaProg
import Derived.Test.YtajadnlejdpceaaTlRule
import Derived.Test.YtajadnlejdpceaaTlU12
import Derived.Test.YtajadnlejdpceaaTwBR1
import Derived.WalkKit
set_option linter.unusedVariables false
set_option linter.unusedSimpArgs false
set_option maxRecDepth 100000
set_option maxHeartbeats 1000000
namespace Go.Proofs.Ytajadnlejdpceaa.Tw
open Go Go.TL Go.Proofs
def QO (n : Nat) (r2 : zA × Int) (r4 : zA) (r7 : zA) (r8 : zA) (x0 : (List Int)) : Option (Bool) :=
  ((zQ n r2.1).bind fun r12 => (bif r12 then ((zQ n r4).bind fun r13 => (bif r13 then ((idx r7.Ps r2.2).bind fun v14 => ((ZZ n x0 2).bind fun r15 => (bif (decide ((2 : Int) ≠ 0)) then (bif (v14.Up == ((Int.tmod r15 2) == 0)) then ((idx r7.Ps r2.2).bind fun v17 => (bif (!v17.Has) then (some (r8.Tk == (IntKind.wrap .i64 (r2.1.Tk + 1)))) else (some false))) else (some false)) else none))) else (some false))) else (some false)))
def Zr (n : Nat) (k : (Int → Option ((Unit) ⊕ (Bool)))) (v19 : zA) (y11 : Int) : Option ((Unit) ⊕ (Bool)) :=
  ((zQ n v19).bind fun r22 => (bif (!r22) then (some (Sum.inr false)) else (k (IntKind.wrap .i64 (y11 + 1)))))
def qK (n : Nat) : Nat → Int → zA → zA → Int → Int → Option ((Unit) ⊕ (Bool))
  | 0,_,_,_,_,_ => none
  | mo23 + 1,r20,r7,r8,y11,y21 => ((idx [r7,r8] y11).bind fun v24 => (bif (decide (y21 < (v24.F.length : Int))) then ((idx v24.F y21).bind fun v25 => (bif (!v25.Sc) then ((idx v24.F y21).bind fun v26 => ((QA n r20 v26.Port).bind fun r27 => (bif (!r27) then (some (Sum.inr false)) else (qK n mo23 r20 r7 r8 y11 (IntKind.wrap .i64 (y21 + 1)))))) else (qK n mo23 r20 r7 r8 y11 (IntKind.wrap .i64 (y21 + 1))))) else (some (Sum.inl ()))))
def qJ (n : Nat) : Nat → zA → zA → Int → Option ((Unit) ⊕ (Bool))
  | 0,_,_,_ => none
  | mo18 + 1,r7,r8,y11 => (bif (decide (y11 < ([r7,r8].length : Int))) then ((idx [r7,r8] y11).bind fun v19 => ((Zf n v19.Id v19.Ps).bind fun r20 => ((qK n n r20 r7 r8 y11 0).bind fun o => match o with | .inl _ => (Zr n (fun v => qJ n mo18 r7 r8 v) v19 y11) | .inr r => some (Sum.inr r)))) else (some (Sum.inl ())))
def QP (n : Nat) (r2 : zA × Int) (r4 : zA) (r7 : zA) (r8 : zA) (x0 : (List Int)) : Option (Bool) :=
  ((zQ n r2.1).bind fun r30 => (bif r30 then ((zQ n r4).bind fun r31 => (bif r31 then ((idx r7.Ps r2.2).bind fun v32 => ((ZZ n x0 2).bind fun r33 => (bif (decide ((2 : Int) ≠ 0)) then (bif (v32.Up == ((Int.tmod r33 2) == 0)) then ((idx r7.Ps r2.2).bind fun v35 => (bif (!v35.Has) then (some (r8.Tk == (IntKind.wrap .i64 (r2.1.Tk + 1)))) else (some false))) else (some false)) else none))) else (some false))) else (some false)))
def ZN (n : Nat) (k : (Int → Option ((Unit) ⊕ (Bool)))) (v37 : zA) (y29 : Int) : Option ((Unit) ⊕ (Bool)) :=
  ((zQ n v37).bind fun r40 => (bif (!r40) then (some (Sum.inr false)) else (k (IntKind.wrap .i64 (y29 + 1)))))
def qL (n : Nat) : Nat → Int → zA → zA → zA → Int → Int → Option ((Unit) ⊕ (Bool))
  | 0,_,_,_,_,_,_ => none
  | mo41 + 1,r38,r4,r7,r8,y29,y39 => ((idx ([r7,r8] ++ [r4]) y29).bind fun v42 => (bif (decide (y39 < (v42.F.length : Int))) then ((idx v42.F y39).bind fun v43 => (bif (!v43.Sc) then ((idx v42.F y39).bind fun v44 => ((QA n r38 v44.Port).bind fun r45 => (bif (!r45) then (some (Sum.inr false)) else (qL n mo41 r38 r4 r7 r8 y29 (IntKind.wrap .i64 (y39 + 1)))))) else (qL n mo41 r38 r4 r7 r8 y29 (IntKind.wrap .i64 (y39 + 1))))) else (some (Sum.inl ()))))
def qC (n : Nat) : Nat → zA → zA → zA → Int → Option ((Unit) ⊕ (Bool))
  | 0,_,_,_,_ => none
  | mo36 + 1,r4,r7,r8,y29 => (bif (decide (y29 < (([r7,r8] ++ [r4]).length : Int))) then ((idx ([r7,r8] ++ [r4]) y29).bind fun v37 => ((Zf n v37.Id v37.Ps).bind fun r38 => ((qL n n r38 r4 r7 r8 y29 0).bind fun o => match o with | .inl _ => (ZN n (fun v => qC n mo36 r4 r7 r8 v) v37 y29) | .inr r => some (Sum.inr r)))) else (some (Sum.inl ())))
def q8 (n : Nat) (r2 : zA × Int) (r4 : zA) (r7 : zA) (r8 : zA) (x0 : (List Int)) (y9 : Bool) : Option (Bool) :=
  (bif y9 then (bif (decide ([r7,r8].length + [r4].length ≤ 268435456)) then ((qC n n r4 r7 r8 0).bind fun o => match o with | .inl _ => (QP n r2 r4 r7 r8 x0) | .inr r => some r) else none) else ((Qi n r4 r2.1).bind fun r10 => (bif (!r10) then (some false) else ((qJ n n r7 r8 0).bind fun o => match o with | .inl _ => (QO n r2 r4 r7 r8 x0) | .inr r => some r))))
def Yg (n : Nat) (x0 : (List Int)) : Option (Bool) :=
  ((zBl n x0).bind fun r1 => (bif r1 then (some true) else ((Qj n x0).bind fun r2 => ((QR n x0).bind fun r3 => ((Zt n r2.1 r2.2 r3.2.2).bind fun r4 => ((ZZ n x0 2).bind fun r5 => (bif (decide ((2 : Int) ≠ 0)) then ((Qp n r2.1 r2.2 ((Int.tmod r5 2) == 0)).bind fun r7 => ((J3 n r2.1).bind fun r8 => ((idx r2.1.Ps r2.2).bind fun v46 => (bif v46.Up then ((Z6 n r3.2.2).bind fun r47 => (q8 n r2 r4 r7 r8 x0 r47)) else (q8 n r2 r4 r7 r8 x0 false))))) else none)))))))
def zJd : Tab := ⟨12,[0,0,3,4,8,0,0,96,128,256,528,2047],[0,0,3,4,8,0,0,96,128,256,528,1024],[0,0,3,7,15,0,0,96,224,480,1023,2047]⟩
theorem ZE : qF (rg Try.f4 16) zJd = true := kr
def zJe : Tab := ⟨37,[0,1,2,4,12,20,48,64,192,64,832,1088,2112,64,8256,16448,32832,69696,131136,278528,524288,1572864,524288,6815744,8912896,17301504,34078720,67633152,134742016,268435456,805306368,268435456,2415919104,4563402752,9932111872,17448304640,68719476735],[0,1,2,4,12,20,32,64,192,64,832,1088,2112,64,8256,16448,32832,69696,131136,262144,524288,1572864,524288,6815744,8912896,17301504,34078720,67633152,134217728,268435456,805306368,268435456,2415919104,4563402752,9932111872,17448304640,34359738368],[0,1,3,7,15,31,63,127,255,127,1023,2047,4095,127,8319,24703,57471,131071,262143,524287,1048575,2097151,1048575,8388607,16777215,33554431,67108863,134217727,268435455,536870911,1073741823,536870911,2684354559,6979321855,17179869183,34359738367,68719476735]⟩
theorem zH : qF (rg Try.f4 24) zJe = true := kr
theorem zDh (n : Nat) (x0 : (List Int)) (r5 : Int) (r2 : zA × Int) (r7 : zA) (r4 : zA) (r3 : zA × Int × Vec) (er5 : (ZZ n x0 2) = some r5) (hg6 : (decide ((2 : Int) ≠ 0)) = true) (er7 : (Qp n r2.1 r2.2 ((Int.tmod r5 2) == 0)) = some r7) (cx : Cx) : AT Try.prog cx (rg Try.f4 6) [] 9 [] ⟨155,0,[sA 8 8 11 0,sA 7 7 5 0,sI 4 r2.2,sA 3 3 11 0,sC 0 (cF 1 x0 zF)],[(8,(zA.row r4)),(7,(Vec.row r3.2.2)),(3,(zA.row r2.1))]⟩ (fun s => s = ⟨155,0,[sA 9 9 11 0,sA 8 8 11 0,sA 7 7 5 0,sI 4 r2.2,sA 3 3 11 0,sC 0 (cF 1 x0 zF)],[(9,(zA.row r7)),(8,(zA.row r4)),(7,(Vec.row r3.2.2)),(3,(zA.row r2.1))]⟩) := by
 refine aA [(0,[6,8]),(1,[]),(2,[])] 6 [⟨[6,8],42,3,32⟩] fun cx => ?_
 refine AT.big2 tOk 3 7 kr (And.intro kr ?_) (And.intro kr ?_)
 ·refine vA [.rd,.rd] (Jr n x0 2 r5 er5) ?_
  refine fA ?_
  refine AT.big2 tOk 4 7 kr (And.intro kr ?_) (And.intro kr ?_)
  ·refine LAt.binC tOk (op := .rem) (t := 3) (ty := 3) (ty' := 3) (x := (.tmp 35)) (y := (.const (.int .i64 2))) (d := 36) (g := none) (.int .i64 r5) (.int .i64 2) (.int .i64 (Int.tmod r5 2)) _ kr kr kr kr kr (φ := (IntKind.i64 = IntKind.i64 ∧ (2 : Int) ≠ 0)) kr (⟨rfl,of_decide_eq_true hg6⟩) rfl ?_
   refine fA ?_
   refine aA [(5,[])] 3 [⟨[6,8],42,3,32⟩] fun cx => ?_
   refine AT.big2 tOk 6 7 kr (And.intro kr ?_) (And.intro kr ?_)
   ·refine vB [.rd,.rd,.rd] [.box 3] (J0 n r2.1 r2.2 ((Int.tmod r5 2) == 0) r7 er7) (.inr (zZ (zA.row_mine _) zq)) ?_
    refine fA ?_
    refine bA 7 ?_
    refine lA 1 ?_
    refine fA ?_
    refine bA 8 ?_
    refine lA 1 ?_
    refine fA ?_
    exact eE [9,8,7,4,3,0] [9,8,7,3]
   ·refine lA 1 ?_
    refine fA ?_
    refine bA 6 ?_
    refine vB [.rd,.rd,.rd] [.box 3] (J0 n r2.1 r2.2 ((Int.tmod r5 2) == 0) r7 er7) (.inr (zZ (zA.row_mine _) zq)) ?_
    refine fA ?_
    refine bA 8 ?_
    refine lA 1 ?_
    refine fA ?_
    exact eE [9,8,7,4,3,0] [9,8,7,3]
  ·refine lA 1 ?_
   refine fA ?_
   refine bA 4 ?_
   refine LAt.binC tOk (op := .rem) (t := 3) (ty := 3) (ty' := 3) (x := (.tmp 35)) (y := (.const (.int .i64 2))) (d := 36) (g := none) (.int .i64 r5) (.int .i64 2) (.int .i64 (Int.tmod r5 2)) _ kr kr kr kr kr (φ := (IntKind.i64 = IntKind.i64 ∧ (2 : Int) ≠ 0)) kr (⟨rfl,of_decide_eq_true hg6⟩) rfl ?_
   refine fA ?_
   refine aA [(5,[])] 2 [⟨[6,8],42,3,32⟩] fun cx => ?_
   refine bA 6 ?_
   refine vB [.rd,.rd,.rd] [.box 3] (J0 n r2.1 r2.2 ((Int.tmod r5 2) == 0) r7 er7) (.inr (zZ (zA.row_mine _) zq)) ?_
   refine fA ?_
   refine bA 8 ?_
   refine lA 1 ?_
   refine fA ?_
   exact eE [9,8,7,4,3,0] [9,8,7,3]
 ·refine lA 1 ?_
  refine fA ?_
  refine bA 3 ?_
  refine vA [.rd,.rd] (Jr n x0 2 r5 er5) ?_
  refine fA ?_
  refine bA 4 ?_
  refine LAt.binC tOk (op := .rem) (t := 3) (ty := 3) (ty' := 3) (x := (.tmp 35)) (y := (.const (.int .i64 2))) (d := 36) (g := none) (.int .i64 r5) (.int .i64 2) (.int .i64 (Int.tmod r5 2)) _ kr kr kr kr kr (φ := (IntKind.i64 = IntKind.i64 ∧ (2 : Int) ≠ 0)) kr (⟨rfl,of_decide_eq_true hg6⟩) rfl ?_
  refine fA ?_
  refine aA [(5,[])] 2 [⟨[6,8],42,3,32⟩] fun cx => ?_
  refine bA 6 ?_
  refine vB [.rd,.rd,.rd] [.box 3] (J0 n r2.1 r2.2 ((Int.tmod r5 2) == 0) r7 er7) (.inr (zZ (zA.row_mine _) zq)) ?_
  refine fA ?_
  refine bA 8 ?_
  refine lA 1 ?_
  refine fA ?_
  exact eE [9,8,7,4,3,0] [9,8,7,3]
theorem zDi (n : Nat) (r2 : zA × Int) (r12 : Bool) (x0 : (List Int)) (r8 : zA) (r7 : zA) (r4 : zA) (r13 : Bool) (er13 : (zQ n r4) = some r13) (er12 : (zQ n r2.1) = some r12) (h4 : r12 = true) (h5 : r13 = false) (cx : Cx) : AT Try.prog cx (rg Try.f4 24) [] 37 [] ⟨155,0,[sA 10 10 11 0,sA 9 9 11 0,sA 8 8 11 0,sI 4 r2.2,sA 3 3 11 0,sC 0 (cF 1 x0 zF)],[(10,(CV.frzRow (zA.row r8))),(9,(CV.frzRow (zA.row r7))),(8,(zA.row r4)),(3,(zA.row r2.1))]⟩ (fun s => s = ⟨155,0,[sB 2 false],[]⟩) := by
 refine mA zH [(0,[1,4])] 36 [⟨[1,4],42,3,119⟩] fun cx => ?_
 refine mC zH 1 ?_
 refine vB [.rd] [.box 3] (zl n r2.1 r12 er12) (.inr (zZ (zI zP zk) zq)) ?_
 refine fA ?_
 refine mA zH [(2,[])] 34 [⟨[1,4],42,3,119⟩] fun cx => ?_
 refine sA_ 0x2800000000000000000000000000719 1800 ⟨155,0,[sB 121 r12,sR 119 3 11 0 11 true,sA 10 10 11 0,sA 9 9 11 0,sA 8 8 11 0,sI 4 r2.2,sA 3 3 11 0,sC 0 (cF 1 x0 zF)],[(10,(CV.frzRow (zA.row r8))),(9,(CV.frzRow (zA.row r7))),(8,(zA.row r4)),(3,(zA.row r2.1))]⟩ ?_
 rw [h4]
 refine mA zH [(3,[4])] 33 [⟨[4],42,8,122⟩,⟨[1,4],42,3,119⟩] fun cx => ?_
 refine mC zH 4 ?_
 refine vB [.rd] [.box 8] (zl n r4 r13 er13) (.inr (zZ (zI zP zk) zq)) ?_
 refine fA ?_
 refine mA zH [(5,[]),(6,[])] 30 [⟨[4],42,8,122⟩,⟨[1,4],42,3,119⟩] fun cx => ?_
 refine sA_ 0x24800000000000000000000000000719 1800 ⟨155,0,[sB 125 r13,sR 122 8 11 0 11 true,sR 119 3 11 0 11 true,sA 10 10 11 0,sA 9 9 11 0,sA 8 8 11 0,sI 4 r2.2,sA 3 3 11 0,sC 0 (cF 1 x0 zF)],[(10,(CV.frzRow (zA.row r8))),(9,(CV.frzRow (zA.row r7))),(8,(zA.row r4)),(3,(zA.row r2.1))]⟩ ?_
 rw [h5]
 refine mA zH [(7,[]),(8,[]),(9,[]),(10,[]),(11,[]),(12,[]),(13,[]),(14,[]),(15,[]),(16,[]),(17,[]),(18,[]),(19,[]),(20,[]),(21,[]),(22,[]),(23,[]),(24,[]),(25,[]),(26,[]),(27,[]),(28,[]),(29,[]),(30,[]),(31,[]),(32,[]),(33,[]),(34,[]),(35,[]),(36,[])] 0 [⟨[4],42,8,122⟩,⟨[1,4],42,3,119⟩] fun cx => ?_
 exact mE zH [2] []
theorem zDj (n : Nat) (r2 : zA × Int) (r12 : Bool) (x0 : (List Int)) (r8 : zA) (r7 : zA) (r4 : zA) (r13 : Bool) (r15 : Int) (v14 : Pt) (er13 : (zQ n r4) = some r13) (ev14 : (idx r7.Ps r2.2) = some v14) (er15 : (ZZ n x0 2) = some r15) (er12 : (zQ n r2.1) = some r12) (h4 : r12 = true) (h5 : r13 = true) (hg16 : (decide ((2 : Int) ≠ 0)) = true) (h6 : (v14.Up == ((Int.tmod r15 2) == 0)) = false) (cx : Cx) : AT Try.prog cx (rg Try.f4 24) [] 37 [] ⟨155,0,[sA 10 10 11 0,sA 9 9 11 0,sA 8 8 11 0,sI 4 r2.2,sA 3 3 11 0,sC 0 (cF 1 x0 zF)],[(10,(CV.frzRow (zA.row r8))),(9,(CV.frzRow (zA.row r7))),(8,(zA.row r4)),(3,(zA.row r2.1))]⟩ (fun s => s = ⟨155,0,[sB 2 false],[]⟩) := by
 refine mA zH [(0,[1,4,14,15])] 36 [⟨[1,4,14,15],42,3,119⟩] fun cx => ?_
 refine mC zH 1 ?_
 refine vB [.rd] [.box 3] (zl n r2.1 r12 er12) (.inr (zZ (zI zP zk) zq)) ?_
 refine fA ?_
 refine mA zH [(2,[])] 34 [⟨[1,4,14,15],42,3,119⟩] fun cx => ?_
 refine sA_ 0x2800000000000000000000000000719 1800 ⟨155,0,[sB 121 r12,sR 119 3 11 0 11 true,sA 10 10 11 0,sA 9 9 11 0,sA 8 8 11 0,sI 4 r2.2,sA 3 3 11 0,sC 0 (cF 1 x0 zF)],[(10,(CV.frzRow (zA.row r8))),(9,(CV.frzRow (zA.row r7))),(8,(zA.row r4)),(3,(zA.row r2.1))]⟩ ?_
 rw [h4]
 refine mA zH [(3,[4,14,15])] 33 [⟨[4,14,15],42,8,122⟩,⟨[1,4,14,15],42,3,119⟩] fun cx => ?_
 refine mC zH 4 ?_
 refine vB [.rd] [.box 8] (zl n r4 r13 er13) (.inr (zZ (zI zP zk) zq)) ?_
 refine fA ?_
 refine mA zH [(5,[]),(6,[])] 30 [⟨[4,14,15],42,8,122⟩,⟨[1,4,14,15],42,3,119⟩] fun cx => ?_
 refine sA_ 0x24800000000000000000000000000719 1800 ⟨155,0,[sB 125 r13,sR 122 8 11 0 11 true,sR 119 3 11 0 11 true,sA 10 10 11 0,sA 9 9 11 0,sA 8 8 11 0,sI 4 r2.2,sA 3 3 11 0,sC 0 (cF 1 x0 zF)],[(10,(CV.frzRow (zA.row r8))),(9,(CV.frzRow (zA.row r7))),(8,(zA.row r4)),(3,(zA.row r2.1))]⟩ ?_
 rw [h5]
 refine mA zH [(7,[]),(8,[]),(9,[])] 27 [⟨[],35,126,127⟩,⟨[4,14,15],42,8,122⟩,⟨[1,4,14,15],42,3,119⟩] fun cx => ?_
 refine iN zH 10 Pt.row ev14 fun cx => ?_
 refine mA zH [(11,[]),(12,[]),(13,[])] 23 [⟨[],35,126,127⟩,⟨[4,14,15],42,8,122⟩,⟨[1,4,14,15],42,3,119⟩] fun cx => ?_
 refine mC zH 14 ?_
 refine vA [.rd,.rd] (Jr n x0 2 r15 er15) ?_
 refine fA ?_
 refine mC zH 15 ?_
 refine LAt.binC tOk (op := .rem) (t := 3) (ty := 3) (ty' := 3) (x := (.tmp 133)) (y := (.const (.int .i64 2))) (d := 134) (g := (some (6,true))) (.int .i64 r15) (.int .i64 2) (.int .i64 (Int.tmod r15 2)) _ kr kr kr kr kr (φ := (IntKind.i64 = IntKind.i64 ∧ (2 : Int) ≠ 0)) kr (⟨rfl,of_decide_eq_true hg16⟩) rfl ?_
 refine fA ?_
 refine mA zH [(16,[]),(17,[]),(18,[]),(19,[])] 17 [⟨[],35,126,127⟩,⟨[4,14,15],42,8,122⟩,⟨[1,4,14,15],42,3,119⟩] fun cx => ?_
 refine sA_ 0x400c4800000000000000000000000000718 1800 ⟨155,0,[sB 138 (v14.Up == ((Int.tmod r15 2) == 0)),sR 127 9 11 2 1 false,sA 126 9 11 2,sR 122 8 11 0 11 true,sR 119 3 11 0 11 true,sA 10 10 11 0,sA 9 9 11 0,sA 8 8 11 0,sI 4 r2.2,sA 3 3 11 0],[(10,(CV.frzRow (zA.row r8))),(9,(CV.frzRow (zA.row r7))),(8,(zA.row r4)),(3,(zA.row r2.1))]⟩ ?_
 rw [h6]
 refine mA zH [(20,[]),(21,[]),(22,[]),(23,[]),(24,[]),(25,[]),(26,[]),(27,[]),(28,[]),(29,[]),(30,[]),(31,[]),(32,[]),(33,[]),(34,[]),(35,[]),(36,[])] 0 [⟨[],35,126,127⟩,⟨[4,14,15],42,8,122⟩,⟨[1,4,14,15],42,3,119⟩] fun cx => ?_
 exact mE zH [2] []
theorem zDk (n : Nat) (r8 : zA) (r7 : zA) (r4 : zA) (r2 : zA × Int) (cx : Cx) : AT Try.prog cx (rg Try.f4 24) [⟨[],35,139,140⟩,⟨[],35,126,127⟩,⟨[4,14,15],42,8,122⟩,⟨[1,4,14,15],42,3,119⟩] 8 [28,27,26,25,24,23,22,21,20,19,18,17,16,15,14,13,12,11,10,9,8,7,6,5,4,3,2,1,0] ⟨155,0,[sB 147 false,sR 140 9 11 2 1 false,sA 139 9 11 2,sR 127 9 11 2 1 false,sA 126 9 11 2,sR 122 8 11 0 11 true,sR 119 3 11 0 11 true,sA 10 10 11 0,sA 8 8 11 0,sA 3 3 11 0],[(10,(CV.frzRow (zA.row r8))),(9,(CV.frzRow (zA.row r7))),(8,(zA.row r4)),(3,(zA.row r2.1))]⟩ (fun s => s = ⟨155,0,[sB 2 false],[]⟩) := by
 refine mA zH [(29,[]),(30,[]),(31,[]),(32,[]),(33,[]),(34,[]),(35,[]),(36,[])] 0 [⟨[],35,139,140⟩,⟨[],35,126,127⟩,⟨[4,14,15],42,8,122⟩,⟨[1,4,14,15],42,3,119⟩] fun cx => ?_
 exact mE zH [2] []
theorem zDl (n : Nat) (r2 : zA × Int) (r12 : Bool) (x0 : (List Int)) (r8 : zA) (r7 : zA) (r4 : zA) (r13 : Bool) (r15 : Int) (v14 : Pt) (v17 : Pt) (er13 : (zQ n r4) = some r13) (ev14 : (idx r7.Ps r2.2) = some v14) (er15 : (ZZ n x0 2) = some r15) (ev17 : (idx r7.Ps r2.2) = some v17) (er12 : (zQ n r2.1) = some r12) (h4 : r12 = true) (h5 : r13 = true) (hg16 : (decide ((2 : Int) ≠ 0)) = true) (h6 : (v14.Up == ((Int.tmod r15 2) == 0)) = true) (h7 : (!v17.Has) = false) (cx : Cx) : AT Try.prog cx (rg Try.f4 24) [] 37 [] ⟨155,0,[sA 10 10 11 0,sA 9 9 11 0,sA 8 8 11 0,sI 4 r2.2,sA 3 3 11 0,sC 0 (cF 1 x0 zF)],[(10,(CV.frzRow (zA.row r8))),(9,(CV.frzRow (zA.row r7))),(8,(zA.row r4)),(3,(zA.row r2.1))]⟩ (fun s => s = ⟨155,0,[sB 2 false],[]⟩) := by
 refine mA zH [(0,[1,4,14,15])] 36 [⟨[1,4,14,15],42,3,119⟩] fun cx => ?_
 refine mC zH 1 ?_
 refine vB [.rd] [.box 3] (zl n r2.1 r12 er12) (.inr (zZ (zI zP zk) zq)) ?_
 refine fA ?_
 refine mA zH [(2,[])] 34 [⟨[1,4,14,15],42,3,119⟩] fun cx => ?_
 refine sA_ 0x2800000000000000000000000000719 1800 ⟨155,0,[sB 121 r12,sR 119 3 11 0 11 true,sA 10 10 11 0,sA 9 9 11 0,sA 8 8 11 0,sI 4 r2.2,sA 3 3 11 0,sC 0 (cF 1 x0 zF)],[(10,(CV.frzRow (zA.row r8))),(9,(CV.frzRow (zA.row r7))),(8,(zA.row r4)),(3,(zA.row r2.1))]⟩ ?_
 rw [h4]
 refine mA zH [(3,[4,14,15])] 33 [⟨[4,14,15],42,8,122⟩,⟨[1,4,14,15],42,3,119⟩] fun cx => ?_
 refine mC zH 4 ?_
 refine vB [.rd] [.box 8] (zl n r4 r13 er13) (.inr (zZ (zI zP zk) zq)) ?_
 refine fA ?_
 refine mA zH [(5,[]),(6,[])] 30 [⟨[4,14,15],42,8,122⟩,⟨[1,4,14,15],42,3,119⟩] fun cx => ?_
 refine sA_ 0x24800000000000000000000000000719 1800 ⟨155,0,[sB 125 r13,sR 122 8 11 0 11 true,sR 119 3 11 0 11 true,sA 10 10 11 0,sA 9 9 11 0,sA 8 8 11 0,sI 4 r2.2,sA 3 3 11 0,sC 0 (cF 1 x0 zF)],[(10,(CV.frzRow (zA.row r8))),(9,(CV.frzRow (zA.row r7))),(8,(zA.row r4)),(3,(zA.row r2.1))]⟩ ?_
 rw [h5]
 refine mA zH [(7,[]),(8,[]),(9,[])] 27 [⟨[],35,126,127⟩,⟨[4,14,15],42,8,122⟩,⟨[1,4,14,15],42,3,119⟩] fun cx => ?_
 refine iN zH 10 Pt.row ev14 fun cx => ?_
 refine mA zH [(11,[]),(12,[]),(13,[])] 23 [⟨[],35,126,127⟩,⟨[4,14,15],42,8,122⟩,⟨[1,4,14,15],42,3,119⟩] fun cx => ?_
 refine mC zH 14 ?_
 refine vA [.rd,.rd] (Jr n x0 2 r15 er15) ?_
 refine fA ?_
 refine mC zH 15 ?_
 refine LAt.binC tOk (op := .rem) (t := 3) (ty := 3) (ty' := 3) (x := (.tmp 133)) (y := (.const (.int .i64 2))) (d := 134) (g := (some (6,true))) (.int .i64 r15) (.int .i64 2) (.int .i64 (Int.tmod r15 2)) _ kr kr kr kr kr (φ := (IntKind.i64 = IntKind.i64 ∧ (2 : Int) ≠ 0)) kr (⟨rfl,of_decide_eq_true hg16⟩) rfl ?_
 refine fA ?_
 refine mA zH [(16,[]),(17,[]),(18,[]),(19,[])] 17 [⟨[],35,126,127⟩,⟨[4,14,15],42,8,122⟩,⟨[1,4,14,15],42,3,119⟩] fun cx => ?_
 refine sA_ 0x400c4800000000000000000000000000718 1800 ⟨155,0,[sB 138 (v14.Up == ((Int.tmod r15 2) == 0)),sR 127 9 11 2 1 false,sA 126 9 11 2,sR 122 8 11 0 11 true,sR 119 3 11 0 11 true,sA 10 10 11 0,sA 9 9 11 0,sA 8 8 11 0,sI 4 r2.2,sA 3 3 11 0],[(10,(CV.frzRow (zA.row r8))),(9,(CV.frzRow (zA.row r7))),(8,(zA.row r4)),(3,(zA.row r2.1))]⟩ ?_
 rw [h6]
 refine mA zH [(20,[]),(21,[]),(22,[])] 14 [⟨[],35,139,140⟩,⟨[],35,126,127⟩,⟨[4,14,15],42,8,122⟩,⟨[1,4,14,15],42,3,119⟩] fun cx => ?_
 refine iN zH 23 Pt.row ev17 fun cx => ?_
 refine mA zH [(24,[]),(25,[]),(26,[]),(27,[]),(28,[])] 8 [⟨[],35,139,140⟩,⟨[],35,126,127⟩,⟨[4,14,15],42,8,122⟩,⟨[1,4,14,15],42,3,119⟩] fun cx => ?_
 refine sA_ 0x81800c4800000000000000000000000000508 1800 ⟨155,0,[sB 147 (!v17.Has),sR 140 9 11 2 1 false,sA 139 9 11 2,sR 127 9 11 2 1 false,sA 126 9 11 2,sR 122 8 11 0 11 true,sR 119 3 11 0 11 true,sA 10 10 11 0,sA 8 8 11 0,sA 3 3 11 0],[(10,(CV.frzRow (zA.row r8))),(9,(CV.frzRow (zA.row r7))),(8,(zA.row r4)),(3,(zA.row r2.1))]⟩ ?_
 rw [h7]
 exact zDk n r8 r7 r4 r2 cx
theorem zDm (n : Nat) (r8 : zA) (r7 : zA) (r4 : zA) (r2 : zA × Int) (cx : Cx) : AT Try.prog cx (rg Try.f4 24) [⟨[],35,139,140⟩,⟨[],35,126,127⟩,⟨[4,14,15],42,8,122⟩,⟨[1,4,14,15],42,3,119⟩] 8 [28,27,26,25,24,23,22,21,20,19,18,17,16,15,14,13,12,11,10,9,8,7,6,5,4,3,2,1,0] ⟨155,0,[sB 147 true,sR 140 9 11 2 1 false,sA 139 9 11 2,sR 127 9 11 2 1 false,sA 126 9 11 2,sR 122 8 11 0 11 true,sR 119 3 11 0 11 true,sA 10 10 11 0,sA 8 8 11 0,sA 3 3 11 0],[(10,(CV.frzRow (zA.row r8))),(9,(CV.frzRow (zA.row r7))),(8,(zA.row r4)),(3,(zA.row r2.1))]⟩ (fun s => s = ⟨155,0,[sB 2 (r8.Tk == (IntKind.wrap .i64 (r2.1.Tk + 1)))],[]⟩) := by
 refine mA zH [(29,[]),(30,[]),(31,[]),(32,[]),(33,[]),(34,[]),(35,[]),(36,[])] 0 [⟨[],3,150,151⟩,⟨[],3,148,149⟩,⟨[],35,139,140⟩,⟨[],35,126,127⟩,⟨[4,14,15],42,8,122⟩,⟨[1,4,14,15],42,3,119⟩] fun cx => ?_
 exact mE zH [2] []
theorem zDn (n : Nat) (r2 : zA × Int) (r12 : Bool) (x0 : (List Int)) (r8 : zA) (r7 : zA) (r4 : zA) (r13 : Bool) (r15 : Int) (v14 : Pt) (v17 : Pt) (er13 : (zQ n r4) = some r13) (ev14 : (idx r7.Ps r2.2) = some v14) (er15 : (ZZ n x0 2) = some r15) (ev17 : (idx r7.Ps r2.2) = some v17) (er12 : (zQ n r2.1) = some r12) (h4 : r12 = true) (h5 : r13 = true) (hg16 : (decide ((2 : Int) ≠ 0)) = true) (h6 : (v14.Up == ((Int.tmod r15 2) == 0)) = true) (h7 : (!v17.Has) = true) (cx : Cx) : AT Try.prog cx (rg Try.f4 24) [] 37 [] ⟨155,0,[sA 10 10 11 0,sA 9 9 11 0,sA 8 8 11 0,sI 4 r2.2,sA 3 3 11 0,sC 0 (cF 1 x0 zF)],[(10,(CV.frzRow (zA.row r8))),(9,(CV.frzRow (zA.row r7))),(8,(zA.row r4)),(3,(zA.row r2.1))]⟩ (fun s => s = ⟨155,0,[sB 2 (r8.Tk == (IntKind.wrap .i64 (r2.1.Tk + 1)))],[]⟩) := by
 refine mA zH [(0,[1,4,14,15])] 36 [⟨[1,4,14,15],42,3,119⟩] fun cx => ?_
 refine mC zH 1 ?_
 refine vB [.rd] [.box 3] (zl n r2.1 r12 er12) (.inr (zZ (zI zP zk) zq)) ?_
 refine fA ?_
 refine mA zH [(2,[])] 34 [⟨[1,4,14,15],42,3,119⟩] fun cx => ?_
 refine sA_ 0x2800000000000000000000000000719 1800 ⟨155,0,[sB 121 r12,sR 119 3 11 0 11 true,sA 10 10 11 0,sA 9 9 11 0,sA 8 8 11 0,sI 4 r2.2,sA 3 3 11 0,sC 0 (cF 1 x0 zF)],[(10,(CV.frzRow (zA.row r8))),(9,(CV.frzRow (zA.row r7))),(8,(zA.row r4)),(3,(zA.row r2.1))]⟩ ?_
 rw [h4]
 refine mA zH [(3,[4,14,15])] 33 [⟨[4,14,15],42,8,122⟩,⟨[1,4,14,15],42,3,119⟩] fun cx => ?_
 refine mC zH 4 ?_
 refine vB [.rd] [.box 8] (zl n r4 r13 er13) (.inr (zZ (zI zP zk) zq)) ?_
 refine fA ?_
 refine mA zH [(5,[]),(6,[])] 30 [⟨[4,14,15],42,8,122⟩,⟨[1,4,14,15],42,3,119⟩] fun cx => ?_
 refine sA_ 0x24800000000000000000000000000719 1800 ⟨155,0,[sB 125 r13,sR 122 8 11 0 11 true,sR 119 3 11 0 11 true,sA 10 10 11 0,sA 9 9 11 0,sA 8 8 11 0,sI 4 r2.2,sA 3 3 11 0,sC 0 (cF 1 x0 zF)],[(10,(CV.frzRow (zA.row r8))),(9,(CV.frzRow (zA.row r7))),(8,(zA.row r4)),(3,(zA.row r2.1))]⟩ ?_
 rw [h5]
 refine mA zH [(7,[]),(8,[]),(9,[])] 27 [⟨[],35,126,127⟩,⟨[4,14,15],42,8,122⟩,⟨[1,4,14,15],42,3,119⟩] fun cx => ?_
 refine iN zH 10 Pt.row ev14 fun cx => ?_
 refine mA zH [(11,[]),(12,[]),(13,[])] 23 [⟨[],35,126,127⟩,⟨[4,14,15],42,8,122⟩,⟨[1,4,14,15],42,3,119⟩] fun cx => ?_
 refine mC zH 14 ?_
 refine vA [.rd,.rd] (Jr n x0 2 r15 er15) ?_
 refine fA ?_
 refine mC zH 15 ?_
 refine LAt.binC tOk (op := .rem) (t := 3) (ty := 3) (ty' := 3) (x := (.tmp 133)) (y := (.const (.int .i64 2))) (d := 134) (g := (some (6,true))) (.int .i64 r15) (.int .i64 2) (.int .i64 (Int.tmod r15 2)) _ kr kr kr kr kr (φ := (IntKind.i64 = IntKind.i64 ∧ (2 : Int) ≠ 0)) kr (⟨rfl,of_decide_eq_true hg16⟩) rfl ?_
 refine fA ?_
 refine mA zH [(16,[]),(17,[]),(18,[]),(19,[])] 17 [⟨[],35,126,127⟩,⟨[4,14,15],42,8,122⟩,⟨[1,4,14,15],42,3,119⟩] fun cx => ?_
 refine sA_ 0x400c4800000000000000000000000000718 1800 ⟨155,0,[sB 138 (v14.Up == ((Int.tmod r15 2) == 0)),sR 127 9 11 2 1 false,sA 126 9 11 2,sR 122 8 11 0 11 true,sR 119 3 11 0 11 true,sA 10 10 11 0,sA 9 9 11 0,sA 8 8 11 0,sI 4 r2.2,sA 3 3 11 0],[(10,(CV.frzRow (zA.row r8))),(9,(CV.frzRow (zA.row r7))),(8,(zA.row r4)),(3,(zA.row r2.1))]⟩ ?_
 rw [h6]
 refine mA zH [(20,[]),(21,[]),(22,[])] 14 [⟨[],35,139,140⟩,⟨[],35,126,127⟩,⟨[4,14,15],42,8,122⟩,⟨[1,4,14,15],42,3,119⟩] fun cx => ?_
 refine iN zH 23 Pt.row ev17 fun cx => ?_
 refine mA zH [(24,[]),(25,[]),(26,[]),(27,[]),(28,[])] 8 [⟨[],35,139,140⟩,⟨[],35,126,127⟩,⟨[4,14,15],42,8,122⟩,⟨[1,4,14,15],42,3,119⟩] fun cx => ?_
 refine sA_ 0x81800c4800000000000000000000000000508 1800 ⟨155,0,[sB 147 (!v17.Has),sR 140 9 11 2 1 false,sA 139 9 11 2,sR 127 9 11 2 1 false,sA 126 9 11 2,sR 122 8 11 0 11 true,sR 119 3 11 0 11 true,sA 10 10 11 0,sA 8 8 11 0,sA 3 3 11 0],[(10,(CV.frzRow (zA.row r8))),(9,(CV.frzRow (zA.row r7))),(8,(zA.row r4)),(3,(zA.row r2.1))]⟩ ?_
 rw [h7]
 exact zDm n r8 r7 r4 r2 cx
theorem zDo (n : Nat) (y11 : Int) (r7 : zA) (r8 : zA) (v19 : zA) (r20 : Int) (r2 : zA × Int) (x0 : (List Int)) (r4 : zA) (ev19 : (idx [r7,r8] y11) = some v19) (er20 : (Zf n v19.Id v19.Ps) = some r20) (cx : Cx) : AT Try.prog cx (rg Try.f4 16) [] 12 [] ⟨155,0,[sB 65 (decide (y11 < ([r7,r8].length : Int))),sI 12 y11,sC 11 (cL 11 [r7,r8] (zp zA.row)),sA 10 10 11 0,sA 9 9 11 0,sA 8 8 11 0,sI 4 r2.2,sA 3 3 11 0,sC 0 (cF 1 x0 zF)],[(10,(CV.frzRow (zA.row r8))),(9,(CV.frzRow (zA.row r7))),(8,(zA.row r4)),(3,(zA.row r2.1))]⟩ (fun s => s = ⟨155,0,[sI 13 r20,sI 12 y11,sC 11 (cL 11 [r7,r8] (zp zA.row)),sA 10 10 11 0,sA 9 9 11 0,sA 8 8 11 0,sI 4 r2.2,sA 3 3 11 0,sC 0 (cF 1 x0 zF)],[(10,(CV.frzRow (zA.row r8))),(9,(CV.frzRow (zA.row r7))),(8,(zA.row r4)),(3,(zA.row r2.1))]⟩) := by
 refine mA ZE [(0,[]),(1,[])] 10 [] fun cx => ?_
 refine oN ZE 2 (zp zA.row) ev19 fun cx => ?_
 refine mA ZE [(3,[]),(5,[]),(6,[])] 6 [] fun cx => ?_
 refine oN ZE 7 (zp zA.row) ev19 fun cx => ?_
 refine mA ZE [(8,[])] 4 [] fun cx => ?_
 refine mB2 tOk ZE 4 9 kr (And.intro kr ?_) (And.intro kr ?_)
 ·refine dE (tI 3) (.slot 11) [(0,(y11.toNat))] 11 0 [cL 11 [r7,r8] (zp zA.row)] ((zp zA.row) v19) (qr rfl (qc ev19).2) ?_
  refine fA ?_
  refine mC ZE 9 ?_
  refine dE (tI 35) (.slot 11) [(0,(y11.toNat))] 11 2 [cL 11 [r7,r8] (zp zA.row)] ((zp zA.row) v19) (qr rfl (qc ev19).2) ?_
  refine fA ?_
  refine mC ZE 10 ?_
  refine vA [.rd,.rd] (J2 n v19.Id v19.Ps r20 er20) ?_
  refine fA ?_
  refine mA ZE [(11,[])] 0 [] fun cx => ?_
  exact mE ZE [13,12,11,10,9,8,4,3,0] [10,9,8,3]
 ·refine dE (tI 35) (.slot 11) [(0,(y11.toNat))] 11 2 [cL 11 [r7,r8] (zp zA.row)] ((zp zA.row) v19) (qr rfl (qc ev19).2) ?_
  refine fA ?_
  refine mC ZE 4 ?_
  refine dE (tI 3) (.slot 11) [(0,(y11.toNat))] 11 0 [cL 11 [r7,r8] (zp zA.row)] ((zp zA.row) v19) (qr rfl (qc ev19).2) ?_
  refine fA ?_
  refine mC ZE 10 ?_
  refine vA [.rd,.rd] (J2 n v19.Id v19.Ps r20 er20) ?_
  refine fA ?_
  refine mA ZE [(11,[])] 0 [] fun cx => ?_
  exact mE ZE [13,12,11,10,9,8,4,3,0] [10,9,8,3]
theorem zDp (n : Nat) (r2 : zA × Int) (r30 : Bool) (x0 : (List Int)) (r4 : zA) (r8 : zA) (r7 : zA) (r31 : Bool) (er30 : (zQ n r2.1) = some r30) (h13 : r30 = true) (er31 : (zQ n r4) = some r31) (h14 : r31 = false) (cx : Cx) : AT Try.prog cx (rg Try.f4 24) [] 37 [] ⟨155,0,[sA 10 10 11 0,sA 9 9 11 0,sA 8 8 11 0,sI 4 r2.2,sA 3 3 11 0,sC 0 (cF 1 x0 zF)],[(8,(CV.frzRow (zA.row r4))),(10,(CV.frzRow (zA.row r8))),(9,(CV.frzRow (zA.row r7))),(3,(zA.row r2.1))]⟩ (fun s => s = ⟨155,0,[sB 2 false],[]⟩) := by
 refine mA zH [(0,[1,4])] 36 [⟨[1,4],42,3,119⟩] fun cx => ?_
 refine mC zH 1 ?_
 refine vB [.rd] [.box 3] (zl n r2.1 r30 er30) (.inr (zZ (zI zP zk) zq)) ?_
 refine fA ?_
 refine mA zH [(2,[])] 34 [⟨[1,4],42,3,119⟩] fun cx => ?_
 refine sA_ 0x2800000000000000000000000000719 1800 ⟨155,0,[sB 121 r30,sR 119 3 11 0 11 true,sA 10 10 11 0,sA 9 9 11 0,sA 8 8 11 0,sI 4 r2.2,sA 3 3 11 0,sC 0 (cF 1 x0 zF)],[(8,(CV.frzRow (zA.row r4))),(10,(CV.frzRow (zA.row r8))),(9,(CV.frzRow (zA.row r7))),(3,(zA.row r2.1))]⟩ ?_
 rw [h13]
 refine mA zH [(3,[4])] 33 [⟨[4],42,8,122⟩,⟨[1,4],42,3,119⟩] fun cx => ?_
 refine mC zH 4 ?_
 refine vA [.rd] (zl n r4 r31 er31) ?_
 refine fA ?_
 refine mA zH [(5,[]),(6,[])] 30 [⟨[4],42,8,122⟩,⟨[1,4],42,3,119⟩] fun cx => ?_
 refine sA_ 0x24800000000000000000000000000719 1800 ⟨155,0,[sB 125 r31,sR 122 8 11 0 11 true,sR 119 3 11 0 11 true,sA 10 10 11 0,sA 9 9 11 0,sA 8 8 11 0,sI 4 r2.2,sA 3 3 11 0,sC 0 (cF 1 x0 zF)],[(8,(CV.frzRow (zA.row r4))),(10,(CV.frzRow (zA.row r8))),(9,(CV.frzRow (zA.row r7))),(3,(zA.row r2.1))]⟩ ?_
 rw [h14]
 refine mA zH [(7,[]),(8,[]),(9,[]),(10,[]),(11,[]),(12,[]),(13,[]),(14,[]),(15,[]),(16,[]),(17,[]),(18,[]),(19,[]),(20,[]),(21,[]),(22,[]),(23,[]),(24,[]),(25,[]),(26,[]),(27,[]),(28,[]),(29,[]),(30,[]),(31,[]),(32,[]),(33,[]),(34,[]),(35,[]),(36,[])] 0 [⟨[4],42,8,122⟩,⟨[1,4],42,3,119⟩] fun cx => ?_
 exact mE zH [2] []
theorem zC7 (n : Nat) (r2 : zA × Int) (r30 : Bool) (x0 : (List Int)) (r4 : zA) (r8 : zA) (r7 : zA) (r31 : Bool) (r33 : Int) (v32 : Pt) (er30 : (zQ n r2.1) = some r30) (h13 : r30 = true) (ev32 : (idx r7.Ps r2.2) = some v32) (er31 : (zQ n r4) = some r31) (er33 : (ZZ n x0 2) = some r33) (h14 : r31 = true) (hg34 : (decide ((2 : Int) ≠ 0)) = true) (h15 : (v32.Up == ((Int.tmod r33 2) == 0)) = false) (cx : Cx) : AT Try.prog cx (rg Try.f4 24) [] 37 [] ⟨155,0,[sA 10 10 11 0,sA 9 9 11 0,sA 8 8 11 0,sI 4 r2.2,sA 3 3 11 0,sC 0 (cF 1 x0 zF)],[(8,(CV.frzRow (zA.row r4))),(10,(CV.frzRow (zA.row r8))),(9,(CV.frzRow (zA.row r7))),(3,(zA.row r2.1))]⟩ (fun s => s = ⟨155,0,[sB 2 false],[]⟩) := by
 refine mA zH [(0,[1,4,14,15])] 36 [⟨[1,4,14,15],42,3,119⟩] fun cx => ?_
 refine mC zH 1 ?_
 refine vB [.rd] [.box 3] (zl n r2.1 r30 er30) (.inr (zZ (zI zP zk) zq)) ?_
 refine fA ?_
 refine mA zH [(2,[])] 34 [⟨[1,4,14,15],42,3,119⟩] fun cx => ?_
 refine sA_ 0x2800000000000000000000000000719 1800 ⟨155,0,[sB 121 r30,sR 119 3 11 0 11 true,sA 10 10 11 0,sA 9 9 11 0,sA 8 8 11 0,sI 4 r2.2,sA 3 3 11 0,sC 0 (cF 1 x0 zF)],[(8,(CV.frzRow (zA.row r4))),(10,(CV.frzRow (zA.row r8))),(9,(CV.frzRow (zA.row r7))),(3,(zA.row r2.1))]⟩ ?_
 rw [h13]
 refine mA zH [(3,[4,14,15])] 33 [⟨[4,14,15],42,8,122⟩,⟨[1,4,14,15],42,3,119⟩] fun cx => ?_
 refine mC zH 4 ?_
 refine vA [.rd] (zl n r4 r31 er31) ?_
 refine fA ?_
 refine mA zH [(5,[]),(6,[])] 30 [⟨[4,14,15],42,8,122⟩,⟨[1,4,14,15],42,3,119⟩] fun cx => ?_
 refine sA_ 0x24800000000000000000000000000719 1800 ⟨155,0,[sB 125 r31,sR 122 8 11 0 11 true,sR 119 3 11 0 11 true,sA 10 10 11 0,sA 9 9 11 0,sA 8 8 11 0,sI 4 r2.2,sA 3 3 11 0,sC 0 (cF 1 x0 zF)],[(8,(CV.frzRow (zA.row r4))),(10,(CV.frzRow (zA.row r8))),(9,(CV.frzRow (zA.row r7))),(3,(zA.row r2.1))]⟩ ?_
 rw [h14]
 refine mA zH [(7,[]),(8,[]),(9,[])] 27 [⟨[],35,126,127⟩,⟨[4,14,15],42,8,122⟩,⟨[1,4,14,15],42,3,119⟩] fun cx => ?_
 refine iN zH 10 Pt.row ev32 fun cx => ?_
 refine mA zH [(11,[]),(12,[]),(13,[])] 23 [⟨[],35,126,127⟩,⟨[4,14,15],42,8,122⟩,⟨[1,4,14,15],42,3,119⟩] fun cx => ?_
 refine mC zH 14 ?_
 refine vA [.rd,.rd] (Jr n x0 2 r33 er33) ?_
 refine fA ?_
 refine mC zH 15 ?_
 refine LAt.binC tOk (op := .rem) (t := 3) (ty := 3) (ty' := 3) (x := (.tmp 133)) (y := (.const (.int .i64 2))) (d := 134) (g := (some (6,true))) (.int .i64 r33) (.int .i64 2) (.int .i64 (Int.tmod r33 2)) _ kr kr kr kr kr (φ := (IntKind.i64 = IntKind.i64 ∧ (2 : Int) ≠ 0)) kr (⟨rfl,of_decide_eq_true hg34⟩) rfl ?_
 refine fA ?_
 refine mA zH [(16,[]),(17,[]),(18,[]),(19,[])] 17 [⟨[],35,126,127⟩,⟨[4,14,15],42,8,122⟩,⟨[1,4,14,15],42,3,119⟩] fun cx => ?_
 refine sA_ 0x400c4800000000000000000000000000718 1800 ⟨155,0,[sB 138 (v32.Up == ((Int.tmod r33 2) == 0)),sR 127 9 11 2 1 false,sA 126 9 11 2,sR 122 8 11 0 11 true,sR 119 3 11 0 11 true,sA 10 10 11 0,sA 9 9 11 0,sA 8 8 11 0,sI 4 r2.2,sA 3 3 11 0],[(8,(CV.frzRow (zA.row r4))),(10,(CV.frzRow (zA.row r8))),(9,(CV.frzRow (zA.row r7))),(3,(zA.row r2.1))]⟩ ?_
 rw [h15]
 refine mA zH [(20,[]),(21,[]),(22,[]),(23,[]),(24,[]),(25,[]),(26,[]),(27,[]),(28,[]),(29,[]),(30,[]),(31,[]),(32,[]),(33,[]),(34,[]),(35,[]),(36,[])] 0 [⟨[],35,126,127⟩,⟨[4,14,15],42,8,122⟩,⟨[1,4,14,15],42,3,119⟩] fun cx => ?_
 exact mE zH [2] []
theorem zC8 (n : Nat) (r4 : zA) (r8 : zA) (r7 : zA) (r2 : zA × Int) (cx : Cx) : AT Try.prog cx (rg Try.f4 24) [⟨[],35,139,140⟩,⟨[],35,126,127⟩,⟨[4,14,15],42,8,122⟩,⟨[1,4,14,15],42,3,119⟩] 8 [28,27,26,25,24,23,22,21,20,19,18,17,16,15,14,13,12,11,10,9,8,7,6,5,4,3,2,1,0] ⟨155,0,[sB 147 false,sR 140 9 11 2 1 false,sA 139 9 11 2,sR 127 9 11 2 1 false,sA 126 9 11 2,sR 122 8 11 0 11 true,sR 119 3 11 0 11 true,sA 10 10 11 0,sA 8 8 11 0,sA 3 3 11 0],[(8,(CV.frzRow (zA.row r4))),(10,(CV.frzRow (zA.row r8))),(9,(CV.frzRow (zA.row r7))),(3,(zA.row r2.1))]⟩ (fun s => s = ⟨155,0,[sB 2 false],[]⟩) := by
 refine mA zH [(29,[]),(30,[]),(31,[]),(32,[]),(33,[]),(34,[]),(35,[]),(36,[])] 0 [⟨[],35,139,140⟩,⟨[],35,126,127⟩,⟨[4,14,15],42,8,122⟩,⟨[1,4,14,15],42,3,119⟩] fun cx => ?_
 exact mE zH [2] []
theorem zC9 (n : Nat) (r2 : zA × Int) (r30 : Bool) (x0 : (List Int)) (r4 : zA) (r8 : zA) (r7 : zA) (r31 : Bool) (r33 : Int) (v32 : Pt) (v35 : Pt) (er30 : (zQ n r2.1) = some r30) (h13 : r30 = true) (ev32 : (idx r7.Ps r2.2) = some v32) (ev35 : (idx r7.Ps r2.2) = some v35) (er31 : (zQ n r4) = some r31) (er33 : (ZZ n x0 2) = some r33) (h14 : r31 = true) (hg34 : (decide ((2 : Int) ≠ 0)) = true) (h15 : (v32.Up == ((Int.tmod r33 2) == 0)) = true) (h16 : (!v35.Has) = false) (cx : Cx) : AT Try.prog cx (rg Try.f4 24) [] 37 [] ⟨155,0,[sA 10 10 11 0,sA 9 9 11 0,sA 8 8 11 0,sI 4 r2.2,sA 3 3 11 0,sC 0 (cF 1 x0 zF)],[(8,(CV.frzRow (zA.row r4))),(10,(CV.frzRow (zA.row r8))),(9,(CV.frzRow (zA.row r7))),(3,(zA.row r2.1))]⟩ (fun s => s = ⟨155,0,[sB 2 false],[]⟩) := by
 refine mA zH [(0,[1,4,14,15])] 36 [⟨[1,4,14,15],42,3,119⟩] fun cx => ?_
 refine mC zH 1 ?_
 refine vB [.rd] [.box 3] (zl n r2.1 r30 er30) (.inr (zZ (zI zP zk) zq)) ?_
 refine fA ?_
 refine mA zH [(2,[])] 34 [⟨[1,4,14,15],42,3,119⟩] fun cx => ?_
 refine sA_ 0x2800000000000000000000000000719 1800 ⟨155,0,[sB 121 r30,sR 119 3 11 0 11 true,sA 10 10 11 0,sA 9 9 11 0,sA 8 8 11 0,sI 4 r2.2,sA 3 3 11 0,sC 0 (cF 1 x0 zF)],[(8,(CV.frzRow (zA.row r4))),(10,(CV.frzRow (zA.row r8))),(9,(CV.frzRow (zA.row r7))),(3,(zA.row r2.1))]⟩ ?_
 rw [h13]
 refine mA zH [(3,[4,14,15])] 33 [⟨[4,14,15],42,8,122⟩,⟨[1,4,14,15],42,3,119⟩] fun cx => ?_
 refine mC zH 4 ?_
 refine vA [.rd] (zl n r4 r31 er31) ?_
 refine fA ?_
 refine mA zH [(5,[]),(6,[])] 30 [⟨[4,14,15],42,8,122⟩,⟨[1,4,14,15],42,3,119⟩] fun cx => ?_
 refine sA_ 0x24800000000000000000000000000719 1800 ⟨155,0,[sB 125 r31,sR 122 8 11 0 11 true,sR 119 3 11 0 11 true,sA 10 10 11 0,sA 9 9 11 0,sA 8 8 11 0,sI 4 r2.2,sA 3 3 11 0,sC 0 (cF 1 x0 zF)],[(8,(CV.frzRow (zA.row r4))),(10,(CV.frzRow (zA.row r8))),(9,(CV.frzRow (zA.row r7))),(3,(zA.row r2.1))]⟩ ?_
 rw [h14]
 refine mA zH [(7,[]),(8,[]),(9,[])] 27 [⟨[],35,126,127⟩,⟨[4,14,15],42,8,122⟩,⟨[1,4,14,15],42,3,119⟩] fun cx => ?_
 refine iN zH 10 Pt.row ev32 fun cx => ?_
 refine mA zH [(11,[]),(12,[]),(13,[])] 23 [⟨[],35,126,127⟩,⟨[4,14,15],42,8,122⟩,⟨[1,4,14,15],42,3,119⟩] fun cx => ?_
 refine mC zH 14 ?_
 refine vA [.rd,.rd] (Jr n x0 2 r33 er33) ?_
 refine fA ?_
 refine mC zH 15 ?_
 refine LAt.binC tOk (op := .rem) (t := 3) (ty := 3) (ty' := 3) (x := (.tmp 133)) (y := (.const (.int .i64 2))) (d := 134) (g := (some (6,true))) (.int .i64 r33) (.int .i64 2) (.int .i64 (Int.tmod r33 2)) _ kr kr kr kr kr (φ := (IntKind.i64 = IntKind.i64 ∧ (2 : Int) ≠ 0)) kr (⟨rfl,of_decide_eq_true hg34⟩) rfl ?_
 refine fA ?_
 refine mA zH [(16,[]),(17,[]),(18,[]),(19,[])] 17 [⟨[],35,126,127⟩,⟨[4,14,15],42,8,122⟩,⟨[1,4,14,15],42,3,119⟩] fun cx => ?_
 refine sA_ 0x400c4800000000000000000000000000718 1800 ⟨155,0,[sB 138 (v32.Up == ((Int.tmod r33 2) == 0)),sR 127 9 11 2 1 false,sA 126 9 11 2,sR 122 8 11 0 11 true,sR 119 3 11 0 11 true,sA 10 10 11 0,sA 9 9 11 0,sA 8 8 11 0,sI 4 r2.2,sA 3 3 11 0],[(8,(CV.frzRow (zA.row r4))),(10,(CV.frzRow (zA.row r8))),(9,(CV.frzRow (zA.row r7))),(3,(zA.row r2.1))]⟩ ?_
 rw [h15]
 refine mA zH [(20,[]),(21,[]),(22,[])] 14 [⟨[],35,139,140⟩,⟨[],35,126,127⟩,⟨[4,14,15],42,8,122⟩,⟨[1,4,14,15],42,3,119⟩] fun cx => ?_
 refine iN zH 23 Pt.row ev35 fun cx => ?_
 refine mA zH [(24,[]),(25,[]),(26,[]),(27,[]),(28,[])] 8 [⟨[],35,139,140⟩,⟨[],35,126,127⟩,⟨[4,14,15],42,8,122⟩,⟨[1,4,14,15],42,3,119⟩] fun cx => ?_
 refine sA_ 0x81800c4800000000000000000000000000508 1800 ⟨155,0,[sB 147 (!v35.Has),sR 140 9 11 2 1 false,sA 139 9 11 2,sR 127 9 11 2 1 false,sA 126 9 11 2,sR 122 8 11 0 11 true,sR 119 3 11 0 11 true,sA 10 10 11 0,sA 8 8 11 0,sA 3 3 11 0],[(8,(CV.frzRow (zA.row r4))),(10,(CV.frzRow (zA.row r8))),(9,(CV.frzRow (zA.row r7))),(3,(zA.row r2.1))]⟩ ?_
 rw [h16]
 exact zC8 n r4 r8 r7 r2 cx
theorem zDA (n : Nat) (r4 : zA) (r8 : zA) (r7 : zA) (r2 : zA × Int) (cx : Cx) : AT Try.prog cx (rg Try.f4 24) [⟨[],35,139,140⟩,⟨[],35,126,127⟩,⟨[4,14,15],42,8,122⟩,⟨[1,4,14,15],42,3,119⟩] 8 [28,27,26,25,24,23,22,21,20,19,18,17,16,15,14,13,12,11,10,9,8,7,6,5,4,3,2,1,0] ⟨155,0,[sB 147 true,sR 140 9 11 2 1 false,sA 139 9 11 2,sR 127 9 11 2 1 false,sA 126 9 11 2,sR 122 8 11 0 11 true,sR 119 3 11 0 11 true,sA 10 10 11 0,sA 8 8 11 0,sA 3 3 11 0],[(8,(CV.frzRow (zA.row r4))),(10,(CV.frzRow (zA.row r8))),(9,(CV.frzRow (zA.row r7))),(3,(zA.row r2.1))]⟩ (fun s => s = ⟨155,0,[sB 2 (r8.Tk == (IntKind.wrap .i64 (r2.1.Tk + 1)))],[]⟩) := by
 refine mA zH [(29,[]),(30,[]),(31,[]),(32,[]),(33,[]),(34,[]),(35,[]),(36,[])] 0 [⟨[],3,150,151⟩,⟨[],3,148,149⟩,⟨[],35,139,140⟩,⟨[],35,126,127⟩,⟨[4,14,15],42,8,122⟩,⟨[1,4,14,15],42,3,119⟩] fun cx => ?_
 exact mE zH [2] []
theorem zDB (n : Nat) (r2 : zA × Int) (r30 : Bool) (x0 : (List Int)) (r4 : zA) (r8 : zA) (r7 : zA) (r31 : Bool) (r33 : Int) (v32 : Pt) (v35 : Pt) (er30 : (zQ n r2.1) = some r30) (h13 : r30 = true) (ev32 : (idx r7.Ps r2.2) = some v32) (ev35 : (idx r7.Ps r2.2) = some v35) (er31 : (zQ n r4) = some r31) (er33 : (ZZ n x0 2) = some r33) (h14 : r31 = true) (hg34 : (decide ((2 : Int) ≠ 0)) = true) (h15 : (v32.Up == ((Int.tmod r33 2) == 0)) = true) (h16 : (!v35.Has) = true) (cx : Cx) : AT Try.prog cx (rg Try.f4 24) [] 37 [] ⟨155,0,[sA 10 10 11 0,sA 9 9 11 0,sA 8 8 11 0,sI 4 r2.2,sA 3 3 11 0,sC 0 (cF 1 x0 zF)],[(8,(CV.frzRow (zA.row r4))),(10,(CV.frzRow (zA.row r8))),(9,(CV.frzRow (zA.row r7))),(3,(zA.row r2.1))]⟩ (fun s => s = ⟨155,0,[sB 2 (r8.Tk == (IntKind.wrap .i64 (r2.1.Tk + 1)))],[]⟩) := by
 refine mA zH [(0,[1,4,14,15])] 36 [⟨[1,4,14,15],42,3,119⟩] fun cx => ?_
 refine mC zH 1 ?_
 refine vB [.rd] [.box 3] (zl n r2.1 r30 er30) (.inr (zZ (zI zP zk) zq)) ?_
 refine fA ?_
 refine mA zH [(2,[])] 34 [⟨[1,4,14,15],42,3,119⟩] fun cx => ?_
 refine sA_ 0x2800000000000000000000000000719 1800 ⟨155,0,[sB 121 r30,sR 119 3 11 0 11 true,sA 10 10 11 0,sA 9 9 11 0,sA 8 8 11 0,sI 4 r2.2,sA 3 3 11 0,sC 0 (cF 1 x0 zF)],[(8,(CV.frzRow (zA.row r4))),(10,(CV.frzRow (zA.row r8))),(9,(CV.frzRow (zA.row r7))),(3,(zA.row r2.1))]⟩ ?_
 rw [h13]
 refine mA zH [(3,[4,14,15])] 33 [⟨[4,14,15],42,8,122⟩,⟨[1,4,14,15],42,3,119⟩] fun cx => ?_
 refine mC zH 4 ?_
 refine vA [.rd] (zl n r4 r31 er31) ?_
 refine fA ?_
 refine mA zH [(5,[]),(6,[])] 30 [⟨[4,14,15],42,8,122⟩,⟨[1,4,14,15],42,3,119⟩] fun cx => ?_
 refine sA_ 0x24800000000000000000000000000719 1800 ⟨155,0,[sB 125 r31,sR 122 8 11 0 11 true,sR 119 3 11 0 11 true,sA 10 10 11 0,sA 9 9 11 0,sA 8 8 11 0,sI 4 r2.2,sA 3 3 11 0,sC 0 (cF 1 x0 zF)],[(8,(CV.frzRow (zA.row r4))),(10,(CV.frzRow (zA.row r8))),(9,(CV.frzRow (zA.row r7))),(3,(zA.row r2.1))]⟩ ?_
 rw [h14]
 refine mA zH [(7,[]),(8,[]),(9,[])] 27 [⟨[],35,126,127⟩,⟨[4,14,15],42,8,122⟩,⟨[1,4,14,15],42,3,119⟩] fun cx => ?_
 refine iN zH 10 Pt.row ev32 fun cx => ?_
 refine mA zH [(11,[]),(12,[]),(13,[])] 23 [⟨[],35,126,127⟩,⟨[4,14,15],42,8,122⟩,⟨[1,4,14,15],42,3,119⟩] fun cx => ?_
 refine mC zH 14 ?_
 refine vA [.rd,.rd] (Jr n x0 2 r33 er33) ?_
 refine fA ?_
 refine mC zH 15 ?_
 refine LAt.binC tOk (op := .rem) (t := 3) (ty := 3) (ty' := 3) (x := (.tmp 133)) (y := (.const (.int .i64 2))) (d := 134) (g := (some (6,true))) (.int .i64 r33) (.int .i64 2) (.int .i64 (Int.tmod r33 2)) _ kr kr kr kr kr (φ := (IntKind.i64 = IntKind.i64 ∧ (2 : Int) ≠ 0)) kr (⟨rfl,of_decide_eq_true hg34⟩) rfl ?_
 refine fA ?_
 refine mA zH [(16,[]),(17,[]),(18,[]),(19,[])] 17 [⟨[],35,126,127⟩,⟨[4,14,15],42,8,122⟩,⟨[1,4,14,15],42,3,119⟩] fun cx => ?_
 refine sA_ 0x400c4800000000000000000000000000718 1800 ⟨155,0,[sB 138 (v32.Up == ((Int.tmod r33 2) == 0)),sR 127 9 11 2 1 false,sA 126 9 11 2,sR 122 8 11 0 11 true,sR 119 3 11 0 11 true,sA 10 10 11 0,sA 9 9 11 0,sA 8 8 11 0,sI 4 r2.2,sA 3 3 11 0],[(8,(CV.frzRow (zA.row r4))),(10,(CV.frzRow (zA.row r8))),(9,(CV.frzRow (zA.row r7))),(3,(zA.row r2.1))]⟩ ?_
 rw [h15]
 refine mA zH [(20,[]),(21,[]),(22,[])] 14 [⟨[],35,139,140⟩,⟨[],35,126,127⟩,⟨[4,14,15],42,8,122⟩,⟨[1,4,14,15],42,3,119⟩] fun cx => ?_
 refine iN zH 23 Pt.row ev35 fun cx => ?_
 refine mA zH [(24,[]),(25,[]),(26,[]),(27,[]),(28,[])] 8 [⟨[],35,139,140⟩,⟨[],35,126,127⟩,⟨[4,14,15],42,8,122⟩,⟨[1,4,14,15],42,3,119⟩] fun cx => ?_
 refine sA_ 0x81800c4800000000000000000000000000508 1800 ⟨155,0,[sB 147 (!v35.Has),sR 140 9 11 2 1 false,sA 139 9 11 2,sR 127 9 11 2 1 false,sA 126 9 11 2,sR 122 8 11 0 11 true,sR 119 3 11 0 11 true,sA 10 10 11 0,sA 8 8 11 0,sA 3 3 11 0],[(8,(CV.frzRow (zA.row r4))),(10,(CV.frzRow (zA.row r8))),(9,(CV.frzRow (zA.row r7))),(3,(zA.row r2.1))]⟩ ?_
 rw [h16]
 exact zDA n r4 r8 r7 r2 cx
theorem zDC (n : Nat) (y29 : Int) (r7 : zA) (r8 : zA) (r4 : zA) (v37 : zA) (r38 : Int) (r2 : zA × Int) (x0 : (List Int)) (ev37 : (idx ([r7,r8] ++ [r4]) y29) = some v37) (er38 : (Zf n v37.Id v37.Ps) = some r38) (cx : Cx) : AT Try.prog cx (rg Try.f4 16) [] 12 [] ⟨155,0,[sB 65 (decide (y29 < (([r7,r8] ++ [r4]).length : Int))),sI 12 y29,sC 11 (cL 11 ([r7,r8] ++ [r4]) (zp zA.row)),sA 10 10 11 0,sA 9 9 11 0,sA 8 8 11 0,sI 4 r2.2,sA 3 3 11 0,sC 0 (cF 1 x0 zF)],[(8,(CV.frzRow (zA.row r4))),(10,(CV.frzRow (zA.row r8))),(9,(CV.frzRow (zA.row r7))),(3,(zA.row r2.1))]⟩ (fun s => s = ⟨155,0,[sI 13 r38,sI 12 y29,sC 11 (cL 11 ([r7,r8] ++ [r4]) (zp zA.row)),sA 10 10 11 0,sA 9 9 11 0,sA 8 8 11 0,sI 4 r2.2,sA 3 3 11 0,sC 0 (cF 1 x0 zF)],[(8,(CV.frzRow (zA.row r4))),(10,(CV.frzRow (zA.row r8))),(9,(CV.frzRow (zA.row r7))),(3,(zA.row r2.1))]⟩) := by
 refine mA ZE [(0,[]),(1,[])] 10 [] fun cx => ?_
 refine oN ZE 2 (zp zA.row) ev37 fun cx => ?_
 refine mA ZE [(3,[]),(5,[]),(6,[])] 6 [] fun cx => ?_
 refine oN ZE 7 (zp zA.row) ev37 fun cx => ?_
 refine mA ZE [(8,[])] 4 [] fun cx => ?_
 refine mB2 tOk ZE 4 9 kr (And.intro kr ?_) (And.intro kr ?_)
 ·refine dE (tI 3) (.slot 11) [(0,(y29.toNat))] 11 0 [cL 11 ([r7,r8] ++ [r4]) (zp zA.row)] ((zp zA.row) v37) (qr rfl (qc ev37).2) ?_
  refine fA ?_
  refine mC ZE 9 ?_
  refine dE (tI 35) (.slot 11) [(0,(y29.toNat))] 11 2 [cL 11 ([r7,r8] ++ [r4]) (zp zA.row)] ((zp zA.row) v37) (qr rfl (qc ev37).2) ?_
  refine fA ?_
  refine mC ZE 10 ?_
  refine vA [.rd,.rd] (J2 n v37.Id v37.Ps r38 er38) ?_
  refine fA ?_
  refine mA ZE [(11,[])] 0 [] fun cx => ?_
  exact mE ZE [13,12,11,10,9,8,4,3,0] [8,10,9,3]
 ·refine dE (tI 35) (.slot 11) [(0,(y29.toNat))] 11 2 [cL 11 ([r7,r8] ++ [r4]) (zp zA.row)] ((zp zA.row) v37) (qr rfl (qc ev37).2) ?_
  refine fA ?_
  refine mC ZE 4 ?_
  refine dE (tI 3) (.slot 11) [(0,(y29.toNat))] 11 0 [cL 11 ([r7,r8] ++ [r4]) (zp zA.row)] ((zp zA.row) v37) (qr rfl (qc ev37).2) ?_
  refine fA ?_
  refine mC ZE 10 ?_
  refine vA [.rd,.rd] (J2 n v37.Id v37.Ps r38 er38) ?_
  refine fA ?_
  refine mA ZE [(11,[])] 0 [] fun cx => ?_
  exact mE ZE [13,12,11,10,9,8,4,3,0] [8,10,9,3]
theorem zFO (n : Nat) (x0 : (List Int)) (r : Bool) (H : Yg n x0 = some r) : zK Try.prog 4 [.val false [.sl false 1 (CV.frzEs (x0.map zF))]] [.val false [.lit (.bool r)]] [] := by
 refine cW Try.func4 (fun g d => sl [g 0,sl [g 1] (cn 16 (sl [g 2] .ret) .skip),g 3,g 4,g 5,d 6,g 7,g 8,sl [g 9] (cn 53 (g 10) (sl [g 11] (cn 61 (sl [g 12] .ret) .skip))),sl [g 13] (.block 0 (.loop (sl [sl [g 14] (cn 65 .skip (.exit 0)),.block 1 (sl [d 16,sl [g 17] (.block 2 (.loop (sl [sl [g 18] (cn 86 .skip (.exit 2)),.block 3 (sl [g 20] (cn 112 (sl [g 21] .ret) .skip))] (g 19)))),g 22] (cn 118 (sl [g 23] .ret) .skip))] (g 15)))),d 24] .ret) [.tmp 2] fun cx => ?_
 unfold Yg at H
 refine gA 1 1 0 ?_
 refine tS ?_
 refine rA 1 ?_
 obtain ⟨r1,er1,H⟩ := bs H
 refine vA [.rd] (zIV n x0 r1 er1) ?_
 refine dA 65537 0 ?_
 cases h1 : r1
 ·have H := zL h1 H
  refine nB_ ?_
  refine tK ?_
  refine rA 1 ?_
  obtain ⟨r2,er2,H⟩ := bs H
  refine vA [.rd] (zEu n x0 r2 er2) ?_
  refine LAt.movT tOk (ty := 43) (t := 19) (d := 17) (g := none) [(true,(zA.row r2.1)),(false,[cI r2.2])] _ kr (.inl rfl) kr kr kr kr rfl ?_
  refine uA 5 25 8 ?_
  refine rA 1 ?_
  obtain ⟨r3,er3,H⟩ := bs H
  refine vA [.rd] (zEJ n x0 r3 er3) ?_
  refine LAt.movT tOk (ty := 47) (t := 24) (d := 22) (g := none) [(true,(zA.row r3.1)),(false,[cI r3.2.1]),(true,(Vec.row r3.2.2))] _ kr (.inl rfl) kr kr kr kr rfl ?_
  refine uA 8 153 136 ?_
  refine rA 3 ?_
  obtain ⟨r4,er4,H⟩ := bs H
  refine vB [.rd,.rd,.rd] [.box 3] (zGT n r2.1 r2.2 r3.2.2 r4 er4) (.inr (zZ (zA.row_mine _) zq)) ?_
  refine uA 2 409 392 ?_
  obtain ⟨r5,er5,H⟩ := bs H
  obtain ⟨hg6,H⟩ := gs H
  obtain ⟨r7,er7,H⟩ := bs H
  refine sT ⟨155,0,[sA 8 8 11 0,sA 7 7 5 0,sI 4 r2.2,sA 3 3 11 0,sC 0 (cF 1 x0 zF)],[(8,(zA.row r4)),(7,(Vec.row r3.2.2)),(3,(zA.row r2.1))]⟩ ?_
  refine Tr.draws mixed 9 kr ⟨155,0,[sA 9 9 11 0,sA 8 8 11 0,sA 7 7 5 0,sI 4 r2.2,sA 3 3 11 0,sC 0 (cF 1 x0 zF)],[(9,(zA.row r7)),(8,(zA.row r4)),(7,(Vec.row r3.2.2)),(3,(zA.row r2.1))]⟩ (zDh n x0 r5 r2 r7 r4 r3 er5 hg6 er7) ?_
  refine rA 1 ?_
  obtain ⟨r8,er8,H⟩ := bs H
  refine vB [.rd] [.box 3] (zIF n r2.1 r8 er8) (.inr (zZ (zA.row_mine _) zq)) ?_
  refine uA 2 1945 1928 ?_
  refine rA 2 ?_
  refine LAt.frzB 9 ?_
  refine LAt.frzB 10 ?_
  refine lA 1 ?_
  refine LAt.moveU (T := lk tab) (ty := 53) (x := (.tmp 43)) (d := 11) (g := none) false [cL 11 [r7,r8] (zp zA.row)] kr kr kr kr kr ?_
  refine dA 3993 1928 ?_
  refine tS ?_
  refine tS ?_
  refine Tr.mid (ι := Bool) (fun v => ⟨155,0,[sB 53 v,sC 11 (cL 11 [r7,r8] (zp zA.row)),sA 10 10 11 0,sA 9 9 11 0,sA 8 8 11 0,sI 4 r2.2,sA 3 3 11 0,sC 0 (cF 1 x0 zF)],[(10,(CV.frzRow (zA.row r8))),(9,(CV.frzRow (zA.row r7))),(8,(zA.row r4)),(3,(zA.row r2.1))]⟩) (fun v => q8 n r2 r4 r7 r8 x0 v = some r) ?_ ?_
  ·refine Tr.at ?_
   refine lA 3 ?_
   obtain ⟨v46,ev46,H⟩ := bs H
   refine oA Pt.row ev46 ?_
   refine lA 1 ?_
   refine dE (tI 4) (.box 3) [(0,0),(2,(r2.2.toNat))] 8 0 [.sl true 11 [(zA.row r2.1)]] (Pt.row v46) (zEf rfl (qc ev46).2) ?_
   refine lA 1 ?_
   refine sL 0x4000000000f99 1928 ⟨155,0,[sB 50 v46.Up,sC 11 (cL 11 [r7,r8] (zp zA.row)),sA 10 10 11 0,sA 9 9 11 0,sA 8 8 11 0,sA 7 7 5 0,sI 4 r2.2,sA 3 3 11 0,sC 0 (cF 1 x0 zF)],[(10,(CV.frzRow (zA.row r8))),(9,(CV.frzRow (zA.row r7))),(8,(zA.row r4)),(7,(Vec.row r3.2.2)),(3,(zA.row r2.1))]⟩ ?_
   cases h22 : v46.Up
   ·have H := zL h22 H
    refine uA 3 9007199254744857 1800 ?_
    exact jA false H [53,11,10,9,8,4,3,0] [10,9,8,3]
   have H := zM h22 H
   refine lA 1 ?_
   obtain ⟨r47,er47,H⟩ := bs H
   refine vA [.rd] (J4 n r3.2.2 r47 er47) ?_
   refine uA 1 9007199254744857 1800 ?_
   exact jA r47 H [53,11,10,9,8,4,3,0] [10,9,8,3]
  rintro y9 H
  have H : (q8 n r2 r4 r7 r8 x0 y9) = some r := H
  unfold q8 at H
  cases h2 : y9
  ·have H := zL h2 H
   refine nB_ ?_
   refine rA 2 ?_
   obtain ⟨r10,er10,H⟩ := bs H
   refine vB [.rd,.rd] [.box 8,.box 3] (zEh n r4 r2.1 r10 er10) (.inr (zZ (zI zP zk) zq)) ?_
   refine uA 1 0x2000000000000f19 1800 ?_
   obtain ⟨h3,H⟩ | ⟨h3,H⟩ := bC H
   ·refine nA h3 ?_
    refine tK ?_
    refine tS ?_
    refine gA 1 7961 1800 ?_
    obtain ⟨o18,eo18,Ho18⟩ := bs H
    clear H
    refine Tr.mid (ι := Unit) (fun v => ⟨155,0,[sA 10 10 11 0,sA 9 9 11 0,sA 8 8 11 0,sI 4 r2.2,sA 3 3 11 0,sC 0 (cF 1 x0 zF)],[(10,(CV.frzRow (zA.row r8))),(9,(CV.frzRow (zA.row r7))),(8,(zA.row r4)),(3,(zA.row r2.1))]⟩) (fun v => QO n r2 r4 r7 r8 x0 = some r) ?_ ?_
    ·refine tB ?_
     refine Tr.loop (ι := Nat × (Int)) (fun v => ⟨155,0,[sI 12 v.2,sC 11 (cL 11 [r7,r8] (zp zA.row)),sA 10 10 11 0,sA 9 9 11 0,sA 8 8 11 0,sI 4 r2.2,sA 3 3 11 0,sC 0 (cF 1 x0 zF)],[(10,(CV.frzRow (zA.row r8))),(9,(CV.frzRow (zA.row r7))),(8,(zA.row r4)),(3,(zA.row r2.1))]⟩) (fun v => qJ n v.1 r7 r8 v.2 = some o18) (fun v => v.1) (n,0) eo18 (St.sub_of [12,11,10,9,8,4,3,0] [10,9,8,3] kr) ?_
     rintro ⟨mo18,y11⟩ H
     have H : qJ n mo18 r7 r8 y11 = some o18 := H
     obtain _ | mo18 := mo18
     ·exact nN H
     rw [qJ] at H
     refine tS ?_
     refine rA 2 ?_
     refine kO [r7,r8] (zp zA.row) ?_
     refine uA 1 0x20000000000001f19 1800 ?_
     obtain ⟨h8,H⟩ | ⟨h8,H⟩ := bC H
     ·refine nA h8 ?_
      refine Tr.exit ?_
      refine aJ ?_
      obtain rfl := si H
      have H := Ho18
      dsimp only at H
      exact jA () H [10,9,8,4,3,0] [10,9,8,3]
     refine tA h8 ?_
     refine tK ?_
     refine tS ?_
     refine tB ?_
     obtain ⟨v19,ev19,H⟩ := bs H
     obtain ⟨r20,er20,H⟩ := bs H
     refine sT ⟨155,0,[sB 65 (decide (y11 < ([r7,r8].length : Int))),sI 12 y11,sC 11 (cL 11 [r7,r8] (zp zA.row)),sA 10 10 11 0,sA 9 9 11 0,sA 8 8 11 0,sI 4 r2.2,sA 3 3 11 0,sC 0 (cF 1 x0 zF)],[(10,(CV.frzRow (zA.row r8))),(9,(CV.frzRow (zA.row r7))),(8,(zA.row r4)),(3,(zA.row r2.1))]⟩ ?_
     refine Tr.draws mixed 12 kr ⟨155,0,[sI 13 r20,sI 12 y11,sC 11 (cL 11 [r7,r8] (zp zA.row)),sA 10 10 11 0,sA 9 9 11 0,sA 8 8 11 0,sI 4 r2.2,sA 3 3 11 0,sC 0 (cF 1 x0 zF)],[(10,(CV.frzRow (zA.row r8))),(9,(CV.frzRow (zA.row r7))),(8,(zA.row r4)),(3,(zA.row r2.1))]⟩ (zDo n y11 r7 r8 v19 r20 r2 x0 r4 ev19 er20) ?_
     refine tS ?_
     refine gA 1 32537 1800 ?_
     obtain ⟨o23,eo23,Ho23⟩ := bs H
     clear H
     refine Tr.mid (ι := Unit) (fun v => ⟨155,0,[sI 12 y11,sC 11 (cL 11 [r7,r8] (zp zA.row)),sA 10 10 11 0,sA 9 9 11 0,sA 8 8 11 0,sI 4 r2.2,sA 3 3 11 0,sC 0 (cF 1 x0 zF)],[(10,(CV.frzRow (zA.row r8))),(9,(CV.frzRow (zA.row r7))),(8,(zA.row r4)),(3,(zA.row r2.1))]⟩) (fun v => Zr n (fun v => qJ n mo18 r7 r8 v) v19 y11 = some o18) ?_ ?_
     ·refine tB ?_
      refine Tr.loop (ι := Nat × (Int)) (fun v => ⟨155,0,[sI 14 v.2,sI 13 r20,sI 12 y11,sC 11 (cL 11 [r7,r8] (zp zA.row)),sA 10 10 11 0,sA 9 9 11 0,sA 8 8 11 0,sI 4 r2.2,sA 3 3 11 0,sC 0 (cF 1 x0 zF)],[(10,(CV.frzRow (zA.row r8))),(9,(CV.frzRow (zA.row r7))),(8,(zA.row r4)),(3,(zA.row r2.1))]⟩) (fun v => qK n v.1 r20 r7 r8 y11 v.2 = some o23) (fun v => v.1) (n,0) eo23 (St.sub_of [14,13,12,11,10,9,8,4,3,0] [10,9,8,3] kr) ?_
      rintro ⟨mo23,y21⟩ H
      have H : qK n mo23 r20 r7 r8 y11 y21 = some o23 := H
      obtain _ | mo23 := mo23
      ·exact nN H
      rw [qK] at H
      refine tS ?_
      refine rA 3 ?_
      obtain ⟨v24,ev24,H⟩ := bs H
      refine oA (zp zA.row) ev24 ?_
      refine lA 1 ?_
      refine dE (tI 36) (.slot 11) [(0,(y11.toNat))] 11 3 [cL 11 [r7,r8] (zp zA.row)] ((zp zA.row) v24) (qr rfl (qc ev24).2) ?_
      refine kF v24.F zB.row ?_
      refine uA 1 0x4000000000000000007f19 1800 ?_
      obtain ⟨h10,H⟩ | ⟨h10,H⟩ := bC H
      ·refine nA h10 ?_
       refine Tr.exit ?_
       refine aJ ?_
       obtain rfl := si H
       have H := Ho23
       dsimp only at H
       exact jA () H [12,11,10,9,8,4,3,0] [10,9,8,3]
      refine tA h10 ?_
      refine tK ?_
      refine tS ?_
      refine tB ?_
      refine rA 2 ?_
      refine oA (zp zA.row) ev24 ?_
      refine lA 1 ?_
      refine dE (tI 36) (.slot 11) [(0,(y11.toNat))] 11 3 [cL 11 [r7,r8] (zp zA.row)] ((zp zA.row) v24) (qr rfl (qc ev24).2) ?_
      refine lA 1 ?_
      obtain ⟨v25,ev25,H⟩ := bs H
      refine iA zB.row ev25 ?_
      refine lA 4 ?_
      refine sL 0x8000000000000000000007f19 1800 ⟨155,0,[sB 99 (!v25.Sc),sI 14 y21,sI 13 r20,sI 12 y11,sC 11 (cL 11 [r7,r8] (zp zA.row)),sA 10 10 11 0,sA 9 9 11 0,sA 8 8 11 0,sI 4 r2.2,sA 3 3 11 0,sC 0 (cF 1 x0 zF)],[(10,(CV.frzRow (zA.row r8))),(9,(CV.frzRow (zA.row r7))),(8,(zA.row r4)),(3,(zA.row r2.1))]⟩ ?_
      cases h11 : (!v25.Sc)
      ·have H := zL h11 H
       refine uA 13 0x10000000000000000000000007f19 1800 ?_
       refine nB_ ?_
       refine tK ?_
       refine eA 3 32537 1800 ?_
       exact jB mo23 (IntKind.wrap .i64 (y21 + 1)) H [14,13,12,11,10,9,8,4,3,0] [10,9,8,3]
      have H := zM h11 H
      refine lA 3 ?_
      refine oA (zp zA.row) ev24 ?_
      refine lA 1 ?_
      refine dE (tI 36) (.slot 11) [(0,(y11.toNat))] 11 3 [cL 11 [r7,r8] (zp zA.row)] ((zp zA.row) v24) (qr rfl (qc ev24).2) ?_
      refine lA 1 ?_
      obtain ⟨v26,ev26,H⟩ := bs H
      refine iA zB.row ev26 ?_
      refine lA 2 ?_
      obtain ⟨r27,er27,H⟩ := bs H
      refine vA [.rd,.rd] (zGb n r20 v26.Port r27 er27) ?_
      refine uA 2 0x10000000000000000000000007f19 1800 ?_
      obtain ⟨h12,H⟩ | ⟨h12,H⟩ := bC H
      ·refine nA h12 ?_
       refine tK ?_
       refine eA 3 32537 1800 ?_
       exact jB mo23 (IntKind.wrap .i64 (y21 + 1)) H [14,13,12,11,10,9,8,4,3,0] [10,9,8,3]
      refine tA h12 ?_
      refine gA 1 4 0 ?_
      refine te ?_
      obtain rfl := si H
      have H := Ho23
      dsimp only at H
      obtain rfl := si H
      have H := Ho18
      dsimp only at H
      exact fF H
     rintro _ H
     have H : (Zr n (fun v => qJ n mo18 r7 r8 v) v19 y11) = some o18 := H
     unfold Zr at H
     refine rA 2 ?_
     refine oA (zp zA.row) ev19 ?_
     refine dE (tI 42) (.slot 11) [(0,(y11.toNat))] 11 0 [cL 11 [r7,r8] (zp zA.row)] ((zp zA.row) v19) (qr rfl (qc ev19).2) ?_
     obtain ⟨r22,er22,H⟩ := bs H
     refine vA [.rd] (zl n v19 r22 er22) ?_
     refine uA 1 0x400000000000000000000000001f19 1800 ?_
     obtain ⟨h9,H⟩ | ⟨h9,H⟩ := bC H
     ·refine nA h9 ?_
      refine tK ?_
      refine eA 3 7961 1800 ?_
      exact jB mo18 (IntKind.wrap .i64 (y11 + 1)) H [12,11,10,9,8,4,3,0] [10,9,8,3]
     refine tA h9 ?_
     refine gA 1 4 0 ?_
     refine te ?_
     obtain rfl := si H
     have H := Ho18
     dsimp only at H
     exact fF H
    rintro _ H
    have H : (QO n r2 r4 r7 r8 x0) = some r := H
    unfold QO at H
    obtain ⟨r12,er12,H⟩ := bs H
    refine sT ⟨155,0,[sA 10 10 11 0,sA 9 9 11 0,sA 8 8 11 0,sI 4 r2.2,sA 3 3 11 0,sC 0 (cF 1 x0 zF)],[(10,(CV.frzRow (zA.row r8))),(9,(CV.frzRow (zA.row r7))),(8,(zA.row r4)),(3,(zA.row r2.1))]⟩ ?_
    cases h4 : r12
    ·have H := zL h4 H
     refine Tr.draws mixed 37 kr ⟨155,0,[sB 2 false],[]⟩ (fun cx => ?_) ?_
     ·refine mA zH [(0,[1])] 36 [⟨[1],42,3,119⟩] fun cx => ?_
      refine mC zH 1 ?_
      refine vB [.rd] [.box 3] (zl n r2.1 r12 er12) (.inr (zZ (zI zP zk) zq)) ?_
      refine fA ?_
      refine mA zH [(2,[])] 34 [⟨[1],42,3,119⟩] fun cx => ?_
      refine sA_ 0x2800000000000000000000000000719 1800 ⟨155,0,[sB 121 r12,sR 119 3 11 0 11 true,sA 10 10 11 0,sA 9 9 11 0,sA 8 8 11 0,sI 4 r2.2,sA 3 3 11 0,sC 0 (cF 1 x0 zF)],[(10,(CV.frzRow (zA.row r8))),(9,(CV.frzRow (zA.row r7))),(8,(zA.row r4)),(3,(zA.row r2.1))]⟩ ?_
      rw [h4]
      refine mA zH [(3,[]),(4,[]),(5,[]),(6,[]),(7,[]),(8,[]),(9,[]),(10,[]),(11,[]),(12,[]),(13,[]),(14,[]),(15,[]),(16,[]),(17,[]),(18,[]),(19,[]),(20,[]),(21,[]),(22,[]),(23,[]),(24,[]),(25,[]),(26,[]),(27,[]),(28,[]),(29,[]),(30,[]),(31,[]),(32,[]),(33,[]),(34,[]),(35,[]),(36,[])] 0 [⟨[1],42,3,119⟩] fun cx => ?_
      exact mE zH [2] []
     exact te (fF H)
    have H := zM h4 H
    obtain ⟨r13,er13,H⟩ := bs H
    refine sT ⟨155,0,[sA 10 10 11 0,sA 9 9 11 0,sA 8 8 11 0,sI 4 r2.2,sA 3 3 11 0,sC 0 (cF 1 x0 zF)],[(10,(CV.frzRow (zA.row r8))),(9,(CV.frzRow (zA.row r7))),(8,(zA.row r4)),(3,(zA.row r2.1))]⟩ ?_
    cases h5 : r13
    ·have H := zL h5 H
     refine sT ⟨155,0,[sA 10 10 11 0,sA 9 9 11 0,sA 8 8 11 0,sI 4 r2.2,sA 3 3 11 0,sC 0 (cF 1 x0 zF)],[(10,(CV.frzRow (zA.row r8))),(9,(CV.frzRow (zA.row r7))),(8,(zA.row r4)),(3,(zA.row r2.1))]⟩ ?_
     refine Tr.draws mixed 37 kr ⟨155,0,[sB 2 false],[]⟩ (zDi n r2 r12 x0 r8 r7 r4 r13 er13 er12 h4 h5) ?_
     exact te (fF H)
    have H := zM h5 H
    obtain ⟨v14,ev14,H⟩ := bs H
    obtain ⟨r15,er15,H⟩ := bs H
    obtain ⟨hg16,H⟩ := gs H
    refine sT ⟨155,0,[sA 10 10 11 0,sA 9 9 11 0,sA 8 8 11 0,sI 4 r2.2,sA 3 3 11 0,sC 0 (cF 1 x0 zF)],[(10,(CV.frzRow (zA.row r8))),(9,(CV.frzRow (zA.row r7))),(8,(zA.row r4)),(3,(zA.row r2.1))]⟩ ?_
    cases h6 : (v14.Up == ((Int.tmod r15 2) == 0))
    ·have H := zL h6 H
     refine sT ⟨155,0,[sA 10 10 11 0,sA 9 9 11 0,sA 8 8 11 0,sI 4 r2.2,sA 3 3 11 0,sC 0 (cF 1 x0 zF)],[(10,(CV.frzRow (zA.row r8))),(9,(CV.frzRow (zA.row r7))),(8,(zA.row r4)),(3,(zA.row r2.1))]⟩ ?_
     refine Tr.draws mixed 37 kr ⟨155,0,[sB 2 false],[]⟩ (zDj n r2 r12 x0 r8 r7 r4 r13 r15 v14 er13 ev14 er15 er12 h4 h5 hg16 h6) ?_
     exact te (fF H)
    have H := zM h6 H
    obtain ⟨v17,ev17,H⟩ := bs H
    refine sT ⟨155,0,[sA 10 10 11 0,sA 9 9 11 0,sA 8 8 11 0,sI 4 r2.2,sA 3 3 11 0,sC 0 (cF 1 x0 zF)],[(10,(CV.frzRow (zA.row r8))),(9,(CV.frzRow (zA.row r7))),(8,(zA.row r4)),(3,(zA.row r2.1))]⟩ ?_
    cases h7 : (!v17.Has)
    ·have H := zL h7 H
     refine sT ⟨155,0,[sA 10 10 11 0,sA 9 9 11 0,sA 8 8 11 0,sI 4 r2.2,sA 3 3 11 0,sC 0 (cF 1 x0 zF)],[(10,(CV.frzRow (zA.row r8))),(9,(CV.frzRow (zA.row r7))),(8,(zA.row r4)),(3,(zA.row r2.1))]⟩ ?_
     refine Tr.draws mixed 37 kr ⟨155,0,[sB 2 false],[]⟩ (zDl n r2 r12 x0 r8 r7 r4 r13 r15 v14 v17 er13 ev14 er15 ev17 er12 h4 h5 hg16 h6 h7) ?_
     exact te (fF H)
    have H := zM h7 H
    refine sT ⟨155,0,[sA 10 10 11 0,sA 9 9 11 0,sA 8 8 11 0,sI 4 r2.2,sA 3 3 11 0,sC 0 (cF 1 x0 zF)],[(10,(CV.frzRow (zA.row r8))),(9,(CV.frzRow (zA.row r7))),(8,(zA.row r4)),(3,(zA.row r2.1))]⟩ ?_
    refine Tr.draws mixed 37 kr ⟨155,0,[sB 2 (r8.Tk == (IntKind.wrap .i64 (r2.1.Tk + 1)))],[]⟩ (zDn n r2 r12 x0 r8 r7 r4 r13 r15 v14 v17 er13 ev14 er15 ev17 er12 h4 h5 hg16 h6 h7) ?_
    exact te (fJ [(false,[cB (r8.Tk == (IntKind.wrap .i64 (r2.1.Tk + 1)))])] H)
   refine tA h3 ?_
   refine gA 1 4 0 ?_
   exact te (fF H)
  have H := zM h2 H
  refine tB_ ?_
  refine Tr.at ?_
  refine lA 2 ?_
  refine LAt.frzB 8 ?_
  refine lA 1 ?_
  obtain ⟨hg28,H⟩ := gs H
  refine LAt.appMU tOk (t := 53) (ty := 53) (e := 42) (x := (.tmp 54)) (y := (.tmp 56)) (d := 57) (g := none) (tI 42) (zp zA.row) [r7,r8] [r4] kr kr kr kr kr kr kr kr kr kr hg28 ?_
  refine LAt.moveU (T := lk tab) (ty := 53) (x := (.tmp 57)) (d := 11) (g := none) false [cL 11 ([r7,r8] ++ [r4]) (zp zA.row)] kr kr kr kr kr ?_
  refine dA 3865 1800 ?_
  refine tS ?_
  refine gA 1 7961 1800 ?_
  obtain ⟨o36,eo36,Ho36⟩ := bs H
  clear H
  refine Tr.mid (ι := Unit) (fun v => ⟨155,0,[sA 10 10 11 0,sA 9 9 11 0,sA 8 8 11 0,sI 4 r2.2,sA 3 3 11 0,sC 0 (cF 1 x0 zF)],[(8,(CV.frzRow (zA.row r4))),(10,(CV.frzRow (zA.row r8))),(9,(CV.frzRow (zA.row r7))),(3,(zA.row r2.1))]⟩) (fun v => QP n r2 r4 r7 r8 x0 = some r) ?_ ?_
  ·refine tB ?_
   refine Tr.loop (ι := Nat × (Int)) (fun v => ⟨155,0,[sI 12 v.2,sC 11 (cL 11 ([r7,r8] ++ [r4]) (zp zA.row)),sA 10 10 11 0,sA 9 9 11 0,sA 8 8 11 0,sI 4 r2.2,sA 3 3 11 0,sC 0 (cF 1 x0 zF)],[(8,(CV.frzRow (zA.row r4))),(10,(CV.frzRow (zA.row r8))),(9,(CV.frzRow (zA.row r7))),(3,(zA.row r2.1))]⟩) (fun v => qC n v.1 r4 r7 r8 v.2 = some o36) (fun v => v.1) (n,0) eo36 (St.sub_of [12,11,10,9,8,4,3,0] [8,10,9,3] kr) ?_
   rintro ⟨mo36,y29⟩ H
   have H : qC n mo36 r4 r7 r8 y29 = some o36 := H
   obtain _ | mo36 := mo36
   ·exact nN H
   rw [qC] at H
   refine tS ?_
   refine rA 2 ?_
   refine kO ([r7,r8] ++ [r4]) (zp zA.row) ?_
   refine uA 1 0x20000000000001f19 1800 ?_
   obtain ⟨h17,H⟩ | ⟨h17,H⟩ := bC H
   ·refine nA h17 ?_
    refine Tr.exit ?_
    refine aJ ?_
    obtain rfl := si H
    have H := Ho36
    dsimp only at H
    exact jA () H [10,9,8,4,3,0] [8,10,9,3]
   refine tA h17 ?_
   refine tK ?_
   refine tS ?_
   refine tB ?_
   obtain ⟨v37,ev37,H⟩ := bs H
   obtain ⟨r38,er38,H⟩ := bs H
   refine sT ⟨155,0,[sB 65 (decide (y29 < (([r7,r8] ++ [r4]).length : Int))),sI 12 y29,sC 11 (cL 11 ([r7,r8] ++ [r4]) (zp zA.row)),sA 10 10 11 0,sA 9 9 11 0,sA 8 8 11 0,sI 4 r2.2,sA 3 3 11 0,sC 0 (cF 1 x0 zF)],[(8,(CV.frzRow (zA.row r4))),(10,(CV.frzRow (zA.row r8))),(9,(CV.frzRow (zA.row r7))),(3,(zA.row r2.1))]⟩ ?_
   refine Tr.draws mixed 12 kr ⟨155,0,[sI 13 r38,sI 12 y29,sC 11 (cL 11 ([r7,r8] ++ [r4]) (zp zA.row)),sA 10 10 11 0,sA 9 9 11 0,sA 8 8 11 0,sI 4 r2.2,sA 3 3 11 0,sC 0 (cF 1 x0 zF)],[(8,(CV.frzRow (zA.row r4))),(10,(CV.frzRow (zA.row r8))),(9,(CV.frzRow (zA.row r7))),(3,(zA.row r2.1))]⟩ (zDC n y29 r7 r8 r4 v37 r38 r2 x0 ev37 er38) ?_
   refine tS ?_
   refine gA 1 32537 1800 ?_
   obtain ⟨o41,eo41,Ho41⟩ := bs H
   clear H
   refine Tr.mid (ι := Unit) (fun v => ⟨155,0,[sI 12 y29,sC 11 (cL 11 ([r7,r8] ++ [r4]) (zp zA.row)),sA 10 10 11 0,sA 9 9 11 0,sA 8 8 11 0,sI 4 r2.2,sA 3 3 11 0,sC 0 (cF 1 x0 zF)],[(8,(CV.frzRow (zA.row r4))),(10,(CV.frzRow (zA.row r8))),(9,(CV.frzRow (zA.row r7))),(3,(zA.row r2.1))]⟩) (fun v => ZN n (fun v => qC n mo36 r4 r7 r8 v) v37 y29 = some o36) ?_ ?_
   ·refine tB ?_
    refine Tr.loop (ι := Nat × (Int)) (fun v => ⟨155,0,[sI 14 v.2,sI 13 r38,sI 12 y29,sC 11 (cL 11 ([r7,r8] ++ [r4]) (zp zA.row)),sA 10 10 11 0,sA 9 9 11 0,sA 8 8 11 0,sI 4 r2.2,sA 3 3 11 0,sC 0 (cF 1 x0 zF)],[(8,(CV.frzRow (zA.row r4))),(10,(CV.frzRow (zA.row r8))),(9,(CV.frzRow (zA.row r7))),(3,(zA.row r2.1))]⟩) (fun v => qL n v.1 r38 r4 r7 r8 y29 v.2 = some o41) (fun v => v.1) (n,0) eo41 (St.sub_of [14,13,12,11,10,9,8,4,3,0] [8,10,9,3] kr) ?_
    rintro ⟨mo41,y39⟩ H
    have H : qL n mo41 r38 r4 r7 r8 y29 y39 = some o41 := H
    obtain _ | mo41 := mo41
    ·exact nN H
    rw [qL] at H
    refine tS ?_
    refine rA 3 ?_
    obtain ⟨v42,ev42,H⟩ := bs H
    refine oA (zp zA.row) ev42 ?_
    refine lA 1 ?_
    refine dE (tI 36) (.slot 11) [(0,(y29.toNat))] 11 3 [cL 11 ([r7,r8] ++ [r4]) (zp zA.row)] ((zp zA.row) v42) (qr rfl (qc ev42).2) ?_
    refine kF v42.F zB.row ?_
    refine uA 1 0x4000000000000000007f19 1800 ?_
    obtain ⟨h19,H⟩ | ⟨h19,H⟩ := bC H
    ·refine nA h19 ?_
     refine Tr.exit ?_
     refine aJ ?_
     obtain rfl := si H
     have H := Ho41
     dsimp only at H
     exact jA () H [12,11,10,9,8,4,3,0] [8,10,9,3]
    refine tA h19 ?_
    refine tK ?_
    refine tS ?_
    refine tB ?_
    refine rA 2 ?_
    refine oA (zp zA.row) ev42 ?_
    refine lA 1 ?_
    refine dE (tI 36) (.slot 11) [(0,(y29.toNat))] 11 3 [cL 11 ([r7,r8] ++ [r4]) (zp zA.row)] ((zp zA.row) v42) (qr rfl (qc ev42).2) ?_
    refine lA 1 ?_
    obtain ⟨v43,ev43,H⟩ := bs H
    refine iA zB.row ev43 ?_
    refine lA 4 ?_
    refine sL 0x8000000000000000000007f19 1800 ⟨155,0,[sB 99 (!v43.Sc),sI 14 y39,sI 13 r38,sI 12 y29,sC 11 (cL 11 ([r7,r8] ++ [r4]) (zp zA.row)),sA 10 10 11 0,sA 9 9 11 0,sA 8 8 11 0,sI 4 r2.2,sA 3 3 11 0,sC 0 (cF 1 x0 zF)],[(8,(CV.frzRow (zA.row r4))),(10,(CV.frzRow (zA.row r8))),(9,(CV.frzRow (zA.row r7))),(3,(zA.row r2.1))]⟩ ?_
    cases h20 : (!v43.Sc)
    ·have H := zL h20 H
     refine uA 13 0x10000000000000000000000007f19 1800 ?_
     refine nB_ ?_
     refine tK ?_
     refine eA 3 32537 1800 ?_
     exact jB mo41 (IntKind.wrap .i64 (y39 + 1)) H [14,13,12,11,10,9,8,4,3,0] [8,10,9,3]
    have H := zM h20 H
    refine lA 3 ?_
    refine oA (zp zA.row) ev42 ?_
    refine lA 1 ?_
    refine dE (tI 36) (.slot 11) [(0,(y29.toNat))] 11 3 [cL 11 ([r7,r8] ++ [r4]) (zp zA.row)] ((zp zA.row) v42) (qr rfl (qc ev42).2) ?_
    refine lA 1 ?_
    obtain ⟨v44,ev44,H⟩ := bs H
    refine iA zB.row ev44 ?_
    refine lA 2 ?_
    obtain ⟨r45,er45,H⟩ := bs H
    refine vA [.rd,.rd] (zGb n r38 v44.Port r45 er45) ?_
    refine uA 2 0x10000000000000000000000007f19 1800 ?_
    obtain ⟨h21,H⟩ | ⟨h21,H⟩ := bC H
    ·refine nA h21 ?_
     refine tK ?_
     refine eA 3 32537 1800 ?_
     exact jB mo41 (IntKind.wrap .i64 (y39 + 1)) H [14,13,12,11,10,9,8,4,3,0] [8,10,9,3]
    refine tA h21 ?_
    refine gA 1 4 0 ?_
    refine te ?_
    obtain rfl := si H
    have H := Ho41
    dsimp only at H
    obtain rfl := si H
    have H := Ho36
    dsimp only at H
    exact fF H
   rintro _ H
   have H : (ZN n (fun v => qC n mo36 r4 r7 r8 v) v37 y29) = some o36 := H
   unfold ZN at H
   refine rA 2 ?_
   refine oA (zp zA.row) ev37 ?_
   refine dE (tI 42) (.slot 11) [(0,(y29.toNat))] 11 0 [cL 11 ([r7,r8] ++ [r4]) (zp zA.row)] ((zp zA.row) v37) (qr rfl (qc ev37).2) ?_
   obtain ⟨r40,er40,H⟩ := bs H
   refine vA [.rd] (zl n v37 r40 er40) ?_
   refine uA 1 0x400000000000000000000000001f19 1800 ?_
   obtain ⟨h18,H⟩ | ⟨h18,H⟩ := bC H
   ·refine nA h18 ?_
    refine tK ?_
    refine eA 3 7961 1800 ?_
    exact jB mo36 (IntKind.wrap .i64 (y29 + 1)) H [12,11,10,9,8,4,3,0] [8,10,9,3]
   refine tA h18 ?_
   refine gA 1 4 0 ?_
   refine te ?_
   obtain rfl := si H
   have H := Ho36
   dsimp only at H
   exact fF H
  rintro _ H
  have H : (QP n r2 r4 r7 r8 x0) = some r := H
  unfold QP at H
  obtain ⟨r30,er30,H⟩ := bs H
  refine sT ⟨155,0,[sA 10 10 11 0,sA 9 9 11 0,sA 8 8 11 0,sI 4 r2.2,sA 3 3 11 0,sC 0 (cF 1 x0 zF)],[(8,(CV.frzRow (zA.row r4))),(10,(CV.frzRow (zA.row r8))),(9,(CV.frzRow (zA.row r7))),(3,(zA.row r2.1))]⟩ ?_
  cases h13 : r30
  ·have H := zL h13 H
   refine Tr.draws mixed 37 kr ⟨155,0,[sB 2 false],[]⟩ (fun cx => ?_) ?_
   ·refine mA zH [(0,[1])] 36 [⟨[1],42,3,119⟩] fun cx => ?_
    refine mC zH 1 ?_
    refine vB [.rd] [.box 3] (zl n r2.1 r30 er30) (.inr (zZ (zI zP zk) zq)) ?_
    refine fA ?_
    refine mA zH [(2,[])] 34 [⟨[1],42,3,119⟩] fun cx => ?_
    refine sA_ 0x2800000000000000000000000000719 1800 ⟨155,0,[sB 121 r30,sR 119 3 11 0 11 true,sA 10 10 11 0,sA 9 9 11 0,sA 8 8 11 0,sI 4 r2.2,sA 3 3 11 0,sC 0 (cF 1 x0 zF)],[(8,(CV.frzRow (zA.row r4))),(10,(CV.frzRow (zA.row r8))),(9,(CV.frzRow (zA.row r7))),(3,(zA.row r2.1))]⟩ ?_
    rw [h13]
    refine mA zH [(3,[]),(4,[]),(5,[]),(6,[]),(7,[]),(8,[]),(9,[]),(10,[]),(11,[]),(12,[]),(13,[]),(14,[]),(15,[]),(16,[]),(17,[]),(18,[]),(19,[]),(20,[]),(21,[]),(22,[]),(23,[]),(24,[]),(25,[]),(26,[]),(27,[]),(28,[]),(29,[]),(30,[]),(31,[]),(32,[]),(33,[]),(34,[]),(35,[]),(36,[])] 0 [⟨[1],42,3,119⟩] fun cx => ?_
    exact mE zH [2] []
   exact te (fF H)
  have H := zM h13 H
  obtain ⟨r31,er31,H⟩ := bs H
  refine sT ⟨155,0,[sA 10 10 11 0,sA 9 9 11 0,sA 8 8 11 0,sI 4 r2.2,sA 3 3 11 0,sC 0 (cF 1 x0 zF)],[(8,(CV.frzRow (zA.row r4))),(10,(CV.frzRow (zA.row r8))),(9,(CV.frzRow (zA.row r7))),(3,(zA.row r2.1))]⟩ ?_
  cases h14 : r31
  ·have H := zL h14 H
   refine sT ⟨155,0,[sA 10 10 11 0,sA 9 9 11 0,sA 8 8 11 0,sI 4 r2.2,sA 3 3 11 0,sC 0 (cF 1 x0 zF)],[(8,(CV.frzRow (zA.row r4))),(10,(CV.frzRow (zA.row r8))),(9,(CV.frzRow (zA.row r7))),(3,(zA.row r2.1))]⟩ ?_
   refine Tr.draws mixed 37 kr ⟨155,0,[sB 2 false],[]⟩ (zDp n r2 r30 x0 r4 r8 r7 r31 er30 h13 er31 h14) ?_
   exact te (fF H)
  have H := zM h14 H
  obtain ⟨v32,ev32,H⟩ := bs H
  obtain ⟨r33,er33,H⟩ := bs H
  obtain ⟨hg34,H⟩ := gs H
  refine sT ⟨155,0,[sA 10 10 11 0,sA 9 9 11 0,sA 8 8 11 0,sI 4 r2.2,sA 3 3 11 0,sC 0 (cF 1 x0 zF)],[(8,(CV.frzRow (zA.row r4))),(10,(CV.frzRow (zA.row r8))),(9,(CV.frzRow (zA.row r7))),(3,(zA.row r2.1))]⟩ ?_
  cases h15 : (v32.Up == ((Int.tmod r33 2) == 0))
  ·have H := zL h15 H
   refine sT ⟨155,0,[sA 10 10 11 0,sA 9 9 11 0,sA 8 8 11 0,sI 4 r2.2,sA 3 3 11 0,sC 0 (cF 1 x0 zF)],[(8,(CV.frzRow (zA.row r4))),(10,(CV.frzRow (zA.row r8))),(9,(CV.frzRow (zA.row r7))),(3,(zA.row r2.1))]⟩ ?_
   refine Tr.draws mixed 37 kr ⟨155,0,[sB 2 false],[]⟩ (zC7 n r2 r30 x0 r4 r8 r7 r31 r33 v32 er30 h13 ev32 er31 er33 h14 hg34 h15) ?_
   exact te (fF H)
  have H := zM h15 H
  obtain ⟨v35,ev35,H⟩ := bs H
  refine sT ⟨155,0,[sA 10 10 11 0,sA 9 9 11 0,sA 8 8 11 0,sI 4 r2.2,sA 3 3 11 0,sC 0 (cF 1 x0 zF)],[(8,(CV.frzRow (zA.row r4))),(10,(CV.frzRow (zA.row r8))),(9,(CV.frzRow (zA.row r7))),(3,(zA.row r2.1))]⟩ ?_
  cases h16 : (!v35.Has)
  ·have H := zL h16 H
   refine sT ⟨155,0,[sA 10 10 11 0,sA 9 9 11 0,sA 8 8 11 0,sI 4 r2.2,sA 3 3 11 0,sC 0 (cF 1 x0 zF)],[(8,(CV.frzRow (zA.row r4))),(10,(CV.frzRow (zA.row r8))),(9,(CV.frzRow (zA.row r7))),(3,(zA.row r2.1))]⟩ ?_
   refine Tr.draws mixed 37 kr ⟨155,0,[sB 2 false],[]⟩ (zC9 n r2 r30 x0 r4 r8 r7 r31 r33 v32 v35 er30 h13 ev32 ev35 er31 er33 h14 hg34 h15 h16) ?_
   exact te (fF H)
  have H := zM h16 H
  refine sT ⟨155,0,[sA 10 10 11 0,sA 9 9 11 0,sA 8 8 11 0,sI 4 r2.2,sA 3 3 11 0,sC 0 (cF 1 x0 zF)],[(8,(CV.frzRow (zA.row r4))),(10,(CV.frzRow (zA.row r8))),(9,(CV.frzRow (zA.row r7))),(3,(zA.row r2.1))]⟩ ?_
  refine Tr.draws mixed 37 kr ⟨155,0,[sB 2 (r8.Tk == (IntKind.wrap .i64 (r2.1.Tk + 1)))],[]⟩ (zDB n r2 r30 x0 r4 r8 r7 r31 r33 v32 v35 er30 h13 ev32 ev35 er31 er33 h14 hg34 h15 h16) ?_
  exact te (fJ [(false,[cB (r8.Tk == (IntKind.wrap .i64 (r2.1.Tk + 1)))])] H)
 have H := zM h1 H
 refine tB_ ?_
 refine gA 1 4 0 ?_
 exact te (fT H)
def YS (n : Nat) (x0 : zA) : Option (zA) :=
  (bif (decide (([] : List Pt).length + x0.Ps.length ≤ 268435456)) then ((qS n x0.F).bind fun r2 => ((qu n x0.V).bind fun r3 => (some (⟨x0.Id,x0.Name,(([] : List Pt) ++ x0.Ps),r2,r3,x0.Tk,x0.Pa,x0.Wo,x0.Dr,x0.Ve⟩ : zA)))) else none)
def qW (n : Nat) (x0 : Vec) : Option (Bool) :=
  ((zX n x0.Root 1 99).bind fun r1 => (bif r1 then ((zX n x0.Co 0 100000).bind fun r2 => (bif r2 then ((zX n x0.Hops 0 10).bind fun r3 => (bif r3 then ((zX n x0.Bridge 1 99).bind fun r4 => (bif r4 then ((zX n x0.Port 0 7).bind fun r5 => (some r5)) else (some false))) else (some false))) else (some false))) else (some false)))
def qB (n : Nat) (x0 : Pt) : Option (Bool) :=
  ((zX n x0.Co 1 1000).bind fun r1 => (bif (!r1) then (some false) else (bif (!x0.Up) then (bif x0.Has then (some false) else (some ((x0.Hd.Root == 0) && ((x0.Hd.Co == 0) && ((x0.Hd.Hops == 0) && ((x0.Hd.Bridge == 0) && ((x0.Hd.Port == 0) && true))))))) else (bif (!x0.Has) then (some ((x0.Hd.Root == 0) && ((x0.Hd.Co == 0) && ((x0.Hd.Hops == 0) && ((x0.Hd.Bridge == 0) && ((x0.Hd.Port == 0) && true)))))) else ((qW n x0.Hd).bind fun r2 => (some r2))))))
def Yj (n : Nat) (x0 : zA) : Option (Bool) :=
  ((zX n x0.Tk 0 1000000).bind fun r1 => (bif r1 then ((zX n x0.Pa 0 1000000).bind fun r2 => (bif r2 then ((zX n x0.Wo 0 1000000).bind fun r3 => (bif r3 then ((zX n x0.Dr 0 1000000).bind fun r4 => (bif r4 then ((zX n x0.Ve 0 1000000).bind fun r5 => (some r5)) else (some false))) else (some false))) else (some false))) else (some false)))
def YH (n : Nat) (x0 : zA) : Option (Bool) :=
  ((zX n x0.Id 1 99).bind fun r2 => (bif r2 then (bif (decide ((x0.Name.size : Int) ≤ 10)) then ((zX n (x0.Ps.length : Int) 1 6).bind fun r3 => (bif r3 then ((qp n x0.F).bind fun r4 => (bif r4 then ((qG n x0.V (x0.Ps.length : Int)).bind fun r5 => (bif r5 then ((Yj n x0).bind fun r6 => (some r6)) else (some false))) else (some false))) else (some false))) else (some false)) else (some false)))
def zz (n : Nat) : Nat → zA → Int → Option ((Unit) ⊕ (Bool))
  | 0,_,_ => none
  | mo7 + 1,x0,y1 => (bif (decide (y1 < (x0.Ps.length : Int))) then ((idx x0.Ps y1).bind fun v8 => ((qB n v8).bind fun r9 => (bif (!r9) then (some (Sum.inr false)) else (zz n mo7 x0 (IntKind.wrap .i64 (y1 + 1)))))) else (some (Sum.inl ())))
def zn (n : Nat) (x0 : zA) : Option (Bool) :=
  ((zz n n x0 0).bind fun o => match o with | .inl _ => (YH n x0) | .inr r => some r)
def Y1 (n : Nat) (x0 : Int) : Option (Int) :=
  (bif (decide (x0 ≥ 1000000)) then (some x0) else (some (IntKind.wrap .i64 (x0 + 1))))
def Je (n : Nat) (x0 : Vec) (x1 : Int) : Option (Vec × Bool) :=
  ((qW n x0).bind fun r1 => (bif (!r1) then (some (x0,false)) else ((zX n x1 1 1000).bind fun r2 => (bif (!r2) then (some (x0,false)) else ((qW n (⟨x0.Root,(IntKind.wrap .i64 (x0.Co + x1)),(IntKind.wrap .i64 (x0.Hops + 1)),x0.Bridge,x0.Port⟩ : Vec)).bind fun r3 => (bif (!r3) then (some (x0,false)) else (some ((⟨x0.Root,(IntKind.wrap .i64 (x0.Co + x1)),(IntKind.wrap .i64 (x0.Hops + 1)),x0.Bridge,x0.Port⟩ : Vec),true))))))))
def YQ (n : Nat) (x0 : Vec) (x1 : Vec) : Option (Bool) :=
  (bif (x0.Root != x1.Root) then (some (decide (x0.Root < x1.Root))) else (bif (x0.Co != x1.Co) then (some (decide (x0.Co < x1.Co))) else (bif (x0.Bridge != x1.Bridge) then (some (decide (x0.Bridge < x1.Bridge))) else (some (decide (x0.Port < x1.Port))))))
def zEt (n : Nat) (x0 : Int) (y11 : Int) (y12 : Int) (y13 : Int) (y14 : Int) : Option (Vec × Int) :=
  (some ((⟨y12,y13,y14,x0,0⟩ : Vec),y11))
def QG (n : Nat) (k : (Int × Int × Int × Int × Int × Int × Int × Int × Int × Int → Option ((Int × Int × Int × Int) ⊕ (Vec × Int)))) (r20 : Vec × Bool) (y1 : Int) (y10 : Int) (y2 : Int) (y3 : Int) (y4 : Int) (y5 : Int) (y6 : Int) (y7 : Int) (y8 : Int) (y9 : Int) (y21 : Bool) (y22 : Bool) (y23 : Bool) (y24 : Bool) (y25 : Bool) (y26 : Bool) (y27 : Bool) : Option ((Int × Int × Int × Int) ⊕ (Vec × Int)) :=
  (bif y21 then (k ((IntKind.wrap .i64 (y1 + 1)),y1,r20.1.Root,r20.1.Co,r20.1.Hops,r20.1.Bridge,r20.1.Port,r20.1.Root,r20.1.Co,r20.1.Hops)) else (k ((IntKind.wrap .i64 (y1 + 1)),y2,y3,y4,y5,y6,y7,y8,y9,y10)))
def qn (n : Nat) : Nat → Int → (List Pt) → Int → Int → Int → Int → Int → Int → Int → Int → Int → Int → Option ((Int × Int × Int × Int) ⊕ (Vec × Int))
  | 0,_,_,_,_,_,_,_,_,_,_,_,_ => none
  | mo15 + 1,x0,x1,y1,y2,y3,y4,y5,y6,y7,y8,y9,y10 => (bif (decide (y1 < (x1.length : Int))) then ((idx x1 y1).bind fun v16 => (bif (!v16.Up) then (qn n mo15 x0 x1 (IntKind.wrap .i64 (y1 + 1)) y2 y3 y4 y5 y6 y7 y8 y9 y10) else ((idx x1 y1).bind fun v17 => (bif (!v17.Has) then (qn n mo15 x0 x1 (IntKind.wrap .i64 (y1 + 1)) y2 y3 y4 y5 y6 y7 y8 y9 y10) else ((idx x1 y1).bind fun v18 => ((idx x1 y1).bind fun v19 => ((Je n v18.Hd v19.Co).bind fun r20 => (bif r20.2 then (bif (decide (r20.1.Root < x0)) then (bif (decide (y2 < 0)) then (QG n (fun v => qn n mo15 x0 x1 v.1 v.2.1 v.2.2.1 v.2.2.2.1 v.2.2.2.2.1 v.2.2.2.2.2.1 v.2.2.2.2.2.2.1 v.2.2.2.2.2.2.2.1 v.2.2.2.2.2.2.2.2.1 v.2.2.2.2.2.2.2.2.2) r20 y1 y10 y2 y3 y4 y5 y6 y7 y8 y9 true true true true true true true) else ((YQ n r20.1 (⟨y3,y4,y5,y6,y7⟩ : Vec)).bind fun r28 => (QG n (fun v => qn n mo15 x0 x1 v.1 v.2.1 v.2.2.1 v.2.2.2.1 v.2.2.2.2.1 v.2.2.2.2.2.1 v.2.2.2.2.2.2.1 v.2.2.2.2.2.2.2.1 v.2.2.2.2.2.2.2.2.1 v.2.2.2.2.2.2.2.2.2) r20 y1 y10 y2 y3 y4 y5 y6 y7 y8 y9 r28 true true true true true true))) else (QG n (fun v => qn n mo15 x0 x1 v.1 v.2.1 v.2.2.1 v.2.2.2.1 v.2.2.2.2.1 v.2.2.2.2.2.1 v.2.2.2.2.2.2.1 v.2.2.2.2.2.2.2.1 v.2.2.2.2.2.2.2.2.1 v.2.2.2.2.2.2.2.2.2) r20 y1 y10 y2 y3 y4 y5 y6 y7 y8 y9 false false false true true true true)) else (QG n (fun v => qn n mo15 x0 x1 v.1 v.2.1 v.2.2.1 v.2.2.2.1 v.2.2.2.2.1 v.2.2.2.2.2.1 v.2.2.2.2.2.2.1 v.2.2.2.2.2.2.2.1 v.2.2.2.2.2.2.2.2.1 v.2.2.2.2.2.2.2.2.2) r20 y1 y10 y2 y3 y4 y5 y6 y7 y8 y9 false false false false false false false))))))))) else (some (Sum.inl (y2,y8,y9,y10))))
def Qq (n : Nat) (x0 : Int) (x1 : (List Pt)) : Option (Vec × Int) :=
  ((qn n n x0 x1 0 (-1) 0 0 0 0 0 x0 0 0).bind fun o => match o with | .inl (y11,y12,y13,y14) => (zEt n x0 y11 y12 y13 y14) | .inr r => some r)
def zAD (n : Nat) (x0 : Int) (x1 : (List Pt)) (x2 : Int) : Option (Vec) :=
  ((Qq n x0 x1).bind fun r1 => (some (⟨r1.1.Root,r1.1.Co,r1.1.Hops,r1.1.Bridge,x2⟩ : Vec)))
def Yx (n : Nat) (x0 : Int) (x1 : (List Pt)) (x2 : Int) : Option (Int) :=
  ((zX n x2 0 (IntKind.wrap .i64 ((x1.length : Int) - 1))).bind fun r1 => (bif (!r1) then (some 4) else ((idx x1 x2).bind fun v2 => (bif (!v2.Up) then (some 4) else ((Qq n x0 x1).bind fun r3 => (bif (r3.2 == x2) then (some 1) else ((idx x1 x2).bind fun v4 => (bif (!v4.Has) then (some 2) else ((zAD n x0 x1 x2).bind fun r5 => ((idx x1 x2).bind fun v6 => ((YQ n r5 v6.Hd).bind fun r7 => (bif r7 then (some 2) else (some 3)))))))))))))
def zF8 (n : Nat) (y3 : Int) : Option (Int) :=
  (some y3)
def QL (n : Nat) : Nat → Int → (List Pt) → Int → Int → Option ((Int) ⊕ (Int))
  | 0,_,_,_,_ => none
  | mo4 + 1,x0,x1,y1,y2 => (bif (decide (y1 < (x1.length : Int))) then (bif (decide (y1 < 6)) then ((Yx n x0 x1 y1).bind fun r5 => (bif (decide (r5 ≤ 2)) then (bif (decide ((0 : Int) ≤ (IntKind.wrap .u64 y1))) then (QL n mo4 x0 x1 (IntKind.wrap .i64 (y1 + 1)) (IntKind.wrap .i64 (BitVec.ofInt (IntKind.bits .i64) y2 ||| BitVec.ofInt (IntKind.bits .i64) (IntKind.wrap .i64 (1 * 2 ^ min (((IntKind.wrap .u64 y1) : Int)).toNat (IntKind.bits .i64)))).toNat)) else none) else (QL n mo4 x0 x1 (IntKind.wrap .i64 (y1 + 1)) y2))) else (some (Sum.inl y2))) else (some (Sum.inl y2)))
def ZT (n : Nat) (x0 : Int) (x1 : (List Pt)) : Option (Int) :=
  ((QL n n x0 x1 0 0).bind fun o => match o with | .inl y3 => (zF8 n y3) | .inr r => some r)
def zB5 (n : Nat) (x0 : Int) (x1 : Int) : Option (Bool) :=
  ((zX n x1 0 7).bind fun r1 => (bif r1 then (bif (decide ((0 : Int) ≤ (IntKind.wrap .u64 x1))) then (some ((IntKind.wrap .i64 (BitVec.ofInt (IntKind.bits .i64) (Int.fdiv x0 (2 ^ min (((IntKind.wrap .u64 x1) : Int)).toNat (IntKind.bits .i64))) &&& BitVec.ofInt (IntKind.bits .i64) 1).toNat) == 1)) else none) else (some false)))
def zA0 (n : Nat) (y3 : (List zB)) : Option ((List zB)) :=
  (some y3)
def q9 (n : Nat) : Nat → (List zB) → Int → Int → (List zB) → Option (((List zB)) ⊕ ((List zB)))
  | 0,_,_,_,_ => none
  | mo4 + 1,x0,x1,y1,y2 => (bif (decide (y1 < (x0.length : Int))) then ((idx x0 y1).bind fun v5 => (bif v5.Sc then ((idx x0 y1).bind fun v9 => (bif (decide (y2.length + [v9].length ≤ 268435456)) then (q9 n mo4 x0 x1 (IntKind.wrap .i64 (y1 + 1)) (y2 ++ [v9])) else none)) else ((idx x0 y1).bind fun v6 => (bif (v6.Port != x1) then ((idx x0 y1).bind fun v7 => (bif (decide (y2.length + [v7].length ≤ 268435456)) then (q9 n mo4 x0 x1 (IntKind.wrap .i64 (y1 + 1)) (y2 ++ [v7])) else none)) else (q9 n mo4 x0 x1 (IntKind.wrap .i64 (y1 + 1)) y2))))) else (some (Sum.inl y2)))
def zAB (n : Nat) (x0 : (List zB)) (x1 : Int) : Option ((List zB)) :=
  ((q9 n n x0 x1 0 ([] : List zB)).bind fun o => match o with | .inl y3 => (zA0 n y3) | .inr r => some r)
def zDt (n : Nat) (r1 : Int) (x0 : zA) (y5 : (List zB)) : Option (zA) :=
  (some (⟨x0.Id,x0.Name,x0.Ps,y5,x0.V,x0.Tk,x0.Pa,x0.Wo,x0.Dr,r1⟩ : zA))
def qe (n : Nat) : Nat → Int → zA → Int → (List zB) → Option (((List zB)) ⊕ (zA))
  | 0,_,_,_,_ => none
  | mo6 + 1,r2,x0,y3,y4 => (bif (decide (y3 < (x0.Ps.length : Int))) then ((zB5 n r2 y3).bind fun r7 => (bif (!r7) then ((zAB n y4 y3).bind fun r8 => (qe n mo6 r2 x0 (IntKind.wrap .i64 (y3 + 1)) r8)) else (qe n mo6 r2 x0 (IntKind.wrap .i64 (y3 + 1)) y4))) else (some (Sum.inl y4)))
def ZD (n : Nat) (x0 : zA) : Option (zA) :=
  ((Y1 n x0.Ve).bind fun r1 => ((ZT n x0.Id x0.Ps).bind fun r2 => ((qe n n r2 x0 0 x0.F).bind fun o => match o with | .inl y5 => (zDt n r1 x0 y5) | .inr r => some r)))
def zE1 (n : Nat) (x0 : zA) : Option (zA) :=
  ((YS n x0).bind fun r1 => ((zn n x0).bind fun r2 => (bif (!r2) then (some r1) else ((Y1 n x0.Tk).bind fun r3 => ((QC n x0.F).bind fun r4 => ((ZD n (⟨r1.Id,r1.Name,r1.Ps,r4,r1.V,r3,r1.Pa,r1.Wo,r1.Dr,r1.Ve⟩ : zA)).bind fun r5 => (some r5)))))))
def JF (n : Nat) (x0 : zA) (x1 : Int) : Option (Bool) :=
  ((zn n x0).bind fun r1 => (bif r1 then ((zX n x1 0 (IntKind.wrap .i64 ((x0.Ps.length : Int) - 1))).bind fun r2 => (some r2)) else (some false)))
def zCo (n : Nat) (x0 : zA) (x1 : Int) (x2 : Vec) : Option (zA) :=
  ((YS n x0).bind fun r1 => ((JF n x0 x1).bind fun r2 => (bif (!r2) then (some r1) else ((idx x0.Ps x1).bind fun v3 => (bif (!v3.Up) then (some r1) else ((qW n x2).bind fun r4 => (bif (!r4) then (some r1) else ((idx r1.Ps x1).bind fun v5 => ((idx (r1.Ps.set (x1.toNat) (⟨v5.Up,v5.Co,true,v5.Hd⟩ : Pt)) x1).bind fun v6 => ((ZD n (⟨r1.Id,r1.Name,((r1.Ps.set (x1.toNat) (⟨v5.Up,v5.Co,true,v5.Hd⟩ : Pt)).set (x1.toNat) (⟨v6.Up,v6.Co,v6.Has,x2⟩ : Pt)),r1.F,r1.V,r1.Tk,r1.Pa,r1.Wo,r1.Dr,r1.Ve⟩ : zA)).bind fun r7 => (some r7)))))))))))
def zCp (n : Nat) (x0 : zA) (x1 : Int) (x2 : Bool) : Option (zA) :=
  ((YS n x0).bind fun r1 => ((JF n x0 x1).bind fun r2 => (bif (!r2) then (some r1) else ((idx x0.Ps x1).bind fun v3 => ((idx r1.Ps x1).bind fun v4 => ((ZD n (⟨r1.Id,r1.Name,(r1.Ps.set (x1.toNat) (⟨x2,v3.Co,false,(⟨0,0,0,0,0⟩ : Vec)⟩ : Pt)),r1.F,r1.V,r1.Tk,r1.Pa,r1.Wo,r1.Dr,r1.Ve⟩ : zA)).bind fun r5 => (some r5)))))))
end Go.Proofs.Ytajadnlejdpceaa.Tw
