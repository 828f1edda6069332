import Derived.Test.YtcegokjpmppdbaaGreatProg
import Derived.Test.YtcegokjpmppdbaaGreatTlRule
import Derived.Test.YtcegokjpmppdbaaGreatTlU12
import Derived.Test.YtcegokjpmppdbaaGreatTwFS0
import Derived.WalkKit
set_option linter.unusedVariables false
set_option linter.unusedSimpArgs false
set_option maxRecDepth 100000
set_option maxHeartbeats 1000000
namespace Go.Proofs.YtcegokjpmppdbaaGreat.Tw
open Go Go.TL Go.Proofs
def QF (n : Nat) (x0 : zA) (x1 : Int) (x2 : Bool) : Option (zA) :=
  ((QG n x0).bind fun r1 => ((YM n x0 x1).bind fun r2 => (bif (!r2) then (some r1) else ((idx x0.Ps x1).bind fun v3 => ((idx r1.Ps x1).bind fun v4 => ((qk n (⟨r1.Id,r1.Name,(r1.Ps.set (x1.toNat) (⟨x2,v3.Co,false,(⟨0,0,0,0,0⟩ : Vec)⟩ : Pt)),r1.F,r1.V,r1.Tk,r1.Pa,r1.Wo,r1.Dr,r1.Ve⟩ : zA)).bind fun r5 => (some r5)))))))
def zMb : Tab := ⟨13,[0,1,0,0,0,16,0,96,128,256,520,2047,4095],[0,1,0,0,0,16,0,96,128,256,520,6,3072],[0,1,0,0,0,16,0,112,240,496,1016,2047,4095]⟩
theorem zC8 : za (rg Tryz.f158 4) zMb = true := kr
theorem zDN (n : Nat) (x0 : zA) (x1 : Int) (x2 : Bool) (r : zA) (H : QF n x0 x1 x2 = some r) : zI Tryz.prog 158 [.val true (CV.frzRow (zA.row x0)),.val false [.lit (.int .i64 x1)],.val false [.lit (.bool x2)]] [.val true (zA.row r)] [] := by
 refine cW Tryz.func158 (fun g d => sl [g 0,g 1,sl [g 2] (cn 13 (sl [g 3] .ret) .skip),d 4,g 5] .ret) [.cell 6 41] fun cx => ?_
 unfold QF at H
 refine gA 2 78 72 ?_
 refine rA 1 ?_
 obtain ⟨r1,er1,H⟩ := bs H
 refine vA [.rd] (zBd n x0 r1 er1) ?_
 refine uA 2 206 200 ?_
 refine tS ?_
 refine rA 2 ?_
 obtain ⟨r2,er2,H⟩ := bs H
 refine vA [.rd,.rd] (zEp n x0 x1 r2 er2) ?_
 refine uA 1 8398 200 ?_
 obtain ⟨h1,H⟩ | ⟨h1,H⟩ := bC H
 ·refine nA h1 ?_
  refine tK ?_
  obtain ⟨v3,ev3,H⟩ := bs H
  obtain ⟨v4,ev4,H⟩ := bs H
  refine Tr.draws mixed 13 kr ⟨29,0,[sA 7 7 11 0,sA 6 6 11 0],[(7,[cI r1.Id,cS r1.Name,cL 8 (r1.Ps.set (x1.toNat) (⟨x2,v3.Co,false,(⟨0,0,0,0,0⟩ : Vec)⟩ : Pt)) Pt.row,cL 5 r1.F zB.row,cL 3 r1.V.Rows zC.row,cL 1 r1.V.Pv intRow,cI r1.Tk,cI r1.Pa,cI r1.Wo,cI r1.Dr,cI r1.Ve]),(6,[cI 0,cS (⟨#[]⟩ : ByteArray),cL 8 ([] : List Pt) Pt.row,cL 5 ([] : List zB) zB.row,cL 3 ([] : List zC) zC.row,cL 1 ([] : List Int) intRow,cI 0,cI 0,cI 0,cI 0,cI 0])]⟩ (fun cx => ?_) ?_
  ·refine mA zC8 [(0,[]),(1,[12]),(2,[]),(3,[]),(4,[]),(5,[10,12]),(6,[])] 6 [⟨[10,12],35,19,20⟩,⟨[12],35,15,16⟩] fun cx => ?_
   refine iN zC8 7 Pt.row ev3 fun cx => ?_
   refine mA zC8 [(8,[]),(9,[])] 3 [⟨[10,12],35,19,20⟩,⟨[12],35,15,16⟩] fun cx => ?_
   refine mC zC8 10 ?_
   refine lA 1 ?_
   refine fA ?_
   refine oN zC8 11 Pt.row ev4 fun cx => ?_
   refine mC zC8 12 ?_
   refine LAt.storeB tOk (t := 167) (ty := 0) (ad := (.tmp 26)) (x := (.tmp 25)) (g := none) (tI 167) true [cB x2,cI v3.Co,cB false,cI 0,cI 0,cI 0,cI 0,cI 0] 7 2 (x1.toNat) 8 0 8 r1.Ps Pt.row v4 (⟨x2,v3.Co,false,(⟨0,0,0,0,0⟩ : Vec)⟩ : Pt) kr kr kr kr kr kr kr kr (zM ev4).2 kr kr kr kr ?_
   refine fA ?_
   exact mE zC8 [7,6] [7,6]
  refine rA 1 ?_
  obtain ⟨r5,er5,H⟩ := bs H
  refine vA [.own] (zBz n (⟨r1.Id,r1.Name,(r1.Ps.set (x1.toNat) (⟨x2,v3.Co,false,(⟨0,0,0,0,0⟩ : Vec)⟩ : Pt)),r1.F,r1.V,r1.Tk,r1.Pa,r1.Wo,r1.Dr,r1.Ve⟩ : zA) r5 er5) ?_
  refine uA 1 64 64 ?_
  exact te (fJ [(true,(zA.row r5))] H)
 refine tA h1 ?_
 refine gA 2 64 64 ?_
 exact te (fJ [(true,(zA.row r1))] H)
def zAc (n : Nat) (x2 : (List Link)) (y8 : (List zA)) : Option (Net) :=
  (some (⟨y8,(([] : List Link) ++ x2),([] : List Say)⟩ : Net))
def JG (n : Nat) (k : (Int × (List zA) → Option (((List zA)) ⊕ (Net)))) (y6 : Int) (y12 : (List zA)) : Option (((List zA)) ⊕ (Net)) :=
  (k ((IntKind.wrap .i64 (y6 + 1)),y12))
def Zt (n : Nat) : Nat → Int → Int → Int → (List zA) → Option (((List zA)) ⊕ (Net))
  | 0,_,_,_,_ => none
  | mo13 + 1,x1,y6,y10,y11 => (bif (decide (y10 < x1)) then ((idx y11 y6).bind fun v14 => ((QF n v14 y10 true).bind fun r15 => (Zt n mo13 x1 y6 (IntKind.wrap .i64 (y10 + 1)) (y11.set (y6.toNat) r15)))) else (some (Sum.inl y11)))
def ZL (n : Nat) : Nat → Int → Int → (List zA) → Option (((List zA)) ⊕ (Net))
  | 0,_,_,_ => none
  | mo9 + 1,x1,y6,y7 => (bif (decide (y6 < (y7.length : Int))) then ((Zt n n x1 y6 0 y7).bind fun o => match o with | .inl y12 => (JG n (fun v => ZL n mo9 x1 v.1 v.2) y6 y12) | .inr r => some (Sum.inr r)) else (some (Sum.inl y7)))
def JF (n : Nat) (x1 : Int) (x2 : (List Link)) (y4 : (List zA)) : Option (Net) :=
  ((Zi n (⟨y4,(([] : List Link) ++ x2),([] : List Say)⟩ : Net)).bind fun r5 => (bif (!r5) then (some (⟨([] : List zA),([] : List Link),([] : List Say)⟩ : Net)) else ((ZL n n x1 0 y4).bind fun o => match o with | .inl y8 => (zAc n x2 y8) | .inr r => some r)))
def ZM (n : Nat) : Nat → (List Int) → Int → Int → (List zA) → Option (((List zA)) ⊕ (Net))
  | 0,_,_,_,_ => none
  | mo16 + 1,x0,x1,y2,y3 => (bif (decide (y2 < (x0.length : Int))) then ((idx x0 y2).bind fun v17 => ((ZY n v17 x1).bind fun r18 => (bif (decide (y3.length + [r18].length ≤ 268435456)) then (ZM n mo16 x0 x1 (IntKind.wrap .i64 (y2 + 1)) (y3 ++ [r18])) else none))) else (some (Sum.inl y3)))
def zAM (n : Nat) (x0 : (List Int)) (x1 : Int) (x2 : (List Link)) : Option (Net) :=
  (bif (decide (([] : List Link).length + x2.length ≤ 268435456)) then ((ZM n n x0 x1 0 ([] : List zA)).bind fun o => match o with | .inl y4 => (JF n x1 x2 y4) | .inr r => some r) else none)
def zM8 : Tab := ⟨12,[0,1,0,0,12,16,0,96,128,386,1023,2047],[0,1,0,0,12,16,0,96,128,258,0,1536],[0,1,0,0,12,28,0,124,252,511,1023,2047]⟩
theorem zCw : za (rg Tryz.f60 5) zM8 = true := kr
def zMs : Tab := ⟨12,[0,1,0,0,8,0,48,64,0,384,1023,2047],[0,1,0,0,8,0,48,64,0,384,6,1536],[0,1,0,0,8,0,56,120,0,504,1023,2047]⟩
theorem zCP : za (rg Tryz.f60 14) zMs = true := kr
theorem zJd (n : Nat) (x0 : (List Int)) (x1 : Int) (x2 : (List Link)) (r : Net) (H : zAM n x0 x1 x2 = some r) : zI Tryz.prog 60 [.val false [.sl false 1 (CV.frzEs (x0.map intRow))],.val false [.lit (.int .i64 x1)],.val false [.sl false 4 (CV.frzEs (x2.map Link.row))]] [.val true (Net.row r)] [] := by
 refine cW Tryz.func60 (fun g d => sl [g 0,g 1,sl [g 2] (.block 0 (.loop (sl [sl [g 3] (cn 18 .skip (.exit 0)),.block 1 (d 5)] (g 4)))),sl [g 6] (cn 34 (sl [g 7] .ret) .skip),sl [g 8] (.block 2 (.loop (sl [sl [g 9] (cn 40 .skip (.exit 2)),.block 3 (sl [g 11] (.block 4 (.loop (sl [sl [g 12] (cn 45 .skip (.exit 4)),.block 5 (d 14)] (g 13)))))] (g 10)))),g 15] .ret) [.cell 6 67] fun cx => ?_
 unfold zAM at H
 refine gA 1 71 64 ?_
 refine rA 2 ?_
 obtain ⟨hg1,H⟩ := gs H
 refine pD Link.row hg1 ?_
 refine uA 3 195 192 ?_
 refine tS ?_
 refine gA 1 451 192 ?_
 obtain ⟨o16,eo16,Ho16⟩ := bs H
 clear H
 refine Tr.mid (ι := (List zA)) (fun v => ⟨60,0,[sA 7 7 3 0,sA 6 6 3 0,sI 1 x1],[(7,[cL 11 v zA.row,cL 4 (([] : List Link) ++ x2) Link.row,cL 7 ([] : List Say) Say.row]),(6,[cL 11 ([] : List zA) zA.row,cL 4 ([] : List Link) Link.row,cL 7 ([] : List Say) Say.row])]⟩) (fun v => JF n x1 x2 v = some r) ?_ ?_
 ·refine tB ?_
  refine Tr.loop (ι := Nat × (Int × (List zA))) (fun v => ⟨60,0,[sI 8 v.2.1,sA 7 7 3 0,sA 6 6 3 0,sC 0 (cF 1 x0 intRow),sI 1 x1],[(7,[cL 11 v.2.2 zA.row,cL 4 (([] : List Link) ++ x2) Link.row,cL 7 ([] : List Say) Say.row]),(6,[cL 11 ([] : List zA) zA.row,cL 4 ([] : List Link) Link.row,cL 7 ([] : List Say) Say.row])]⟩) (fun v => ZM n v.1 x0 x1 v.2.1 v.2.2 = some o16) (fun v => v.1) (n,(0,([] : List zA))) eo16 (St.sub_of [8,7,6,0,1] [7,6] kr) ?_
  rintro ⟨mo16,y2,y3⟩ H
  have H : ZM n mo16 x0 x1 y2 y3 = some o16 := H
  obtain _ | mo16 := mo16
  ·exact nN H
  rw [ZM] at H
  refine tS ?_
  refine rA 2 ?_
  refine kF x0 intRow ?_
  refine uA 1 262595 192 ?_
  obtain ⟨h4,H⟩ | ⟨h4,H⟩ := bC H
  ·refine nA h4 ?_
   refine Tr.exit ?_
   refine aJ ?_
   obtain rfl := si H
   have H := Ho16
   dsimp only at H
   exact jA y3 H [7,6,1] [7,6]
  refine tA h4 ?_
  refine tK ?_
  refine tS ?_
  refine tB ?_
  obtain ⟨v17,ev17,H⟩ := bs H
  obtain ⟨r18,er18,H⟩ := bs H
  obtain ⟨hg19,H⟩ := gs H
  refine Tr.draw mixed 12 kr ⟨60,0,[sI 8 y2,sA 7 7 3 0,sA 6 6 3 0,sC 0 (cF 1 x0 intRow),sI 1 x1],[(7,[cL 11 (y3 ++ [r18]) zA.row,cL 4 (([] : List Link) ++ x2) Link.row,cL 7 ([] : List Say) Say.row]),(6,[cL 11 ([] : List zA) zA.row,cL 4 ([] : List Link) Link.row,cL 7 ([] : List Say) Say.row])]⟩ (fun cx => ?_) ?_
  ·refine mA zCw [(0,[]),(1,[9,11]),(2,[]),(3,[])] 8 [⟨[9,11],63,21,22⟩] fun cx => ?_
   refine iN zCw 4 intRow ev17 fun cx => ?_
   refine mA zCw [(5,[]),(6,[])] 5 [⟨[9,11],63,21,22⟩] fun cx => ?_
   refine mC zCw 7 ?_
   refine vA [.rd,.rd] (zHi n v17 x1 r18 er18) ?_
   refine fA ?_
   refine mC zCw 8 ?_
   refine lA 1 ?_
   refine fA ?_
   refine mC zCw 9 ?_
   refine LAt.appMU tOk (t := 63) (ty := 63) (e := 41) (x := (.tmp 22)) (y := (.tmp 29)) (d := 30) (g := none) (tI 41) zA.row y3 [r18] kr kr kr kr kr kr kr kr kr kr hg19 ?_
   refine fA ?_
   refine mA zCw [(10,[])] 1 [⟨[9,11],63,21,22⟩] fun cx => ?_
   refine mC zCw 11 ?_
   refine lA 1 ?_
   refine fA ?_
   exact mE zCw [8,7,6,0,1] [7,6]
  refine eA 3 451 192 ?_
  exact jB mo16 ((IntKind.wrap .i64 (y2 + 1)),(y3 ++ [r18])) H [8,7,6,0,1] [7,6]
 rintro y4 H
 have H : (JF n x1 x2 y4) = some r := H
 unfold JF at H
 refine tS ?_
 refine rA 1 ?_
 obtain ⟨r5,er5,H⟩ := bs H
 refine vB [.rd] [.box 7] (zHA n (⟨y4,(([] : List Link) ++ x2),([] : List Say)⟩ : Net) r5 er5) (.inr (zV (zG zK zl) zp)) ?_
 refine uA 1 17179869378 192 ?_
 obtain ⟨h1,H⟩ | ⟨h1,H⟩ := bC H
 ·refine nA h1 ?_
  refine tK ?_
  refine tS ?_
  refine gA 1 706 192 ?_
  obtain ⟨o9,eo9,Ho9⟩ := bs H
  clear H
  refine Tr.mid (ι := (List zA)) (fun v => ⟨60,0,[sA 7 7 3 0,sA 6 6 3 0],[(7,[cL 11 v zA.row,cL 4 (([] : List Link) ++ x2) Link.row,cL 7 ([] : List Say) Say.row]),(6,[cL 11 ([] : List zA) zA.row,cL 4 ([] : List Link) Link.row,cL 7 ([] : List Say) Say.row])]⟩) (fun v => zAc n x2 v = some r) ?_ ?_
  ·refine tB ?_
   refine Tr.loop (ι := Nat × (Int × (List zA))) (fun v => ⟨60,0,[sI 9 v.2.1,sA 7 7 3 0,sA 6 6 3 0,sI 1 x1],[(7,[cL 11 v.2.2 zA.row,cL 4 (([] : List Link) ++ x2) Link.row,cL 7 ([] : List Say) Say.row]),(6,[cL 11 ([] : List zA) zA.row,cL 4 ([] : List Link) Link.row,cL 7 ([] : List Say) Say.row])]⟩) (fun v => ZL n v.1 x1 v.2.1 v.2.2 = some o9) (fun v => v.1) (n,(0,y4)) eo9 (St.sub_of [9,7,6,1] [7,6] kr) ?_
   rintro ⟨mo9,y6,y7⟩ H
   have H : ZL n mo9 x1 y6 y7 = some o9 := H
   obtain _ | mo9 := mo9
   ·exact nN H
   rw [ZL] at H
   refine tS ?_
   refine rA 3 ?_
   refine kO y7 zA.row ?_
   refine uA 1 1099511628482 192 ?_
   obtain ⟨h2,H⟩ | ⟨h2,H⟩ := bC H
   ·refine nA h2 ?_
    refine Tr.exit ?_
    refine aJ ?_
    obtain rfl := si H
    have H := Ho9
    dsimp only at H
    exact jA y7 H [7,6] [7,6]
   refine tA h2 ?_
   refine tK ?_
   refine tS ?_
   refine tB ?_
   refine gA 1 1730 192 ?_
   obtain ⟨o13,eo13,Ho13⟩ := bs H
   clear H
   refine Tr.mid (ι := (List zA)) (fun v => ⟨60,0,[sI 9 y6,sA 7 7 3 0,sA 6 6 3 0,sI 1 x1],[(7,[cL 11 v zA.row,cL 4 (([] : List Link) ++ x2) Link.row,cL 7 ([] : List Say) Say.row]),(6,[cL 11 ([] : List zA) zA.row,cL 4 ([] : List Link) Link.row,cL 7 ([] : List Say) Say.row])]⟩) (fun v => JG n (fun v => ZL n mo9 x1 v.1 v.2) y6 v = some o9) ?_ ?_
   ·refine tB ?_
    refine Tr.loop (ι := Nat × (Int × (List zA))) (fun v => ⟨60,0,[sI 10 v.2.1,sI 9 y6,sA 7 7 3 0,sA 6 6 3 0,sI 1 x1],[(7,[cL 11 v.2.2 zA.row,cL 4 (([] : List Link) ++ x2) Link.row,cL 7 ([] : List Say) Say.row]),(6,[cL 11 ([] : List zA) zA.row,cL 4 ([] : List Link) Link.row,cL 7 ([] : List Say) Say.row])]⟩) (fun v => Zt n v.1 x1 y6 v.2.1 v.2.2 = some o13) (fun v => v.1) (n,(0,y7)) eo13 (St.sub_of [10,9,7,6,1] [7,6] kr) ?_
    rintro ⟨mo13,y10,y11⟩ H
    have H : Zt n mo13 x1 y6 y10 y11 = some o13 := H
    obtain _ | mo13 := mo13
    ·exact nN H
    rw [Zt] at H
    refine tS ?_
    refine gA 3 35184372090562 192 ?_
    obtain ⟨h3,H⟩ | ⟨h3,H⟩ := bC H
    ·refine nA h3 ?_
     refine Tr.exit ?_
     refine aJ ?_
     obtain rfl := si H
     have H := Ho13
     dsimp only at H
     exact jA y11 H [9,7,6,1] [7,6]
    refine tA h3 ?_
    refine tK ?_
    refine tS ?_
    refine tB ?_
    obtain ⟨v14,ev14,H⟩ := bs H
    obtain ⟨r15,er15,H⟩ := bs H
    refine Tr.draw mixed 12 kr ⟨60,0,[sI 10 y10,sI 9 y6,sA 7 7 3 0,sA 6 6 3 0,sI 1 x1],[(7,[cL 11 (y11.set (y6.toNat) r15) zA.row,cL 4 (([] : List Link) ++ x2) Link.row,cL 7 ([] : List Say) Say.row]),(6,[cL 11 ([] : List zA) zA.row,cL 4 ([] : List Link) Link.row,cL 7 ([] : List Say) Say.row])]⟩ (fun cx => ?_) ?_
    ·refine mA zCP [(0,[]),(1,[11]),(2,[]),(3,[]),(4,[9,11]),(5,[])] 6 [⟨[9,11],63,51,52⟩,⟨[11],63,48,49⟩] fun cx => ?_
     refine oN zCP 6 zA.row ev14 fun cx => ?_
     refine mA zCP [(8,[])] 4 [⟨[9,11],63,51,52⟩,⟨[11],63,48,49⟩] fun cx => ?_
     refine mC zCP 7 ?_
     refine dE (tI 41) (.box 7) [(0,0),(0,(y6.toNat))] 11 0 [.sl true 3 [[cL 11 y11 zA.row,cL 4 (([] : List Link) ++ x2) Link.row,cL 7 ([] : List Say) Say.row]]] (zA.row v14) (zY rfl (zM ev14).2) ?_
     refine fA ?_
     refine mC zCP 9 ?_
     refine LAt.callO tOk [.rd,.rd,.rd] (f := 158) (av := #[.tmp 55,.tmp 56,.const (.bool true)]) (ats := #[41,3,4]) (d := (some 57)) (ty := 41) (g := none) [(55,zA.row v14)] none kr kr kr [.box 7] (zDN n v14 y10 true r15 er15) (zAK (row := [.sl true 3 [[cL 11 y11 zA.row,cL 4 (([] : List Link) ++ x2) Link.row,cL 7 ([] : List Say) Say.row]]]) (q := [(0,0),(0,(y6.toNat))]) kr (zY rfl (zM ev14).2) zBM) kr zBL (.inr (And.intro (zV (zA.row_mine _) zp) zAL)) ?_
     refine fA ?_
     refine oN zCP 10 zA.row ev14 fun cx => ?_
     refine sA_ 0x61b0000000006c2 192 ⟨60,0,[(58,.adr (.box 7) [(0,0),(0,(y6.toNat))] 11 0),sV 57 (zA.row r15),sR 52 7 3 0 1 false,sA 51 7 3 0,sR 49 7 3 0 1 false,sA 48 7 3 0,sI 10 y10,sI 9 y6,sA 7 7 3 0,sA 6 6 3 0,sI 1 x1],[(7,[cL 11 y11 zA.row,cL 4 (([] : List Link) ++ x2) Link.row,cL 7 ([] : List Say) Say.row]),(6,[cL 11 ([] : List zA) zA.row,cL 4 ([] : List Link) Link.row,cL 7 ([] : List Say) Say.row])]⟩ ?_
     refine mC zCP 11 ?_
     refine LAt.storeB tOk (t := 41) (ty := 0) (ad := (.tmp 58)) (x := (.tmp 57)) (g := none) (tI 41) true (zA.row r15) 7 0 (y6.toNat) 11 0 11 y11 zA.row v14 r15 kr kr kr kr kr kr kr kr (zM ev14).2 kr kr kr kr ?_
     refine fA ?_
     exact mE zCP [10,9,7,6,1] [7,6]
    refine eA 3 1730 192 ?_
    exact jB mo13 ((IntKind.wrap .i64 (y10 + 1)),(y11.set (y6.toNat) r15)) H [10,9,7,6,1] [7,6]
   rintro y12 H
   have H : (JG n (fun v => ZL n mo9 x1 v.1 v.2) y6 y12) = some o9 := H
   unfold JG at H
   refine eA 3 706 192 ?_
   exact jB mo9 ((IntKind.wrap .i64 (y6 + 1)),y12) H [9,7,6,1] [7,6]
  rintro y8 H
  have H : (zAc n x2 y8) = some r := H
  unfold zAc at H
  refine gA 2 64 64 ?_
  exact te (fJ [(true,[cL 11 y8 zA.row,cL 4 (([] : List Link) ++ x2) Link.row,cL 7 ([] : List Say) Say.row])] H)
 refine tA h1 ?_
 refine gA 2 64 64 ?_
 exact te (fJ [(true,[cL 11 ([] : List zA) zA.row,cL 4 ([] : List Link) Link.row,cL 7 ([] : List Say) Say.row])] H)
def Zo (n : Nat) (x0 : Src) (x1 : (List Int)) : Option (Int × Src) :=
  ((zm n x0 (x1.length : Int)).bind fun r1 => ((idx x1 r1.1).bind fun v2 => (some (v2,r1.2))))
noncomputable abbrev zMJ (k : Nat) := Rg Tryz.f153 k
theorem zAg (n : Nat) (x0 : Src) (x1 : (List Int)) (r : Int × Src) (H : Zo n x0 x1 = some r) : zI Tryz.prog 153 [.ptr (CV.frzRow (Src.row x0)),.val false [.sl false 1 (CV.frzEs (x1.map intRow))]] [.val false [.lit (.int .i64 r.1)]] [(0,(CV.frzRow (Src.row r.2)))] := by
 refine zI.of_body tOk Tryz.func153 rfl (c := (.seq (zMJ 0) (.seq (zMJ 1) .ret))) kr (Nat.le_of_ble_eq_true kr) 1 (rs := [.tmp 4]) rfl [] .nil [(false,[.lit (.int .i64 r.1)])] [] [(0,(CV.frzRow (Src.row r.2)))] fun cx => ?_
 show Tr _ _ _ ⟨12,1,[sA 0 0 3 0,sC 1 (cF 1 x1 intRow)],[(0,(CV.frzRow (Src.row x0)))]⟩ _
 unfold Zo at H
 refine gA 1 3 1 ?_
 refine rA 3 ?_
 refine kF x1 intRow ?_
 obtain ⟨r1,er1,H⟩ := bs H
 refine LAt.callL tOk [.lend,.rd] (f := 133) (av := #[.tmp 6,.tmp 8]) (ats := #[157,3]) (d := (some 9)) (ty := 3) (g := none) kr kr kr [] (qh n x0 (x1.length : Int) r1 er1) kr (.inl rfl) ?_
 obtain ⟨v2,ev2,H⟩ := bs H
 refine iA intRow ev2 ?_
 refine uA 2 17 1 ?_
 refine te ?_
 obtain rfl := si H
 exact Fin.ofY _ [(false,[cI v2])] [] _ [] _ [(0,(CV.frzRow (Src.row r1.2)))] kr rfl rfl rfl kr kr kr kr rfl rfl rfl
def QO (n : Nat) (r5 : Int × Src) (x1 : Net) (y6 : Bool) : Option (Event × Src) :=
  (bif y6 then (bif ((x1.Ls.length : Int) == 0) then (some ((⟨6,0⟩ : Event),r5.2)) else ((zm n r5.2 (x1.Ls.length : Int)).bind fun r8 => (some ((⟨r5.1,r8.1⟩ : Event),r8.2)))) else (bif ((x1.Bs.length : Int) == 0) then (some ((⟨r5.1,0⟩ : Event),r5.2)) else ((zm n r5.2 (x1.Bs.length : Int)).bind fun r7 => (some ((⟨r5.1,r7.1⟩ : Event),r7.2)))))
def QN (n : Nat) (x1 : Net) (y1 : Bool) (y2 : (List Int)) (y3 : Int) (y4 : Int) : Option (Event × Src) :=
  (bif y1 then ((Zo n (⟨y2,y3,y4⟩ : Src) [2,2,2,2,3]).bind fun r9 => ((zm n r9.2 (x1.Said.length : Int)).bind fun r10 => (some ((⟨r9.1,r10.1⟩ : Event),r10.2)))) else ((Zo n (⟨y2,y3,y4⟩ : Src) [1,1,1,1,4,5,6]).bind fun r5 => (bif (r5.1 == 4) then (QO n r5 x1 true) else (QO n r5 x1 (r5.1 == 5)))))
def YN (n : Nat) (x0 : Src) (x1 : Net) : Option (Event × Src) :=
  (bif (decide ((x1.Said.length : Int) > 0)) then ((JO n x0 2).bind fun r11 => (QN n x1 r11.1 r11.2.b r11.2.i r11.2.h)) else (QN n x1 false x0.b x0.i x0.h))
noncomputable abbrev zDq (k : Nat) := Rg Tryz.f220 k
noncomputable abbrev D220 (k : Nat) := Rd Tryz.f220 k
theorem zIT (n : Nat) (x0 : Src) (x1 : Net) (r : Event × Src) (H : YN n x0 x1 = some r) : zI Tryz.prog 220 [.ptr (CV.frzRow (Src.row x0)),.val true (CV.frzRow (Net.row x1))] [.val true (Event.row r.1)] [(0,(CV.frzRow (Src.row r.2)))] := by
 refine zI.of_body tOk Tryz.func220 rfl (c := (.seq (zDq 0) (.seq (.seq (zDq 1) (.cond (.tmp 13) (.seq (D220 2) .ret) .skip)) (.seq (zDq 3) (.seq (.seq (zDq 4) (.cond (.tmp 31) (.seq (.seq (zDq 5) (.cond (.tmp 35) (.seq (zDq 6) .ret) .skip)) (.seq (zDq 7) .ret)) .skip)) (.seq (.seq (zDq 8) (.cond (.tmp 47) (.seq (zDq 9) .ret) .skip)) (.seq (zDq 10) .ret))))))) kr (Nat.le_of_ble_eq_true kr) 1 (rs := [.cell 4 71]) rfl [] .nil [(true,(Event.row r.1))] [] [(0,(CV.frzRow (Src.row r.2)))] fun cx => ?_
 show Tr _ _ _ ⟨57,1,[sA 0 0 3 0,sV 1 (CV.frzRow (Net.row x1))],[(0,(CV.frzRow (Src.row x0)))]⟩ _
 unfold YN at H
 refine gA 2 25 25 ?_
 refine tS ?_
 refine tS ?_
 refine Tr.mid (ι := Bool × (List Int) × Int × Int) (fun v => ⟨57,1,[sB 13 v.1,sA 4 4 2 0,sA 3 3 3 0,sA 0 0 3 0],[(4,[cI 0,cI 0]),(3,(CV.frzRow (Net.row x1))),(0,[cF 1 v.2.1 zu,cI v.2.2.1,cI v.2.2.2])]⟩) (fun v => QN n x1 v.1 v.2.1 v.2.2.1 v.2.2.2 = some r) ?_ ?_
 ·refine Tr.at ?_
  refine lA 2 ?_
  refine kF x1.Said Say.row ?_
  refine lA 2 ?_
  refine sL 1049 25 ⟨57,1,[sB 10 (decide ((x1.Said.length : Int) > 0)),sA 4 4 2 0,sA 3 3 3 0,sA 0 0 3 0],[(4,[cI 0,cI 0]),(3,(CV.frzRow (Net.row x1))),(0,(CV.frzRow (Src.row x0)))]⟩ ?_
  cases h6 : (decide ((x1.Said.length : Int) > 0))
  ·have H := zE h6 H
   refine uA 3 8217 25 ?_
   exact jA (false,x0.b,x0.i,x0.h) H [13,4,3,0] [4,3,0]
  have H := zF h6 H
  refine lA 1 ?_
  obtain ⟨r11,er11,H⟩ := bs H
  refine LAt.callL tOk [.lend,.rd] (f := 211) (av := #[.tmp 11,.const (.int .i64 2)]) (ats := #[157,3]) (d := (some 12)) (ty := 4) (g := (some (4,true))) kr kr kr [] (zF9 n x0 2 r11 er11) kr (.inl rfl) ?_
  refine uA 1 8217 25 ?_
  exact jA (r11.1,r11.2.b,r11.2.i,r11.2.h) H [13,4,3,0] [4,3,0]
 rintro ⟨y1,y2,y3,y4⟩ H
 have H : (QN n x1 y1 y2 y3 y4) = some r := H
 unfold QN at H
 cases h1 : y1
 ·have H := zE h1 H
  refine nB_ ?_
  refine tK ?_
  refine rA 2 ?_
  obtain ⟨r5,er5,H⟩ := bs H
  refine LAt.callL tOk [.lend,.rd] (f := 153) (av := #[.tmp 23,.tmp 24]) (ats := #[157,25]) (d := (some 25)) (ty := 3) (g := none) kr kr kr [] (zAg n (⟨y2,y3,y4⟩ : Src) [1,1,1,1,4,5,6] r5 er5) kr (.inl rfl) ?_
  refine uA 1 57 25 ?_
  refine tS ?_
  refine tS ?_
  refine Tr.mid (ι := Bool) (fun v => ⟨57,1,[sB 31 v,sI 5 r5.1,sA 4 4 2 0,sA 3 3 3 0,sA 0 0 3 0],[(0,(CV.frzRow (Src.row r5.2))),(4,[cI 0,cI 0]),(3,(CV.frzRow (Net.row x1)))]⟩) (fun v => QO n r5 x1 v = some r) ?_ ?_
  ·refine Tr.at ?_
   refine lA 3 ?_
   refine sL 268435513 25 ⟨57,1,[sB 28 (r5.1 == 4),sI 5 r5.1,sA 4 4 2 0,sA 3 3 3 0,sA 0 0 3 0],[(0,(CV.frzRow (Src.row r5.2))),(4,[cI 0,cI 0]),(3,(CV.frzRow (Net.row x1)))]⟩ ?_
   cases h5 : (r5.1 == 4)
   ·have H := zE h5 H
    refine uA 3 2147483705 25 ?_
    exact jA (r5.1 == 5) H [31,5,4,3,0] [0,4,3]
   have H := zF h5 H
   refine uA 3 2147483705 25 ?_
   exact jA true H [31,5,4,3,0] [0,4,3]
  rintro y6 H
  have H : (QO n r5 x1 y6) = some r := H
  unfold QO at H
  cases h2 : y6
  ·have H := zE h2 H
   refine nB_ ?_
   refine tK ?_
   refine tS ?_
   refine rA 2 ?_
   refine kF x1.Bs zA.row ?_
   refine uA 1 0x800000000039 25 ?_
   obtain ⟨h3,H⟩ | ⟨h3,H⟩ := bC H
   ·refine nA h3 ?_
    refine tK ?_
    refine rA 4 ?_
    refine kF x1.Bs zA.row ?_
    obtain ⟨r7,er7,H⟩ := bs H
    refine LAt.callL tOk [.lend,.rd] (f := 133) (av := #[.tmp 51,.tmp 54]) (ats := #[157,3]) (d := (some 55)) (ty := 3) (g := none) kr kr kr [] (qh n r5.2 (x1.Bs.length : Int) r7 er7) kr (.inl rfl) ?_
    refine uA 2 17 17 ?_
    refine te ?_
    obtain rfl := si H
    exact Fin.ofY _ [(true,[cI r5.1,cI r7.1])] [] _ [] _ [(0,(CV.frzRow (Src.row r7.2)))] kr rfl rfl rfl kr kr kr kr rfl rfl rfl
   refine tA h3 ?_
   refine gA 3 17 17 ?_
   refine te ?_
   obtain rfl := si H
   exact Fin.ofY _ [(true,[cI r5.1,cI 0])] [] _ [] _ [(0,(CV.frzRow (Src.row r5.2)))] kr rfl rfl rfl kr kr kr kr rfl rfl rfl
  have H := zF h2 H
  refine tB_ ?_
  refine tS ?_
  refine rA 2 ?_
  refine kF x1.Ls Link.row ?_
  refine uA 1 34359738425 25 ?_
  obtain ⟨h4,H⟩ | ⟨h4,H⟩ := bC H
  ·refine nA h4 ?_
   refine tK ?_
   refine rA 4 ?_
   refine kF x1.Ls Link.row ?_
   obtain ⟨r8,er8,H⟩ := bs H
   refine LAt.callL tOk [.lend,.rd] (f := 133) (av := #[.tmp 38,.tmp 41]) (ats := #[157,3]) (d := (some 42)) (ty := 3) (g := none) kr kr kr [] (qh n r5.2 (x1.Ls.length : Int) r8 er8) kr (.inl rfl) ?_
   refine uA 2 17 17 ?_
   refine te ?_
   obtain rfl := si H
   exact Fin.ofY _ [(true,[cI r5.1,cI r8.1])] [] _ [] _ [(0,(CV.frzRow (Src.row r8.2)))] kr rfl rfl rfl kr kr kr kr rfl rfl rfl
  refine tA h4 ?_
  refine gA 2 17 17 ?_
  refine te ?_
  obtain rfl := si H
  exact Fin.ofY _ [(true,[cI 6,cI 0])] [] _ [] _ [(0,(CV.frzRow (Src.row r5.2)))] kr rfl rfl rfl kr kr kr kr rfl rfl rfl
 have H := zF h1 H
 refine tB_ ?_
 obtain ⟨r9,er9,H⟩ := bs H
 obtain ⟨r10,er10,H⟩ := bs H
 refine Tr.draws mixed 10 kr ⟨57,1,[sA 4 4 2 0,sA 0 0 3 0],[(4,[cI r9.1,cI r10.1]),(0,(CV.frzRow (Src.row r10.2)))]⟩ (fun cx => ?_) ?_
 ·refine aA [(0,[]),(3,[]),(4,[]),(5,[7,8,9])] 6 [⟨[7,8,9],65,18,19⟩] fun cx => ?_
  refine aL tOk 6 65 3 180 19 20 none ⟨(.box 3),[(0,0)],2,false,7,(CV.frzEs (x1.Said.map Say.row))⟩ (x1.Said).length _ kr kr kr kr kr kr kr (zFZ _ _) rfl (fun cx => ?_)
  refine bA 1 ?_
  refine lA 1 ?_
  refine fA ?_
  refine bA 2 ?_
  refine LAt.callL tOk [.lend,.rd] (f := 153) (av := #[.tmp 14,.tmp 15]) (ats := #[157,25]) (d := (some 16)) (ty := 3) (g := none) kr kr kr [] (zAg n (⟨y2,y3,y4⟩ : Src) [2,2,2,2,3] r9 er9) kr (.inl rfl) ?_
  refine fA ?_
  refine bA 7 ?_
  refine LAt.callL tOk [.lend,.rd] (f := 133) (av := #[.tmp 17,.tmp 20]) (ats := #[157,3]) (d := (some 21)) (ty := 3) (g := none) kr kr kr [] (qh n r9.2 (x1.Said.length : Int) r10 er10) kr (.inl rfl) ?_
  refine fA ?_
  refine bA 8 ?_
  refine lA 1 ?_
  refine fA ?_
  refine bA 9 ?_
  refine lA 1 ?_
  refine fA ?_
  exact eE [4,0] [4,0]
 refine te ?_
 obtain rfl := si H
 exact Fin.ofY _ [(true,[cI r9.1,cI r10.1])] [] _ [] _ [(0,(CV.frzRow (Src.row r10.2)))] kr rfl rfl rfl kr kr kr kr rfl rfl rfl
def J5 (n : Nat) (x0 : Net) (y5 : (List zA)) : Option (Net) :=
  (some (⟨y5,(([] : List Link) ++ x0.Ls),(([] : List Say) ++ x0.Said)⟩ : Net))
def Z5 (n : Nat) : Nat → Net → Int → (List zA) → Option (((List zA)) ⊕ (Net))
  | 0,_,_,_ => none
  | mo6 + 1,x0,y3,y4 => (bif (decide (y3 < (x0.Bs.length : Int))) then ((idx x0.Bs y3).bind fun v7 => ((QG n v7).bind fun r8 => (bif (decide (y4.length + [r8].length ≤ 268435456)) then (Z5 n mo6 x0 (IntKind.wrap .i64 (y3 + 1)) (y4 ++ [r8])) else none))) else (some (Sum.inl y4)))
def Jm (n : Nat) (x0 : Net) : Option (Net) :=
  (bif (decide (([] : List Link).length + x0.Ls.length ≤ 268435456)) then (bif (decide (([] : List Say).length + x0.Said.length ≤ 268435456)) then ((Z5 n n x0 0 ([] : List zA)).bind fun o => match o with | .inl y5 => (J5 n x0 y5) | .inr r => some r) else none) else none)
def zML : Tab := ⟨12,[0,1,0,4,0,24,32,64,128,386,1023,2047],[0,1,0,4,0,24,32,64,128,258,0,1536],[0,1,0,4,0,28,60,124,252,511,1023,2047]⟩
theorem zBP : za (rg Tryz.f106 5) zML = true := kr
theorem zHE (n : Nat) (x0 : Net) (hg1 : (decide (([] : List Link).length + x0.Ls.length ≤ 268435456)) = true) (hg2 : (decide (([] : List Say).length + x0.Said.length ≤ 268435456)) = true) (cx : Cx) : AT Tryz.prog cx (rg Tryz.f106 1) [] 11 [] ⟨33,0,[sA 2 2 3 0,sA 1 1 3 0],[(2,[cL 11 ([] : List zA) zA.row,cL 4 ([] : List Link) Link.row,cL 7 ([] : List Say) Say.row]),(1,(CV.frzRow (Net.row x0)))]⟩ (fun s => s = ⟨33,0,[sA 3 3 3 0,sA 2 2 3 0,sA 1 1 3 0],[(3,[cL 11 ([] : List zA) zA.row,cL 4 (([] : List Link) ++ x0.Ls) Link.row,cL 7 (([] : List Say) ++ x0.Said) Say.row]),(2,[cL 11 ([] : List zA) zA.row,cL 4 ([] : List Link) Link.row,cL 7 ([] : List Say) Say.row]),(1,(CV.frzRow (Net.row x0)))]⟩) := by
 refine aA [(1,[]),(2,[3,7,8,10]),(5,[]),(6,[7,8,10])] 7 [⟨[7,8,10],65,10,11⟩,⟨[3,7,8,10],64,6,7⟩] fun cx => ?_
 refine AT.big3 tOk 0 4 9 kr (And.intro kr ?_) (And.intro kr ?_) (And.intro kr ?_)
 ·refine lA 1 ?_
  refine fA ?_
  refine AT.big3 tOk 3 4 9 kr (And.intro kr ?_) (And.intro kr ?_) (And.intro kr ?_)
  ·refine pD Link.row hg1 ?_
   refine fA ?_
   refine AT.big2 tOk 4 9 kr (And.intro kr ?_) (And.intro kr ?_)
   ·refine lA 1 ?_
    refine fA ?_
    refine AT.big2 tOk 7 9 kr (And.intro kr ?_) (And.intro kr ?_)
    ·refine pD Say.row hg2 ?_
     refine fA ?_
     refine AT.big2 tOk 8 9 kr (And.intro kr ?_) (And.intro kr ?_)
     ·refine lA 1 ?_
      refine fA ?_
      refine bA 9 ?_
      refine lA 1 ?_
      refine fA ?_
      refine bA 10 ?_
      refine lA 1 ?_
      refine fA ?_
      exact eE [3,2,1] [3,2,1]
     ·refine lA 1 ?_
      refine fA ?_
      refine bA 8 ?_
      refine lA 1 ?_
      refine fA ?_
      refine bA 10 ?_
      refine lA 1 ?_
      refine fA ?_
      exact eE [3,2,1] [3,2,1]
    ·refine lA 1 ?_
     refine fA ?_
     refine bA 7 ?_
     refine pD Say.row hg2 ?_
     refine fA ?_
     refine bA 8 ?_
     refine lA 1 ?_
     refine fA ?_
     refine bA 10 ?_
     refine lA 1 ?_
     refine fA ?_
     exact eE [3,2,1] [3,2,1]
   ·refine lA 1 ?_
    refine fA ?_
    refine bA 4 ?_
    refine lA 1 ?_
    refine fA ?_
    refine bA 7 ?_
    refine pD Say.row hg2 ?_
    refine fA ?_
    refine bA 8 ?_
    refine lA 1 ?_
    refine fA ?_
    refine bA 10 ?_
    refine lA 1 ?_
    refine fA ?_
    exact eE [3,2,1] [3,2,1]
  ·refine lA 1 ?_
   refine fA ?_
   refine AT.big2 tOk 3 9 kr (And.intro kr ?_) (And.intro kr ?_)
   ·refine pD Link.row hg1 ?_
    refine fA ?_
    refine AT.big2 tOk 7 9 kr (And.intro kr ?_) (And.intro kr ?_)
    ·refine pD Say.row hg2 ?_
     refine fA ?_
     refine AT.big2 tOk 8 9 kr (And.intro kr ?_) (And.intro kr ?_)
     ·refine lA 1 ?_
      refine fA ?_
      refine bA 9 ?_
      refine lA 1 ?_
      refine fA ?_
      refine bA 10 ?_
      refine lA 1 ?_
      refine fA ?_
      exact eE [3,2,1] [3,2,1]
     ·refine lA 1 ?_
      refine fA ?_
      refine bA 8 ?_
      refine lA 1 ?_
      refine fA ?_
      refine bA 10 ?_
      refine lA 1 ?_
      refine fA ?_
      exact eE [3,2,1] [3,2,1]
    ·refine lA 1 ?_
     refine fA ?_
     refine bA 7 ?_
     refine pD Say.row hg2 ?_
     refine fA ?_
     refine bA 8 ?_
     refine lA 1 ?_
     refine fA ?_
     refine bA 10 ?_
     refine lA 1 ?_
     refine fA ?_
     exact eE [3,2,1] [3,2,1]
   ·refine lA 1 ?_
    refine fA ?_
    refine bA 3 ?_
    refine pD Link.row hg1 ?_
    refine fA ?_
    refine bA 7 ?_
    refine pD Say.row hg2 ?_
    refine fA ?_
    refine bA 8 ?_
    refine lA 1 ?_
    refine fA ?_
    refine bA 10 ?_
    refine lA 1 ?_
    refine fA ?_
    exact eE [3,2,1] [3,2,1]
  ·refine lA 1 ?_
   refine fA ?_
   refine AT.big2 tOk 3 4 kr (And.intro kr ?_) (And.intro kr ?_)
   ·refine pD Link.row hg1 ?_
    refine fA ?_
    refine bA 4 ?_
    refine lA 1 ?_
    refine fA ?_
    refine bA 7 ?_
    refine pD Say.row hg2 ?_
    refine fA ?_
    refine bA 8 ?_
    refine lA 1 ?_
    refine fA ?_
    refine bA 10 ?_
    refine lA 1 ?_
    refine fA ?_
    exact eE [3,2,1] [3,2,1]
   ·refine lA 1 ?_
    refine fA ?_
    refine bA 3 ?_
    refine pD Link.row hg1 ?_
    refine fA ?_
    refine bA 7 ?_
    refine pD Say.row hg2 ?_
    refine fA ?_
    refine bA 8 ?_
    refine lA 1 ?_
    refine fA ?_
    refine bA 10 ?_
    refine lA 1 ?_
    refine fA ?_
    exact eE [3,2,1] [3,2,1]
 ·refine lA 1 ?_
  refine fA ?_
  refine AT.big2 tOk 0 9 kr (And.intro kr ?_) (And.intro kr ?_)
  ·refine lA 1 ?_
   refine fA ?_
   refine AT.big2 tOk 3 9 kr (And.intro kr ?_) (And.intro kr ?_)
   ·refine pD Link.row hg1 ?_
    refine fA ?_
    refine AT.big2 tOk 7 9 kr (And.intro kr ?_) (And.intro kr ?_)
    ·refine pD Say.row hg2 ?_
     refine fA ?_
     refine AT.big2 tOk 8 9 kr (And.intro kr ?_) (And.intro kr ?_)
     ·refine lA 1 ?_
      refine fA ?_
      refine bA 9 ?_
      refine lA 1 ?_
      refine fA ?_
      refine bA 10 ?_
      refine lA 1 ?_
      refine fA ?_
      exact eE [3,2,1] [3,2,1]
     ·refine lA 1 ?_
      refine fA ?_
      refine bA 8 ?_
      refine lA 1 ?_
      refine fA ?_
      refine bA 10 ?_
      refine lA 1 ?_
      refine fA ?_
      exact eE [3,2,1] [3,2,1]
    ·refine lA 1 ?_
     refine fA ?_
     refine bA 7 ?_
     refine pD Say.row hg2 ?_
     refine fA ?_
     refine bA 8 ?_
     refine lA 1 ?_
     refine fA ?_
     refine bA 10 ?_
     refine lA 1 ?_
     refine fA ?_
     exact eE [3,2,1] [3,2,1]
   ·refine lA 1 ?_
    refine fA ?_
    refine bA 3 ?_
    refine pD Link.row hg1 ?_
    refine fA ?_
    refine bA 7 ?_
    refine pD Say.row hg2 ?_
    refine fA ?_
    refine bA 8 ?_
    refine lA 1 ?_
    refine fA ?_
    refine bA 10 ?_
    refine lA 1 ?_
    refine fA ?_
    exact eE [3,2,1] [3,2,1]
  ·refine lA 1 ?_
   refine fA ?_
   refine bA 0 ?_
   refine lA 1 ?_
   refine fA ?_
   refine bA 3 ?_
   refine pD Link.row hg1 ?_
   refine fA ?_
   refine bA 7 ?_
   refine pD Say.row hg2 ?_
   refine fA ?_
   refine bA 8 ?_
   refine lA 1 ?_
   refine fA ?_
   refine bA 10 ?_
   refine lA 1 ?_
   refine fA ?_
   exact eE [3,2,1] [3,2,1]
 ·refine lA 1 ?_
  refine fA ?_
  refine AT.big2 tOk 0 4 kr (And.intro kr ?_) (And.intro kr ?_)
  ·refine lA 1 ?_
   refine fA ?_
   refine AT.big2 tOk 3 4 kr (And.intro kr ?_) (And.intro kr ?_)
   ·refine pD Link.row hg1 ?_
    refine fA ?_
    refine bA 4 ?_
    refine lA 1 ?_
    refine fA ?_
    refine bA 7 ?_
    refine pD Say.row hg2 ?_
    refine fA ?_
    refine bA 8 ?_
    refine lA 1 ?_
    refine fA ?_
    refine bA 10 ?_
    refine lA 1 ?_
    refine fA ?_
    exact eE [3,2,1] [3,2,1]
   ·refine lA 1 ?_
    refine fA ?_
    refine bA 3 ?_
    refine pD Link.row hg1 ?_
    refine fA ?_
    refine bA 7 ?_
    refine pD Say.row hg2 ?_
    refine fA ?_
    refine bA 8 ?_
    refine lA 1 ?_
    refine fA ?_
    refine bA 10 ?_
    refine lA 1 ?_
    refine fA ?_
    exact eE [3,2,1] [3,2,1]
  ·refine lA 1 ?_
   refine fA ?_
   refine bA 0 ?_
   refine lA 1 ?_
   refine fA ?_
   refine bA 3 ?_
   refine pD Link.row hg1 ?_
   refine fA ?_
   refine bA 7 ?_
   refine pD Say.row hg2 ?_
   refine fA ?_
   refine bA 8 ?_
   refine lA 1 ?_
   refine fA ?_
   refine bA 10 ?_
   refine lA 1 ?_
   refine fA ?_
   exact eE [3,2,1] [3,2,1]
theorem zJG (n : Nat) (x0 : Net) (r : Net) (H : Jm n x0 = some r) : zI Tryz.prog 106 [.val true (CV.frzRow (Net.row x0))] [.val true (Net.row r)] [] := by
 refine cW Tryz.func106 (fun g d => sl [g 0,d 1,sl [g 2] (.block 0 (.loop (sl [sl [g 3] (cn 18 .skip (.exit 0)),.block 1 (d 5)] (g 4)))),g 6] .ret) [.cell 2 67] fun cx => ?_
 unfold Jm at H
 refine gA 2 6 6 ?_
 obtain ⟨hg1,H⟩ := gs H
 obtain ⟨hg2,H⟩ := gs H
 refine sT ⟨33,0,[sA 2 2 3 0,sA 1 1 3 0],[(2,[cL 11 ([] : List zA) zA.row,cL 4 ([] : List Link) Link.row,cL 7 ([] : List Say) Say.row]),(1,(CV.frzRow (Net.row x0)))]⟩ ?_
 refine Tr.draws mixed 11 kr ⟨33,0,[sA 3 3 3 0,sA 2 2 3 0,sA 1 1 3 0],[(3,[cL 11 ([] : List zA) zA.row,cL 4 (([] : List Link) ++ x0.Ls) Link.row,cL 7 (([] : List Say) ++ x0.Said) Say.row]),(2,[cL 11 ([] : List zA) zA.row,cL 4 ([] : List Link) Link.row,cL 7 ([] : List Say) Say.row]),(1,(CV.frzRow (Net.row x0)))]⟩ (zHE n x0 hg1 hg2) ?_
 refine tS ?_
 refine gA 1 30 14 ?_
 obtain ⟨o6,eo6,Ho6⟩ := bs H
 clear H
 refine Tr.mid (ι := (List zA)) (fun v => ⟨33,0,[sA 3 3 3 0,sA 2 2 3 0],[(3,[cL 11 v zA.row,cL 4 (([] : List Link) ++ x0.Ls) Link.row,cL 7 (([] : List Say) ++ x0.Said) Say.row]),(2,[cL 11 ([] : List zA) zA.row,cL 4 ([] : List Link) Link.row,cL 7 ([] : List Say) Say.row])]⟩) (fun v => J5 n x0 v = some r) ?_ ?_
 ·refine tB ?_
  refine Tr.loop (ι := Nat × (Int × (List zA))) (fun v => ⟨33,0,[sI 4 v.2.1,sA 3 3 3 0,sA 2 2 3 0,sA 1 1 3 0],[(3,[cL 11 v.2.2 zA.row,cL 4 (([] : List Link) ++ x0.Ls) Link.row,cL 7 (([] : List Say) ++ x0.Said) Say.row]),(2,[cL 11 ([] : List zA) zA.row,cL 4 ([] : List Link) Link.row,cL 7 ([] : List Say) Say.row]),(1,(CV.frzRow (Net.row x0)))]⟩) (fun v => Z5 n v.1 x0 v.2.1 v.2.2 = some o6) (fun v => v.1) (n,(0,([] : List zA))) eo6 (St.sub_of [4,3,2,1] [3,2,1] kr) ?_
  rintro ⟨mo6,y3,y4⟩ H
  have H : Z5 n mo6 x0 y3 y4 = some o6 := H
  obtain _ | mo6 := mo6
  ·exact nN H
  rw [Z5] at H
  refine tS ?_
  refine rA 3 ?_
  refine kF x0.Bs zA.row ?_
  refine uA 1 262174 14 ?_
  obtain ⟨h1,H⟩ | ⟨h1,H⟩ := bC H
  ·refine nA h1 ?_
   refine Tr.exit ?_
   refine aJ ?_
   obtain rfl := si H
   have H := Ho6
   dsimp only at H
   exact jA y4 H [3,2] [3,2]
  refine tA h1 ?_
  refine tK ?_
  refine tS ?_
  refine tB ?_
  obtain ⟨v7,ev7,H⟩ := bs H
  obtain ⟨r8,er8,H⟩ := bs H
  obtain ⟨hg9,H⟩ := gs H
  refine Tr.draw mixed 12 kr ⟨33,0,[sI 4 y3,sA 3 3 3 0,sA 2 2 3 0,sA 1 1 3 0],[(3,[cL 11 (y4 ++ [r8]) zA.row,cL 4 (([] : List Link) ++ x0.Ls) Link.row,cL 7 (([] : List Say) ++ x0.Said) Say.row]),(2,[cL 11 ([] : List zA) zA.row,cL 4 ([] : List Link) Link.row,cL 7 ([] : List Say) Say.row]),(1,(CV.frzRow (Net.row x0)))]⟩ (fun cx => ?_) ?_
  ·refine mA zBP [(0,[]),(1,[9,11]),(2,[]),(3,[7,8,9,11]),(4,[])] 7 [⟨[7,8,9,11],63,23,24⟩,⟨[9,11],63,21,22⟩] fun cx => ?_
   refine iN zBP 5 zA.row ev7 fun cx => ?_
   refine mA zBP [(6,[])] 5 [⟨[7,8,9,11],63,23,24⟩,⟨[9,11],63,21,22⟩] fun cx => ?_
   refine mC zBP 7 ?_
   refine vA [.rd] (zBd n v7 r8 er8) ?_
   refine fA ?_
   refine mC zBP 8 ?_
   refine lA 1 ?_
   refine fA ?_
   refine mC zBP 9 ?_
   refine LAt.appMU tOk (t := 63) (ty := 63) (e := 41) (x := (.tmp 22)) (y := (.tmp 29)) (d := 30) (g := none) (tI 41) zA.row y4 [r8] kr kr kr kr kr kr kr kr kr kr hg9 ?_
   refine fA ?_
   refine mA zBP [(10,[])] 1 [⟨[7,8,9,11],63,23,24⟩,⟨[9,11],63,21,22⟩] fun cx => ?_
   refine mC zBP 11 ?_
   refine lA 1 ?_
   refine fA ?_
   exact mE zBP [4,3,2,1] [3,2,1]
  refine eA 3 30 14 ?_
  exact jB mo6 ((IntKind.wrap .i64 (y3 + 1)),(y4 ++ [r8])) H [4,3,2,1] [3,2,1]
 rintro y5 H
 have H : (J5 n x0 y5) = some r := H
 unfold J5 at H
 refine gA 2 4 4 ?_
 exact te (fJ [(true,[cL 11 y5 zA.row,cL 4 (([] : List Link) ++ x0.Ls) Link.row,cL 7 (([] : List Say) ++ x0.Said) Say.row])] H)
def zAb (n : Nat) (y3 : (List zB)) : Option ((List zB)) :=
  (some y3)
def qj (n : Nat) : Nat → (List zB) → Int → (List zB) → Option (((List zB)) ⊕ ((List zB)))
  | 0,_,_,_ => none
  | mo4 + 1,x0,y1,y2 => (bif (decide (y1 < (x0.length : Int))) then ((idx x0 y1).bind fun v5 => (bif v5.Sc then (bif (decide (y2.length + [v5].length ≤ 268435456)) then (qj n mo4 x0 (IntKind.wrap .i64 (y1 + 1)) (y2 ++ [v5])) else none) else (bif (decide (v5.Age < 4)) then (bif (decide (y2.length + [(⟨v5.Tag,v5.Mac,v5.Port,(IntKind.wrap .i64 (v5.Age + 1)),v5.Sc⟩ : zB)].length ≤ 268435456)) then (qj n mo4 x0 (IntKind.wrap .i64 (y1 + 1)) (y2 ++ [(⟨v5.Tag,v5.Mac,v5.Port,(IntKind.wrap .i64 (v5.Age + 1)),false⟩ : zB)])) else none) else (qj n mo4 x0 (IntKind.wrap .i64 (y1 + 1)) y2)))) else (some (Sum.inl y2)))
def YV (n : Nat) (x0 : (List zB)) : Option ((List zB)) :=
  ((qj n n x0 0 ([] : List zB)).bind fun o => match o with | .inl y3 => (zAb n y3) | .inr r => some r)
theorem zJc (n : Nat) (x0 : (List zB)) (r : (List zB)) (H : YV n x0 = some r) : zI Tryz.prog 194 [.val false [.sl false 5 (CV.frzEs (x0.map zB.row))]] [.val false [.sl true 5 (r.map zB.row)]] [] := by
 refine cW Tryz.func194 (fun g d => sl [g 0,g 1,sl [g 2] (.block 0 (.loop (sl [sl [g 3] (cn 10 .skip (.exit 0)),.block 1 (sl [g 5,sl [g 6] (cn 18 (sl [g 7] (.exit 1)) .skip),g 8] (cn 25 (sl [g 9] (g 10)) .skip))] (g 4)))),g 11] .ret) [.tmp 2] fun cx => ?_
 unfold YV at H
 refine gA 1 1 0 ?_
 refine rA 1 ?_
 refine LAt.moveU (T := lk tab) (ty := 36) (x := (.tmp 6)) (d := 3) (g := none) false [cL 5 ([] : List zB) zB.row] kr kr kr kr kr ?_
 refine dA 9 0 ?_
 refine tS ?_
 refine gA 1 25 0 ?_
 obtain ⟨o4,eo4,Ho4⟩ := bs H
 clear H
 refine Tr.mid (ι := (List zB)) (fun v => ⟨35,0,[sC 3 (cL 5 v zB.row)],[]⟩) (fun v => zAb n v = some r) ?_ ?_
 ·refine tB ?_
  refine Tr.loop (ι := Nat × (Int × (List zB))) (fun v => ⟨35,0,[sI 4 v.2.1,sC 3 (cL 5 v.2.2 zB.row),sC 0 (cF 5 x0 zB.row)],[]⟩) (fun v => qj n v.1 x0 v.2.1 v.2.2 = some o4) (fun v => v.1) (n,(0,([] : List zB))) eo4 (St.sub_of [4,3,0] [] kr) ?_
  rintro ⟨mo4,y1,y2⟩ H
  have H : qj n mo4 x0 y1 y2 = some o4 := H
  obtain _ | mo4 := mo4
  ·exact nN H
  rw [qj] at H
  refine tS ?_
  refine rA 2 ?_
  refine kF x0 zB.row ?_
  refine uA 1 1049 0 ?_
  obtain ⟨h1,H⟩ | ⟨h1,H⟩ := bC H
  ·refine nA h1 ?_
   refine Tr.exit ?_
   refine aJ ?_
   obtain rfl := si H
   have H := Ho4
   dsimp only at H
   exact jA y2 H [3] []
  refine tA h1 ?_
  refine tK ?_
  refine tS ?_
  refine tB ?_
  refine rA 2 ?_
  obtain ⟨v5,ev5,H⟩ := bs H
  refine iA zB.row ev5 ?_
  refine uA 3 57 32 ?_
  refine tS ?_
  refine gA 2 262201 32 ?_
  refine sT ⟨35,0,[sB 18 v5.Sc,sA 5 5 5 0,sI 4 y1,sC 3 (cL 5 y2 zB.row),sC 0 (cF 5 x0 zB.row)],[(5,(zB.row v5))]⟩ ?_
  cases h2 : v5.Sc
  ·have H := zE h2 H
   refine nB_ ?_
   refine tK ?_
   refine gA 3 33554489 32 ?_
   obtain ⟨h3,H⟩ | ⟨h3,H⟩ := bC H
   ·refine nA h3 ?_
    refine tK ?_
    refine eA 3 25 0 ?_
    exact jB mo4 ((IntKind.wrap .i64 (y1 + 1)),y2) H [4,3,0] []
   refine tA h3 ?_
   refine gA 5 57 32 ?_
   refine Tr.at ?_
   refine lA 3 ?_
   obtain ⟨hg6,H⟩ := gs H
   refine LAt.appMU tOk (t := 36) (ty := 36) (e := 169) (x := (.tmp 30)) (y := (.tmp 32)) (d := 33) (g := none) (tI 169) zB.row y2 [(⟨v5.Tag,v5.Mac,v5.Port,(IntKind.wrap .i64 (v5.Age + 1)),v5.Sc⟩ : zB)] kr kr kr kr kr kr kr kr kr kr hg6 ?_
   refine LAt.moveU (T := lk tab) (ty := 36) (x := (.tmp 33)) (d := 3) (g := none) false [cL 5 (y2 ++ [(⟨v5.Tag,v5.Mac,v5.Port,(IntKind.wrap .i64 (v5.Age + 1)),v5.Sc⟩ : zB)]) zB.row] kr kr kr kr kr ?_
   refine dA 25 0 ?_
   refine eA 3 25 0 ?_
   refine sC' 25 0 ⟨35,0,[sI 4 (IntKind.wrap .i64 (y1 + 1)),sC 3 (cL 5 (y2 ++ [(⟨v5.Tag,v5.Mac,v5.Port,(IntKind.wrap .i64 (v5.Age + 1)),v5.Sc⟩ : zB)]) zB.row),sC 0 (cF 5 x0 zB.row)],[]⟩ ?_
   rw [h2]
   exact jB mo4 ((IntKind.wrap .i64 (y1 + 1)),(y2 ++ [(⟨v5.Tag,v5.Mac,v5.Port,(IntKind.wrap .i64 (v5.Age + 1)),false⟩ : zB)])) H [4,3,0] []
  have H := zF h2 H
  refine tB_ ?_
  refine rA 3 ?_
  obtain ⟨hg7,H⟩ := gs H
  refine LAt.appMU tOk (t := 36) (ty := 36) (e := 169) (x := (.tmp 19)) (y := (.tmp 21)) (d := 22) (g := none) (tI 169) zB.row y2 [v5] kr kr kr kr kr kr kr kr kr kr hg7 ?_
  refine LAt.moveU (T := lk tab) (ty := 36) (x := (.tmp 22)) (d := 3) (g := none) false [cL 5 (y2 ++ [v5]) zB.row] kr kr kr kr kr ?_
  refine dA 25 0 ?_
  refine Tr.exit ?_
  refine aJ ?_
  refine eA 3 25 0 ?_
  exact jB mo4 ((IntKind.wrap .i64 (y1 + 1)),(y2 ++ [v5])) H [4,3,0] []
 rintro y3 H
 have H : (zAb n y3) = some r := H
 unfold zAb at H
 refine gA 2 12 0 ?_
 exact te (fJ [(false,[cL 5 y3 zB.row])] H)
def zAd (n : Nat) (x0 : zA) : Option (zA) :=
  ((QG n x0).bind fun r1 => ((zR n x0).bind fun r2 => (bif (!r2) then (some r1) else ((YY n x0.Tk).bind fun r3 => ((YV n x0.F).bind fun r4 => ((qk n (⟨r1.Id,r1.Name,r1.Ps,r4,r1.V,r3,r1.Pa,r1.Wo,r1.Dr,r1.Ve⟩ : zA)).bind fun r5 => (some r5)))))))
theorem zK6 (n : Nat) (x0 : zA) (r : zA) (H : zAd n x0 = some r) : zI Tryz.prog 108 [.val true (CV.frzRow (zA.row x0))] [.val true (zA.row r)] [] := by
 refine cW Tryz.func108 (fun g d => sl [g 0,g 1,sl [g 2] (cn 8 (sl [g 3] .ret) .skip),g 4,g 5,g 6] .ret) [.cell 2 41] fun cx => ?_
 unfold zAd at H
 refine gA 2 6 6 ?_
 refine rA 1 ?_
 obtain ⟨r1,er1,H⟩ := bs H
 refine vA [.rd] (zBd n x0 r1 er1) ?_
 refine uA 2 14 14 ?_
 refine tS ?_
 refine rA 1 ?_
 obtain ⟨r2,er2,H⟩ := bs H
 refine vA [.rd] (zCn n x0 r2 er2) ?_
 refine uA 1 270 14 ?_
 obtain ⟨h1,H⟩ | ⟨h1,H⟩ := bC H
 ·refine nA h1 ?_
  refine tK ?_
  refine rA 2 ?_
  obtain ⟨r3,er3,H⟩ := bs H
  refine vA [.rd] (zF7 n x0.Tk r3 er3) ?_
  refine uA 2 14 14 ?_
  refine rA 2 ?_
  obtain ⟨r4,er4,H⟩ := bs H
  refine vA [.rd] (zJc n x0.F r4 er4) ?_
  refine uA 2 12 12 ?_
  refine rA 1 ?_
  obtain ⟨r5,er5,H⟩ := bs H
  refine vA [.own] (zBz n (⟨r1.Id,r1.Name,r1.Ps,r4,r1.V,r3,r1.Pa,r1.Wo,r1.Dr,r1.Ve⟩ : zA) r5 er5) ?_
  refine uA 1 4 4 ?_
  exact te (fJ [(true,(zA.row r5))] H)
 refine tA h1 ?_
 refine gA 2 4 4 ?_
 exact te (fJ [(true,(zA.row r1))] H)
def YK (n : Nat) (x0 : Net) (x1 : Int) (x2 : Int) : Option (Bool) :=
  ((zN n x1 0 (IntKind.wrap .i64 ((x0.Bs.length : Int) - 1))).bind fun r1 => (bif r1 then ((idx x0.Bs x1).bind fun v2 => ((zN n x2 0 (IntKind.wrap .i64 ((v2.Ps.length : Int) - 1))).bind fun r3 => (bif r3 then ((idx x0.Bs x1).bind fun v4 => ((idx v4.Ps x2).bind fun v5 => (some v5.Up))) else (some false)))) else (some false)))
theorem zHG (n : Nat) (x0 : Net) (x1 : Int) (x2 : Int) (r : Bool) (H : YK n x0 x1 x2 = some r) : zI Tryz.prog 163 [.val true (CV.frzRow (Net.row x0)),.val false [.lit (.int .i64 x1)],.val false [.lit (.int .i64 x2)]] [.val false [.lit (.bool r)]] [] := by
 refine cW Tryz.func163 (fun g d => sl [g 0,g 1] .ret) [.tmp 6] fun cx => ?_
 unfold YK at H
 refine gA 2 14 8 ?_
 refine rA 3 ?_
 refine kF x0.Bs zA.row ?_
 refine lA 1 ?_
 obtain ⟨r1,er1,H⟩ := bs H
 refine vA [.rd,.rd,.rd] (zO n x1 0 (IntKind.wrap .i64 ((x0.Bs.length : Int) - 1)) r1 er1) ?_
 refine lA 1 ?_
 refine sL 8206 8 ⟨37,0,[sB 13 r1,sA 3 3 3 0,sI 1 x1,sI 2 x2],[(3,(CV.frzRow (Net.row x0)))]⟩ ?_
 cases h1 : r1
 ·have H := zE h1 H
  refine uA 24 64 0 ?_
  exact te (fF H)
 have H := zF h1 H
 refine lA 4 ?_
 obtain ⟨v2,ev2,H⟩ := bs H
 refine iA zA.row ev2 ?_
 refine lA 2 ?_
 refine kF v2.Ps Pt.row ?_
 refine lA 1 ?_
 obtain ⟨r3,er3,H⟩ := bs H
 refine vA [.rd,.rd,.rd] (zO n x2 0 (IntKind.wrap .i64 ((v2.Ps.length : Int) - 1)) r3 er3) ?_
 refine lA 2 ?_
 refine sL 33554446 8 ⟨37,0,[sB 25 r3,sA 3 3 3 0,sI 1 x1,sI 2 x2],[(3,(CV.frzRow (Net.row x0)))]⟩ ?_
 cases h2 : r3
 ·have H := zE h2 H
  refine uA 12 64 0 ?_
  exact te (fF H)
 have H := zF h2 H
 refine lA 3 ?_
 obtain ⟨v4,ev4,H⟩ := bs H
 refine iA zA.row ev4 ?_
 refine lA 3 ?_
 obtain ⟨v5,ev5,H⟩ := bs H
 refine iA Pt.row ev5 ?_
 refine uA 4 64 0 ?_
 exact te (fJ [(false,[cB v5.Up])] H)
def ZF (n : Nat) (x0 : Net) (x1 : Int) : Option (Bool) :=
  ((zN n x1 0 (IntKind.wrap .i64 ((x0.Ls.length : Int) - 1))).bind fun r1 => (bif (!r1) then (some false) else ((idx x0.Ls x1).bind fun v2 => ((YK n x0 v2.A v2.P).bind fun r3 => (bif r3 then ((YK n x0 v2.B v2.Q).bind fun r4 => (some r4)) else (some false))))))
theorem zDx (n : Nat) (x0 : Net) (x1 : Int) (r : Bool) (H : ZF n x0 x1 = some r) : zI Tryz.prog 63 [.val true (CV.frzRow (Net.row x0)),.val false [.lit (.int .i64 x1)]] [.val false [.lit (.bool r)]] [] := by
 refine cW Tryz.func63 (fun g d => sl [g 0,sl [g 1] (cn 12 (sl [g 2] .ret) .skip),g 3,g 4] .ret) [.tmp 4] fun cx => ?_
 unfold ZF at H
 refine gA 2 6 4 ?_
 refine tS ?_
 refine rA 3 ?_
 refine kF x0.Ls Link.row ?_
 refine lA 1 ?_
 obtain ⟨r1,er1,H⟩ := bs H
 refine vA [.rd,.rd,.rd] (zO n x1 0 (IntKind.wrap .i64 ((x0.Ls.length : Int) - 1)) r1 er1) ?_
 refine uA 1 4102 4 ?_
 obtain ⟨h1,H⟩ | ⟨h1,H⟩ := bC H
 ·refine nA h1 ?_
  refine tK ?_
  refine rA 3 ?_
  obtain ⟨v2,ev2,H⟩ := bs H
  refine iA Link.row ev2 ?_
  refine uA 3 36 36 ?_
  refine rA 5 ?_
  obtain ⟨r3,er3,H⟩ := bs H
  refine vA [.rd,.rd,.rd] (zHG n x0 v2.A v2.P r3 er3) ?_
  refine lA 1 ?_
  refine sL 16777252 36 ⟨32,0,[sB 24 r3,sA 5 5 4 0,sA 2 2 3 0],[(5,(Link.row v2)),(2,(CV.frzRow (Net.row x0)))]⟩ ?_
  cases h2 : r3
  ·have H := zE h2 H
   refine uA 8 16 0 ?_
   exact te (fF H)
  have H := zF h2 H
  refine lA 5 ?_
  obtain ⟨r4,er4,H⟩ := bs H
  refine vA [.rd,.rd,.rd] (zHG n x0 v2.B v2.Q r4 er4) ?_
  refine uA 2 16 0 ?_
  exact te (fJ [(false,[cB r4])] H)
 refine tA h1 ?_
 refine gA 1 16 0 ?_
 exact te (fF H)
def JM (n : Nat) (x0 : Net) (x1 : Int) (x2 : Bool) : Option (Vec) :=
  ((idx x0.Ls x1).bind fun v1 => (bif x2 then ((idx x0.Bs v1.B).bind fun v5 => ((idx x0.Bs v1.B).bind fun v6 => ((qY n v5.Id v6.Ps v1.Q).bind fun r7 => (some r7)))) else ((idx x0.Bs v1.A).bind fun v2 => ((idx x0.Bs v1.A).bind fun v3 => ((qY n v2.Id v3.Ps v1.P).bind fun r4 => (some r4))))))
def zMf : Tab := ⟨18,[0,1,0,4,10,16,32,0,128,0,512,1280,2048,4096,0,16384,41024,131071],[0,1,0,4,10,16,32,0,128,0,512,1280,2048,4096,0,16384,41024,65536],[0,1,0,4,15,31,63,0,128,0,512,1920,3968,8064,0,16384,65535,131071]⟩
theorem zCH : za (rg Tryz.f196 3) zMf = true := kr
def zMg : Tab := ⟨18,[0,1,0,4,10,16,32,0,128,0,512,1280,2048,4096,0,16384,41024,131071],[0,1,0,4,10,16,32,0,128,0,512,1280,2048,4096,0,16384,41024,65536],[0,1,0,4,15,31,63,0,128,0,512,1920,3968,8064,0,16384,65535,131071]⟩
theorem zCI : za (rg Tryz.f196 4) zMg = true := kr
theorem zF8 (n : Nat) (x0 : Net) (x1 : Int) (x2 : Bool) (r : Vec) (H : JM n x0 x1 x2 = some r) : zI Tryz.prog 196 [.val true (CV.frzRow (Net.row x0)),.val false [.lit (.int .i64 x1)],.val false [.lit (.bool x2)]] [.val true (Vec.row r)] [] := by
 refine cW Tryz.func196 (fun g d => sl [g 0,g 1,sl [g 2] (cn 13 (sl [d 3] .ret) .skip),d 4] .ret) [.cell 6 165] fun cx => ?_
 unfold JM at H
 refine gA 2 78 72 ?_
 refine rA 3 ?_
 obtain ⟨v1,ev1,H⟩ := bs H
 refine iA Link.row ev1 ?_
 refine uA 3 204 200 ?_
 refine tS ?_
 refine gA 1 8392 200 ?_
 cases h1 : x2
 ·have H := zE h1 H
  refine nB_ ?_
  refine tK ?_
  obtain ⟨v2,ev2,H⟩ := bs H
  obtain ⟨v3,ev3,H⟩ := bs H
  obtain ⟨r4,er4,H⟩ := bs H
  refine Tr.draws mixed 18 kr ⟨48,0,[sA 6 6 5 0],[(6,(Vec.row r4))]⟩ (fun cx => ?_) ?_
  ·refine mA zCI [(0,[]),(1,[16,17]),(2,[]),(3,[16,17])] 14 [⟨[16,17],3,33,34⟩,⟨[16,17],63,31,32⟩] fun cx => ?_
   refine iN zCI 4 zA.row ev2 fun cx => ?_
   refine mA zCI [(5,[]),(6,[]),(7,[]),(8,[16,17]),(9,[]),(10,[16,17])] 7 [⟨[16,17],3,40,41⟩,⟨[16,17],63,38,39⟩,⟨[16,17],3,33,34⟩,⟨[16,17],63,31,32⟩] fun cx => ?_
   refine iN zCI 11 zA.row ev3 fun cx => ?_
   refine mA zCI [(12,[]),(13,[]),(14,[]),(15,[16,17])] 2 [⟨[16,17],3,45,46⟩,⟨[16,17],3,40,41⟩,⟨[16,17],63,38,39⟩,⟨[16,17],3,33,34⟩,⟨[16,17],63,31,32⟩] fun cx => ?_
   refine mC zCI 16 ?_
   refine vA [.rd,.rd,.rd] (zDy n v2.Id v3.Ps v1.P r4 er4) ?_
   refine fA ?_
   refine mC zCI 17 ?_
   refine lA 1 ?_
   refine fA ?_
   exact mE zCI [6] [6]
  exact te (fJ [(true,(Vec.row r4))] H)
 have H := zF h1 H
 refine tB_ ?_
 obtain ⟨v5,ev5,H⟩ := bs H
 obtain ⟨v6,ev6,H⟩ := bs H
 obtain ⟨r7,er7,H⟩ := bs H
 refine Tr.draws mixed 18 kr ⟨48,0,[sA 6 6 5 0],[(6,(Vec.row r7))]⟩ (fun cx => ?_) ?_
 ·refine mA zCH [(0,[]),(1,[16,17]),(2,[]),(3,[16,17])] 14 [⟨[16,17],3,16,17⟩,⟨[16,17],63,14,15⟩] fun cx => ?_
  refine iN zCH 4 zA.row ev5 fun cx => ?_
  refine mA zCH [(5,[]),(6,[]),(7,[]),(8,[16,17]),(9,[]),(10,[16,17])] 7 [⟨[16,17],3,23,24⟩,⟨[16,17],63,21,22⟩,⟨[16,17],3,16,17⟩,⟨[16,17],63,14,15⟩] fun cx => ?_
  refine iN zCH 11 zA.row ev6 fun cx => ?_
  refine mA zCH [(12,[]),(13,[]),(14,[]),(15,[16,17])] 2 [⟨[16,17],3,28,29⟩,⟨[16,17],3,23,24⟩,⟨[16,17],63,21,22⟩,⟨[16,17],3,16,17⟩,⟨[16,17],63,14,15⟩] fun cx => ?_
  refine mC zCH 16 ?_
  refine vA [.rd,.rd,.rd] (zDy n v5.Id v6.Ps v1.Q r7 er7) ?_
  refine fA ?_
  refine mC zCH 17 ?_
  refine lA 1 ?_
  refine fA ?_
  exact mE zCH [6] [6]
 exact te (fJ [(true,(Vec.row r7))] H)
def Y4 (n : Nat) (x0 : Net) (y3 : (List Say)) : Option (Net) :=
  (some (⟨x0.Bs,x0.Ls,y3⟩ : Net))
def Zz (n : Nat) (k : (Int × (List Say) → Option (((List Say)) ⊕ (Net)))) (x0 : Net) (x1 : Int) (y1 : Int) (y6 : (List Say)) : Option (((List Say)) ⊕ (Net)) :=
  ((idx x0.Ls y1).bind fun v7 => (bif (v7.B == x1) then ((JM n (⟨x0.Bs,x0.Ls,y6⟩ : Net) y1 true).bind fun r8 => (bif (decide (y6.length + [(⟨y1,true,r8⟩ : Say)].length ≤ 268435456)) then (k ((IntKind.wrap .i64 (y1 + 1)),(y6 ++ [(⟨y1,true,r8⟩ : Say)]))) else none)) else (k ((IntKind.wrap .i64 (y1 + 1)),y6))))
def qO (n : Nat) : Nat → Net → Int → Int → (List Say) → Option (((List Say)) ⊕ (Net))
  | 0,_,_,_,_ => none
  | mo4 + 1,x0,x1,y1,y2 => (bif (decide (y1 < (x0.Ls.length : Int))) then ((ZF n (⟨x0.Bs,x0.Ls,y2⟩ : Net) y1).bind fun r5 => (bif (!r5) then (qO n mo4 x0 x1 (IntKind.wrap .i64 (y1 + 1)) y2) else (bif (decide ((y2.length : Int) ≥ 40)) then (qO n mo4 x0 x1 (IntKind.wrap .i64 (y1 + 1)) y2) else ((idx x0.Ls y1).bind fun v10 => (bif (v10.A == x1) then ((JM n (⟨x0.Bs,x0.Ls,y2⟩ : Net) y1 false).bind fun r11 => (bif (decide (y2.length + [(⟨y1,false,r11⟩ : Say)].length ≤ 268435456)) then (Zz n (fun v => qO n mo4 x0 x1 v.1 v.2) x0 x1 y1 (y2 ++ [(⟨y1,false,r11⟩ : Say)])) else none)) else (Zz n (fun v => qO n mo4 x0 x1 v.1 v.2) x0 x1 y1 y2)))))) else (some (Sum.inl y2)))
def Yy (n : Nat) (x0 : Net) (x1 : Int) : Option (Net) :=
  ((qO n n x0 x1 0 x0.Said).bind fun o => match o with | .inl y3 => (Y4 n x0 y3) | .inr r => some r)
def zMM : Tab := ⟨17,[0,0,2,4,8,0,0,64,128,0,768,1056,2048,5136,16383,32767,49151],[0,0,2,4,8,0,0,64,128,0,768,1056,2048,4112,1,16384,40960],[0,0,2,6,14,0,0,64,192,0,960,2016,4064,8190,16383,32767,65535]⟩
noncomputable abbrev zHN (k : Nat) := Rg Tryz.f109 k
noncomputable abbrev zMA (k : Nat) := Rd Tryz.f109 k
theorem zB9 : za (rg Tryz.f109 5) zMM = true := kr
def zMN : Tab := ⟨17,[0,0,2,4,8,0,0,64,128,0,768,1056,2048,5136,16383,32767,49151],[0,0,2,4,8,0,0,64,128,0,768,1056,2048,4112,1,16384,40960],[0,0,2,6,14,0,0,64,192,0,960,2016,4064,8190,16383,32767,65535]⟩
theorem zCA : za (rg Tryz.f109 7) zMN = true := kr
theorem zHr (n : Nat) (x0 : Net) (x1 : Int) (r : Net) (H : Yy n x0 x1 = some r) : zI Tryz.prog 109 [.ptr (Net.row x0),.val false [.lit (.int .i64 x1)]] [] [(0,(Net.row r))] := by
 refine zI.of_body tOk Tryz.func109 rfl (c := (.seq (zHN 0) (.block 0 (.loop (.seq (.seq (zHN 1) (.cond (.tmp 11) .skip (.exit 0))) (.seq (.block 1 (.seq (.seq (zHN 3) (.cond (.tmp 27) (.exit 1) .skip)) (.seq (.seq (zHN 4) (.cond (.tmp 37) (zMA 5) .skip)) (.seq (zHN 6) (.cond (.tmp 63) (zMA 7) .skip))))) (zHN 2))))))) kr (Nat.le_of_ble_eq_true kr) 1 (rs := []) rfl [] .nil [] [] [(0,(Net.row r))] fun cx => ?_
 show Tr _ _ _ ⟨80,1,[sA 0 0 3 0,sI 1 x1],[(0,(Net.row x0))]⟩ _
 unfold Yy at H
 refine gA 1 19 1 ?_
 obtain ⟨o4,eo4,Ho4⟩ := bs H
 clear H
 refine Tr.mid (ι := (List Say)) (fun v => ⟨80,1,[sA 0 0 3 0],[(0,[cL 11 x0.Bs zA.row,cL 4 x0.Ls Link.row,cL 7 v Say.row])]⟩) (fun v => Y4 n x0 v = some r) ?_ ?_
 ·refine tB ?_
  refine Tr.loop (ι := Nat × (Int × (List Say))) (fun v => ⟨80,1,[sI 4 v.2.1,sA 0 0 3 0,sI 1 x1],[(0,[cL 11 x0.Bs zA.row,cL 4 x0.Ls Link.row,cL 7 v.2.2 Say.row])]⟩) (fun v => qO n v.1 x0 x1 v.2.1 v.2.2 = some o4) (fun v => v.1) (n,(0,x0.Said)) eo4 (St.sub_of [4,0,1] [0] kr) ?_
  rintro ⟨mo4,y1,y2⟩ H
  have H : qO n mo4 x0 x1 y1 y2 = some o4 := H
  obtain _ | mo4 := mo4
  ·exact nN H
  rw [qO] at H
  refine tS ?_
  refine rA 5 ?_
  refine kO x0.Ls Link.row ?_
  refine uA 1 2067 1 ?_
  obtain ⟨h1,H⟩ | ⟨h1,H⟩ := bC H
  ·refine nA h1 ?_
   refine Tr.exit ?_
   refine aJ ?_
   obtain rfl := si H
   have H := Ho4
   dsimp only at H
   exact jA y2 H [0] [0]
  refine tA h1 ?_
  refine tK ?_
  refine tS ?_
  refine tB ?_
  refine tS ?_
  refine rA 4 ?_
  obtain ⟨r5,er5,H⟩ := bs H
  refine vB [.rd,.rd] [.box 0] (zDx n (⟨x0.Bs,x0.Ls,y2⟩ : Net) y1 r5 er5) (.inr (zV (zG zK zl) zp)) ?_
  refine lA 2 ?_
  refine sL 1048595 1 ⟨80,1,[sB 20 (!r5),sI 4 y1,sA 0 0 3 0,sI 1 x1],[(0,[cL 11 x0.Bs zA.row,cL 4 x0.Ls Link.row,cL 7 y2 Say.row])]⟩ ?_
  cases h2 : (!r5)
  ·have H := zE h2 H
   refine lA 4 ?_
   refine kO y2 Say.row ?_
   refine uA 2 134217747 1 ?_
   obtain ⟨h3,H⟩ | ⟨h3,H⟩ := bC H
   ·refine nA h3 ?_
    refine tK ?_
    refine tS ?_
    refine Tr.mid (ι := (List Say)) (fun v => ⟨80,1,[sI 4 y1,sA 0 0 3 0,sI 1 x1],[(0,[cL 11 x0.Bs zA.row,cL 4 x0.Ls Link.row,cL 7 v Say.row])]⟩) (fun v => Zz n (fun v => qO n mo4 x0 x1 v.1 v.2) x0 x1 y1 v = some o4) ?_ ?_
    ·refine rA 5 ?_
     obtain ⟨v10,ev10,H⟩ := bs H
     refine oA Link.row ev10 ?_
     refine lA 1 ?_
     refine dE (tI 3) (.box 0) [(0,0),(1,(y1.toNat))] 4 0 [.sl true 3 [[cL 11 x0.Bs zA.row,cL 4 x0.Ls Link.row,cL 7 y2 Say.row]]] (Link.row v10) (zY rfl (zM ev10).2) ?_
     refine uA 2 137438953491 1 ?_
     obtain ⟨h5,H⟩ | ⟨h5,H⟩ := bC H
     ·refine nA h5 ?_
      refine tK ?_
      exact jA y2 H [4,0,1] [0]
     refine tA h5 ?_
     obtain ⟨r11,er11,H⟩ := bs H
     obtain ⟨hg12,H⟩ := gs H
     refine Tr.draw mixed 17 kr ⟨80,1,[sI 4 y1,sA 0 0 3 0,sI 1 x1],[(0,[cL 11 x0.Bs zA.row,cL 4 x0.Ls Link.row,cL 7 (y2 ++ [(⟨y1,false,r11⟩ : Say)]) Say.row])]⟩ (fun cx => ?_) ?_
     ·refine mA zB9 [(0,[]),(1,[]),(2,[]),(3,[]),(4,[13,16]),(5,[]),(6,[]),(7,[]),(8,[10,11,12,13,16]),(9,[])] 7 [⟨[10,11,12,13,16],67,45,46⟩,⟨[13,16],65,41,42⟩] fun cx => ?_
      refine mC zB9 10 ?_
      refine vB [.rd,.rd,.rd] [.box 0] (zF8 n (⟨x0.Bs,x0.Ls,y2⟩ : Net) y1 false r11 er11) (.inr (zV (Vec.row_mine _) zp)) ?_
      refine fA ?_
      refine mC zB9 11 ?_
      refine lA 1 ?_
      refine fA ?_
      refine mC zB9 12 ?_
      refine lA 1 ?_
      refine fA ?_
      refine mC zB9 13 ?_
      refine LAt.appMU tOk (t := 65) (ty := 65) (e := 180) (x := (.tmp 42)) (y := (.tmp 50)) (d := 51) (g := none) (tI 180) Say.row y2 [(⟨y1,false,r11⟩ : Say)] kr kr kr kr kr kr kr kr kr kr hg12 ?_
      refine fA ?_
      refine mA zB9 [(14,[]),(15,[])] 1 [⟨[10,11,12,13,16],67,45,46⟩,⟨[13,16],65,41,42⟩] fun cx => ?_
      refine mC zB9 16 ?_
      refine lA 1 ?_
      refine fA ?_
      exact mE zB9 [4,0,1] [0]
     exact jA (y2 ++ [(⟨y1,false,r11⟩ : Say)]) H [4,0,1] [0]
    rintro y6 H
    have H : (Zz n (fun v => qO n mo4 x0 x1 v.1 v.2) x0 x1 y1 y6) = some o4 := H
    unfold Zz at H
    refine rA 5 ?_
    obtain ⟨v7,ev7,H⟩ := bs H
    refine oA Link.row ev7 ?_
    refine lA 1 ?_
    refine dE (tI 3) (.box 0) [(0,0),(1,(y1.toNat))] 4 2 [.sl true 3 [[cL 11 x0.Bs zA.row,cL 4 x0.Ls Link.row,cL 7 y6 Say.row]]] (Link.row v7) (zY rfl (zM ev7).2) ?_
    refine uA 2 0x8000000000000013 1 ?_
    obtain ⟨h4,H⟩ | ⟨h4,H⟩ := bC H
    ·refine nA h4 ?_
     refine tK ?_
     refine eA 3 19 1 ?_
     exact jB mo4 ((IntKind.wrap .i64 (y1 + 1)),y6) H [4,0,1] [0]
    refine tA h4 ?_
    obtain ⟨r8,er8,H⟩ := bs H
    obtain ⟨hg9,H⟩ := gs H
    refine Tr.draw mixed 17 kr ⟨80,1,[sI 4 y1,sA 0 0 3 0,sI 1 x1],[(0,[cL 11 x0.Bs zA.row,cL 4 x0.Ls Link.row,cL 7 (y6 ++ [(⟨y1,true,r8⟩ : Say)]) Say.row])]⟩ (fun cx => ?_) ?_
    ·refine mA zCA [(0,[]),(1,[]),(2,[]),(3,[]),(4,[13,16]),(5,[]),(6,[]),(7,[]),(8,[10,11,12,13,16]),(9,[])] 7 [⟨[10,11,12,13,16],67,71,72⟩,⟨[13,16],65,67,68⟩] fun cx => ?_
     refine mC zCA 10 ?_
     refine vB [.rd,.rd,.rd] [.box 0] (zF8 n (⟨x0.Bs,x0.Ls,y6⟩ : Net) y1 true r8 er8) (.inr (zV (Vec.row_mine _) zp)) ?_
     refine fA ?_
     refine mC zCA 11 ?_
     refine lA 1 ?_
     refine fA ?_
     refine mC zCA 12 ?_
     refine lA 1 ?_
     refine fA ?_
     refine mC zCA 13 ?_
     refine LAt.appMU tOk (t := 65) (ty := 65) (e := 180) (x := (.tmp 68)) (y := (.tmp 76)) (d := 77) (g := none) (tI 180) Say.row y6 [(⟨y1,true,r8⟩ : Say)] kr kr kr kr kr kr kr kr kr kr hg9 ?_
     refine fA ?_
     refine mA zCA [(14,[]),(15,[])] 1 [⟨[10,11,12,13,16],67,71,72⟩,⟨[13,16],65,67,68⟩] fun cx => ?_
     refine mC zCA 16 ?_
     refine lA 1 ?_
     refine fA ?_
     exact mE zCA [4,0,1] [0]
    refine eA 3 19 1 ?_
    exact jB mo4 ((IntKind.wrap .i64 (y1 + 1)),(y6 ++ [(⟨y1,true,r8⟩ : Say)])) H [4,0,1] [0]
   refine tA h3 ?_
   refine Tr.exit ?_
   refine aJ ?_
   refine eA 3 19 1 ?_
   exact jB mo4 ((IntKind.wrap .i64 (y1 + 1)),y2) H [4,0,1] [0]
  have H := zF h2 H
  refine uA 7 134217747 1 ?_
  refine tB_ ?_
  refine Tr.exit ?_
  refine aJ ?_
  refine eA 3 19 1 ?_
  exact jB mo4 ((IntKind.wrap .i64 (y1 + 1)),y2) H [4,0,1] [0]
 rintro y3 H
 have H : (Y4 n x0 y3) = some r := H
 unfold Y4 at H
 obtain rfl := si H
 exact Fin.ofY _ [] [] _ [] _ [(0,[cL 11 x0.Bs zA.row,cL 4 x0.Ls Link.row,cL 7 y3 Say.row])] kr rfl rfl rfl kr kr kr kr rfl rfl rfl
def QE (n : Nat) (x0 : zA) (x1 : Int) (x2 : Vec) : Option (zA) :=
  ((QG n x0).bind fun r1 => ((YM n x0 x1).bind fun r2 => (bif (!r2) then (some r1) else ((idx x0.Ps x1).bind fun v3 => (bif (!v3.Up) then (some r1) else ((z5 n x2).bind fun r4 => (bif (!r4) then (some r1) else ((idx r1.Ps x1).bind fun v5 => ((idx (r1.Ps.set (x1.toNat) (⟨v5.Up,v5.Co,true,v5.Hd⟩ : Pt)) x1).bind fun v6 => ((qk n (⟨r1.Id,r1.Name,((r1.Ps.set (x1.toNat) (⟨v5.Up,v5.Co,true,v5.Hd⟩ : Pt)).set (x1.toNat) (⟨v6.Up,v6.Co,v6.Has,x2⟩ : Pt)),r1.F,r1.V,r1.Tk,r1.Pa,r1.Wo,r1.Dr,r1.Ve⟩ : zA)).bind fun r7 => (some r7)))))))))))
theorem zFN (n : Nat) (x0 : zA) (x1 : Int) (x2 : Vec) (r : zA) (H : QE n x0 x1 x2 = some r) : zI Tryz.prog 240 [.val true (CV.frzRow (zA.row x0)),.val false [.lit (.int .i64 x1)],.val true (CV.frzRow (Vec.row x2))] [.val true (zA.row r)] [] := by
 refine cW Tryz.func240 (fun g d => sl [g 0,g 1,sl [g 2] (cn 27 (sl [g 3] .ret) .skip),g 4,g 5,g 6] .ret) [.cell 6 41] fun cx => ?_
 unfold QE at H
 refine gA 3 106 104 ?_
 refine rA 1 ?_
 obtain ⟨r1,er1,H⟩ := bs H
 refine vA [.rd] (zBd n x0 r1 er1) ?_
 refine uA 2 234 232 ?_
 refine tS ?_
 refine rA 2 ?_
 obtain ⟨r2,er2,H⟩ := bs H
 refine vA [.rd,.rd] (zEp n x0 x1 r2 er2) ?_
 refine lA 2 ?_
 refine sL 16618 232 ⟨42,0,[sB 14 (!r2),sA 7 7 11 0,sA 6 6 11 0,sA 5 5 5 0,sA 3 3 11 0,sI 1 x1],[(7,(zA.row r1)),(6,[cI 0,cS (⟨#[]⟩ : ByteArray),cL 8 ([] : List Pt) Pt.row,cL 5 ([] : List zB) zB.row,cL 3 ([] : List zC) zC.row,cL 1 ([] : List Int) intRow,cI 0,cI 0,cI 0,cI 0,cI 0]),(5,(Vec.row x2)),(3,(CV.frzRow (zA.row x0)))]⟩ ?_
 cases h1 : (!r2)
 ·have H := zE h1 H
  refine lA 3 ?_
  obtain ⟨v3,ev3,H⟩ := bs H
  refine iA Pt.row ev3 ?_
  refine lA 5 ?_
  refine sL 8388834 224 ⟨42,0,[sB 23 (!v3.Up),sA 7 7 11 0,sA 6 6 11 0,sA 5 5 5 0,sI 1 x1],[(7,(zA.row r1)),(6,[cI 0,cS (⟨#[]⟩ : ByteArray),cL 8 ([] : List Pt) Pt.row,cL 5 ([] : List zB) zB.row,cL 3 ([] : List zC) zC.row,cL 1 ([] : List Int) intRow,cI 0,cI 0,cI 0,cI 0,cI 0]),(5,(Vec.row x2))]⟩ ?_
  cases h2 : (!v3.Up)
  ·have H := zE h2 H
   refine lA 1 ?_
   obtain ⟨r4,er4,H⟩ := bs H
   refine vA [.rd] (zBc n x2 r4 er4) ?_
   refine uA 2 134217954 224 ?_
   obtain ⟨h3,H⟩ | ⟨h3,H⟩ := bC H
   ·refine nA h3 ?_
    refine tK ?_
    refine rA 3 ?_
    obtain ⟨v5,ev5,H⟩ := bs H
    refine oA Pt.row ev5 ?_
    refine lA 1 ?_
    refine LAt.storeB tOk (t := 4) (ty := 0) (ad := (.tmp 33)) (x := (.const (.bool true))) (g := none) (tI 4) false [cB true] 7 2 (x1.toNat) 8 2 8 r1.Ps Pt.row v5 (⟨v5.Up,v5.Co,true,v5.Hd⟩ : Pt) kr kr kr kr kr kr kr kr (zM ev5).2 kr kr kr kr ?_
    refine dA 226 224 ?_
    refine rA 4 ?_
    obtain ⟨v6,ev6,H⟩ := bs H
    refine oA Pt.row ev6 ?_
    refine lA 1 ?_
    refine LAt.storeB tOk (t := 165) (ty := 0) (ad := (.tmp 39)) (x := (.tmp 37)) (g := none) (tI 165) true (Vec.row x2) 7 2 (x1.toNat) 8 3 8 (r1.Ps.set (x1.toNat) (⟨v5.Up,v5.Co,true,v5.Hd⟩ : Pt)) Pt.row v6 (⟨v6.Up,v6.Co,v6.Has,x2⟩ : Pt) kr kr kr kr kr kr kr kr (zM ev6).2 kr kr kr kr ?_
    refine dA 192 192 ?_
    refine rA 1 ?_
    obtain ⟨r7,er7,H⟩ := bs H
    refine vA [.own] (zBz n (⟨r1.Id,r1.Name,((r1.Ps.set (x1.toNat) (⟨v5.Up,v5.Co,true,v5.Hd⟩ : Pt)).set (x1.toNat) (⟨v6.Up,v6.Co,v6.Has,x2⟩ : Pt)),r1.F,r1.V,r1.Tk,r1.Pa,r1.Wo,r1.Dr,r1.Ve⟩ : zA) r7 er7) ?_
    refine uA 1 64 64 ?_
    exact te (fJ [(true,(zA.row r7))] H)
   refine tA h3 ?_
   refine gA 2 64 64 ?_
   exact te (fJ [(true,(zA.row r1))] H)
  have H := zF h2 H
  refine uA 4 134217954 224 ?_
  refine tB_ ?_
  refine gA 2 64 64 ?_
  exact te (fJ [(true,(zA.row r1))] H)
 have H := zF h1 H
 refine uA 13 134217954 224 ?_
 refine tB_ ?_
 refine gA 2 64 64 ?_
 exact te (fJ [(true,(zA.row r1))] H)
def Yj (n : Nat) (x0 : Net) (x1 : Int) (x2 : Bool) (x3 : Vec) : Option (Net) :=
  ((idx x0.Ls x1).bind fun v1 => (bif x2 then ((idx x0.Bs v1.A).bind fun v4 => ((QE n v4 v1.P x3).bind fun r5 => (some (⟨(x0.Bs.set (v1.A.toNat) r5),x0.Ls,x0.Said⟩ : Net)))) else ((idx x0.Bs v1.B).bind fun v2 => ((QE n v2 v1.Q x3).bind fun r3 => (some (⟨(x0.Bs.set (v1.B.toNat) r3),x0.Ls,x0.Said⟩ : Net))))))
def zMh : Tab := ⟨20,[0,1,2,4,0,16,0,64,128,256,0,1024,2560,4096,0,16384,0,106496,262143,524287],[0,1,2,4,0,16,0,64,128,256,0,1024,2560,4096,0,16384,0,106496,40,393216],[0,1,3,7,0,16,0,64,192,448,0,1024,4032,8128,0,16384,0,131008,262143,524287]⟩
noncomputable abbrev zLD (k : Nat) := Rg Tryz.f197 k
noncomputable abbrev zMF (k : Nat) := Rd Tryz.f197 k
theorem zCJ : za (rg Tryz.f197 3) zMh = true := kr
def zMi : Tab := ⟨20,[0,1,2,4,0,16,0,64,128,256,0,1024,2560,4096,0,16384,0,106496,262143,524287],[0,1,2,4,0,16,0,64,128,256,0,1024,2560,4096,0,16384,0,106496,40,393216],[0,1,3,7,0,16,0,64,192,448,0,1024,4032,8128,0,16384,0,131008,262143,524287]⟩
theorem zCK : za (rg Tryz.f197 4) zMi = true := kr
theorem zJI (n : Nat) (x0 : Net) (x1 : Int) (x2 : Bool) (x3 : Vec) (r : Net) (H : Yj n x0 x1 x2 x3 = some r) : zI Tryz.prog 197 [.ptr (Net.row x0),.val false [.lit (.int .i64 x1)],.val false [.lit (.bool x2)],.val true (CV.frzRow (Vec.row x3))] [] [(0,(Net.row r))] := by
 refine zI.of_body tOk Tryz.func197 rfl (c := (.seq (zLD 0) (.seq (zLD 1) (.seq (.seq (zLD 2) (.cond (.tmp 16) (.seq (zMF 3) .ret) .skip)) (zMF 4))))) kr (Nat.le_of_ble_eq_true kr) 1 (rs := []) rfl [] .nil [] [] [(0,(Net.row r))] fun cx => ?_
 show Tr _ _ _ ⟨55,1,[sA 0 0 3 0,sI 1 x1,sB 2 x2,sV 3 (Vec.row x3)],[(0,(Net.row x0))]⟩ _
 unfold Yj at H
 refine gA 1 135 129 ?_
 refine rA 5 ?_
 obtain ⟨v1,ev1,H⟩ := bs H
 refine oA Link.row ev1 ?_
 refine dE (tI 114) (.box 0) [(0,0),(1,(x1.toNat))] 4 0 [.sl true 3 [(Net.row x0)]] (Link.row v1) (zY rfl (zM ev1).2) ?_
 refine uA 2 389 385 ?_
 refine tS ?_
 refine gA 1 65921 385 ?_
 cases h1 : x2
 ·have H := zE h1 H
  refine nB_ ?_
  refine tK ?_
  obtain ⟨v2,ev2,H⟩ := bs H
  obtain ⟨r3,er3,H⟩ := bs H
  refine Tr.draw mixed 20 kr ⟨55,1,[sA 0 0 3 0],[(0,[cL 11 (x0.Bs.set (v1.B.toNat) r3) zA.row,cL 4 x0.Ls Link.row,cL 7 x0.Said Say.row])]⟩ (fun cx => ?_) ?_
  ·refine mA zCK [(0,[]),(1,[]),(2,[]),(3,[19]),(4,[]),(5,[19]),(6,[]),(7,[]),(8,[]),(9,[17,19]),(10,[]),(11,[17,19])] 8 [⟨[17,19],3,46,47⟩,⟨[17,19],63,44,45⟩,⟨[19],3,40,41⟩,⟨[19],63,38,39⟩] fun cx => ?_
   refine oN zCK 12 zA.row ev2 fun cx => ?_
   refine mA zCK [(14,[]),(15,[17,19]),(16,[17,19])] 4 [⟨[17,19],165,7,52⟩,⟨[17,19],3,50,51⟩,⟨[17,19],3,46,47⟩,⟨[17,19],63,44,45⟩,⟨[19],3,40,41⟩,⟨[19],63,38,39⟩] fun cx => ?_
   refine mC zCK 13 ?_
   refine dE (tI 41) (.box 0) [(0,0),(0,(v1.B.toNat))] 11 0 [.sl true 3 [(Net.row x0)]] (zA.row v2) (zY rfl (zM ev2).2) ?_
   refine fA ?_
   refine mC zCK 17 ?_
   refine LAt.callO tOk [.rd,.rd,.rd] (f := 240) (av := #[.tmp 49,.tmp 51,.tmp 52]) (ats := #[41,3,165]) (d := (some 53)) (ty := 41) (g := none) [(49,zA.row v2)] none kr kr kr [.box 0] (zFN n v2 v1.Q x3 r3 er3) (zAK (row := [.sl true 3 [(Net.row x0)]]) (q := [(0,0),(0,(v1.B.toNat))]) kr (zY rfl (zM ev2).2) zBM) kr zBL (.inr (And.intro (zV (zA.row_mine _) zp) zAL)) ?_
   refine fA ?_
   refine oN zCK 18 zA.row ev2 fun cx => ?_
   refine sA_ 0x7cf3c000000081 385 ⟨55,1,[(54,.adr (.box 0) [(0,0),(0,(v1.B.toNat))] 11 0),sV 53 (zA.row r3),sV 52 (Vec.row x3),sI 51 v1.Q,sA 50 8 4 3,sI 47 v1.B,sA 46 8 4 2,sR 45 0 3 0 1 false,sA 44 0 3 0,sI 41 v1.B,sA 40 8 4 2,sR 39 0 3 0 1 false,sA 38 0 3 0,sA 7 7 5 0,sA 0 0 3 0],[(8,(Link.row v1)),(7,(Vec.row x3)),(0,(Net.row x0))]⟩ ?_
   refine mC zCK 19 ?_
   refine LAt.storeB tOk (t := 41) (ty := 0) (ad := (.tmp 54)) (x := (.tmp 53)) (g := none) (tI 41) true (zA.row r3) 0 0 (v1.B.toNat) 11 0 11 x0.Bs zA.row v2 r3 kr kr kr kr kr kr kr kr (zM ev2).2 kr kr kr kr ?_
   refine fA ?_
   exact mE zCK [0] [0]
  obtain rfl := si H
  exact Fin.ofY _ [] [] _ [] _ [(0,[cL 11 (x0.Bs.set (v1.B.toNat) r3) zA.row,cL 4 x0.Ls Link.row,cL 7 x0.Said Say.row])] kr rfl rfl rfl kr kr kr kr rfl rfl rfl
 have H := zF h1 H
 refine tB_ ?_
 obtain ⟨v4,ev4,H⟩ := bs H
 obtain ⟨r5,er5,H⟩ := bs H
 refine Tr.draws mixed 20 kr ⟨55,1,[sA 0 0 3 0],[(0,[cL 11 (x0.Bs.set (v1.A.toNat) r5) zA.row,cL 4 x0.Ls Link.row,cL 7 x0.Said Say.row])]⟩ (fun cx => ?_) ?_
 ·refine mA zCJ [(0,[]),(1,[]),(2,[]),(3,[19]),(4,[]),(5,[19]),(6,[]),(7,[]),(8,[]),(9,[17,19]),(10,[]),(11,[17,19])] 8 [⟨[17,19],3,27,28⟩,⟨[17,19],63,25,26⟩,⟨[19],3,21,22⟩,⟨[19],63,19,20⟩] fun cx => ?_
  refine oN zCJ 12 zA.row ev4 fun cx => ?_
  refine mA zCJ [(14,[]),(15,[17,19]),(16,[17,19])] 4 [⟨[17,19],165,7,33⟩,⟨[17,19],3,31,32⟩,⟨[17,19],3,27,28⟩,⟨[17,19],63,25,26⟩,⟨[19],3,21,22⟩,⟨[19],63,19,20⟩] fun cx => ?_
  refine mC zCJ 13 ?_
  refine dE (tI 41) (.box 0) [(0,0),(0,(v1.A.toNat))] 11 0 [.sl true 3 [(Net.row x0)]] (zA.row v4) (zY rfl (zM ev4).2) ?_
  refine fA ?_
  refine mC zCJ 17 ?_
  refine LAt.callO tOk [.rd,.rd,.rd] (f := 240) (av := #[.tmp 30,.tmp 32,.tmp 33]) (ats := #[41,3,165]) (d := (some 34)) (ty := 41) (g := none) [(30,zA.row v4)] none kr kr kr [.box 0] (zFN n v4 v1.P x3 r5 er5) (zAK (row := [.sl true 3 [(Net.row x0)]]) (q := [(0,0),(0,(v1.A.toNat))]) kr (zY rfl (zM ev4).2) zBM) kr zBL (.inr (And.intro (zV (zA.row_mine _) zp) zAL)) ?_
  refine fA ?_
  refine oN zCJ 18 zA.row ev4 fun cx => ?_
  refine sA_ 67083174017 385 ⟨55,1,[(35,.adr (.box 0) [(0,0),(0,(v1.A.toNat))] 11 0),sV 34 (zA.row r5),sV 33 (Vec.row x3),sI 32 v1.P,sA 31 8 4 1,sI 28 v1.A,sA 27 8 4 0,sR 26 0 3 0 1 false,sA 25 0 3 0,sI 22 v1.A,sA 21 8 4 0,sR 20 0 3 0 1 false,sA 19 0 3 0,sA 7 7 5 0,sA 0 0 3 0],[(8,(Link.row v1)),(7,(Vec.row x3)),(0,(Net.row x0))]⟩ ?_
  refine mC zCJ 19 ?_
  refine LAt.storeB tOk (t := 41) (ty := 0) (ad := (.tmp 35)) (x := (.tmp 34)) (g := none) (tI 41) true (zA.row r5) 0 0 (v1.A.toNat) 11 0 11 x0.Bs zA.row v4 r5 kr kr kr kr kr kr kr kr (zM ev4).2 kr kr kr kr ?_
  refine fA ?_
  exact mE zCJ [0] [0]
 refine te ?_
 obtain rfl := si H
 exact Fin.ofY _ [] [] _ [] _ [(0,[cL 11 (x0.Bs.set (v1.A.toNat) r5) zA.row,cL 4 x0.Ls Link.row,cL 7 x0.Said Say.row])] kr rfl rfl rfl kr kr kr kr rfl rfl rfl
def Yk (n : Nat) (x0 : Net) (x1 : Event) : Option (Net) :=
  ((idx x0.Said x1.At).bind fun v1 => (bif (decide ((0 : Int) ≤ 0) && (decide ((0 : Int) ≤ x1.At) && decide ((x1.At : Int) ≤ (x0.Said.length : Int)))) then (bif (decide (([] : List Say).length + ((x0.Said.drop ((0 : Int)).toNat).take (((x1.At : Int)).toNat - ((0 : Int)).toNat)).length ≤ 268435456)) then (bif (decide ((0 : Int) ≤ (IntKind.wrap .i64 (x1.At + 1))) && (decide (((IntKind.wrap .i64 (x1.At + 1)) : Int) ≤ (x0.Said.length : Int)) && decide (((x0.Said.length : Int) : Int) ≤ (x0.Said.length : Int)))) then (bif (decide ((([] : List Say) ++ ((x0.Said.drop ((0 : Int)).toNat).take (((x1.At : Int)).toNat - ((0 : Int)).toNat))).length + ((x0.Said.drop (((IntKind.wrap .i64 (x1.At + 1)) : Int)).toNat).take ((((x0.Said.length : Int) : Int)).toNat - (((IntKind.wrap .i64 (x1.At + 1)) : Int)).toNat)).length ≤ 268435456)) then (bif (x1.Ki == 2) then ((ZF n (⟨x0.Bs,x0.Ls,((([] : List Say) ++ ((x0.Said.drop ((0 : Int)).toNat).take (((x1.At : Int)).toNat - ((0 : Int)).toNat))) ++ ((x0.Said.drop (((IntKind.wrap .i64 (x1.At + 1)) : Int)).toNat).take ((((x0.Said.length : Int) : Int)).toNat - (((IntKind.wrap .i64 (x1.At + 1)) : Int)).toNat)))⟩ : Net) v1.Link).bind fun r6 => (bif r6 then ((Yj n (⟨x0.Bs,x0.Ls,((([] : List Say) ++ ((x0.Said.drop ((0 : Int)).toNat).take (((x1.At : Int)).toNat - ((0 : Int)).toNat))) ++ ((x0.Said.drop (((IntKind.wrap .i64 (x1.At + 1)) : Int)).toNat).take ((((x0.Said.length : Int) : Int)).toNat - (((IntKind.wrap .i64 (x1.At + 1)) : Int)).toNat)))⟩ : Net) v1.Link v1.Back v1.V).bind fun r7 => (some r7)) else (some (⟨x0.Bs,x0.Ls,((([] : List Say) ++ ((x0.Said.drop ((0 : Int)).toNat).take (((x1.At : Int)).toNat - ((0 : Int)).toNat))) ++ ((x0.Said.drop (((IntKind.wrap .i64 (x1.At + 1)) : Int)).toNat).take ((((x0.Said.length : Int) : Int)).toNat - (((IntKind.wrap .i64 (x1.At + 1)) : Int)).toNat)))⟩ : Net)))) else (some (⟨x0.Bs,x0.Ls,((([] : List Say) ++ ((x0.Said.drop ((0 : Int)).toNat).take (((x1.At : Int)).toNat - ((0 : Int)).toNat))) ++ ((x0.Said.drop (((IntKind.wrap .i64 (x1.At + 1)) : Int)).toNat).take ((((x0.Said.length : Int) : Int)).toNat - (((IntKind.wrap .i64 (x1.At + 1)) : Int)).toNat)))⟩ : Net))) else none) else none) else none) else none))
def zMO : Tab := ⟨22,[0,0,0,4,8,16,0,64,160,258,0,1024,2048,4096,0,16384,32768,73728,131584,524287,1048575,1572863],[0,0,0,4,8,16,0,64,160,258,0,1024,2048,4096,0,16384,32768,73728,131584,1,524288,1310720],[0,0,0,4,12,28,0,64,252,510,0,1024,3072,7168,0,16384,49152,130048,262142,524287,1048575,2097151]⟩
noncomputable abbrev zMG (k : Nat) := Rg Tryz.f110 k
noncomputable abbrev zLA (k : Nat) := Rd Tryz.f110 k
theorem zk : za (rg Tryz.f110 2) zMO = true := kr
theorem zHH (n : Nat) (x0 : Net) (x1 : Event) (v1 : Say) (hg2 : (decide ((0 : Int) ≤ 0) && (decide ((0 : Int) ≤ x1.At) && decide ((x1.At : Int) ≤ (x0.Said.length : Int)))) = true) (hg3 : (decide (([] : List Say).length + ((x0.Said.drop ((0 : Int)).toNat).take (((x1.At : Int)).toNat - ((0 : Int)).toNat)).length ≤ 268435456)) = true) (hg4 : (decide ((0 : Int) ≤ (IntKind.wrap .i64 (x1.At + 1))) && (decide (((IntKind.wrap .i64 (x1.At + 1)) : Int) ≤ (x0.Said.length : Int)) && decide (((x0.Said.length : Int) : Int) ≤ (x0.Said.length : Int)))) = true) (hg5 : (decide ((([] : List Say) ++ ((x0.Said.drop ((0 : Int)).toNat).take (((x1.At : Int)).toNat - ((0 : Int)).toNat))).length + ((x0.Said.drop (((IntKind.wrap .i64 (x1.At + 1)) : Int)).toNat).take ((((x0.Said.length : Int) : Int)).toNat - (((IntKind.wrap .i64 (x1.At + 1)) : Int)).toNat)).length ≤ 268435456)) = true) (cx : Cx) : AT Tryz.prog cx (rg Tryz.f110 2) [] 22 [] ⟨53,1,[sA 4 4 7 0,sA 3 3 2 0,sA 0 0 3 0],[(0,[cL 11 x0.Bs zA.row,cL 4 x0.Ls Link.row,cF 7 x0.Said Say.row]),(4,(Say.row v1)),(3,(Event.row x1))]⟩ (fun s => s = ⟨53,1,[sA 4 4 7 0,sA 3 3 2 0,sA 0 0 3 0],[(0,[cL 11 x0.Bs zA.row,cL 4 x0.Ls Link.row,cL 7 ((([] : List Say) ++ ((x0.Said.drop ((0 : Int)).toNat).take (((x1.At : Int)).toNat - ((0 : Int)).toNat))) ++ ((x0.Said.drop (((IntKind.wrap .i64 (x1.At + 1)) : Int)).toNat).take ((((x0.Said.length : Int) : Int)).toNat - (((IntKind.wrap .i64 (x1.At + 1)) : Int)).toNat))) Say.row]),(4,(Say.row v1)),(3,(Event.row x1))]⟩) := by
 refine mA zk [(0,[]),(2,[]),(3,[]),(4,[]),(5,[8,9,18,21]),(6,[]),(7,[8,9,18,21]),(10,[]),(11,[]),(12,[]),(13,[17,18,21]),(14,[]),(15,[17,18,21]),(16,[])] 8 [⟨[17,18,21],3,27,28⟩,⟨[17,18,21],65,25,26⟩,⟨[8,9,18,21],3,19,20⟩,⟨[8,9,18,21],65,17,18⟩] fun cx => ?_
 refine mB3 tOk zk 1 8 17 kr (And.intro kr ?_) (And.intro kr ?_) (And.intro kr ?_)
 ·refine lA 1 ?_
  refine fA ?_
  refine mB2 tOk zk 8 17 kr (And.intro kr ?_) (And.intro kr ?_)
  ·refine LAt.cutG tOk (t := 65) (ty := 65) (e := 180) (x := (.tmp 18)) (lo := none) (hi := (some (.tmp 20))) (d := 21) (g := none) (tI 180) Say.row x0.Said ⟨(.box 0),[(0,0)],2,false,7,(CV.frzEs (x0.Said.map Say.row))⟩ 0 x1.At kr kr kr kr kr kr rfl kr rfl kr kr hg2 ?_
   refine fA ?_
   refine mB2 tOk zk 9 17 kr (And.intro kr ?_) (And.intro kr ?_)
   ·refine pD Say.row hg3 ?_
    refine fA ?_
    refine mC zk 17 ?_
    refine LAt.cutG tOk (t := 65) (ty := 65) (e := 180) (x := (.tmp 26)) (lo := (some (.tmp 29))) (hi := none) (d := 30) (g := none) (tI 180) Say.row x0.Said ⟨(.box 0),[(0,0)],2,false,7,(CV.frzEs (x0.Said.map Say.row))⟩ (IntKind.wrap .i64 (x1.At + 1)) (x0.Said.length : Int) kr kr kr kr kr kr rfl kr rfl kr kr hg4 ?_
    refine fA ?_
    refine mC zk 18 ?_
    refine pD Say.row hg5 ?_
    refine fA ?_
    refine mA zk [(19,[]),(20,[])] 1 [⟨[17,18,21],3,27,28⟩,⟨[17,18,21],65,25,26⟩,⟨[8,9,18,21],3,19,20⟩,⟨[8,9,18,21],65,17,18⟩] fun cx => ?_
    refine mC zk 21 ?_
    refine lA 1 ?_
    refine fA ?_
    exact mE zk [4,3,0] [0,4,3]
   ·refine LAt.cutG tOk (t := 65) (ty := 65) (e := 180) (x := (.tmp 26)) (lo := (some (.tmp 29))) (hi := none) (d := 30) (g := none) (tI 180) Say.row x0.Said ⟨(.box 0),[(0,0)],2,false,7,(CV.frzEs (x0.Said.map Say.row))⟩ (IntKind.wrap .i64 (x1.At + 1)) (x0.Said.length : Int) kr kr kr kr kr kr rfl kr rfl kr kr hg4 ?_
    refine fA ?_
    refine mC zk 9 ?_
    refine pD Say.row hg3 ?_
    refine fA ?_
    refine mC zk 18 ?_
    refine pD Say.row hg5 ?_
    refine fA ?_
    refine mA zk [(19,[]),(20,[])] 1 [⟨[17,18,21],3,27,28⟩,⟨[17,18,21],65,25,26⟩,⟨[8,9,18,21],3,19,20⟩,⟨[8,9,18,21],65,17,18⟩] fun cx => ?_
    refine mC zk 21 ?_
    refine lA 1 ?_
    refine fA ?_
    exact mE zk [4,3,0] [0,4,3]
  ·refine LAt.cutG tOk (t := 65) (ty := 65) (e := 180) (x := (.tmp 26)) (lo := (some (.tmp 29))) (hi := none) (d := 30) (g := none) (tI 180) Say.row x0.Said ⟨(.box 0),[(0,0)],2,false,7,(CV.frzEs (x0.Said.map Say.row))⟩ (IntKind.wrap .i64 (x1.At + 1)) (x0.Said.length : Int) kr kr kr kr kr kr rfl kr rfl kr kr hg4 ?_
   refine fA ?_
   refine mC zk 8 ?_
   refine LAt.cutG tOk (t := 65) (ty := 65) (e := 180) (x := (.tmp 18)) (lo := none) (hi := (some (.tmp 20))) (d := 21) (g := none) (tI 180) Say.row x0.Said ⟨(.box 0),[(0,0)],2,false,7,(CV.frzEs (x0.Said.map Say.row))⟩ 0 x1.At kr kr kr kr kr kr rfl kr rfl kr kr hg2 ?_
   refine fA ?_
   refine mC zk 9 ?_
   refine pD Say.row hg3 ?_
   refine fA ?_
   refine mC zk 18 ?_
   refine pD Say.row hg5 ?_
   refine fA ?_
   refine mA zk [(19,[]),(20,[])] 1 [⟨[17,18,21],3,27,28⟩,⟨[17,18,21],65,25,26⟩,⟨[8,9,18,21],3,19,20⟩,⟨[8,9,18,21],65,17,18⟩] fun cx => ?_
   refine mC zk 21 ?_
   refine lA 1 ?_
   refine fA ?_
   exact mE zk [4,3,0] [0,4,3]
 ·refine LAt.cutG tOk (t := 65) (ty := 65) (e := 180) (x := (.tmp 18)) (lo := none) (hi := (some (.tmp 20))) (d := 21) (g := none) (tI 180) Say.row x0.Said ⟨(.box 0),[(0,0)],2,false,7,(CV.frzEs (x0.Said.map Say.row))⟩ 0 x1.At kr kr kr kr kr kr rfl kr rfl kr kr hg2 ?_
  refine fA ?_
  refine mB2 tOk zk 1 17 kr (And.intro kr ?_) (And.intro kr ?_)
  ·refine lA 1 ?_
   refine fA ?_
   refine mB2 tOk zk 9 17 kr (And.intro kr ?_) (And.intro kr ?_)
   ·refine pD Say.row hg3 ?_
    refine fA ?_
    refine mC zk 17 ?_
    refine LAt.cutG tOk (t := 65) (ty := 65) (e := 180) (x := (.tmp 26)) (lo := (some (.tmp 29))) (hi := none) (d := 30) (g := none) (tI 180) Say.row x0.Said ⟨(.box 0),[(0,0)],2,false,7,(CV.frzEs (x0.Said.map Say.row))⟩ (IntKind.wrap .i64 (x1.At + 1)) (x0.Said.length : Int) kr kr kr kr kr kr rfl kr rfl kr kr hg4 ?_
    refine fA ?_
    refine mC zk 18 ?_
    refine pD Say.row hg5 ?_
    refine fA ?_
    refine mA zk [(19,[]),(20,[])] 1 [⟨[17,18,21],3,27,28⟩,⟨[17,18,21],65,25,26⟩,⟨[8,9,18,21],3,19,20⟩,⟨[8,9,18,21],65,17,18⟩] fun cx => ?_
    refine mC zk 21 ?_
    refine lA 1 ?_
    refine fA ?_
    exact mE zk [4,3,0] [0,4,3]
   ·refine LAt.cutG tOk (t := 65) (ty := 65) (e := 180) (x := (.tmp 26)) (lo := (some (.tmp 29))) (hi := none) (d := 30) (g := none) (tI 180) Say.row x0.Said ⟨(.box 0),[(0,0)],2,false,7,(CV.frzEs (x0.Said.map Say.row))⟩ (IntKind.wrap .i64 (x1.At + 1)) (x0.Said.length : Int) kr kr kr kr kr kr rfl kr rfl kr kr hg4 ?_
    refine fA ?_
    refine mC zk 9 ?_
    refine pD Say.row hg3 ?_
    refine fA ?_
    refine mC zk 18 ?_
    refine pD Say.row hg5 ?_
    refine fA ?_
    refine mA zk [(19,[]),(20,[])] 1 [⟨[17,18,21],3,27,28⟩,⟨[17,18,21],65,25,26⟩,⟨[8,9,18,21],3,19,20⟩,⟨[8,9,18,21],65,17,18⟩] fun cx => ?_
    refine mC zk 21 ?_
    refine lA 1 ?_
    refine fA ?_
    exact mE zk [4,3,0] [0,4,3]
  ·refine LAt.cutG tOk (t := 65) (ty := 65) (e := 180) (x := (.tmp 26)) (lo := (some (.tmp 29))) (hi := none) (d := 30) (g := none) (tI 180) Say.row x0.Said ⟨(.box 0),[(0,0)],2,false,7,(CV.frzEs (x0.Said.map Say.row))⟩ (IntKind.wrap .i64 (x1.At + 1)) (x0.Said.length : Int) kr kr kr kr kr kr rfl kr rfl kr kr hg4 ?_
   refine fA ?_
   refine mC zk 1 ?_
   refine lA 1 ?_
   refine fA ?_
   refine mC zk 9 ?_
   refine pD Say.row hg3 ?_
   refine fA ?_
   refine mC zk 18 ?_
   refine pD Say.row hg5 ?_
   refine fA ?_
   refine mA zk [(19,[]),(20,[])] 1 [⟨[17,18,21],3,27,28⟩,⟨[17,18,21],65,25,26⟩,⟨[8,9,18,21],3,19,20⟩,⟨[8,9,18,21],65,17,18⟩] fun cx => ?_
   refine mC zk 21 ?_
   refine lA 1 ?_
   refine fA ?_
   exact mE zk [4,3,0] [0,4,3]
 ·refine LAt.cutG tOk (t := 65) (ty := 65) (e := 180) (x := (.tmp 26)) (lo := (some (.tmp 29))) (hi := none) (d := 30) (g := none) (tI 180) Say.row x0.Said ⟨(.box 0),[(0,0)],2,false,7,(CV.frzEs (x0.Said.map Say.row))⟩ (IntKind.wrap .i64 (x1.At + 1)) (x0.Said.length : Int) kr kr kr kr kr kr rfl kr rfl kr kr hg4 ?_
  refine fA ?_
  refine mB2 tOk zk 1 8 kr (And.intro kr ?_) (And.intro kr ?_)
  ·refine lA 1 ?_
   refine fA ?_
   refine mC zk 8 ?_
   refine LAt.cutG tOk (t := 65) (ty := 65) (e := 180) (x := (.tmp 18)) (lo := none) (hi := (some (.tmp 20))) (d := 21) (g := none) (tI 180) Say.row x0.Said ⟨(.box 0),[(0,0)],2,false,7,(CV.frzEs (x0.Said.map Say.row))⟩ 0 x1.At kr kr kr kr kr kr rfl kr rfl kr kr hg2 ?_
   refine fA ?_
   refine mC zk 9 ?_
   refine pD Say.row hg3 ?_
   refine fA ?_
   refine mC zk 18 ?_
   refine pD Say.row hg5 ?_
   refine fA ?_
   refine mA zk [(19,[]),(20,[])] 1 [⟨[17,18,21],3,27,28⟩,⟨[17,18,21],65,25,26⟩,⟨[8,9,18,21],3,19,20⟩,⟨[8,9,18,21],65,17,18⟩] fun cx => ?_
   refine mC zk 21 ?_
   refine lA 1 ?_
   refine fA ?_
   exact mE zk [4,3,0] [0,4,3]
  ·refine LAt.cutG tOk (t := 65) (ty := 65) (e := 180) (x := (.tmp 18)) (lo := none) (hi := (some (.tmp 20))) (d := 21) (g := none) (tI 180) Say.row x0.Said ⟨(.box 0),[(0,0)],2,false,7,(CV.frzEs (x0.Said.map Say.row))⟩ 0 x1.At kr kr kr kr kr kr rfl kr rfl kr kr hg2 ?_
   refine fA ?_
   refine mC zk 1 ?_
   refine lA 1 ?_
   refine fA ?_
   refine mC zk 9 ?_
   refine pD Say.row hg3 ?_
   refine fA ?_
   refine mC zk 18 ?_
   refine pD Say.row hg5 ?_
   refine fA ?_
   refine mA zk [(19,[]),(20,[])] 1 [⟨[17,18,21],3,27,28⟩,⟨[17,18,21],65,25,26⟩,⟨[8,9,18,21],3,19,20⟩,⟨[8,9,18,21],65,17,18⟩] fun cx => ?_
   refine mC zk 21 ?_
   refine lA 1 ?_
   refine fA ?_
   exact mE zk [4,3,0] [0,4,3]
theorem zJK (n : Nat) (x0 : Net) (x1 : Event) (r : Net) (H : Yk n x0 x1 = some r) : zI Tryz.prog 110 [.ptr (Net.row x0),.val true (CV.frzRow (Event.row x1))] [] [(0,(Net.row r))] := by
 refine zI.of_body tOk Tryz.func110 rfl (c := (.seq (zMG 0) (.seq (zLA 1) (.seq (zLA 2) (.seq (zLA 3) (.cond (.tmp 44) (zMG 4) .skip)))))) kr (Nat.le_of_ble_eq_true kr) 1 (rs := []) rfl [] .nil [] [] [(0,(Net.row r))] fun cx => ?_
 show Tr _ _ _ ⟨53,1,[sA 0 0 3 0,sV 1 (Event.row x1)],[(0,(Net.row x0))]⟩ _
 unfold Yk at H
 refine gA 1 9 9 ?_
 obtain ⟨v1,ev1,H⟩ := bs H
 refine Tr.draws mixed 10 kr ⟨53,1,[sA 4 4 7 0,sA 3 3 2 0,sA 0 0 3 0],[(4,(Say.row v1)),(3,(Event.row x1)),(0,(Net.row x0))]⟩ (fun cx => ?_) ?_
 ·refine aA [(0,[]),(1,[]),(2,[]),(3,[9]),(4,[]),(5,[9])] 4 [⟨[9],3,9,10⟩,⟨[9],65,7,8⟩] fun cx => ?_
  refine aO tOk 6 65 0 8 10 11 none ⟨(.box 0),[(0,0)],2,true,7,(x0.Said.map Say.row)⟩ x1.At (x1.At.toNat) (Say.row v1) _ kr kr kr kr kr kr rfl kr (zBH ev1) rfl rfl (fun cx => ?_)
  refine AT.big2 tOk 7 8 kr (And.intro kr ?_) (And.intro kr ?_)
  ·refine dE (tI 180) (.box 0) [(0,0),(2,(x1.At.toNat))] 7 0 [.sl true 3 [(Net.row x0)]] (Say.row v1) (zY rfl (zM ev1).2) ?_
   refine fA ?_
   refine bA 8 ?_
   refine lA 1 ?_
   refine fA ?_
   refine sA_ 6041 25 ⟨53,1,[sA 4 4 7 0,sV 12 (Say.row v1),sI 10 x1.At,sA 9 3 2 1,sR 8 0 3 2 1 false,sA 7 0 3 2,sA 3 3 2 0,sA 0 0 3 0],[(4,[cI 0,cB false,cI 0,cI 0,cI 0,cI 0,cI 0]),(3,(Event.row x1)),(0,(Net.row x0))]⟩ ?_
   refine bA 9 ?_
   refine lA 1 ?_
   refine fA ?_
   exact eE [4,3,0] [4,3,0]
  ·refine lA 1 ?_
   refine fA ?_
   refine bA 7 ?_
   refine dE (tI 180) (.box 0) [(0,0),(2,(x1.At.toNat))] 7 0 [.sl true 3 [(Net.row x0)]] (Say.row v1) (zY rfl (zM ev1).2) ?_
   refine fA ?_
   refine sA_ 6041 25 ⟨53,1,[sV 12 (Say.row v1),sA 4 4 7 0,sI 10 x1.At,sA 9 3 2 1,sR 8 0 3 2 1 false,sA 7 0 3 2,sA 3 3 2 0,sA 0 0 3 0],[(4,[cI 0,cB false,cI 0,cI 0,cI 0,cI 0,cI 0]),(3,(Event.row x1)),(0,(Net.row x0))]⟩ ?_
   refine bA 9 ?_
   refine lA 1 ?_
   refine fA ?_
   exact eE [4,3,0] [4,3,0]
 refine Tr.frzP 0 2 1 ?_
 obtain ⟨hg2,H⟩ := gs H
 obtain ⟨hg3,H⟩ := gs H
 obtain ⟨hg4,H⟩ := gs H
 obtain ⟨hg5,H⟩ := gs H
 refine sT ⟨53,1,[sA 4 4 7 0,sA 3 3 2 0,sA 0 0 3 0],[(0,[cL 11 x0.Bs zA.row,cL 4 x0.Ls Link.row,cF 7 x0.Said Say.row]),(4,(Say.row v1)),(3,(Event.row x1))]⟩ ?_
 refine Tr.draws mixed 22 kr ⟨53,1,[sA 4 4 7 0,sA 3 3 2 0,sA 0 0 3 0],[(0,[cL 11 x0.Bs zA.row,cL 4 x0.Ls Link.row,cL 7 ((([] : List Say) ++ ((x0.Said.drop ((0 : Int)).toNat).take (((x1.At : Int)).toNat - ((0 : Int)).toNat))) ++ ((x0.Said.drop (((IntKind.wrap .i64 (x1.At + 1)) : Int)).toNat).take ((((x0.Said.length : Int) : Int)).toNat - (((IntKind.wrap .i64 (x1.At + 1)) : Int)).toNat))) Say.row]),(4,(Say.row v1)),(3,(Event.row x1))]⟩ (zHH n x0 x1 v1 hg2 hg3 hg4 hg5) ?_
 refine tS ?_
 refine sT ⟨53,1,[sA 4 4 7 0,sA 3 3 2 0,sA 0 0 3 0],[(0,[cL 11 x0.Bs zA.row,cL 4 x0.Ls Link.row,cL 7 ((([] : List Say) ++ ((x0.Said.drop ((0 : Int)).toNat).take (((x1.At : Int)).toNat - ((0 : Int)).toNat))) ++ ((x0.Said.drop (((IntKind.wrap .i64 (x1.At + 1)) : Int)).toNat).take ((((x0.Said.length : Int) : Int)).toNat - (((IntKind.wrap .i64 (x1.At + 1)) : Int)).toNat))) Say.row]),(4,(Say.row v1)),(3,(Event.row x1))]⟩ ?_
 cases h1 : (x1.Ki == 2)
 ·have H := zE h1 H
  refine Tr.draw mixed 11 kr ⟨53,1,[sB 44 false,sA 4 4 7 0,sA 0 0 3 0],[(0,[cL 11 x0.Bs zA.row,cL 4 x0.Ls Link.row,cL 7 ((([] : List Say) ++ ((x0.Said.drop ((0 : Int)).toNat).take (((x1.At : Int)).toNat - ((0 : Int)).toNat))) ++ ((x0.Said.drop (((IntKind.wrap .i64 (x1.At + 1)) : Int)).toNat).take ((((x0.Said.length : Int) : Int)).toNat - (((IntKind.wrap .i64 (x1.At + 1)) : Int)).toNat))) Say.row]),(4,(Say.row v1))]⟩ (fun cx => ?_) ?_
  ·refine aA [(0,[]),(1,[]),(2,[]),(3,[])] 7 [⟨[],3,34,35⟩] fun cx => ?_
   refine sA_ 188978561041 25 ⟨53,1,[sB 37 (x1.Ki == 2),sI 35 x1.Ki,sA 34 3 2 0,sA 4 4 7 0,sA 0 0 3 0],[(0,[cL 11 x0.Bs zA.row,cL 4 x0.Ls Link.row,cL 7 ((([] : List Say) ++ ((x0.Said.drop ((0 : Int)).toNat).take (((x1.At : Int)).toNat - ((0 : Int)).toNat))) ++ ((x0.Said.drop (((IntKind.wrap .i64 (x1.At + 1)) : Int)).toNat).take ((((x0.Said.length : Int) : Int)).toNat - (((IntKind.wrap .i64 (x1.At + 1)) : Int)).toNat))) Say.row]),(4,(Say.row v1)),(3,(Event.row x1))]⟩ ?_
   rw [h1]
   refine aA [(4,[]),(5,[]),(6,[]),(7,[]),(8,[]),(9,[]),(10,[])] 0 [⟨[],3,34,35⟩] fun cx => ?_
   exact eE [44,4,0] [0,4]
  refine nB_ ?_
  refine tK ?_
  obtain rfl := si H
  exact Fin.ofY _ [] [] _ [] _ [(0,[cL 11 x0.Bs zA.row,cL 4 x0.Ls Link.row,cL 7 ((([] : List Say) ++ ((x0.Said.drop ((0 : Int)).toNat).take (((x1.At : Int)).toNat - ((0 : Int)).toNat))) ++ ((x0.Said.drop (((IntKind.wrap .i64 (x1.At + 1)) : Int)).toNat).take ((((x0.Said.length : Int) : Int)).toNat - (((IntKind.wrap .i64 (x1.At + 1)) : Int)).toNat))) Say.row])] kr rfl rfl rfl kr kr kr kr rfl rfl rfl
 have H := zF h1 H
 obtain ⟨r6,er6,H⟩ := bs H
 refine Tr.draw mixed 11 kr ⟨53,1,[sB 44 r6,sA 4 4 7 0,sA 0 0 3 0],[(0,[cL 11 x0.Bs zA.row,cL 4 x0.Ls Link.row,cL 7 ((([] : List Say) ++ ((x0.Said.drop ((0 : Int)).toNat).take (((x1.At : Int)).toNat - ((0 : Int)).toNat))) ++ ((x0.Said.drop (((IntKind.wrap .i64 (x1.At + 1)) : Int)).toNat).take ((((x0.Said.length : Int) : Int)).toNat - (((IntKind.wrap .i64 (x1.At + 1)) : Int)).toNat))) Say.row]),(4,(Say.row v1))]⟩ (fun cx => ?_) ?_
 ·refine aA [(0,[]),(1,[9]),(2,[]),(3,[])] 7 [⟨[9],3,34,35⟩] fun cx => ?_
  refine sA_ 188978561041 25 ⟨53,1,[sB 37 (x1.Ki == 2),sI 35 x1.Ki,sA 34 3 2 0,sA 4 4 7 0,sA 0 0 3 0],[(0,[cL 11 x0.Bs zA.row,cL 4 x0.Ls Link.row,cL 7 ((([] : List Say) ++ ((x0.Said.drop ((0 : Int)).toNat).take (((x1.At : Int)).toNat - ((0 : Int)).toNat))) ++ ((x0.Said.drop (((IntKind.wrap .i64 (x1.At + 1)) : Int)).toNat).take ((((x0.Said.length : Int) : Int)).toNat - (((IntKind.wrap .i64 (x1.At + 1)) : Int)).toNat))) Say.row]),(4,(Say.row v1)),(3,(Event.row x1))]⟩ ?_
  rw [h1]
  refine aA [(4,[]),(5,[]),(6,[9]),(7,[]),(8,[9])] 2 [⟨[9],3,41,42⟩,⟨[9],67,39,40⟩,⟨[9],3,34,35⟩] fun cx => ?_
  refine bA 9 ?_
  refine vB [.rd,.rd] [.box 0] (zDx n (⟨x0.Bs,x0.Ls,((([] : List Say) ++ ((x0.Said.drop ((0 : Int)).toNat).take (((x1.At : Int)).toNat - ((0 : Int)).toNat))) ++ ((x0.Said.drop (((IntKind.wrap .i64 (x1.At + 1)) : Int)).toNat).take ((((x0.Said.length : Int) : Int)).toNat - (((IntKind.wrap .i64 (x1.At + 1)) : Int)).toNat)))⟩ : Net) v1.Link r6 er6) (.inr (zV (zG zK zl) zp)) ?_
  refine fA ?_
  refine aA [(10,[])] 0 [⟨[9],3,41,42⟩,⟨[9],67,39,40⟩,⟨[9],3,34,35⟩] fun cx => ?_
  exact eE [44,4,0] [0,4]
 cases h2 : r6
 ·have H := zE h2 H
  refine nB_ ?_
  refine tK ?_
  obtain rfl := si H
  exact Fin.ofY _ [] [] _ [] _ [(0,[cL 11 x0.Bs zA.row,cL 4 x0.Ls Link.row,cL 7 ((([] : List Say) ++ ((x0.Said.drop ((0 : Int)).toNat).take (((x1.At : Int)).toNat - ((0 : Int)).toNat))) ++ ((x0.Said.drop (((IntKind.wrap .i64 (x1.At + 1)) : Int)).toNat).take ((((x0.Said.length : Int) : Int)).toNat - (((IntKind.wrap .i64 (x1.At + 1)) : Int)).toNat))) Say.row])] kr rfl rfl rfl kr kr kr kr rfl rfl rfl
 have H := zF h2 H
 refine tB_ ?_
 refine Tr.at ?_
 refine lA 7 ?_
 obtain ⟨r7,er7,H⟩ := bs H
 refine LAt.callL tOk [.lend,.rd,.rd,.rd] (f := 197) (av := #[.tmp 45,.tmp 47,.tmp 49,.tmp 51]) (ats := #[142,3,4,165]) (d := (some 52)) (ty := 0) (g := none) kr kr kr [] (zJI n (⟨x0.Bs,x0.Ls,((([] : List Say) ++ ((x0.Said.drop ((0 : Int)).toNat).take (((x1.At : Int)).toNat - ((0 : Int)).toNat))) ++ ((x0.Said.drop (((IntKind.wrap .i64 (x1.At + 1)) : Int)).toNat).take ((((x0.Said.length : Int) : Int)).toNat - (((IntKind.wrap .i64 (x1.At + 1)) : Int)).toNat)))⟩ : Net) v1.Link v1.Back v1.V r7 er7) kr (.inl rfl) ?_
 refine dA 1 1 ?_
 obtain rfl := si H
 exact Fin.ofY _ [] [] _ [] _ [(0,(Net.row r7))] kr rfl rfl rfl kr kr kr kr rfl rfl rfl
def Jo (n : Nat) (x0 : Net) (x1 : Int) (x2 : Bool) : Option (Net) :=
  ((ZF n x0 x1).bind fun r1 => (bif (r1 == x2) then (some x0) else ((idx x0.Ls x1).bind fun v2 => ((idx x0.Bs v2.A).bind fun v3 => ((QF n v3 v2.P x2).bind fun r4 => ((idx (x0.Bs.set (v2.A.toNat) r4) v2.B).bind fun v5 => ((QF n v5 v2.Q x2).bind fun r6 => (some (⟨((x0.Bs.set (v2.A.toNat) r4).set (v2.B.toNat) r6),x0.Ls,x0.Said⟩ : Net)))))))))
def zMP : Tab := ⟨20,[0,1,2,4,0,16,0,64,128,256,0,1024,2560,4096,0,16384,0,106496,262143,524287],[0,1,2,4,0,16,0,64,128,256,0,1024,2560,4096,0,16384,0,106496,40,393216],[0,1,3,7,0,16,0,64,192,448,0,1024,4032,8128,0,16384,0,131008,262143,524287]⟩
noncomputable abbrev zMH (k : Nat) := Rg Tryz.f111 k
noncomputable abbrev zMB (k : Nat) := Rd Tryz.f111 k
theorem zCB : za (rg Tryz.f111 2) zMP = true := kr
def zMQ : Tab := ⟨20,[0,1,2,4,0,16,0,64,128,256,0,1024,2560,4096,0,16384,0,106496,262143,524287],[0,1,2,4,0,16,0,64,128,256,0,1024,2560,4096,0,16384,0,106496,40,393216],[0,1,3,7,0,16,0,64,192,448,0,1024,4032,8128,0,16384,0,131008,262143,524287]⟩
theorem zCC : za (rg Tryz.f111 3) zMQ = true := kr
theorem zJJ (n : Nat) (x0 : Net) (x1 : Int) (x2 : Bool) (r : Net) (H : Jo n x0 x1 x2 = some r) : zI Tryz.prog 111 [.ptr (Net.row x0),.val false [.lit (.int .i64 x1)],.val false [.lit (.bool x2)]] [] [(0,(Net.row r))] := by
 refine zI.of_body tOk Tryz.func111 rfl (c := (.seq (.seq (zMH 0) (.cond (.tmp 13) .ret .skip)) (.seq (zMH 1) (.seq (zMB 2) (zMB 3))))) kr (Nat.le_of_ble_eq_true kr) 1 (rs := []) rfl [] .nil [] [] [(0,(Net.row r))] fun cx => ?_
 show Tr _ _ _ ⟨59,1,[sA 0 0 3 0,sI 1 x1,sB 2 x2],[(0,(Net.row x0))]⟩ _
 unfold Jo at H
 refine tS ?_
 refine rA 4 ?_
 obtain ⟨r1,er1,H⟩ := bs H
 refine vB [.rd,.rd] [.box 0] (zDx n x0 x1 r1 er1) (.inr (zV (zG zK zl) zp)) ?_
 refine uA 2 8199 1 ?_
 obtain ⟨h1,H⟩ | ⟨h1,H⟩ := bC H
 ·refine nA h1 ?_
  refine tK ?_
  refine rA 5 ?_
  obtain ⟨v2,ev2,H⟩ := bs H
  refine oA Link.row ev2 ?_
  refine dE (tI 114) (.box 0) [(0,0),(1,(x1.toNat))] 4 0 [.sl true 3 [(Net.row x0)]] (Link.row v2) (zY rfl (zM ev2).2) ?_
  refine uA 2 69 65 ?_
  obtain ⟨v3,ev3,H⟩ := bs H
  obtain ⟨r4,er4,H⟩ := bs H
  refine Tr.draws mixed 20 kr ⟨59,1,[sA 6 6 4 0,sA 0 0 3 0,sB 2 x2],[(0,[cL 11 (x0.Bs.set (v2.A.toNat) r4) zA.row,cL 4 x0.Ls Link.row,cL 7 x0.Said Say.row]),(6,(Link.row v2))]⟩ (fun cx => ?_) ?_
  ·refine mA zCB [(0,[]),(1,[]),(2,[]),(3,[19]),(4,[]),(5,[19]),(6,[]),(7,[]),(8,[]),(9,[17,19]),(10,[]),(11,[17,19])] 8 [⟨[17,19],3,31,32⟩,⟨[17,19],63,29,30⟩,⟨[19],3,25,26⟩,⟨[19],63,23,24⟩] fun cx => ?_
   refine oN zCB 12 zA.row ev3 fun cx => ?_
   refine mA zCB [(14,[]),(15,[17,19]),(16,[])] 4 [⟨[17,19],3,35,36⟩,⟨[17,19],3,31,32⟩,⟨[17,19],63,29,30⟩,⟨[19],3,25,26⟩,⟨[19],63,23,24⟩] fun cx => ?_
   refine mC zCB 13 ?_
   refine dE (tI 41) (.box 0) [(0,0),(0,(v2.A.toNat))] 11 0 [.sl true 3 [(Net.row x0)]] (zA.row v3) (zY rfl (zM ev3).2) ?_
   refine fA ?_
   refine mC zCB 17 ?_
   refine LAt.callO tOk [.rd,.rd,.rd] (f := 158) (av := #[.tmp 34,.tmp 36,.tmp 37]) (ats := #[41,3,4]) (d := (some 38)) (ty := 41) (g := none) [(34,zA.row v3)] none kr kr kr [.box 0] (zDN n v3 v2.P x2 r4 er4) (zAK (row := [.sl true 3 [(Net.row x0)]]) (q := [(0,0),(0,(v2.A.toNat))]) kr (zY rfl (zM ev3).2) zBM) kr zBL (.inr (And.intro (zV (zA.row_mine _) zp) zAL)) ?_
   refine fA ?_
   refine oN zCB 18 zA.row ev3 fun cx => ?_
   refine sA_ 935891828805 65 ⟨59,1,[(39,.adr (.box 0) [(0,0),(0,(v2.A.toNat))] 11 0),sV 38 (zA.row r4),sI 36 v2.P,sA 35 6 4 1,sI 32 v2.A,sA 31 6 4 0,sR 30 0 3 0 1 false,sA 29 0 3 0,sI 26 v2.A,sA 25 6 4 0,sR 24 0 3 0 1 false,sA 23 0 3 0,sA 6 6 4 0,sA 0 0 3 0,sB 2 x2],[(6,(Link.row v2)),(0,(Net.row x0))]⟩ ?_
   refine mC zCB 19 ?_
   refine LAt.storeB tOk (t := 41) (ty := 0) (ad := (.tmp 39)) (x := (.tmp 38)) (g := none) (tI 41) true (zA.row r4) 0 0 (v2.A.toNat) 11 0 11 x0.Bs zA.row v3 r4 kr kr kr kr kr kr kr kr (zM ev3).2 kr kr kr kr ?_
   refine fA ?_
   exact mE zCB [6,0,2] [0,6]
  obtain ⟨v5,ev5,H⟩ := bs H
  obtain ⟨r6,er6,H⟩ := bs H
  refine Tr.draw mixed 20 kr ⟨59,1,[sA 0 0 3 0],[(0,[cL 11 ((x0.Bs.set (v2.A.toNat) r4).set (v2.B.toNat) r6) zA.row,cL 4 x0.Ls Link.row,cL 7 x0.Said Say.row])]⟩ (fun cx => ?_) ?_
  ·refine mA zCC [(0,[]),(1,[]),(2,[]),(3,[19]),(4,[]),(5,[19]),(6,[]),(7,[]),(8,[]),(9,[17,19]),(10,[]),(11,[17,19])] 8 [⟨[17,19],3,50,51⟩,⟨[17,19],63,48,49⟩,⟨[19],3,44,45⟩,⟨[19],63,42,43⟩] fun cx => ?_
   refine oN zCC 12 zA.row ev5 fun cx => ?_
   refine mA zCC [(14,[]),(15,[17,19]),(16,[])] 4 [⟨[17,19],3,54,55⟩,⟨[17,19],3,50,51⟩,⟨[17,19],63,48,49⟩,⟨[19],3,44,45⟩,⟨[19],63,42,43⟩] fun cx => ?_
   refine mC zCC 13 ?_
   refine dE (tI 41) (.box 0) [(0,0),(0,(v2.B.toNat))] 11 0 [.sl true 3 [[cL 11 (x0.Bs.set (v2.A.toNat) r4) zA.row,cL 4 x0.Ls Link.row,cL 7 x0.Said Say.row]]] (zA.row v5) (zY rfl (zM ev5).2) ?_
   refine fA ?_
   refine mC zCC 17 ?_
   refine LAt.callO tOk [.rd,.rd,.rd] (f := 158) (av := #[.tmp 53,.tmp 55,.tmp 56]) (ats := #[41,3,4]) (d := (some 57)) (ty := 41) (g := none) [(53,zA.row v5)] none kr kr kr [.box 0] (zDN n v5 v2.Q x2 r6 er6) (zAK (row := [.sl true 3 [[cL 11 (x0.Bs.set (v2.A.toNat) r4) zA.row,cL 4 x0.Ls Link.row,cL 7 x0.Said Say.row]]]) (q := [(0,0),(0,(v2.B.toNat))]) kr (zY rfl (zM ev5).2) zBM) kr zBL (.inr (And.intro (zV (zA.row_mine _) zp) zAL)) ?_
   refine fA ?_
   refine oN zCC 18 zA.row ev5 fun cx => ?_
   refine sA_ 0x6cf3c0000000001 65 ⟨59,1,[(58,.adr (.box 0) [(0,0),(0,(v2.B.toNat))] 11 0),sV 57 (zA.row r6),sI 55 v2.Q,sA 54 6 4 3,sI 51 v2.B,sA 50 6 4 2,sR 49 0 3 0 1 false,sA 48 0 3 0,sI 45 v2.B,sA 44 6 4 2,sR 43 0 3 0 1 false,sA 42 0 3 0,sA 0 0 3 0],[(0,[cL 11 (x0.Bs.set (v2.A.toNat) r4) zA.row,cL 4 x0.Ls Link.row,cL 7 x0.Said Say.row]),(6,(Link.row v2))]⟩ ?_
   refine mC zCC 19 ?_
   refine LAt.storeB tOk (t := 41) (ty := 0) (ad := (.tmp 58)) (x := (.tmp 57)) (g := none) (tI 41) true (zA.row r6) 0 0 (v2.B.toNat) 11 0 11 (x0.Bs.set (v2.A.toNat) r4) zA.row v5 r6 kr kr kr kr kr kr kr kr (zM ev5).2 kr kr kr kr ?_
   refine fA ?_
   exact mE zCC [0] [0]
  obtain rfl := si H
  exact Fin.ofY _ [] [] _ [] _ [(0,[cL 11 ((x0.Bs.set (v2.A.toNat) r4).set (v2.B.toNat) r6) zA.row,cL 4 x0.Ls Link.row,cL 7 x0.Said Say.row])] kr rfl rfl rfl kr kr kr kr rfl rfl rfl
 refine tA h1 ?_
 refine te ?_
 obtain rfl := si H
 exact Fin.ofY _ [] [] _ [] _ [(0,(Net.row x0))] kr rfl rfl rfl kr kr kr kr rfl rfl rfl
def Qy (n : Nat) (r1 : Net) (x0 : Net) (x1 : Event) (y5 : Bool) : Option (Net × Bool) :=
  (bif y5 then ((zN n x1.At 0 (IntKind.wrap .i64 ((x0.Ls.length : Int) - 1))).bind fun r6 => (bif (!r6) then (some (r1,false)) else ((Jo n r1 x1.At (x1.Ki == 5)).bind fun r7 => (some (r7,true))))) else (some (r1,false)))
def Qx (n : Nat) (r1 : Net) (x0 : Net) (x1 : Event) (y4 : Bool) : Option (Net × Bool) :=
  (bif y4 then ((zN n x1.At 0 (IntKind.wrap .i64 ((x0.Said.length : Int) - 1))).bind fun r8 => (bif (!r8) then (some (r1,false)) else ((Yk n r1 x1).bind fun r9 => (some (r9,true))))) else (bif (x1.Ki == 4) then (Qy n r1 x0 x1 true) else (Qy n r1 x0 x1 (x1.Ki == 5))))
def ZG (n : Nat) (r1 : Net) (x0 : Net) (x1 : Event) (y3 : Bool) : Option (Net × Bool) :=
  (bif y3 then ((zN n x1.At 0 (IntKind.wrap .i64 ((x0.Bs.length : Int) - 1))).bind fun r10 => (bif (!r10) then (some (r1,false)) else (bif (x1.Ki == 6) then ((idx x0.Bs x1.At).bind fun v12 => ((zAd n v12).bind fun r13 => ((idx r1.Bs x1.At).bind fun v14 => (some ((⟨(r1.Bs.set (x1.At.toNat) r13),r1.Ls,r1.Said⟩ : Net),true))))) else ((Yy n r1 x1.At).bind fun r11 => (some (r11,true)))))) else (bif (x1.Ki == 2) then (Qx n r1 x0 x1 true) else (Qx n r1 x0 x1 (x1.Ki == 3))))
def YH (n : Nat) (x0 : Net) (x1 : Event) : Option (Net × Bool) :=
  ((Jm n x0).bind fun r1 => ((Zi n x0).bind fun r2 => (bif (!r2) then (some (r1,false)) else (bif (x1.Ki == 1) then (ZG n r1 x0 x1 true) else (ZG n r1 x0 x1 (x1.Ki == 6))))))
def zMq : Tab := ⟨13,[0,1,0,4,0,16,0,64,160,256,512,2047,4095],[0,1,0,4,0,16,0,64,160,256,512,10,3072],[0,1,0,4,0,16,0,64,240,496,1008,2047,4095]⟩
theorem zC9 : za (rg Tryz.f24 10) zMq = true := kr
theorem zDl (n : Nat) (x0 : Net) (x1 : Event) (r : Net × Bool) (H : YH n x0 x1 = some r) : zI Tryz.prog 24 [.val true (CV.frzRow (Net.row x0)),.val true (CV.frzRow (Event.row x1))] [.val true (Net.row r.1),.val false [.lit (.bool r.2)]] [] := by
 refine cW Tryz.func24 (fun g d => sl [g 0,g 1,sl [g 2] (cn 11 (sl [g 3] .ret) .skip),sl [g 4] (.block 0 (sl [sl [g 5] (cn 15 .skip (g 6))] (cn 15 (sl [sl [g 7] (cn 25 (sl [g 8] .ret) .skip),sl [g 9] (cn 29 (d 10) (g 11)),g 12] .ret) (sl [sl [g 13] (cn 46 .skip (g 14))] (cn 46 (sl [sl [g 15] (cn 56 (sl [g 16] .ret) .skip),g 17,g 18] .ret) (sl [sl [g 19] (cn 61 .skip (g 20))] (cn 61 (sl [sl [g 21] (cn 71 (sl [g 22] .ret) .skip),g 23,g 24] .ret) .skip))))))),g 25] .ret) [.cell 4 67,.tmp 5] fun cx => ?_
 unfold YH at H
 refine gA 4 28 28 ?_
 refine rA 1 ?_
 obtain ⟨r1,er1,H⟩ := bs H
 refine vA [.rd] (zJG n x0 r1 er1) ?_
 refine uA 2 92 92 ?_
 refine tS ?_
 refine rA 1 ?_
 obtain ⟨r2,er2,H⟩ := bs H
 refine vA [.rd] (zHA n x0 r2 er2) ?_
 refine uA 1 2140 92 ?_
 obtain ⟨h1,H⟩ | ⟨h1,H⟩ := bC H
 ·refine nA h1 ?_
  refine tK ?_
  refine tS ?_
  refine gA 2 16476 92 ?_
  refine tB ?_
  refine tS ?_
  refine Tr.mid (ι := Bool) (fun v => ⟨81,0,[sB 15 v,sI 14 x1.Ki,sA 6 6 3 0,sA 4 4 3 0,sA 3 3 2 0,sA 2 2 3 0],[(6,(Net.row r1)),(4,[cL 11 ([] : List zA) zA.row,cL 4 ([] : List Link) Link.row,cL 7 ([] : List Say) Say.row]),(3,(Event.row x1)),(2,(CV.frzRow (Net.row x0)))]⟩) (fun v => ZG n r1 x0 x1 v = some r) ?_ ?_
  ·refine gA 2 49244 92 ?_
   refine sT ⟨81,0,[sB 15 (x1.Ki == 1),sI 14 x1.Ki,sA 6 6 3 0,sA 4 4 3 0,sA 3 3 2 0,sA 2 2 3 0],[(6,(Net.row r1)),(4,[cL 11 ([] : List zA) zA.row,cL 4 ([] : List Link) Link.row,cL 7 ([] : List Say) Say.row]),(3,(Event.row x1)),(2,(CV.frzRow (Net.row x0)))]⟩ ?_
   cases h11 : (x1.Ki == 1)
   ·have H := zE h11 H
    refine nB_ ?_
    refine eA 2 49244 92 ?_
    exact jA (x1.Ki == 6) H [15,14,6,4,3,2] [6,4,3,2]
   have H := zF h11 H
   refine tB_ ?_
   refine tK ?_
   exact jA true H [15,14,6,4,3,2] [6,4,3,2]
  rintro y3 H
  have H : (ZG n r1 x0 x1 y3) = some r := H
  unfold ZG at H
  cases h2 : y3
  ·have H := zE h2 H
   refine nB_ ?_
   refine tS ?_
   refine Tr.mid (ι := Bool) (fun v => ⟨81,0,[sB 46 v,sI 14 x1.Ki,sA 6 6 3 0,sA 4 4 3 0,sA 3 3 2 0,sA 2 2 3 0],[(6,(Net.row r1)),(4,[cL 11 ([] : List zA) zA.row,cL 4 ([] : List Link) Link.row,cL 7 ([] : List Say) Say.row]),(3,(Event.row x1)),(2,(CV.frzRow (Net.row x0)))]⟩) (fun v => Qx n r1 x0 x1 v = some r) ?_ ?_
   ·refine gA 2 70368744194140 92 ?_
    refine sT ⟨81,0,[sB 46 (x1.Ki == 2),sI 14 x1.Ki,sA 6 6 3 0,sA 4 4 3 0,sA 3 3 2 0,sA 2 2 3 0],[(6,(Net.row r1)),(4,[cL 11 ([] : List zA) zA.row,cL 4 ([] : List Link) Link.row,cL 7 ([] : List Say) Say.row]),(3,(Event.row x1)),(2,(CV.frzRow (Net.row x0)))]⟩ ?_
    cases h8 : (x1.Ki == 2)
    ·have H := zE h8 H
     refine nB_ ?_
     refine eA 2 70368744194140 92 ?_
     exact jA (x1.Ki == 3) H [46,14,6,4,3,2] [6,4,3,2]
    have H := zF h8 H
    refine tB_ ?_
    refine tK ?_
    exact jA true H [46,14,6,4,3,2] [6,4,3,2]
   rintro y4 H
   have H : (Qx n r1 x0 x1 y4) = some r := H
   unfold Qx at H
   cases h3 : y4
   ·have H := zE h3 H
    refine nB_ ?_
    refine tS ?_
    refine Tr.mid (ι := Bool) (fun v => ⟨81,0,[sB 61 v,sA 6 6 3 0,sA 4 4 3 0,sA 3 3 2 0,sA 2 2 3 0],[(6,(Net.row r1)),(4,[cL 11 ([] : List zA) zA.row,cL 4 ([] : List Link) Link.row,cL 7 ([] : List Say) Say.row]),(3,(Event.row x1)),(2,(CV.frzRow (Net.row x0)))]⟩) (fun v => Qy n r1 x0 x1 v = some r) ?_ ?_
    ·refine gA 2 0x200000000000405c 92 ?_
     refine sT ⟨81,0,[sB 61 (x1.Ki == 4),sI 14 x1.Ki,sA 6 6 3 0,sA 4 4 3 0,sA 3 3 2 0,sA 2 2 3 0],[(6,(Net.row r1)),(4,[cL 11 ([] : List zA) zA.row,cL 4 ([] : List Link) Link.row,cL 7 ([] : List Say) Say.row]),(3,(Event.row x1)),(2,(CV.frzRow (Net.row x0)))]⟩ ?_
     cases h6 : (x1.Ki == 4)
     ·have H := zE h6 H
      refine nB_ ?_
      refine eA 2 0x200000000000005c 92 ?_
      exact jA (x1.Ki == 5) H [61,6,4,3,2] [6,4,3,2]
     have H := zF h6 H
     refine tB_ ?_
     refine tK ?_
     exact jA true H [61,6,4,3,2] [6,4,3,2]
    rintro y5 H
    have H : (Qy n r1 x0 x1 y5) = some r := H
    unfold Qy at H
    cases h4 : y5
    ·have H := zE h4 H
     refine nB_ ?_
     refine tK ?_
     refine gA 3 48 16 ?_
     exact te (fJ [(true,(Net.row r1)),(false,[cB false])] H)
    have H := zF h4 H
    refine tB_ ?_
    refine tS ?_
    refine rA 4 ?_
    refine kF x0.Ls Link.row ?_
    refine lA 1 ?_
    obtain ⟨r6,er6,H⟩ := bs H
    refine vA [.rd,.rd,.rd] (zO n x1.At 0 (IntKind.wrap .i64 ((x0.Ls.length : Int) - 1)) r6 er6) ?_
    refine uA 1 0x800000000000000058 88 ?_
    obtain ⟨h5,H⟩ | ⟨h5,H⟩ := bC H
    ·refine nA h5 ?_
     refine tK ?_
     refine rA 5 ?_
     obtain ⟨r7,er7,H⟩ := bs H
     refine LAt.callL tOk [.lend,.rd,.rd] (f := 111) (av := #[.tmp 6,.tmp 74,.tmp 77]) (ats := #[142,3,4]) (d := (some 78)) (ty := 0) (g := none) kr kr kr [] (zJJ n r1 x1.At (x1.Ki == 5) r7 er7) kr (.inl rfl) ?_
     refine dA 80 80 ?_
     refine gA 3 48 16 ?_
     exact te (fJ [(true,(Net.row r7)),(false,[cB true])] H)
    refine tA h5 ?_
    refine gA 3 48 16 ?_
    exact te (fJ [(true,(Net.row r1)),(false,[cB false])] H)
   have H := zF h3 H
   refine tB_ ?_
   refine tS ?_
   refine rA 4 ?_
   refine kF x0.Said Say.row ?_
   refine lA 1 ?_
   obtain ⟨r8,er8,H⟩ := bs H
   refine vA [.rd,.rd,.rd] (zO n x1.At 0 (IntKind.wrap .i64 ((x0.Said.length : Int) - 1)) r8 er8) ?_
   refine uA 1 72057594037928024 88 ?_
   obtain ⟨h7,H⟩ | ⟨h7,H⟩ := bC H
   ·refine nA h7 ?_
    refine tK ?_
    refine rA 1 ?_
    obtain ⟨r9,er9,H⟩ := bs H
    refine LAt.callL tOk [.lend,.rd] (f := 110) (av := #[.tmp 6,.tmp 58]) (ats := #[142,71]) (d := (some 59)) (ty := 0) (g := none) kr kr kr [] (zJK n r1 x1 r9 er9) kr (.inl rfl) ?_
    refine dA 80 80 ?_
    refine gA 3 48 16 ?_
    exact te (fJ [(true,(Net.row r9)),(false,[cB true])] H)
   refine tA h7 ?_
   refine gA 3 48 16 ?_
   exact te (fJ [(true,(Net.row r1)),(false,[cB false])] H)
  have H := zF h2 H
  refine tB_ ?_
  refine tS ?_
  refine rA 4 ?_
  refine kF x0.Bs zA.row ?_
  refine lA 1 ?_
  obtain ⟨r10,er10,H⟩ := bs H
  refine vA [.rd,.rd,.rd] (zO n x1.At 0 (IntKind.wrap .i64 ((x0.Bs.length : Int) - 1)) r10 er10) ?_
  refine uA 1 33554524 92 ?_
  obtain ⟨h9,H⟩ | ⟨h9,H⟩ := bC H
  ·refine nA h9 ?_
   refine tK ?_
   refine tS ?_
   refine gA 3 536871004 92 ?_
   obtain ⟨h10,H⟩ | ⟨h10,H⟩ := bC H
   ·refine nA h10 ?_
    refine Tr.at ?_
    refine lA 2 ?_
    obtain ⟨r11,er11,H⟩ := bs H
    refine LAt.callL tOk [.lend,.rd] (f := 109) (av := #[.tmp 6,.tmp 43]) (ats := #[142,3]) (d := (some 44)) (ty := 0) (g := none) kr kr kr [] (zHr n r1 x1.At r11 er11) kr (.inl rfl) ?_
    refine dA 80 80 ?_
    refine gA 3 48 16 ?_
    exact te (fJ [(true,(Net.row r11)),(false,[cB true])] H)
   refine tA h10 ?_
   obtain ⟨v12,ev12,H⟩ := bs H
   obtain ⟨r13,er13,H⟩ := bs H
   obtain ⟨v14,ev14,H⟩ := bs H
   refine Tr.draw mixed 13 kr ⟨81,0,[sA 6 6 3 0,sA 4 4 3 0],[(6,[cL 11 (r1.Bs.set (x1.At.toNat) r13) zA.row,cL 4 r1.Ls Link.row,cL 7 r1.Said Say.row]),(4,[cL 11 ([] : List zA) zA.row,cL 4 ([] : List Link) Link.row,cL 7 ([] : List Say) Say.row])]⟩ (fun cx => ?_) ?_
   ·refine mA zC9 [(0,[]),(1,[12]),(2,[]),(3,[12]),(4,[]),(5,[10,12]),(6,[]),(7,[10,12])] 5 [⟨[10,12],3,36,37⟩,⟨[10,12],63,34,35⟩,⟨[12],3,32,33⟩,⟨[12],63,30,31⟩] fun cx => ?_
    refine iN zC9 8 zA.row ev12 fun cx => ?_
    refine mA zC9 [(9,[])] 3 [⟨[10,12],3,36,37⟩,⟨[10,12],63,34,35⟩,⟨[12],3,32,33⟩,⟨[12],63,30,31⟩] fun cx => ?_
    refine mC zC9 10 ?_
    refine vA [.rd] (zK6 n v12 r13 er13) ?_
    refine fA ?_
    refine oN zC9 11 zA.row ev14 fun cx => ?_
    refine mC zC9 12 ?_
    refine LAt.storeB tOk (t := 41) (ty := 0) (ad := (.tmp 41)) (x := (.tmp 40)) (g := none) (tI 41) true (zA.row r13) 6 0 (x1.At.toNat) 11 0 11 r1.Bs zA.row v14 r13 kr kr kr kr kr kr kr kr (zM ev14).2 kr kr kr kr ?_
    refine fA ?_
    exact mE zC9 [6,4] [6,4]
   refine gA 3 48 16 ?_
   exact te (fJ [(true,[cL 11 (r1.Bs.set (x1.At.toNat) r13) zA.row,cL 4 r1.Ls Link.row,cL 7 r1.Said Say.row]),(false,[cB true])] H)
  refine tA h9 ?_
  refine gA 3 48 16 ?_
  exact te (fJ [(true,(Net.row r1)),(false,[cB false])] H)
 refine tA h1 ?_
 refine gA 3 48 16 ?_
 exact te (fJ [(true,(Net.row r1)),(false,[cB false])] H)
def J6 (n : Nat) (y23 : (List Int)) (y24 : Int) (y25 : Int) (y26 : (List zA)) (y27 : (List Link)) (y28 : (List Say)) : Option (Net × Src) :=
  (some ((⟨y26,y27,y28⟩ : Net),(⟨y23,y24,y25⟩ : Src)))
def Z6 (n : Nat) : Nat → Int → (List Int) → Int → Int → (List zA) → (List Link) → (List Say) → Option (((List Int) × Int × Int × (List zA) × (List Link) × (List Say)) ⊕ (Net × Src))
  | 0,_,_,_,_,_,_,_ => none
  | mo29 + 1,y16,y17,y18,y19,y20,y21,y22 => (bif (decide (y16 > 0)) then ((YN n (⟨y17,y18,y19⟩ : Src) (⟨y20,y21,y22⟩ : Net)).bind fun r30 => ((YH n (⟨y20,y21,y22⟩ : Net) r30.1).bind fun r31 => (Z6 n mo29 (IntKind.wrap .i64 (y16 - 1)) r30.2.b r30.2.i r30.2.h r31.1.Bs r31.1.Ls r31.1.Said))) else (some (Sum.inl (y17,y18,y19,y20,y21,y22))))
def Yv (n : Nat) (r5 : Net) (x1 : Int) (y11 : (List zA)) (y12 : (List Int)) (y13 : Int) (y14 : Int) : Option (Net × Src) :=
  ((zm n (⟨y12,y13,y14⟩ : Src) (IntKind.wrap .i64 (x1 + 1))).bind fun r15 => ((Z6 n n r15.1 r15.2.b r15.2.i r15.2.h y11 r5.Ls r5.Said).bind fun o => match o with | .inl (y23,y24,y25,y26,y27,y28) => (J6 n y23 y24 y25 y26 y27 y28) | .inr r => some r))
def Yw (n : Nat) (k : (Int × (List zA) × (List Int) × Int × Int → Option (((List zA) × (List Int) × Int × Int) ⊕ (Net × Src)))) (y6 : Int) (y38 : (List zA)) (y39 : (List Int)) (y40 : Int) (y41 : Int) : Option (((List zA) × (List Int) × Int × Int) ⊕ (Net × Src)) :=
  (k ((IntKind.wrap .i64 (y6 + 1)),y38,y39,y40,y41))
def Z7 (n : Nat) : Nat → Int → Int → (List zA) → (List Int) → Int → Int → Option (((List zA) × (List Int) × Int × Int) ⊕ (Net × Src))
  | 0,_,_,_,_,_,_ => none
  | mo42 + 1,y6,y33,y34,y35,y36,y37 => ((idx y34 y6).bind fun v43 => (bif (decide (y33 < (v43.Ps.length : Int))) then ((Zo n (⟨y35,y36,y37⟩ : Src) [1,1,2,5,20]).bind fun r44 => ((idx v43.Ps y33).bind fun v45 => (Z7 n mo42 y6 (IntKind.wrap .i64 (y33 + 1)) (y34.set (y6.toNat) (⟨v43.Id,v43.Name,(v43.Ps.set (y33.toNat) (⟨v45.Up,r44.1,v45.Has,v45.Hd⟩ : Pt)),v43.F,v43.V,v43.Tk,v43.Pa,v43.Wo,v43.Dr,v43.Ve⟩ : zA)) r44.2.b r44.2.i r44.2.h))) else (some (Sum.inl (y34,y35,y36,y37)))))
def q5 (n : Nat) : Nat → Int → (List zA) → (List Int) → Int → Int → Option (((List zA) × (List Int) × Int × Int) ⊕ (Net × Src))
  | 0,_,_,_,_,_ => none
  | mo32 + 1,y6,y7,y8,y9,y10 => (bif (decide (y6 < (y7.length : Int))) then ((Z7 n n y6 0 y7 y8 y9 y10).bind fun o => match o with | .inl (y38,y39,y40,y41) => (Yw n (fun v => q5 n mo32 v.1 v.2.1 v.2.2.1 v.2.2.2.1 v.2.2.2.2) y6 y38 y39 y40 y41) | .inr r => some (Sum.inr r)) else (some (Sum.inl (y7,y8,y9,y10))))
def Jn (n : Nat) (x0 : Src) (x1 : Int) : Option (Net × Src) :=
  ((zm n x0 6).bind fun r1 => ((zm n r1.2 4).bind fun r2 => ((zAO n r2.2 (IntKind.wrap .i64 (1 + r1.1))).bind fun r3 => ((JK n r3.2 (IntKind.wrap .i64 (1 + r1.1)) (IntKind.wrap .i64 (2 + r2.1))).bind fun r4 => ((zAM n r3.1 (IntKind.wrap .i64 (2 + r2.1)) r4.1).bind fun r5 => ((q5 n n 0 r5.Bs r4.2.b r4.2.i r4.2.h).bind fun o => match o with | .inl (y11,y12,y13,y14) => (Yv n r5 x1 y11 y12 y13 y14) | .inr r => some r))))))
def zLp : Tab := ⟨13,[0,1,0,6,8,16,0,0,0,384,1023,2047,3071],[0,1,0,6,8,16,0,0,0,384,96,1024,2560],[0,1,0,7,15,31,0,0,0,384,1023,2047,4095]⟩
noncomputable abbrev zBO (k : Nat) := Rg Tryz.f145 k
noncomputable abbrev zME (k : Nat) := Rd Tryz.f145 k
theorem ZH : za (rg Tryz.f145 10) zLp = true := kr
theorem zJH (n : Nat) (x0 : Src) (x1 : Int) (r : Net × Src) (H : Jn n x0 x1 = some r) : zI Tryz.prog 145 [.ptr (CV.frzRow (Src.row x0)),.val false [.lit (.int .i64 x1)]] [.val true (Net.row r.1)] [(0,(CV.frzRow (Src.row r.2)))] := by
 refine zI.of_body tOk Tryz.func145 rfl (c := (.seq (zBO 0) (.seq (zBO 1) (.seq (zBO 2) (.seq (zBO 3) (.seq (.seq (zBO 4) (.block 0 (.loop (.seq (.seq (zBO 5) (.cond (.tmp 30) .skip (.exit 0))) (.seq (.block 1 (.seq (zBO 7) (.block 2 (.loop (.seq (.seq (zBO 8) (.cond (.tmp 41) .skip (.exit 2))) (.seq (.block 3 (zME 10)) (zBO 9))))))) (zBO 6)))))) (.seq (.seq (zBO 11) (.block 4 (.loop (.seq (.seq (zBO 12) (.cond (.tmp 61) .skip (.exit 4))) (.seq (.block 5 (zME 14)) (zBO 13)))))) (.seq (zBO 15) .ret)))))))) kr (Nat.le_of_ble_eq_true kr) 1 (rs := [.cell 4 67]) rfl [] .nil [(true,(Net.row r.1))] [] [(0,(CV.frzRow (Src.row r.2)))] fun cx => ?_
 show Tr _ _ _ ⟨73,1,[sA 0 0 3 0,sI 1 x1],[(0,(CV.frzRow (Src.row x0)))]⟩ _
 unfold Jn at H
 refine gA 1 19 17 ?_
 refine rA 1 ?_
 obtain ⟨r1,er1,H⟩ := bs H
 refine LAt.callL tOk [.lend,.rd] (f := 133) (av := #[.tmp 11,.const (.int .i64 6)]) (ats := #[157,3]) (d := (some 12)) (ty := 3) (g := none) kr kr kr [] (qh n x0 6 r1 er1) kr (.inl rfl) ?_
 refine uA 2 51 17 ?_
 refine rA 1 ?_
 obtain ⟨r2,er2,H⟩ := bs H
 refine LAt.callL tOk [.lend,.rd] (f := 133) (av := #[.tmp 14,.const (.int .i64 4)]) (ats := #[157,3]) (d := (some 15)) (ty := 3) (g := none) kr kr kr [] (qh n r1.2 4 r2 er2) kr (.inl rfl) ?_
 refine uA 2 115 17 ?_
 refine rA 2 ?_
 obtain ⟨r3,er3,H⟩ := bs H
 refine LAt.callL tOk [.lend,.rd] (f := 151) (av := #[.tmp 17,.tmp 18]) (ats := #[157,3]) (d := (some 19)) (ty := 25) (g := none) kr kr kr [] (zJg n r2.2 (IntKind.wrap .i64 (1 + r1.1)) r3 er3) kr (.inl rfl) ?_
 refine lA 4 ?_
 obtain ⟨r4,er4,H⟩ := bs H
 refine LAt.callL tOk [.lend,.rd,.rd] (f := 152) (av := #[.tmp 21,.tmp 22,.tmp 23]) (ats := #[157,3,3]) (d := (some 24)) (ty := 64) (g := none) kr kr kr [] (zIS n r3.2 (IntKind.wrap .i64 (1 + r1.1)) (IntKind.wrap .i64 (2 + r2.1)) r4 er4) kr (.inl rfl) ?_
 obtain ⟨r5,er5,H⟩ := bs H
 refine vA [.rd,.rd,.rd] (zJd n r3.1 (IntKind.wrap .i64 (2 + r2.1)) r4.1 r5 er5) ?_
 refine uA 2 147 145 ?_
 refine tS ?_
 refine gA 1 403 145 ?_
 obtain ⟨o32,eo32,Ho32⟩ := bs H
 clear H
 refine Tr.mid (ι := (List zA) × (List Int) × Int × Int) (fun v => ⟨73,1,[sA 7 7 3 0,sA 4 4 3 0,sA 0 0 3 0,sI 1 x1],[(7,[cL 11 v.1 zA.row,cL 4 r5.Ls Link.row,cL 7 r5.Said Say.row]),(0,[cF 1 v.2.1 zu,cI v.2.2.1,cI v.2.2.2]),(4,[cL 11 ([] : List zA) zA.row,cL 4 ([] : List Link) Link.row,cL 7 ([] : List Say) Say.row])]⟩) (fun v => Yv n r5 x1 v.1 v.2.1 v.2.2.1 v.2.2.2 = some r) ?_ ?_
 ·refine tB ?_
  refine Tr.loop (ι := Nat × (Int × (List zA) × (List Int) × Int × Int)) (fun v => ⟨73,1,[sI 8 v.2.1,sA 7 7 3 0,sA 4 4 3 0,sA 0 0 3 0,sI 1 x1],[(7,[cL 11 v.2.2.1 zA.row,cL 4 r5.Ls Link.row,cL 7 r5.Said Say.row]),(0,[cF 1 v.2.2.2.1 zu,cI v.2.2.2.2.1,cI v.2.2.2.2.2]),(4,[cL 11 ([] : List zA) zA.row,cL 4 ([] : List Link) Link.row,cL 7 ([] : List Say) Say.row])]⟩) (fun v => q5 n v.1 v.2.1 v.2.2.1 v.2.2.2.1 v.2.2.2.2.1 v.2.2.2.2.2 = some o32) (fun v => v.1) (n,(0,r5.Bs,r4.2.b,r4.2.i,r4.2.h)) eo32 (St.sub_of [8,7,4,0,1] [7,0,4] kr) ?_
  rintro ⟨mo32,y6,y7,y8,y9,y10⟩ H
  have H : q5 n mo32 y6 y7 y8 y9 y10 = some o32 := H
  obtain _ | mo32 := mo32
  ·exact nN H
  rw [q5] at H
  refine tS ?_
  refine rA 3 ?_
  refine kO y7 zA.row ?_
  refine uA 1 1073742227 145 ?_
  obtain ⟨h2,H⟩ | ⟨h2,H⟩ := bC H
  ·refine nA h2 ?_
   refine Tr.exit ?_
   refine aJ ?_
   obtain rfl := si H
   have H := Ho32
   dsimp only at H
   exact jA (y7,y8,y9,y10) H [7,4,0,1] [7,0,4]
  refine tA h2 ?_
  refine tK ?_
  refine tS ?_
  refine tB ?_
  refine gA 1 915 145 ?_
  obtain ⟨o42,eo42,Ho42⟩ := bs H
  clear H
  refine Tr.mid (ι := (List zA) × (List Int) × Int × Int) (fun v => ⟨73,1,[sI 8 y6,sA 7 7 3 0,sA 4 4 3 0,sA 0 0 3 0,sI 1 x1],[(7,[cL 11 v.1 zA.row,cL 4 r5.Ls Link.row,cL 7 r5.Said Say.row]),(0,[cF 1 v.2.1 zu,cI v.2.2.1,cI v.2.2.2]),(4,[cL 11 ([] : List zA) zA.row,cL 4 ([] : List Link) Link.row,cL 7 ([] : List Say) Say.row])]⟩) (fun v => Yw n (fun v => q5 n mo32 v.1 v.2.1 v.2.2.1 v.2.2.2.1 v.2.2.2.2) y6 v.1 v.2.1 v.2.2.1 v.2.2.2 = some o32) ?_ ?_
  ·refine tB ?_
   refine Tr.loop (ι := Nat × (Int × (List zA) × (List Int) × Int × Int)) (fun v => ⟨73,1,[sI 9 v.2.1,sI 8 y6,sA 7 7 3 0,sA 4 4 3 0,sA 0 0 3 0,sI 1 x1],[(7,[cL 11 v.2.2.1 zA.row,cL 4 r5.Ls Link.row,cL 7 r5.Said Say.row]),(0,[cF 1 v.2.2.2.1 zu,cI v.2.2.2.2.1,cI v.2.2.2.2.2]),(4,[cL 11 ([] : List zA) zA.row,cL 4 ([] : List Link) Link.row,cL 7 ([] : List Say) Say.row])]⟩) (fun v => Z7 n v.1 y6 v.2.1 v.2.2.1 v.2.2.2.1 v.2.2.2.2.1 v.2.2.2.2.2 = some o42) (fun v => v.1) (n,(0,y7,y8,y9,y10)) eo42 (St.sub_of [9,8,7,4,0,1] [7,0,4] kr) ?_
   rintro ⟨mo42,y33,y34,y35,y36,y37⟩ H
   have H : Z7 n mo42 y6 y33 y34 y35 y36 y37 = some o42 := H
   obtain _ | mo42 := mo42
   ·exact nN H
   rw [Z7] at H
   refine tS ?_
   refine rA 4 ?_
   obtain ⟨v43,ev43,H⟩ := bs H
   refine oA zA.row ev43 ?_
   refine lA 1 ?_
   refine dE (tI 35) (.box 7) [(0,0),(0,(y6.toNat))] 11 2 [.sl true 3 [[cL 11 y34 zA.row,cL 4 r5.Ls Link.row,cL 7 r5.Said Say.row]]] (zA.row v43) (zY rfl (zM ev43).2) ?_
   refine lL tOk 35 3 167 39 40 none ⟨(.box 7),[(0,0),(0,(y6.toNat))],2,true,8,(v43.Ps.map Pt.row)⟩ (v43.Ps).length _ kr kr kr kr (zG8 (row := [.sl true 3 [[cL 11 y34 zA.row,cL 4 r5.Ls Link.row,cL 7 r5.Said Say.row]]]) (e := zA.row v43) kr kr (zY rfl (zM ev43).2) rfl rfl) (zJw _ _) rfl ?_
   refine uA 1 2199023256467 145 ?_
   obtain ⟨h3,H⟩ | ⟨h3,H⟩ := bC H
   ·refine nA h3 ?_
    refine Tr.exit ?_
    refine aJ ?_
    obtain rfl := si H
    have H := Ho42
    dsimp only at H
    exact jA (y34,y35,y36,y37) H [8,7,4,0,1] [7,0,4]
   refine tA h3 ?_
   refine tK ?_
   refine tS ?_
   refine tB ?_
   obtain ⟨r44,er44,H⟩ := bs H
   obtain ⟨v45,ev45,H⟩ := bs H
   refine Tr.draw mixed 13 kr ⟨73,1,[sI 9 y33,sI 8 y6,sA 7 7 3 0,sA 4 4 3 0,sA 0 0 3 0,sI 1 x1],[(7,[cL 11 (y34.set (y6.toNat) (⟨v43.Id,v43.Name,(v43.Ps.set (y33.toNat) (⟨v45.Up,r44.1,v45.Has,v45.Hd⟩ : Pt)),v43.F,v43.V,v43.Tk,v43.Pa,v43.Wo,v43.Dr,v43.Ve⟩ : zA)) zA.row,cL 4 r5.Ls Link.row,cL 7 r5.Said Say.row]),(0,(CV.frzRow (Src.row r44.2))),(4,[cL 11 ([] : List zA) zA.row,cL 4 ([] : List Link) Link.row,cL 7 ([] : List Say) Say.row])]⟩ (fun cx => ?_) ?_
   ·refine mA ZH [(0,[]),(1,[12]),(2,[])] 10 [⟨[12],63,44,45⟩] fun cx => ?_
    refine oN ZH 3 zA.row ev43 fun cx => ?_
    refine mA ZH [(4,[]),(6,[]),(7,[])] 6 [⟨[12],63,44,45⟩] fun cx => ?_
    refine mB2 tOk ZH 5 8 kr (And.intro kr ?_) (And.intro kr ?_)
    ·refine dE (tI 35) (.box 7) [(0,0),(0,(y6.toNat))] 11 2 [.sl true 3 [[cL 11 y34 zA.row,cL 4 r5.Ls Link.row,cL 7 r5.Said Say.row]]] (zA.row v43) (zY rfl (zM ev43).2) ?_
     refine fA ?_
     refine mC ZH 8 ?_
     refine lA 1 ?_
     refine fA ?_
     refine mC ZH 9 ?_
     refine LAt.callL tOk [.lend,.rd] (f := 153) (av := #[.tmp 51,.tmp 52]) (ats := #[157,25]) (d := (some 53)) (ty := 3) (g := none) kr kr kr [] (zAg n (⟨y35,y36,y37⟩ : Src) [1,1,2,5,20] r44 er44) kr (.inl rfl) ?_
     refine fA ?_
     refine mC ZH 10 ?_
     refine LAt.indexD tOk (t := 35) (ty := 0) (et := 167) (x := (.tmp 49)) (y := (.tmp 50)) (d := 54) (g := none) (tI 167) ⟨(.box 7),[(0,0),(0,(y6.toNat))],2,true,8,(v43.Ps.map Pt.row)⟩ .i64 y33 (y33.toNat) (Pt.row v45) kr kr kr kr kr kr kr (zG8 (row := [.sl true 3 [[cL 11 y34 zA.row,cL 4 r5.Ls Link.row,cL 7 r5.Said Say.row]]]) (e := zA.row v43) kr kr (zY rfl (zM ev43).2) rfl rfl) rfl kr (zBH ev45) rfl ?_
     refine fA ?_
     refine mA ZH [(11,[])] 1 [⟨[12],63,44,45⟩] fun cx => ?_
     refine sA_ 0xa0300000000393 145 ⟨73,1,[(55,.adr (.box 7) [(0,0),(0,(y6.toNat)),(2,(y33.toNat))] 8 1),sI 53 r44.1,sR 45 7 3 0 1 false,sA 44 7 3 0,sI 9 y33,sI 8 y6,sA 7 7 3 0,sA 4 4 3 0,sA 0 0 3 0,sI 1 x1],[(0,(CV.frzRow (Src.row r44.2))),(7,[cL 11 y34 zA.row,cL 4 r5.Ls Link.row,cL 7 r5.Said Say.row]),(4,[cL 11 ([] : List zA) zA.row,cL 4 ([] : List Link) Link.row,cL 7 ([] : List Say) Say.row])]⟩ ?_
     refine mC ZH 12 ?_
     refine LAt.storeK tOk (t := 3) (ty := 0) (ad := (.tmp 55)) (x := (.tmp 53)) (g := none) (tI 3) false [cI r44.1] (.box 7) [(0,0),(0,(y6.toNat)),(2,(y33.toNat))] [(0,(y6.toNat)),(2,(y33.toNat))] 8 1 [.sl true 3 [[cL 11 y34 zA.row,cL 4 r5.Ls Link.row,cL 7 r5.Said Say.row]]] (Pt.row v45) [cL 11 y34 zA.row,cL 4 r5.Ls Link.row,cL 7 r5.Said Say.row] [cL 11 (y34.set (y6.toNat) (⟨v43.Id,v43.Name,(v43.Ps.set (y33.toNat) (⟨v45.Up,r44.1,v45.Has,v45.Hd⟩ : Pt)),v43.F,v43.V,v43.Tk,v43.Pa,v43.Wo,v43.Dr,v43.Ve⟩ : zA)) zA.row,cL 4 r5.Ls Link.row,cL 7 r5.Said Say.row] kr kr kr kr kr kr (zIo rfl (zM ev43).2 rfl (zM ev45).2) rfl (by intro h; cases h) kr kr rfl (zKK (new := (⟨v43.Id,v43.Name,(v43.Ps.set (y33.toNat) (⟨v45.Up,r44.1,v45.Has,v45.Hd⟩ : Pt)),v43.F,v43.V,v43.Tk,v43.Pa,v43.Wo,v43.Dr,v43.Ve⟩ : zA)) (new2 := (⟨v45.Up,r44.1,v45.Has,v45.Hd⟩ : Pt)) rfl (zM ev43).2 rfl (zM ev45).2 kr kr) kr ?_
     refine fA ?_
     exact mE ZH [9,8,7,4,0,1] [7,0,4]
    ·refine lA 1 ?_
     refine fA ?_
     refine mB2 tOk ZH 5 9 kr (And.intro kr ?_) (And.intro kr ?_)
     ·refine dE (tI 35) (.box 7) [(0,0),(0,(y6.toNat))] 11 2 [.sl true 3 [[cL 11 y34 zA.row,cL 4 r5.Ls Link.row,cL 7 r5.Said Say.row]]] (zA.row v43) (zY rfl (zM ev43).2) ?_
      refine fA ?_
      refine mC ZH 9 ?_
      refine LAt.callL tOk [.lend,.rd] (f := 153) (av := #[.tmp 51,.tmp 52]) (ats := #[157,25]) (d := (some 53)) (ty := 3) (g := none) kr kr kr [] (zAg n (⟨y35,y36,y37⟩ : Src) [1,1,2,5,20] r44 er44) kr (.inl rfl) ?_
      refine fA ?_
      refine mC ZH 10 ?_
      refine LAt.indexD tOk (t := 35) (ty := 0) (et := 167) (x := (.tmp 49)) (y := (.tmp 50)) (d := 54) (g := none) (tI 167) ⟨(.box 7),[(0,0),(0,(y6.toNat))],2,true,8,(v43.Ps.map Pt.row)⟩ .i64 y33 (y33.toNat) (Pt.row v45) kr kr kr kr kr kr kr (zG8 (row := [.sl true 3 [[cL 11 y34 zA.row,cL 4 r5.Ls Link.row,cL 7 r5.Said Say.row]]]) (e := zA.row v43) kr kr (zY rfl (zM ev43).2) rfl rfl) rfl kr (zBH ev45) rfl ?_
      refine fA ?_
      refine mA ZH [(11,[])] 1 [⟨[12],63,44,45⟩] fun cx => ?_
      refine sA_ 0xa0300000000393 145 ⟨73,1,[(55,.adr (.box 7) [(0,0),(0,(y6.toNat)),(2,(y33.toNat))] 8 1),sI 53 r44.1,sR 45 7 3 0 1 false,sA 44 7 3 0,sI 9 y33,sI 8 y6,sA 7 7 3 0,sA 4 4 3 0,sA 0 0 3 0,sI 1 x1],[(0,(CV.frzRow (Src.row r44.2))),(7,[cL 11 y34 zA.row,cL 4 r5.Ls Link.row,cL 7 r5.Said Say.row]),(4,[cL 11 ([] : List zA) zA.row,cL 4 ([] : List Link) Link.row,cL 7 ([] : List Say) Say.row])]⟩ ?_
      refine mC ZH 12 ?_
      refine LAt.storeK tOk (t := 3) (ty := 0) (ad := (.tmp 55)) (x := (.tmp 53)) (g := none) (tI 3) false [cI r44.1] (.box 7) [(0,0),(0,(y6.toNat)),(2,(y33.toNat))] [(0,(y6.toNat)),(2,(y33.toNat))] 8 1 [.sl true 3 [[cL 11 y34 zA.row,cL 4 r5.Ls Link.row,cL 7 r5.Said Say.row]]] (Pt.row v45) [cL 11 y34 zA.row,cL 4 r5.Ls Link.row,cL 7 r5.Said Say.row] [cL 11 (y34.set (y6.toNat) (⟨v43.Id,v43.Name,(v43.Ps.set (y33.toNat) (⟨v45.Up,r44.1,v45.Has,v45.Hd⟩ : Pt)),v43.F,v43.V,v43.Tk,v43.Pa,v43.Wo,v43.Dr,v43.Ve⟩ : zA)) zA.row,cL 4 r5.Ls Link.row,cL 7 r5.Said Say.row] kr kr kr kr kr kr (zIo rfl (zM ev43).2 rfl (zM ev45).2) rfl (by intro h; cases h) kr kr rfl (zKK (new := (⟨v43.Id,v43.Name,(v43.Ps.set (y33.toNat) (⟨v45.Up,r44.1,v45.Has,v45.Hd⟩ : Pt)),v43.F,v43.V,v43.Tk,v43.Pa,v43.Wo,v43.Dr,v43.Ve⟩ : zA)) (new2 := (⟨v45.Up,r44.1,v45.Has,v45.Hd⟩ : Pt)) rfl (zM ev43).2 rfl (zM ev45).2 kr kr) kr ?_
      refine fA ?_
      exact mE ZH [9,8,7,4,0,1] [7,0,4]
     ·refine LAt.callL tOk [.lend,.rd] (f := 153) (av := #[.tmp 51,.tmp 52]) (ats := #[157,25]) (d := (some 53)) (ty := 3) (g := none) kr kr kr [] (zAg n (⟨y35,y36,y37⟩ : Src) [1,1,2,5,20] r44 er44) kr (.inl rfl) ?_
      refine fA ?_
      refine mC ZH 5 ?_
      refine dE (tI 35) (.box 7) [(0,0),(0,(y6.toNat))] 11 2 [.sl true 3 [[cL 11 y34 zA.row,cL 4 r5.Ls Link.row,cL 7 r5.Said Say.row]]] (zA.row v43) (zY rfl (zM ev43).2) ?_
      refine fA ?_
      refine mC ZH 10 ?_
      refine LAt.indexD tOk (t := 35) (ty := 0) (et := 167) (x := (.tmp 49)) (y := (.tmp 50)) (d := 54) (g := none) (tI 167) ⟨(.box 7),[(0,0),(0,(y6.toNat))],2,true,8,(v43.Ps.map Pt.row)⟩ .i64 y33 (y33.toNat) (Pt.row v45) kr kr kr kr kr kr kr (zG8 (row := [.sl true 3 [[cL 11 y34 zA.row,cL 4 r5.Ls Link.row,cL 7 r5.Said Say.row]]]) (e := zA.row v43) kr kr (zY rfl (zM ev43).2) rfl rfl) rfl kr (zBH ev45) rfl ?_
      refine fA ?_
      refine mA ZH [(11,[])] 1 [⟨[12],63,44,45⟩] fun cx => ?_
      refine sA_ 0xa0300000000393 145 ⟨73,1,[(55,.adr (.box 7) [(0,0),(0,(y6.toNat)),(2,(y33.toNat))] 8 1),sI 53 r44.1,sR 45 7 3 0 1 false,sA 44 7 3 0,sI 9 y33,sI 8 y6,sA 7 7 3 0,sA 4 4 3 0,sA 0 0 3 0,sI 1 x1],[(0,(CV.frzRow (Src.row r44.2))),(7,[cL 11 y34 zA.row,cL 4 r5.Ls Link.row,cL 7 r5.Said Say.row]),(4,[cL 11 ([] : List zA) zA.row,cL 4 ([] : List Link) Link.row,cL 7 ([] : List Say) Say.row])]⟩ ?_
      refine mC ZH 12 ?_
      refine LAt.storeK tOk (t := 3) (ty := 0) (ad := (.tmp 55)) (x := (.tmp 53)) (g := none) (tI 3) false [cI r44.1] (.box 7) [(0,0),(0,(y6.toNat)),(2,(y33.toNat))] [(0,(y6.toNat)),(2,(y33.toNat))] 8 1 [.sl true 3 [[cL 11 y34 zA.row,cL 4 r5.Ls Link.row,cL 7 r5.Said Say.row]]] (Pt.row v45) [cL 11 y34 zA.row,cL 4 r5.Ls Link.row,cL 7 r5.Said Say.row] [cL 11 (y34.set (y6.toNat) (⟨v43.Id,v43.Name,(v43.Ps.set (y33.toNat) (⟨v45.Up,r44.1,v45.Has,v45.Hd⟩ : Pt)),v43.F,v43.V,v43.Tk,v43.Pa,v43.Wo,v43.Dr,v43.Ve⟩ : zA)) zA.row,cL 4 r5.Ls Link.row,cL 7 r5.Said Say.row] kr kr kr kr kr kr (zIo rfl (zM ev43).2 rfl (zM ev45).2) rfl (by intro h; cases h) kr kr rfl (zKK (new := (⟨v43.Id,v43.Name,(v43.Ps.set (y33.toNat) (⟨v45.Up,r44.1,v45.Has,v45.Hd⟩ : Pt)),v43.F,v43.V,v43.Tk,v43.Pa,v43.Wo,v43.Dr,v43.Ve⟩ : zA)) (new2 := (⟨v45.Up,r44.1,v45.Has,v45.Hd⟩ : Pt)) rfl (zM ev43).2 rfl (zM ev45).2 kr kr) kr ?_
      refine fA ?_
      exact mE ZH [9,8,7,4,0,1] [7,0,4]
   refine eA 3 915 145 ?_
   exact jB mo42 ((IntKind.wrap .i64 (y33 + 1)),(y34.set (y6.toNat) (⟨v43.Id,v43.Name,(v43.Ps.set (y33.toNat) (⟨v45.Up,r44.1,v45.Has,v45.Hd⟩ : Pt)),v43.F,v43.V,v43.Tk,v43.Pa,v43.Wo,v43.Dr,v43.Ve⟩ : zA)),r44.2.b,r44.2.i,r44.2.h) H [9,8,7,4,0,1] [7,0,4]
  rintro ⟨y38,y39,y40,y41⟩ H
  have H : (Yw n (fun v => q5 n mo32 v.1 v.2.1 v.2.2.1 v.2.2.2.1 v.2.2.2.2) y6 y38 y39 y40 y41) = some o32 := H
  unfold Yw at H
  refine eA 3 403 145 ?_
  exact jB mo32 ((IntKind.wrap .i64 (y6 + 1)),y38,y39,y40,y41) H [8,7,4,0,1] [7,0,4]
 rintro ⟨y11,y12,y13,y14⟩ H
 have H : (Yv n r5 x1 y11 y12 y13 y14) = some r := H
 unfold Yv at H
 refine tS ?_
 refine rA 3 ?_
 obtain ⟨r15,er15,H⟩ := bs H
 refine LAt.callL tOk [.lend,.rd] (f := 133) (av := #[.tmp 56,.tmp 58]) (ats := #[157,3]) (d := (some 59)) (ty := 3) (g := none) kr kr kr [] (qh n (⟨y12,y13,y14⟩ : Src) (IntKind.wrap .i64 (x1 + 1)) r15 er15) kr (.inl rfl) ?_
 refine uA 1 1169 145 ?_
 obtain ⟨o29,eo29,Ho29⟩ := bs H
 clear H
 refine Tr.mid (ι := (List Int) × Int × Int × (List zA) × (List Link) × (List Say)) (fun v => ⟨73,1,[sA 7 7 3 0,sA 4 4 3 0,sA 0 0 3 0],[(0,[cF 1 v.1 zu,cI v.2.1,cI v.2.2.1]),(7,[cL 11 v.2.2.2.1 zA.row,cL 4 v.2.2.2.2.1 Link.row,cL 7 v.2.2.2.2.2 Say.row]),(4,[cL 11 ([] : List zA) zA.row,cL 4 ([] : List Link) Link.row,cL 7 ([] : List Say) Say.row])]⟩) (fun v => J6 n v.1 v.2.1 v.2.2.1 v.2.2.2.1 v.2.2.2.2.1 v.2.2.2.2.2 = some r) ?_ ?_
 ·refine tB ?_
  refine Tr.loop (ι := Nat × (Int × (List Int) × Int × Int × (List zA) × (List Link) × (List Say))) (fun v => ⟨73,1,[sI 10 v.2.1,sA 7 7 3 0,sA 4 4 3 0,sA 0 0 3 0],[(0,[cF 1 v.2.2.1 zu,cI v.2.2.2.1,cI v.2.2.2.2.1]),(7,[cL 11 v.2.2.2.2.2.1 zA.row,cL 4 v.2.2.2.2.2.2.1 Link.row,cL 7 v.2.2.2.2.2.2.2 Say.row]),(4,[cL 11 ([] : List zA) zA.row,cL 4 ([] : List Link) Link.row,cL 7 ([] : List Say) Say.row])]⟩) (fun v => Z6 n v.1 v.2.1 v.2.2.1 v.2.2.2.1 v.2.2.2.2.1 v.2.2.2.2.2.1 v.2.2.2.2.2.2.1 v.2.2.2.2.2.2.2 = some o29) (fun v => v.1) (n,(r15.1,r15.2.b,r15.2.i,r15.2.h,y11,r5.Ls,r5.Said)) eo29 (St.sub_of [10,7,4,0] [0,7,4] kr) ?_
  rintro ⟨mo29,y16,y17,y18,y19,y20,y21,y22⟩ H
  have H : Z6 n mo29 y16 y17 y18 y19 y20 y21 y22 = some o29 := H
  obtain _ | mo29 := mo29
  ·exact nN H
  rw [Z6] at H
  refine tS ?_
  refine gA 2 0x2000000000000491 145 ?_
  obtain ⟨h1,H⟩ | ⟨h1,H⟩ := bC H
  ·refine nA h1 ?_
   refine Tr.exit ?_
   refine aJ ?_
   obtain rfl := si H
   have H := Ho29
   dsimp only at H
   exact jA (y17,y18,y19,y20,y21,y22) H [7,4,0] [0,7,4]
  refine tA h1 ?_
  refine tK ?_
  refine tS ?_
  refine tB ?_
  refine Tr.frzB 7 ?_
  obtain ⟨r30,er30,H⟩ := bs H
  obtain ⟨r31,er31,H⟩ := bs H
  refine Tr.draw mixed 9 kr ⟨73,1,[sI 10 y16,sA 7 7 3 0,sA 4 4 3 0,sA 0 0 3 0],[(7,(Net.row r31.1)),(0,(CV.frzRow (Src.row r30.2))),(4,[cL 11 ([] : List zA) zA.row,cL 4 ([] : List Link) Link.row,cL 7 ([] : List Say) Say.row])]⟩ (fun cx => ?_) ?_
  ·refine aA [(0,[4,8]),(1,[]),(2,[3,4,8])] 6 [⟨[3,4,8],67,7,67⟩,⟨[4,8],67,7,65⟩] fun cx => ?_
   refine bA 3 ?_
   refine LAt.callL tOk [.lend,.rd] (f := 220) (av := #[.tmp 66,.tmp 67]) (ats := #[157,67]) (d := (some 68)) (ty := 71) (g := none) kr kr kr [] (zIT n (⟨y17,y18,y19⟩ : Src) (⟨y20,y21,y22⟩ : Net) r30 er30) kr (.inl rfl) ?_
   refine fA ?_
   refine bA 4 ?_
   refine vA [.rd,.rd] (zDl n (⟨y20,y21,y22⟩ : Net) r30.1 r31 er31) ?_
   refine fA ?_
   refine AT.movT tOk 5 (ty := 68) (t := 69) (d := 64) (g := none) [(true,(Net.row r31.1)),(false,[cB r31.2])] _ kr kr kr (.inl rfl) kr kr kr kr rfl (fun cx => ?_)
   refine aA [(6,[]),(7,[])] 1 [⟨[3,4,8],67,7,67⟩,⟨[4,8],67,7,65⟩] fun cx => ?_
   refine bA 8 ?_
   refine lA 1 ?_
   refine fA ?_
   exact eE [10,7,4,0] [7,0,4]
  refine eA 3 1169 145 ?_
  exact jB mo29 ((IntKind.wrap .i64 (y16 - 1)),r30.2.b,r30.2.i,r30.2.h,r31.1.Bs,r31.1.Ls,r31.1.Said) H [10,7,4,0] [0,7,4]
 rintro ⟨y23,y24,y25,y26,y27,y28⟩ H
 have H : (J6 n y23 y24 y25 y26 y27 y28) = some r := H
 unfold J6 at H
 refine gA 2 17 17 ?_
 refine te ?_
 obtain rfl := si H
 exact Fin.ofY _ [(true,[cL 11 y26 zA.row,cL 4 y27 Link.row,cL 7 y28 Say.row])] [] _ [] _ [(0,[cF 1 y23 zu,cI y24,cI y25])] kr rfl rfl rfl kr kr kr kr rfl rfl rfl
def Y3 (n : Nat) (y7 : (List Event)) (y8 : (List Int)) (y9 : Int) (y10 : Int) : Option ((List Event) × Src) :=
  (some (y7,(⟨y8,y9,y10⟩ : Src)))
def ZO (n : Nat) : Nat → Int → (List Event) → (List Int) → Int → Int → Option (((List Event) × (List Int) × Int × Int) ⊕ ((List Event) × Src))
  | 0,_,_,_,_,_ => none
  | mo11 + 1,y2,y3,y4,y5,y6 => (bif (decide (y2 > 0)) then ((Zo n (⟨y4,y5,y6⟩ : Src) [1,1,1,2,2,2,2,3,4,5,6]).bind fun r12 => ((zm n r12.2 4).bind fun r13 => (bif (decide (y3.length + [(⟨r12.1,r13.1⟩ : Event)].length ≤ 268435456)) then (ZO n mo11 (IntKind.wrap .i64 (y2 - 1)) (y3 ++ [(⟨r12.1,r13.1⟩ : Event)]) r13.2.b r13.2.i r13.2.h) else none))) else (some (Sum.inl (y3,y4,y5,y6))))
def Yx (n : Nat) (x0 : Src) (x1 : Int) : Option ((List Event) × Src) :=
  ((zm n x0 x1).bind fun r1 => ((ZO n n r1.1 ([] : List Event) r1.2.b r1.2.i r1.2.h).bind fun o => match o with | .inl (y7,y8,y9,y10) => (Y3 n y7 y8 y9 y10) | .inr r => some r))
noncomputable abbrev zGE (k : Nat) := Rg Tryz.f147 k
theorem zHq (n : Nat) (x0 : Src) (x1 : Int) (r : (List Event) × Src) (H : Yx n x0 x1 = some r) : zI Tryz.prog 147 [.ptr (CV.frzRow (Src.row x0)),.val false [.lit (.int .i64 x1)]] [.val false [.sl true 2 (r.1.map Event.row)]] [(0,(CV.frzRow (Src.row r.2)))] := by
 refine zI.of_body tOk Tryz.func147 rfl (c := (.seq (zGE 0) (.seq (zGE 1) (.seq (.seq (zGE 2) (.block 0 (.loop (.seq (.seq (zGE 3) (.cond (.tmp 12) .skip (.exit 0))) (.seq (.block 1 (zGE 5)) (zGE 4)))))) (.seq (zGE 6) .ret))))) kr (Nat.le_of_ble_eq_true kr) 1 (rs := [.tmp 4]) rfl [] .nil [(false,[.sl true 2 (r.1.map Event.row)])] [] [(0,(CV.frzRow (Src.row r.2)))] fun cx => ?_
 show Tr _ _ _ ⟨25,1,[sA 0 0 3 0,sI 1 x1],[(0,(CV.frzRow (Src.row x0)))]⟩ _
 unfold Yx at H
 refine gA 1 3 1 ?_
 refine rA 1 ?_
 refine LAt.moveU (T := lk tab) (ty := 79) (x := (.tmp 7)) (d := 5) (g := none) false [cL 2 ([] : List Event) Event.row] kr kr kr kr kr ?_
 refine dA 35 1 ?_
 refine tS ?_
 refine rA 2 ?_
 obtain ⟨r1,er1,H⟩ := bs H
 refine LAt.callL tOk [.lend,.rd] (f := 133) (av := #[.tmp 8,.tmp 9]) (ats := #[157,3]) (d := (some 10)) (ty := 3) (g := none) kr kr kr [] (qh n x0 x1 r1 er1) kr (.inl rfl) ?_
 refine uA 1 97 1 ?_
 obtain ⟨o11,eo11,Ho11⟩ := bs H
 clear H
 refine Tr.mid (ι := (List Event) × (List Int) × Int × Int) (fun v => ⟨25,1,[sC 5 (cL 2 v.1 Event.row),sA 0 0 3 0],[(0,[cF 1 v.2.1 zu,cI v.2.2.1,cI v.2.2.2])]⟩) (fun v => Y3 n v.1 v.2.1 v.2.2.1 v.2.2.2 = some r) ?_ ?_
 ·refine tB ?_
  refine Tr.loop (ι := Nat × (Int × (List Event) × (List Int) × Int × Int)) (fun v => ⟨25,1,[sI 6 v.2.1,sC 5 (cL 2 v.2.2.1 Event.row),sA 0 0 3 0],[(0,[cF 1 v.2.2.2.1 zu,cI v.2.2.2.2.1,cI v.2.2.2.2.2])]⟩) (fun v => ZO n v.1 v.2.1 v.2.2.1 v.2.2.2.1 v.2.2.2.2.1 v.2.2.2.2.2 = some o11) (fun v => v.1) (n,(r1.1,([] : List Event),r1.2.b,r1.2.i,r1.2.h)) eo11 (St.sub_of [6,5,0] [0] kr) ?_
  rintro ⟨mo11,y2,y3,y4,y5,y6⟩ H
  have H : ZO n mo11 y2 y3 y4 y5 y6 = some o11 := H
  obtain _ | mo11 := mo11
  ·exact nN H
  rw [ZO] at H
  refine tS ?_
  refine gA 2 4193 1 ?_
  obtain ⟨h1,H⟩ | ⟨h1,H⟩ := bC H
  ·refine nA h1 ?_
   refine Tr.exit ?_
   refine aJ ?_
   obtain rfl := si H
   have H := Ho11
   dsimp only at H
   exact jA (y3,y4,y5,y6) H [5,0] [0]
  refine tA h1 ?_
  refine tK ?_
  refine tS ?_
  refine tB ?_
  refine Tr.at ?_
  refine lA 3 ?_
  obtain ⟨r12,er12,H⟩ := bs H
  refine LAt.callL tOk [.lend,.rd] (f := 153) (av := #[.tmp 16,.tmp 17]) (ats := #[157,25]) (d := (some 18)) (ty := 3) (g := none) kr kr kr [] (zAg n (⟨y4,y5,y6⟩ : Src) [1,1,1,2,2,2,2,3,4,5,6] r12 er12) kr (.inl rfl) ?_
  refine lA 1 ?_
  obtain ⟨r13,er13,H⟩ := bs H
  refine LAt.callL tOk [.lend,.rd] (f := 133) (av := #[.tmp 19,.const (.int .i64 4)]) (ats := #[157,3]) (d := (some 20)) (ty := 3) (g := none) kr kr kr [] (qh n r12.2 4 r13 er13) kr (.inl rfl) ?_
  refine lA 2 ?_
  obtain ⟨hg14,H⟩ := gs H
  refine LAt.appMU tOk (t := 79) (ty := 79) (e := 71) (x := (.tmp 15)) (y := (.tmp 22)) (d := 23) (g := none) (tI 71) Event.row y3 [(⟨r12.1,r13.1⟩ : Event)] kr kr kr kr kr kr kr kr kr kr hg14 ?_
  refine LAt.moveU (T := lk tab) (ty := 79) (x := (.tmp 23)) (d := 5) (g := none) false [cL 2 (y3 ++ [(⟨r12.1,r13.1⟩ : Event)]) Event.row] kr kr kr kr kr ?_
  refine dA 97 1 ?_
  refine eA 3 97 1 ?_
  exact jB mo11 ((IntKind.wrap .i64 (y2 - 1)),(y3 ++ [(⟨r12.1,r13.1⟩ : Event)]),r13.2.b,r13.2.i,r13.2.h) H [6,5,0] [0]
 rintro ⟨y7,y8,y9,y10⟩ H
 have H : (Y3 n y7 y8 y9 y10) = some r := H
 unfold Y3 at H
 refine gA 2 49 1 ?_
 refine te ?_
 obtain rfl := si H
 exact Fin.ofY _ [(false,[cL 2 y7 Event.row])] [] _ [] _ [(0,[cF 1 y8 zu,cI y9,cI y10])] kr rfl rfl rfl kr kr kr kr rfl rfl rfl
def Jk (n : Nat) (x0 : (List Int)) : Option (Net × (List Event)) :=
  ((zAv n x0).bind fun r1 => ((zAP n x0 20).bind fun r2 => ((Jn n r1 (IntKind.wrap .i64 (6 + r2))).bind fun r3 => ((Yx n r3.2 10).bind fun r4 => (some (r3.1,r4.1))))))
theorem zJE (n : Nat) (x0 : (List Int)) (r : Net × (List Event)) (H : Jk n x0 = some r) : zI Tryz.prog 50 [.val false [.sl false 1 (CV.frzEs (x0.map zu))]] [.val true (Net.row r.1),.val false [.sl true 2 (r.2.map Event.row)]] [] := by
 refine cW Tryz.func50 (fun g d => sl [g 0,g 1,g 2] .ret) [.cell 2 67,.tmp 3] fun cx => ?_
 unfold Jk at H
 refine gA 2 5 4 ?_
 refine rA 1 ?_
 obtain ⟨r1,er1,H⟩ := bs H
 refine vA [.rd] (zKW n x0 r1 er1) ?_
 refine uA 1 21 68 ?_
 refine rA 2 ?_
 obtain ⟨r2,er2,H⟩ := bs H
 refine vA [.rd,.rd] (zJh n x0 20 r2 er2) ?_
 refine lA 1 ?_
 obtain ⟨r3,er3,H⟩ := bs H
 refine LAt.callL tOk [.lend,.rd] (f := 145) (av := #[.tmp 7,.tmp 10]) (ats := #[157,3]) (d := (some 11)) (ty := 67) (g := none) kr kr kr [] (zJH n r1 (IntKind.wrap .i64 (6 + r2)) r3 er3) kr (.inl rfl) ?_
 refine lA 1 ?_
 obtain ⟨r4,er4,H⟩ := bs H
 refine LAt.callL tOk [.lend,.rd] (f := 147) (av := #[.tmp 12,.const (.int .i64 10)]) (ats := #[157,3]) (d := (some 13)) (ty := 79) (g := none) kr kr kr [] (zHq n r3.2 10 r4 er4) kr (.inl rfl) ?_
 refine lA 1 ?_
 refine LAt.moveU (T := lk tab) (ty := 79) (x := (.tmp 13)) (d := 3) (g := none) false [cL 2 r4.1 Event.row] kr kr kr kr kr ?_
 refine dA 12 4 ?_
 exact te (fJ [(true,(Net.row r3.1)),(false,[cL 2 r4.1 Event.row])] H)
def zA5 (n : Nat) (x0 : (List zB)) : Option ((List zB)) :=
  (bif (decide (([] : List zB).length + x0.length ≤ 268435456)) then (some (([] : List zB) ++ x0)) else none)
theorem zIs (n : Nat) (x0 : (List zB)) (r : (List zB)) (H : zA5 n x0 = some r) : zI Tryz.prog 181 [.val false [.sl false 5 (CV.frzEs (x0.map zB.row))]] [.val false [.sl true 5 (r.map zB.row)]] [] := by
 refine cW Tryz.func181 (fun g d => sl [g 0,g 1] .ret) [.tmp 2] fun cx => ?_
 unfold zA5 at H
 refine gA 1 1 0 ?_
 refine rA 1 ?_
 obtain ⟨hg1,H⟩ := gs H
 refine LAt.appCU tOk (t := 36) (ty := 36) (e := 169) (x := (.const (.slice none 0 0))) (y := (.tmp 3)) (d := 4) (g := none) (tI 169) zB.row ([] : List zB) x0 ⟨(.slot 3),[],0,false,5,(CV.frzEs (x0.map zB.row))⟩ kr kr kr kr kr kr kr kr kr kr kr (.inr rfl) (fun _ => rfl) (fun _ => rfl) hg1 ?_
 refine LAt.moveU (T := lk tab) (ty := 36) (x := (.tmp 4)) (d := 2) (g := none) false [cL 5 (([] : List zB) ++ x0) zB.row] kr kr kr kr kr ?_
 refine dA 4 0 ?_
 exact te (fJ [(false,[cL 5 (([] : List zB) ++ x0) zB.row])] H)
def zAX (n : Nat) (x0 : (List Int)) : Option ((List Int)) :=
  (bif (decide (([] : List Int).length + x0.length ≤ 268435456)) then (some (([] : List Int) ++ x0)) else none)
theorem zIM (n : Nat) (x0 : (List Int)) (r : (List Int)) (H : zAX n x0 = some r) : zI Tryz.prog 236 [.val false [.sl false 1 (CV.frzEs (x0.map intRow))]] [.val false [.sl true 1 (r.map intRow)]] [] := by
 refine cW Tryz.func236 (fun g d => sl [g 0,g 1] .ret) [.tmp 2] fun cx => ?_
 unfold zAX at H
 refine gA 1 1 0 ?_
 refine rA 1 ?_
 obtain ⟨hg1,H⟩ := gs H
 refine LAt.appCU tOk (t := 25) (ty := 25) (e := 3) (x := (.const (.slice none 0 0))) (y := (.tmp 3)) (d := 4) (g := none) (tI 3) intRow ([] : List Int) x0 ⟨(.slot 3),[],0,false,1,(CV.frzEs (x0.map intRow))⟩ kr kr kr kr kr kr kr kr kr kr kr (.inr rfl) (fun _ => rfl) (fun _ => rfl) hg1 ?_
 refine LAt.moveU (T := lk tab) (ty := 25) (x := (.tmp 4)) (d := 2) (g := none) false [cL 1 (([] : List Int) ++ x0) intRow] kr kr kr kr kr ?_
 refine dA 4 0 ?_
 exact te (fJ [(false,[cL 1 (([] : List Int) ++ x0) intRow])] H)
def JB (n : Nat) (x0 : zJ) : Option (zJ) :=
  (bif (decide (([] : List zC).length + x0.Rows.length ≤ 268435456)) then ((zAX n x0.Pv).bind fun r2 => (some (⟨(([] : List zC) ++ x0.Rows),r2⟩ : zJ))) else none)
theorem zIN (n : Nat) (x0 : zJ) (r : zJ) (H : JB n x0 = some r) : zI Tryz.prog 182 [.val true (CV.frzRow (zJ.row x0))] [.val true (zJ.row r)] [] := by
 refine cW Tryz.func182 (fun g d => sl [g 0,d 1] .ret) [.cell 2 39] fun cx => ?_
 unfold JB at H
 refine gA 2 6 6 ?_
 obtain ⟨hg1,H⟩ := gs H
 obtain ⟨r2,er2,H⟩ := bs H
 refine Tr.draws mixed 8 kr ⟨10,0,[sA 2 2 2 0],[(2,[cL 3 (([] : List zC) ++ x0.Rows) zC.row,cL 1 r2 intRow])]⟩ (fun cx => ?_) ?_
 ·refine aA [(0,[]),(1,[2,5,6,7]),(3,[]),(4,[5,6,7])] 4 [⟨[5,6,7],25,6,7⟩,⟨[2,5,6,7],37,3,4⟩] fun cx => ?_
  refine bA 2 ?_
  refine LAt.appCU tOk (t := 37) (ty := 37) (e := 175) (x := (.const (.slice none 0 0))) (y := (.tmp 4)) (d := 5) (g := none) (tI 175) zC.row ([] : List zC) x0.Rows ⟨(.box 1),[(0,0)],0,false,3,(CV.frzEs (x0.Rows.map zC.row))⟩ kr kr kr kr kr kr kr kr kr kr kr (.inr rfl) (fun _ => rfl) (fun _ => rfl) hg1 ?_
  refine fA ?_
  refine bA 5 ?_
  refine vA [.rd] (zIM n x0.Pv r2 er2) ?_
  refine fA ?_
  refine bA 6 ?_
  refine lA 1 ?_
  refine fA ?_
  refine bA 7 ?_
  refine lA 1 ?_
  refine fA ?_
  exact eE [2] [2]
 exact te (fJ [(true,[cL 3 (([] : List zC) ++ x0.Rows) zC.row,cL 1 r2 intRow])] H)
def q9 (n : Nat) (x0 : zA) : Option (zA) :=
  (bif (decide (([] : List Pt).length + x0.Ps.length ≤ 268435456)) then ((zA5 n x0.F).bind fun r2 => ((JB n x0.V).bind fun r3 => (some (⟨x0.Id,x0.Name,(([] : List Pt) ++ x0.Ps),r2,r3,x0.Tk,x0.Pa,x0.Wo,x0.Dr,x0.Ve⟩ : zA)))) else none)
theorem Jx (n : Nat) (x0 : zA) (r : zA) (H : q9 n x0 = some r) : zI Tryz.prog 83 [.val true (CV.frzRow (zA.row x0))] [.val true (zA.row r)] [] := by
 refine cW Tryz.func83 (fun g d => sl [g 0,g 1,d 2,g 3] .ret) [.cell 2 41] fun cx => ?_
 unfold q9 at H
 refine gA 2 6 6 ?_
 refine rA 2 ?_
 obtain ⟨hg1,H⟩ := gs H
 refine LAt.appCU tOk (t := 35) (ty := 35) (e := 167) (x := (.const (.slice none 0 0))) (y := (.tmp 4)) (d := 5) (g := none) (tI 167) Pt.row ([] : List Pt) x0.Ps ⟨(.slot 4),[],0,false,8,(CV.frzEs (x0.Ps.map Pt.row))⟩ kr kr kr kr kr kr kr kr kr kr kr (.inr rfl) (fun _ => rfl) (fun _ => rfl) hg1 ?_
 refine uA 2 6 6 ?_
 obtain ⟨r2,er2,H⟩ := bs H
 obtain ⟨r3,er3,H⟩ := bs H
 refine Tr.draws mixed 10 kr ⟨16,0,[sA 2 2 11 0,sA 1 1 11 0],[(1,[cI x0.Id,cS x0.Name,cL 8 (([] : List Pt) ++ x0.Ps) Pt.row,cL 5 r2 zB.row,cL 3 r3.Rows zC.row,cL 1 r3.Pv intRow,cI x0.Tk,cI x0.Pa,cI x0.Wo,cI x0.Dr,cI x0.Ve]),(2,[cI 0,cS (⟨#[]⟩ : ByteArray),cL 8 ([] : List Pt) Pt.row,cL 5 ([] : List zB) zB.row,cL 3 ([] : List zC) zC.row,cL 1 ([] : List Int) intRow,cI 0,cI 0,cI 0,cI 0,cI 0])]⟩ (fun cx => ?_) ?_
 ·refine aA [(0,[]),(1,[2,5,7,9]),(3,[]),(4,[5,7,9])] 6 [⟨[5,7,9],39,10,11⟩,⟨[2,5,7,9],36,7,8⟩] fun cx => ?_
  refine bA 2 ?_
  refine vA [.rd] (zIs n x0.F r2 er2) ?_
  refine fA ?_
  refine aA [(6,[])] 4 [⟨[5,7,9],39,10,11⟩,⟨[2,5,7,9],36,7,8⟩] fun cx => ?_
  refine bA 5 ?_
  refine vA [.rd] (zIN n x0.V r3 er3) ?_
  refine fA ?_
  refine bA 7 ?_
  refine LAt.storeO tOk (t := 36) (ty := 0) (ad := (.tmp 13)) (x := (.tmp 9)) (g := none) (tI 36) false [cL 5 r2 zB.row] 1 3 [cI x0.Id,cS x0.Name,cL 8 (([] : List Pt) ++ x0.Ps) Pt.row,cF 5 x0.F zB.row,cF 3 x0.V.Rows zC.row,cF 1 x0.V.Pv intRow,cI x0.Tk,cI x0.Pa,cI x0.Wo,cI x0.Dr,cI x0.Ve] kr kr kr kr kr kr kr kr ?_
  refine fA ?_
  refine aA [(8,[])] 1 [⟨[5,7,9],39,10,11⟩,⟨[2,5,7,9],36,7,8⟩] fun cx => ?_
  refine bA 9 ?_
  refine lA 1 ?_
  refine fA ?_
  exact eE [2,1] [1,2]
 refine gA 2 4 4 ?_
 exact te (fJ [(true,[cI x0.Id,cS x0.Name,cL 8 (([] : List Pt) ++ x0.Ps) Pt.row,cL 5 r2 zB.row,cL 3 r3.Rows zC.row,cL 1 r3.Pv intRow,cI x0.Tk,cI x0.Pa,cI x0.Wo,cI x0.Dr,cI x0.Ve])] H)
def Jy (n : Nat) (x0 : Net) (y5 : (List zA)) : Option (Net) :=
  (some (⟨y5,(([] : List Link) ++ x0.Ls),(([] : List Say) ++ x0.Said)⟩ : Net))
def Z4 (n : Nat) : Nat → Net → Int → (List zA) → Option (((List zA)) ⊕ (Net))
  | 0,_,_,_ => none
  | mo6 + 1,x0,y3,y4 => (bif (decide (y3 < (x0.Bs.length : Int))) then ((idx x0.Bs y3).bind fun v7 => ((q9 n v7).bind fun r8 => (bif (decide (y4.length + [r8].length ≤ 268435456)) then (Z4 n mo6 x0 (IntKind.wrap .i64 (y3 + 1)) (y4 ++ [r8])) else none))) else (some (Sum.inl y4)))
def Ji (n : Nat) (x0 : Net) : Option (Net) :=
  (bif (decide (([] : List Link).length + x0.Ls.length ≤ 268435456)) then (bif (decide (([] : List Say).length + x0.Said.length ≤ 268435456)) then ((Z4 n n x0 0 ([] : List zA)).bind fun o => match o with | .inl y5 => (Jy n x0 y5) | .inr r => some r) else none) else none)
theorem zIt (n : Nat) (x0 : Net) (r : Net) (H : Ji n x0 = some r) : zI Tryz.prog 115 [.val true (CV.frzRow (Net.row x0))] [.val true (Net.row r)] [] := by
 refine cW Tryz.func115 (fun g d => sl [g 0,d 1,sl [g 2] (.block 0 (.loop (sl [g 3,cn 17 .skip (.exit 0),.block 1 (sl [g 4] (d 5))] (g 6)))),g 7] .ret) [.cell 2 67] fun cx => ?_
 unfold Ji at H
 refine gA 2 6 6 ?_
 obtain ⟨hg1,H⟩ := gs H
 obtain ⟨hg2,H⟩ := gs H
 refine Tr.draws mixed 9 kr ⟨29,0,[sA 3 3 3 0,sA 2 2 3 0,sA 1 1 3 0],[(3,[cL 11 ([] : List zA) zA.row,cL 4 (([] : List Link) ++ x0.Ls) Link.row,cL 7 (([] : List Say) ++ x0.Said) Say.row]),(2,[cL 11 ([] : List zA) zA.row,cL 4 ([] : List Link) Link.row,cL 7 ([] : List Say) Say.row]),(1,(CV.frzRow (Net.row x0)))]⟩ (fun cx => ?_) ?_
 ·refine aA [(0,[]),(1,[2,5,6,8]),(3,[]),(4,[5,6,8])] 5 [⟨[5,6,8],65,9,10⟩,⟨[2,5,6,8],64,6,7⟩] fun cx => ?_
  refine AT.big2 tOk 2 7 kr (And.intro kr ?_) (And.intro kr ?_)
  ·refine LAt.appCU tOk (t := 64) (ty := 64) (e := 114) (x := (.const (.slice none 0 0))) (y := (.tmp 7)) (d := 8) (g := none) (tI 114) Link.row ([] : List Link) x0.Ls ⟨(.box 1),[(0,0)],1,false,4,(CV.frzEs (x0.Ls.map Link.row))⟩ kr kr kr kr kr kr kr kr kr kr kr (.inr rfl) (fun _ => rfl) (fun _ => rfl) hg1 ?_
   refine fA ?_
   refine AT.big2 tOk 5 7 kr (And.intro kr ?_) (And.intro kr ?_)
   ·refine LAt.appCU tOk (t := 65) (ty := 65) (e := 180) (x := (.const (.slice none 0 0))) (y := (.tmp 10)) (d := 11) (g := none) (tI 180) Say.row ([] : List Say) x0.Said ⟨(.box 1),[(0,0)],2,false,7,(CV.frzEs (x0.Said.map Say.row))⟩ kr kr kr kr kr kr kr kr kr kr kr (.inr rfl) (fun _ => rfl) (fun _ => rfl) hg2 ?_
    refine fA ?_
    refine AT.big2 tOk 6 7 kr (And.intro kr ?_) (And.intro kr ?_)
    ·refine lA 1 ?_
     refine fA ?_
     refine bA 7 ?_
     refine lA 1 ?_
     refine fA ?_
     refine bA 8 ?_
     refine lA 1 ?_
     refine fA ?_
     exact eE [3,2,1] [3,2,1]
    ·refine lA 1 ?_
     refine fA ?_
     refine bA 6 ?_
     refine lA 1 ?_
     refine fA ?_
     refine bA 8 ?_
     refine lA 1 ?_
     refine fA ?_
     exact eE [3,2,1] [3,2,1]
   ·refine lA 1 ?_
    refine fA ?_
    refine bA 5 ?_
    refine LAt.appCU tOk (t := 65) (ty := 65) (e := 180) (x := (.const (.slice none 0 0))) (y := (.tmp 10)) (d := 11) (g := none) (tI 180) Say.row ([] : List Say) x0.Said ⟨(.box 1),[(0,0)],2,false,7,(CV.frzEs (x0.Said.map Say.row))⟩ kr kr kr kr kr kr kr kr kr kr kr (.inr rfl) (fun _ => rfl) (fun _ => rfl) hg2 ?_
    refine fA ?_
    refine bA 6 ?_
    refine lA 1 ?_
    refine fA ?_
    refine bA 8 ?_
    refine lA 1 ?_
    refine fA ?_
    exact eE [3,2,1] [3,2,1]
  ·refine lA 1 ?_
   refine fA ?_
   refine bA 2 ?_
   refine LAt.appCU tOk (t := 64) (ty := 64) (e := 114) (x := (.const (.slice none 0 0))) (y := (.tmp 7)) (d := 8) (g := none) (tI 114) Link.row ([] : List Link) x0.Ls ⟨(.box 1),[(0,0)],1,false,4,(CV.frzEs (x0.Ls.map Link.row))⟩ kr kr kr kr kr kr kr kr kr kr kr (.inr rfl) (fun _ => rfl) (fun _ => rfl) hg1 ?_
   refine fA ?_
   refine bA 5 ?_
   refine LAt.appCU tOk (t := 65) (ty := 65) (e := 180) (x := (.const (.slice none 0 0))) (y := (.tmp 10)) (d := 11) (g := none) (tI 180) Say.row ([] : List Say) x0.Said ⟨(.box 1),[(0,0)],2,false,7,(CV.frzEs (x0.Said.map Say.row))⟩ kr kr kr kr kr kr kr kr kr kr kr (.inr rfl) (fun _ => rfl) (fun _ => rfl) hg2 ?_
   refine fA ?_
   refine bA 6 ?_
   refine lA 1 ?_
   refine fA ?_
   refine bA 8 ?_
   refine lA 1 ?_
   refine fA ?_
   exact eE [3,2,1] [3,2,1]
 refine tS ?_
 refine rA 2 ?_
 refine kF x0.Bs zA.row ?_
 refine uA 1 114700 12 ?_
 obtain ⟨o6,eo6,Ho6⟩ := bs H
 clear H
 refine Tr.mid (ι := (List zA)) (fun v => ⟨29,0,[sA 3 3 3 0,sA 2 2 3 0],[(3,[cL 11 v zA.row,cL 4 (([] : List Link) ++ x0.Ls) Link.row,cL 7 (([] : List Say) ++ x0.Said) Say.row]),(2,[cL 11 ([] : List zA) zA.row,cL 4 ([] : List Link) Link.row,cL 7 ([] : List Say) Say.row])]⟩) (fun v => Jy n x0 v = some r) ?_ ?_
 ·refine tB ?_
  refine Tr.loop (ι := Nat × (Int × (List zA))) (fun v => ⟨29,0,[sI 16 v.2.1,sI 15 (x0.Bs.length : Int),sC 14 (cF 11 x0.Bs zA.row),sA 3 3 3 0,sA 2 2 3 0],[(3,[cL 11 v.2.2 zA.row,cL 4 (([] : List Link) ++ x0.Ls) Link.row,cL 7 (([] : List Say) ++ x0.Said) Say.row]),(2,[cL 11 ([] : List zA) zA.row,cL 4 ([] : List Link) Link.row,cL 7 ([] : List Say) Say.row])]⟩) (fun v => Z4 n v.1 x0 v.2.1 v.2.2 = some o6) (fun v => v.1) (n,(0,([] : List zA))) eo6 (St.sub_of [16,15,14,3,2] [3,2] kr) ?_
  rintro ⟨mo6,y3,y4⟩ H
  have H : Z4 n mo6 x0 y3 y4 = some o6 := H
  obtain _ | mo6 := mo6
  ·exact nN H
  rw [Z4] at H
  refine gA 1 245772 12 ?_
  refine tS ?_
  obtain ⟨h1,H⟩ | ⟨h1,H⟩ := bC H
  ·refine nA h1 ?_
   refine Tr.exit ?_
   refine aJ ?_
   obtain rfl := si H
   have H := Ho6
   dsimp only at H
   exact jA y4 H [3,2] [3,2]
  refine tA h1 ?_
  refine tK ?_
  refine tS ?_
  refine tB ?_
  refine tR ?_
  obtain ⟨v7,ev7,H⟩ := bs H
  refine iA zA.row ev7 ?_
  refine uA 3 114732 44 ?_
  obtain ⟨r8,er8,H⟩ := bs H
  obtain ⟨hg9,H⟩ := gs H
  refine Tr.draw mixed 8 kr ⟨29,0,[sI 16 y3,sI 15 (x0.Bs.length : Int),sC 14 (cF 11 x0.Bs zA.row),sA 3 3 3 0,sA 2 2 3 0],[(3,[cL 11 (y4 ++ [r8]) zA.row,cL 4 (([] : List Link) ++ x0.Ls) Link.row,cL 7 (([] : List Say) ++ x0.Said) Say.row]),(2,[cL 11 ([] : List zA) zA.row,cL 4 ([] : List Link) Link.row,cL 7 ([] : List Say) Say.row])]⟩ (fun cx => ?_) ?_
  ·refine aA [(0,[]),(1,[5,7]),(2,[3,4,5,7])] 5 [⟨[3,4,5,7],41,5,22⟩,⟨[5,7],63,20,21⟩] fun cx => ?_
   refine bA 3 ?_
   refine vA [.rd] (Jx n v7 r8 er8) ?_
   refine fA ?_
   refine bA 4 ?_
   refine lA 1 ?_
   refine fA ?_
   refine bA 5 ?_
   refine LAt.appMU tOk (t := 63) (ty := 63) (e := 41) (x := (.tmp 21)) (y := (.tmp 24)) (d := 25) (g := none) (tI 41) zA.row y4 [r8] kr kr kr kr kr kr kr kr kr kr hg9 ?_
   refine fA ?_
   refine aA [(6,[])] 1 [⟨[3,4,5,7],41,5,22⟩,⟨[5,7],63,20,21⟩] fun cx => ?_
   refine bA 7 ?_
   refine lA 1 ?_
   refine fA ?_
   exact eE [16,15,14,3,2] [3,2]
  refine eA 2 114700 12 ?_
  exact jB mo6 ((IntKind.wrap .i64 (y3 + 1)),(y4 ++ [r8])) H [16,15,14,3,2] [3,2]
 rintro y5 H
 have H : (Jy n x0 y5) = some r := H
 unfold Jy at H
 refine gA 2 4 4 ?_
 exact te (fJ [(true,[cL 11 y5 zA.row,cL 4 (([] : List Link) ++ x0.Ls) Link.row,cL 7 (([] : List Say) ++ x0.Said) Say.row])] H)
def qI (n : Nat) (x0 : Int) (x1 : Int) (x2 : Int) : Option (Bool) :=
  (bif (decide (x0 ≥ x1)) then (some (decide (x0 ≤ x2))) else (some false))
theorem qM (n : Nat) (x0 : Int) (x1 : Int) (x2 : Int) (r : Bool) (H : qI n x0 x1 x2 = some r) : zI Tryz.prog 116 [.val false [.lit (.int .i64 x0)],.val false [.lit (.int .i64 x1)],.val false [.lit (.int .i64 x2)]] [.val false [.lit (.bool r)]] [] := by
 refine cW Tryz.func116 (fun g d => sl [g 0,g 1] .ret) [.tmp 6] fun cx => ?_
 unfold qI at H
 refine gA 1 7 0 ?_
 refine rA 4 ?_
 refine sL 1029 0 ⟨15,0,[sB 10 (decide (x0 ≥ x1)),sI 0 x0,sI 2 x2],[]⟩ ?_
 cases h1 : (decide (x0 ≥ x1))
 ·have H := zE h1 H
  refine uA 5 64 0 ?_
  exact te (fF H)
 have H := zF h1 H
 refine uA 5 64 0 ?_
 exact te (fJ [(false,[cB (decide (x0 ≤ x2))])] H)
def YJ (n : Nat) (x0 : Vec) : Option (Bool) :=
  ((qI n x0.Root 1 99).bind fun r1 => (bif r1 then ((qI n x0.Co 0 100000).bind fun r2 => (bif r2 then ((qI n x0.Hops 0 10).bind fun r3 => (bif r3 then ((qI n x0.Bridge 1 99).bind fun r4 => (bif r4 then ((qI n x0.Port 0 7).bind fun r5 => (some r5)) else (some false))) else (some false))) else (some false))) else (some false)))
theorem zBU (n : Nat) (x0 : Vec) (r : Bool) (H : YJ n x0 = some r) : zI Tryz.prog 149 [.val true (CV.frzRow (Vec.row x0))] [.val false [.lit (.bool r)]] [] := by
 refine cW Tryz.func149 (fun g d => sl [g 0,g 1] .ret) [.tmp 2] fun cx => ?_
 unfold YJ at H
 refine gA 2 2 2 ?_
 refine rA 2 ?_
 obtain ⟨r1,er1,H⟩ := bs H
 refine vA [.rd,.rd,.rd] (qM n x0.Root 1 99 r1 er1) ?_
 refine lA 1 ?_
 refine sL 66 2 ⟨26,0,[sB 6 r1,sA 1 1 5 0],[(1,(Vec.row x0))]⟩ ?_
 cases h1 : r1
 ·have H := zE h1 H
  refine uA 20 4 0 ?_
  exact te (fF H)
 have H := zF h1 H
 refine lA 2 ?_
 obtain ⟨r2,er2,H⟩ := bs H
 refine vA [.rd,.rd,.rd] (qM n x0.Co 0 100000 r2 er2) ?_
 refine lA 2 ?_
 refine sL 2050 2 ⟨26,0,[sB 11 r2,sA 1 1 5 0],[(1,(Vec.row x0))]⟩ ?_
 cases h2 : r2
 ·have H := zE h2 H
  refine uA 15 4 0 ?_
  exact te (fF H)
 have H := zF h2 H
 refine lA 2 ?_
 obtain ⟨r3,er3,H⟩ := bs H
 refine vA [.rd,.rd,.rd] (qM n x0.Hops 0 10 r3 er3) ?_
 refine lA 2 ?_
 refine sL 65538 2 ⟨26,0,[sB 16 r3,sA 1 1 5 0],[(1,(Vec.row x0))]⟩ ?_
 cases h3 : r3
 ·have H := zE h3 H
  refine uA 10 4 0 ?_
  exact te (fF H)
 have H := zF h3 H
 refine lA 2 ?_
 obtain ⟨r4,er4,H⟩ := bs H
 refine vA [.rd,.rd,.rd] (qM n x0.Bridge 1 99 r4 er4) ?_
 refine lA 2 ?_
 refine sL 2097154 2 ⟨26,0,[sB 21 r4,sA 1 1 5 0],[(1,(Vec.row x0))]⟩ ?_
 cases h4 : r4
 ·have H := zE h4 H
  refine uA 5 4 0 ?_
  exact te (fF H)
 have H := zF h4 H
 refine lA 2 ?_
 obtain ⟨r5,er5,H⟩ := bs H
 refine vA [.rd,.rd,.rd] (qM n x0.Port 0 7 r5 er5) ?_
 refine uA 2 4 0 ?_
 exact te (fJ [(false,[cB r5])] H)
def zBT (n : Nat) (x0 : Pt) : Option (Bool) :=
  ((qI n x0.Co 1 1000).bind fun r1 => (bif (!r1) then (some false) else (bif x0.Has then (bif (!x0.Up) then (some false) else ((YJ n x0.Hd).bind fun r2 => (some r2))) else (some ((x0.Hd.Root == 0) && ((x0.Hd.Co == 0) && ((x0.Hd.Hops == 0) && ((x0.Hd.Bridge == 0) && ((x0.Hd.Port == 0) && true)))))))))
theorem zKs (n : Nat) (x0 : Pt) (r : Bool) (H : zBT n x0 = some r) : zI Tryz.prog 138 [.val true (CV.frzRow (Pt.row x0))] [.val false [.lit (.bool r)]] [] := by
 refine cW Tryz.func138 (fun g d => sl [g 0,sl [g 1] (cn 15 (sl [g 2] .ret) .skip),sl [g 3] (cn 17 (sl [g 4] .ret) .skip),g 5] .ret) [.tmp 2] fun cx => ?_
 unfold zBT at H
 refine gA 2 2 2 ?_
 refine tS ?_
 refine rA 2 ?_
 obtain ⟨r1,er1,H⟩ := bs H
 refine vA [.rd,.rd,.rd] (qM n x0.Co 1 1000 r1 er1) ?_
 refine lA 2 ?_
 refine sL 130 2 ⟨25,0,[sB 7 (!r1),sA 1 1 8 0],[(1,(Pt.row x0))]⟩ ?_
 cases h1 : (!r1)
 ·have H := zE h1 H
  refine lA 3 ?_
  refine sL 1154 2 ⟨25,0,[sB 10 x0.Has,sB 7 false,sA 1 1 8 0],[(1,(Pt.row x0))]⟩ ?_
  cases h2 : x0.Has
  ·have H := zE h2 H
   refine uA 5 32770 2 ?_
   refine nB_ ?_
   refine tK ?_
   refine tS ?_
   refine gA 2 131074 2 ?_
   refine sT ⟨25,0,[sB 17 x0.Has,sA 1 1 8 0],[(1,(Pt.row x0))]⟩ ?_
   rw [h2]
   refine nB_ ?_
   refine tK ?_
   refine rA 3 ?_
   refine LAt.eqSG false (t := 165) (ty := 165) (ty' := 4) (x := (.tmp 22)) (y := (.tmp 23)) (d := 24) (g := none) ((x0.Hd.Root == 0) && ((x0.Hd.Co == 0) && ((x0.Hd.Hops == 0) && ((x0.Hd.Bridge == 0) && ((x0.Hd.Port == 0) && true))))) _ kr kr kr kr rfl ?_
   refine uA 1 4 0 ?_
   exact te (fJ [(false,[cB ((x0.Hd.Root == 0) && ((x0.Hd.Co == 0) && ((x0.Hd.Hops == 0) && ((x0.Hd.Bridge == 0) && ((x0.Hd.Port == 0) && true)))))])] H)
  have H := zF h2 H
  refine uA 5 32770 2 ?_
  obtain ⟨h3,H⟩ | ⟨h3,H⟩ := bC H
  ·refine nA h3 ?_
   refine tK ?_
   refine tS ?_
   refine gA 2 131074 2 ?_
   refine sT ⟨25,0,[sB 17 x0.Has,sA 1 1 8 0],[(1,(Pt.row x0))]⟩ ?_
   rw [h2]
   refine tB_ ?_
   refine rA 2 ?_
   obtain ⟨r2,er2,H⟩ := bs H
   refine vA [.rd] (zBU n x0.Hd r2 er2) ?_
   refine uA 1 4 0 ?_
   exact te (fJ [(false,[cB r2])] H)
  refine tA h3 ?_
  refine gA 1 4 0 ?_
  exact te (fF H)
 have H := zF h1 H
 refine uA 8 32770 2 ?_
 refine tB_ ?_
 refine gA 1 4 0 ?_
 exact te (fF H)
def zBW (n : Nat) (x0 : zB) : Option (Bool) :=
  ((qI n x0.Tag 1 99).bind fun r1 => (bif r1 then ((qI n x0.Mac 1 9999).bind fun r2 => (bif r2 then ((qI n x0.Port 0 7).bind fun r3 => (bif r3 then ((qI n x0.Age 0 4).bind fun r4 => (bif r4 then (bif (!x0.Sc) then (some true) else (some (x0.Age == 0))) else (some false))) else (some false))) else (some false))) else (some false)))
theorem zDt (n : Nat) (x0 : zB) (r : Bool) (H : zBW n x0 = some r) : zI Tryz.prog 183 [.val true (CV.frzRow (zB.row x0))] [.val false [.lit (.bool r)]] [] := by
 refine cW Tryz.func183 (fun g d => sl [g 0,g 1] .ret) [.tmp 2] fun cx => ?_
 unfold zBW at H
 refine gA 2 2 2 ?_
 refine rA 2 ?_
 obtain ⟨r1,er1,H⟩ := bs H
 refine vA [.rd,.rd,.rd] (qM n x0.Tag 1 99 r1 er1) ?_
 refine lA 1 ?_
 refine sL 66 2 ⟨31,0,[sB 6 r1,sA 1 1 5 0],[(1,(zB.row x0))]⟩ ?_
 cases h1 : r1
 ·have H := zE h1 H
  refine uA 25 4 0 ?_
  exact te (fF H)
 have H := zF h1 H
 refine lA 2 ?_
 obtain ⟨r2,er2,H⟩ := bs H
 refine vA [.rd,.rd,.rd] (qM n x0.Mac 1 9999 r2 er2) ?_
 refine lA 2 ?_
 refine sL 2050 2 ⟨31,0,[sB 11 r2,sA 1 1 5 0],[(1,(zB.row x0))]⟩ ?_
 cases h2 : r2
 ·have H := zE h2 H
  refine uA 20 4 0 ?_
  exact te (fF H)
 have H := zF h2 H
 refine lA 2 ?_
 obtain ⟨r3,er3,H⟩ := bs H
 refine vA [.rd,.rd,.rd] (qM n x0.Port 0 7 r3 er3) ?_
 refine lA 2 ?_
 refine sL 65538 2 ⟨31,0,[sB 16 r3,sA 1 1 5 0],[(1,(zB.row x0))]⟩ ?_
 cases h3 : r3
 ·have H := zE h3 H
  refine uA 15 4 0 ?_
  exact te (fF H)
 have H := zF h3 H
 refine lA 2 ?_
 obtain ⟨r4,er4,H⟩ := bs H
 refine vA [.rd,.rd,.rd] (qM n x0.Age 0 4 r4 er4) ?_
 refine lA 2 ?_
 refine sL 2097154 2 ⟨31,0,[sB 21 r4,sA 1 1 5 0],[(1,(zB.row x0))]⟩ ?_
 cases h4 : r4
 ·have H := zE h4 H
  refine uA 10 4 0 ?_
  exact te (fF H)
 have H := zF h4 H
 refine lA 4 ?_
 refine sL 35651586 2 ⟨31,0,[sB 25 (!x0.Sc),sB 21 true,sA 1 1 5 0],[(1,(zB.row x0))]⟩ ?_
 cases h5 : (!x0.Sc)
 ·have H := zE h5 H
  refine uA 6 4 0 ?_
  exact te (fJ [(false,[cB (x0.Age == 0)])] H)
 have H := zF h5 H
 refine uA 6 4 0 ?_
 exact te (fT H)
def zAE (n : Nat) (x0 : zB) (x1 : Int) (x2 : Int) : Option (Bool) :=
  (bif (decide (x0.Tag > x1)) then (some true) else (bif (x0.Tag == x1) then (some (decide (x0.Mac > x2))) else (some false)))
theorem zJU (n : Nat) (x0 : zB) (x1 : Int) (x2 : Int) (r : Bool) (H : zAE n x0 x1 x2 = some r) : zI Tryz.prog 215 [.val true (CV.frzRow (zB.row x0)),.val false [.lit (.int .i64 x1)],.val false [.lit (.int .i64 x2)]] [.val false [.lit (.bool r)]] [] := by
 refine cW Tryz.func215 (fun g d => sl [g 0,g 1] .ret) [.tmp 6] fun cx => ?_
 unfold zAE at H
 refine gA 2 14 8 ?_
 refine rA 5 ?_
 refine sL 2062 8 ⟨23,0,[sB 11 (decide (x0.Tag > x1)),sA 3 3 5 0,sI 1 x1,sI 2 x2],[(3,(zB.row x0))]⟩ ?_
 cases h1 : (decide (x0.Tag > x1))
 ·have H := zE h1 H
  refine lA 5 ?_
  refine sL 67596 8 ⟨23,0,[sB 16 (x0.Tag == x1),sB 11 false,sA 3 3 5 0,sI 2 x2],[(3,(zB.row x0))]⟩ ?_
  cases h2 : (x0.Tag == x1)
  ·have H := zE h2 H
   refine uA 7 64 0 ?_
   exact te (fF H)
  have H := zF h2 H
  refine uA 7 64 0 ?_
  exact te (fJ [(false,[cB (decide (x0.Mac > x2))])] H)
 have H := zF h1 H
 refine uA 12 64 0 ?_
 exact te (fT H)
def zA0 (n : Nat) (x0 : (List zB)) : Option (Bool) :=
  (some (decide ((x0.length : Int) ≤ 12)))
def QC (n : Nat) : Nat → (List zB) → Int → Option ((Unit) ⊕ (Bool))
  | 0,_,_ => none
  | mo2 + 1,x0,y1 => (bif (decide (y1 < (x0.length : Int))) then ((idx x0 y1).bind fun v3 => ((zBW n v3).bind fun r4 => (bif (!r4) then (some (Sum.inr false)) else (bif (decide (y1 > 0)) then ((idx x0 (IntKind.wrap .i64 (y1 - 1))).bind fun v5 => ((idx x0 (IntKind.wrap .i64 (y1 - 1))).bind fun v6 => ((zAE n v3 v5.Tag v6.Mac).bind fun r7 => (bif (!r7) then (some (Sum.inr false)) else (QC n mo2 x0 (IntKind.wrap .i64 (y1 + 1))))))) else (QC n mo2 x0 (IntKind.wrap .i64 (y1 + 1))))))) else (some (Sum.inl ())))
def zAq (n : Nat) (x0 : (List zB)) : Option (Bool) :=
  ((QC n n x0 0).bind fun o => match o with | .inl _ => (zA0 n x0) | .inr r => some r)
def zMW : Tab := ⟨24,[0,1,2,6,8,24,40,64,64,64,576,1344,2112,4160,64,64,32832,81984,131136,262208,532672,1048640,2097224,4194312],[0,1,2,4,8,24,40,64,64,64,576,1344,2112,4160,64,64,32832,81984,131136,262208,532672,1048640,2097224,4194312],[0,1,3,7,15,31,63,127,127,127,639,1919,3967,8063,127,127,32895,114815,245887,508031,1048575,2097151,4194303,8388607]⟩
theorem Zb : za (rg Tryz.f139 4) zMW = true := kr
theorem zKG (n : Nat) (x0 : (List zB)) (r : Bool) (H : zAq n x0 = some r) : zI Tryz.prog 139 [.val false [.sl false 5 (CV.frzEs (x0.map zB.row))]] [.val false [.lit (.bool r)]] [] := by
 refine cW Tryz.func139 (fun g d => sl [g 0,sl [g 1] (.block 0 (.loop (sl [g 2,cn 8 .skip (.exit 0),.block 1 (sl [g 3,d 4] (cn 35 (sl [g 5] .ret) .skip))] (g 6)))),g 7] .ret) [.tmp 2] fun cx => ?_
 unfold zAq at H
 refine gA 1 1 0 ?_
 refine tS ?_
 refine rA 1 ?_
 refine kF x0 zB.row ?_
 refine uA 1 225 0 ?_
 obtain ⟨o2,eo2,Ho2⟩ := bs H
 clear H
 refine Tr.mid (ι := Unit) (fun v => ⟨40,0,[sC 0 (cF 5 x0 zB.row)],[]⟩) (fun v => zA0 n x0 = some r) ?_ ?_
 ·refine tB ?_
  refine Tr.loop (ι := Nat × (Int)) (fun v => ⟨40,0,[sI 7 v.2,sI 6 (x0.length : Int),sC 5 (cF 5 x0 zB.row),sC 0 (cF 5 x0 zB.row)],[]⟩) (fun v => QC n v.1 x0 v.2 = some o2) (fun v => v.1) (n,0) eo2 (St.sub_of [7,6,5,0] [] kr) ?_
  rintro ⟨mo2,y1⟩ H
  have H : QC n mo2 x0 y1 = some o2 := H
  obtain _ | mo2 := mo2
  ·exact nN H
  rw [QC] at H
  refine gA 1 481 0 ?_
  refine tS ?_
  obtain ⟨h1,H⟩ | ⟨h1,H⟩ := bC H
  ·refine nA h1 ?_
   refine Tr.exit ?_
   refine aJ ?_
   obtain rfl := si H
   have H := Ho2
   dsimp only at H
   exact jA () H [0] []
  refine tA h1 ?_
  refine tK ?_
  refine tS ?_
  refine tB ?_
  refine rA 1 ?_
  obtain ⟨v3,ev3,H⟩ := bs H
  refine iA zB.row ev3 ?_
  refine uA 4 249 16 ?_
  obtain ⟨r4,er4,H⟩ := bs H
  refine sT ⟨40,0,[sI 3 y1,sA 4 4 5 0,sI 7 y1,sI 6 (x0.length : Int),sC 5 (cF 5 x0 zB.row),sC 0 (cF 5 x0 zB.row)],[(4,(zB.row v3))]⟩ ?_
  cases h2 : (!r4)
  ·have H := zE h2 H
   refine sT ⟨40,0,[sI 3 y1,sA 4 4 5 0,sI 7 y1,sI 6 (x0.length : Int),sC 5 (cF 5 x0 zB.row),sC 0 (cF 5 x0 zB.row)],[(4,(zB.row v3))]⟩ ?_
   cases h3 : (decide (y1 > 0))
   ·have H := zE h3 H
    refine Tr.draws mixed 24 kr ⟨40,0,[sB 35 false,sI 7 y1,sI 6 (x0.length : Int),sC 5 (cF 5 x0 zB.row),sC 0 (cF 5 x0 zB.row)],[]⟩ (fun cx => ?_) ?_
    ·refine mA Zb [(0,[1])] 23 [⟨[1],169,4,12⟩] fun cx => ?_
     refine mC Zb 1 ?_
     refine vA [.rd] (zDt n v3 r4 er4) ?_
     refine fA ?_
     refine mA Zb [(2,[]),(3,[])] 20 [⟨[1],169,4,12⟩] fun cx => ?_
     refine sA_ 37113 16 ⟨40,0,[sB 15 (!r4),sV 12 (zB.row v3),sI 3 y1,sA 4 4 5 0,sI 7 y1,sI 6 (x0.length : Int),sC 5 (cF 5 x0 zB.row),sC 0 (cF 5 x0 zB.row)],[(4,(zB.row v3))]⟩ ?_
     rw [h2]
     refine mA Zb [(4,[]),(5,[]),(6,[])] 17 [⟨[1],169,4,12⟩] fun cx => ?_
     refine sA_ 299257 16 ⟨40,0,[sB 18 (decide (y1 > 0)),sB 15 false,sV 12 (zB.row v3),sI 3 y1,sA 4 4 5 0,sI 7 y1,sI 6 (x0.length : Int),sC 5 (cF 5 x0 zB.row),sC 0 (cF 5 x0 zB.row)],[(4,(zB.row v3))]⟩ ?_
     rw [h3]
     refine mA Zb [(7,[]),(8,[]),(9,[]),(10,[]),(11,[]),(12,[]),(13,[]),(14,[]),(15,[]),(16,[]),(17,[]),(18,[]),(19,[]),(20,[]),(21,[]),(22,[]),(23,[])] 0 [⟨[1],169,4,12⟩] fun cx => ?_
     exact mE Zb [35,7,6,5,0] []
    refine nB_ ?_
    refine tK ?_
    refine eA 2 225 0 ?_
    exact jB mo2 (IntKind.wrap .i64 (y1 + 1)) H [7,6,5,0] []
   have H := zF h3 H
   obtain ⟨v5,ev5,H⟩ := bs H
   obtain ⟨v6,ev6,H⟩ := bs H
   obtain ⟨r7,er7,H⟩ := bs H
   refine Tr.draws mixed 24 kr ⟨40,0,[sB 35 (!r7),sI 7 y1,sI 6 (x0.length : Int),sC 5 (cF 5 x0 zB.row),sC 0 (cF 5 x0 zB.row)],[]⟩ (fun cx => ?_) ?_
   ·refine mA Zb [(0,[1,20])] 23 [⟨[1,20],169,4,12⟩] fun cx => ?_
    refine mC Zb 1 ?_
    refine vA [.rd] (zDt n v3 r4 er4) ?_
    refine fA ?_
    refine mA Zb [(2,[]),(3,[])] 20 [⟨[1,20],169,4,12⟩] fun cx => ?_
    refine sA_ 37113 16 ⟨40,0,[sB 15 (!r4),sV 12 (zB.row v3),sI 3 y1,sA 4 4 5 0,sI 7 y1,sI 6 (x0.length : Int),sC 5 (cF 5 x0 zB.row),sC 0 (cF 5 x0 zB.row)],[(4,(zB.row v3))]⟩ ?_
    rw [h2]
    refine mA Zb [(4,[]),(5,[]),(6,[])] 17 [⟨[1,20],169,4,12⟩] fun cx => ?_
    refine sA_ 299257 16 ⟨40,0,[sB 18 (decide (y1 > 0)),sB 15 false,sV 12 (zB.row v3),sI 3 y1,sA 4 4 5 0,sI 7 y1,sI 6 (x0.length : Int),sC 5 (cF 5 x0 zB.row),sC 0 (cF 5 x0 zB.row)],[(4,(zB.row v3))]⟩ ?_
    rw [h3]
    refine mA Zb [(7,[20]),(8,[]),(9,[]),(10,[])] 13 [⟨[20],169,4,19⟩,⟨[1,20],169,4,12⟩] fun cx => ?_
    refine iN Zb 11 zB.row ev5 fun cx => ?_
    refine mA Zb [(12,[]),(13,[]),(14,[]),(15,[]),(16,[])] 7 [⟨[20],169,4,19⟩,⟨[1,20],169,4,12⟩] fun cx => ?_
    refine iN Zb 17 zB.row ev6 fun cx => ?_
    refine mA Zb [(18,[]),(19,[])] 4 [⟨[20],169,4,19⟩,⟨[1,20],169,4,12⟩] fun cx => ?_
    refine mC Zb 20 ?_
    refine vA [.rd,.rd,.rd] (zJU n v3 v5.Tag v6.Mac r7 er7) ?_
    refine fA ?_
    refine mA Zb [(21,[]),(22,[]),(23,[])] 0 [⟨[20],169,4,19⟩,⟨[1,20],169,4,12⟩] fun cx => ?_
    exact mE Zb [35,7,6,5,0] []
   refine sT ⟨40,0,[sB 35 (!r7),sI 7 y1,sI 6 (x0.length : Int),sC 5 (cF 5 x0 zB.row),sC 0 (cF 5 x0 zB.row)],[]⟩ ?_
   cases h4 : (!r7)
   ·have H := zE h4 H
    refine nB_ ?_
    refine tK ?_
    refine eA 2 225 0 ?_
    exact jB mo2 (IntKind.wrap .i64 (y1 + 1)) H [7,6,5,0] []
   have H := zF h4 H
   refine tB_ ?_
   refine gA 1 4 0 ?_
   refine te ?_
   obtain rfl := si H
   have H := Ho2
   dsimp only at H
   exact fF H
  have H := zF h2 H
  refine Tr.draws mixed 24 kr ⟨40,0,[sB 35 true,sI 7 y1,sI 6 (x0.length : Int),sC 5 (cF 5 x0 zB.row),sC 0 (cF 5 x0 zB.row)],[]⟩ (fun cx => ?_) ?_
  ·refine mA Zb [(0,[1])] 23 [⟨[1],169,4,12⟩] fun cx => ?_
   refine mC Zb 1 ?_
   refine vA [.rd] (zDt n v3 r4 er4) ?_
   refine fA ?_
   refine mA Zb [(2,[]),(3,[])] 20 [⟨[1],169,4,12⟩] fun cx => ?_
   refine sA_ 37113 16 ⟨40,0,[sB 15 (!r4),sV 12 (zB.row v3),sI 3 y1,sA 4 4 5 0,sI 7 y1,sI 6 (x0.length : Int),sC 5 (cF 5 x0 zB.row),sC 0 (cF 5 x0 zB.row)],[(4,(zB.row v3))]⟩ ?_
   rw [h2]
   refine mA Zb [(4,[]),(5,[]),(6,[]),(7,[]),(8,[]),(9,[]),(10,[]),(11,[]),(12,[]),(13,[]),(14,[]),(15,[]),(16,[]),(17,[]),(18,[]),(19,[]),(20,[]),(21,[]),(22,[]),(23,[])] 0 [⟨[1],169,4,12⟩] fun cx => ?_
   exact mE Zb [35,7,6,5,0] []
  refine tB_ ?_
  refine gA 1 4 0 ?_
  refine te ?_
  obtain rfl := si H
  have H := Ho2
  dsimp only at H
  exact fF H
 rintro _ H
 have H : (zA0 n x0) = some r := H
 unfold zA0 at H
 refine rA 1 ?_
 refine kF x0 zB.row ?_
 refine uA 2 4 0 ?_
 exact te (fJ [(false,[cB (decide ((x0.length : Int) ≤ 12))])] H)
def QT (n : Nat) (x0 : Int) : Option (Int) :=
  (bif (decide ((0 : Int) ≤ x0)) then (some (IntKind.wrap .i64 ((IntKind.wrap .i64 (1 * 2 ^ min ((x0 : Int)).toNat (IntKind.bits .i64))) - 1))) else none)
theorem zA4 (n : Nat) (x0 : Int) (r : Int) (H : QT n x0 = some r) : zI Tryz.prog 216 [.val false [.lit (.int .i64 x0)]] [.val false [.lit (.int .i64 r)]] [] := by
 refine cW Tryz.func216 (fun g d => sl [g 0,g 1] .ret) [.tmp 2] fun cx => ?_
 unfold QT at H
 refine gA 1 1 0 ?_
 refine rA 1 ?_
 obtain ⟨hg1,H⟩ := gs H
 refine LAt.binC tOk (op := .shl) (t := 3) (ty := 3) (ty' := 3) (x := (.const (.int .i64 1))) (y := (.tmp 3)) (d := 4) (g := none) (.int .i64 1) (.int .i64 x0) (.int .i64 (IntKind.wrap .i64 (1 * 2 ^ min ((x0 : Int)).toNat (IntKind.bits .i64)))) _ kr kr kr kr kr (φ := (0 : Int) ≤ x0) kr (of_decide_eq_true hg1) rfl ?_
 refine uA 2 4 0 ?_
 exact te (fJ [(false,[cI (IntKind.wrap .i64 ((IntKind.wrap .i64 (1 * 2 ^ min ((x0 : Int)).toNat (IntKind.bits .i64))) - 1))])] H)
def zA1 (n : Nat) : Option (Int) :=
  (some (-1))
def Q9 (n : Nat) : Nat → zJ → Int → Int → Option ((Unit) ⊕ (Int))
  | 0,_,_,_ => none
  | mo2 + 1,x0,x1,y1 => (bif (decide (y1 < (x0.Rows.length : Int))) then ((idx x0.Rows y1).bind fun v3 => (bif (v3.Id == x1) then (some (Sum.inr y1)) else (Q9 n mo2 x0 x1 (IntKind.wrap .i64 (y1 + 1))))) else (some (Sum.inl ())))
def zAr (n : Nat) (x0 : zJ) (x1 : Int) : Option (Int) :=
  ((Q9 n n x0 x1 0).bind fun o => match o with | .inl _ => (zA1 n) | .inr r => some r)
theorem zKH (n : Nat) (x0 : zJ) (x1 : Int) (r : Int) (H : zAr n x0 x1 = some r) : zI Tryz.prog 142 [.val true (CV.frzRow (zJ.row x0)),.val false [.lit (.int .i64 x1)]] [.val false [.lit (.int .i64 r)]] [] := by
 refine cW Tryz.func142 (fun g d => sl [g 0,sl [g 1] (.block 0 (.loop (sl [g 2,cn 11 .skip (.exit 0),.block 1 (sl [g 3,g 4] (cn 18 (sl [g 5] .ret) .skip))] (g 6)))),g 7] .ret) [.tmp 4] fun cx => ?_
 unfold zAr at H
 refine gA 2 6 4 ?_
 refine tS ?_
 refine rA 2 ?_
 refine kF x0.Rows zC.row ?_
 refine uA 1 1794 0 ?_
 obtain ⟨o2,eo2,Ho2⟩ := bs H
 clear H
 refine Tr.mid (ι := Unit) (fun v => ⟨21,0,[],[]⟩) (fun v => zA1 n = some r) ?_ ?_
 ·refine tB ?_
  refine Tr.loop (ι := Nat × (Int)) (fun v => ⟨21,0,[sI 10 v.2,sI 9 (x0.Rows.length : Int),sC 8 (cF 3 x0.Rows zC.row),sI 1 x1],[]⟩) (fun v => Q9 n v.1 x0 x1 v.2 = some o2) (fun v => v.1) (n,0) eo2 (St.sub_of [10,9,8,1] [] kr) ?_
  rintro ⟨mo2,y1⟩ H
  have H : Q9 n mo2 x0 x1 y1 = some o2 := H
  obtain _ | mo2 := mo2
  ·exact nN H
  rw [Q9] at H
  refine gA 1 3842 0 ?_
  refine tS ?_
  obtain ⟨h1,H⟩ | ⟨h1,H⟩ := bC H
  ·refine nA h1 ?_
   refine Tr.exit ?_
   refine aJ ?_
   obtain rfl := si H
   have H := Ho2
   dsimp only at H
   exact jA () H [] []
  refine tA h1 ?_
  refine tK ?_
  refine tS ?_
  refine tB ?_
  refine rA 1 ?_
  obtain ⟨v3,ev3,H⟩ := bs H
  refine iA zC.row ev3 ?_
  refine uA 4 1890 64 ?_
  refine gA 4 263970 0 ?_
  obtain ⟨h2,H⟩ | ⟨h2,H⟩ := bC H
  ·refine nA h2 ?_
   refine tK ?_
   refine eA 2 1794 0 ?_
   exact jB mo2 (IntKind.wrap .i64 (y1 + 1)) H [10,9,8,1] []
  refine tA h2 ?_
  refine gA 2 16 0 ?_
  refine te ?_
  obtain rfl := si H
  have H := Ho2
  dsimp only at H
  exact fJ [(false,[cI y1])] H
 rintro _ H
 have H : (zA1 n) = some r := H
 unfold zA1 at H
 refine gA 1 16 0 ?_
 exact te (fJ [(false,[cI (-1)])] H)
def zAW (n : Nat) : Option (Bool) :=
  (some true)
def QS (n : Nat) : Nat → zJ → Int → Option ((Unit) ⊕ (Bool))
  | 0,_,_ => none
  | mo4 + 1,x0,y3 => (bif (decide (y3 < (x0.Pv.length : Int))) then ((idx x0.Pv y3).bind fun v5 => ((zAr n x0 v5).bind fun r6 => (bif (decide (r6 < 0)) then (some (Sum.inr false)) else (QS n mo4 x0 (IntKind.wrap .i64 (y3 + 1)))))) else (some (Sum.inl ())))
def JA (n : Nat) (x0 : zJ) : Option (Bool) :=
  ((QS n n x0 0).bind fun o => match o with | .inl _ => (zAW n) | .inr r => some r)
def Zs (n : Nat) : Nat → zJ → Int → Int → Option ((Unit) ⊕ (Bool))
  | 0,_,_,_ => none
  | mo7 + 1,x0,x1,y2 => (bif (decide (y2 < (x0.Rows.length : Int))) then ((idx x0.Rows y2).bind fun v8 => ((qI n v8.Id 1 99).bind fun r9 => (bif (!r9) then (some (Sum.inr false)) else (bif (decide (y2 > 0)) then ((idx x0.Rows (IntKind.wrap .i64 (y2 - 1))).bind fun v12 => (bif (decide (v12.Id ≥ v8.Id)) then (some (Sum.inr false)) else ((QT n x1).bind fun r13 => ((qI n v8.Members 0 r13).bind fun r14 => (bif (!r14) then (some (Sum.inr false)) else (bif ((IntKind.wrap .i64 (BitVec.ofInt (IntKind.bits .i64) v8.Bare &&& ~~~BitVec.ofInt (IntKind.bits .i64) v8.Members).toNat) != 0) then (some (Sum.inr false)) else (Zs n mo7 x0 x1 (IntKind.wrap .i64 (y2 + 1))))))))) else ((QT n x1).bind fun r10 => ((qI n v8.Members 0 r10).bind fun r11 => (bif (!r11) then (some (Sum.inr false)) else (bif ((IntKind.wrap .i64 (BitVec.ofInt (IntKind.bits .i64) v8.Bare &&& ~~~BitVec.ofInt (IntKind.bits .i64) v8.Members).toNat) != 0) then (some (Sum.inr false)) else (Zs n mo7 x0 x1 (IntKind.wrap .i64 (y2 + 1))))))))))) else (some (Sum.inl ())))
def zAD (n : Nat) (x0 : zJ) (x1 : Int) : Option (Bool) :=
  ((qI n x1 1 6).bind fun r1 => (bif (!r1) then (some false) else (bif ((x0.Pv.length : Int) != x1) then (some false) else (bif (decide ((x0.Rows.length : Int) > 6)) then (some false) else ((Zs n n x0 x1 0).bind fun o => match o with | .inl _ => (JA n x0) | .inr r => some r)))))
def zMX : Tab := ⟨36,[0,1,2,4,12,16,48,80,128,384,128,1152,2688,4224,8320,128,32896,82048,131216,262160,524416,1048576,3145728,1048576,9437184,22020096,34603008,68157440,167772160,268435456,805306368,268435456,2415919104,5637144576,8858370048,17448304640],[0,1,2,4,8,16,48,80,128,384,128,1152,2688,4224,8320,128,32896,82048,131216,262160,524288,1048576,3145728,1048576,9437184,22020096,34603008,68157440,134217728,268435456,805306368,268435456,2415919104,5637144576,8858370048,17448304640],[0,1,3,7,15,31,63,127,255,511,255,1279,4095,8191,16383,255,33023,131071,262143,524287,1048575,2097151,4194303,2097151,10485759,33554431,67108863,134217727,268435455,536870911,1073741823,536870911,2684354559,8589934591,17179869183,34359738367]⟩
theorem zZ : za (rg Tryz.f140 6) zMX = true := kr
theorem zHW (n : Nat) (x1 : Int) (r13 : Int) (v8 : zC) (r14 : Bool) (y2 : Int) (x0 : zJ) (er13 : (QT n x1) = some r13) (er14 : (qI n v8.Members 0 r13) = some r14) (h12 : (!r14) = false) (cx : Cx) : AT Tryz.prog cx (rg Tryz.f140 6) [⟨[24,25],3,48,49⟩,⟨[24,25],37,41,42⟩,⟨[2,24,25],3,33,34⟩] 15 [20,19,18,17,16,15,14,13,12,11,10,9,8,7,6,5,4,3,2,1,0] ⟨82,0,[sB 53 false,sI 49 v8.Id,sA 48 6 3 0,sR 42 2 2 0 1 false,sA 41 2 2 0,sI 34 v8.Id,sA 33 6 3 0,sA 6 6 3 0,sI 28 y2,sI 27 (x0.Rows.length : Int),sC 26 (cF 3 x0.Rows zC.row),sA 2 2 2 0,sI 1 x1],[(6,(zC.row v8)),(2,(CV.frzRow (zJ.row x0)))]⟩ (fun s => s = ⟨82,0,[sB 68 ((IntKind.wrap .i64 (BitVec.ofInt (IntKind.bits .i64) v8.Bare &&& ~~~BitVec.ofInt (IntKind.bits .i64) v8.Members).toNat) != 0),sI 28 y2,sI 27 (x0.Rows.length : Int),sC 26 (cF 3 x0.Rows zC.row),sA 2 2 2 0,sI 1 x1],[(2,(CV.frzRow (zJ.row x0)))]⟩) := by
 refine mA zZ [(21,[]),(22,[25]),(23,[])] 12 [⟨[25],3,54,55⟩,⟨[24,25],3,48,49⟩,⟨[24,25],37,41,42⟩,⟨[2,24,25],3,33,34⟩] fun cx => ?_
 refine mC zZ 24 ?_
 refine vA [.rd] (zA4 n x1 r13 er13) ?_
 refine fA ?_
 refine mC zZ 25 ?_
 refine vA [.rd,.rd,.rd] (qM n v8.Members 0 r13 r14 er14) ?_
 refine fA ?_
 refine mA zZ [(26,[]),(27,[]),(28,[])] 7 [⟨[25],3,54,55⟩,⟨[24,25],3,48,49⟩,⟨[24,25],37,41,42⟩,⟨[2,24,25],3,33,34⟩] fun cx => ?_
 refine sA_ 0x20c306061c000046 68 ⟨82,0,[sB 61 (!r14),sI 55 v8.Members,sA 54 6 3 1,sI 49 v8.Id,sA 48 6 3 0,sR 42 2 2 0 1 false,sA 41 2 2 0,sI 34 v8.Id,sA 33 6 3 0,sA 6 6 3 0,sI 28 y2,sI 27 (x0.Rows.length : Int),sC 26 (cF 3 x0.Rows zC.row),sA 2 2 2 0,sI 1 x1],[(6,(zC.row v8)),(2,(CV.frzRow (zJ.row x0)))]⟩ ?_
 rw [h12]
 refine mA zZ [(29,[]),(30,[]),(31,[]),(32,[]),(33,[]),(34,[]),(35,[])] 0 [⟨[],3,64,65⟩,⟨[],3,62,63⟩,⟨[25],3,54,55⟩,⟨[24,25],3,48,49⟩,⟨[24,25],37,41,42⟩,⟨[2,24,25],3,33,34⟩] fun cx => ?_
 exact mE zZ [68,28,27,26,2,1] [2]
theorem zHX (n : Nat) (x1 : Int) (r13 : Int) (v8 : zC) (r14 : Bool) (y2 : Int) (x0 : zJ) (er13 : (QT n x1) = some r13) (er14 : (qI n v8.Members 0 r13) = some r14) (h12 : (!r14) = true) (cx : Cx) : AT Tryz.prog cx (rg Tryz.f140 6) [⟨[24,25],3,48,49⟩,⟨[24,25],37,41,42⟩,⟨[2,24,25],3,33,34⟩] 15 [20,19,18,17,16,15,14,13,12,11,10,9,8,7,6,5,4,3,2,1,0] ⟨82,0,[sB 53 false,sI 49 v8.Id,sA 48 6 3 0,sR 42 2 2 0 1 false,sA 41 2 2 0,sI 34 v8.Id,sA 33 6 3 0,sA 6 6 3 0,sI 28 y2,sI 27 (x0.Rows.length : Int),sC 26 (cF 3 x0.Rows zC.row),sA 2 2 2 0,sI 1 x1],[(6,(zC.row v8)),(2,(CV.frzRow (zJ.row x0)))]⟩ (fun s => s = ⟨82,0,[sB 68 true,sI 28 y2,sI 27 (x0.Rows.length : Int),sC 26 (cF 3 x0.Rows zC.row),sA 2 2 2 0,sI 1 x1],[(2,(CV.frzRow (zJ.row x0)))]⟩) := by
 refine mA zZ [(21,[]),(22,[25]),(23,[])] 12 [⟨[25],3,54,55⟩,⟨[24,25],3,48,49⟩,⟨[24,25],37,41,42⟩,⟨[2,24,25],3,33,34⟩] fun cx => ?_
 refine mC zZ 24 ?_
 refine vA [.rd] (zA4 n x1 r13 er13) ?_
 refine fA ?_
 refine mC zZ 25 ?_
 refine vA [.rd,.rd,.rd] (qM n v8.Members 0 r13 r14 er14) ?_
 refine fA ?_
 refine mA zZ [(26,[]),(27,[]),(28,[])] 7 [⟨[25],3,54,55⟩,⟨[24,25],3,48,49⟩,⟨[24,25],37,41,42⟩,⟨[2,24,25],3,33,34⟩] fun cx => ?_
 refine sA_ 0x20c306061c000046 68 ⟨82,0,[sB 61 (!r14),sI 55 v8.Members,sA 54 6 3 1,sI 49 v8.Id,sA 48 6 3 0,sR 42 2 2 0 1 false,sA 41 2 2 0,sI 34 v8.Id,sA 33 6 3 0,sA 6 6 3 0,sI 28 y2,sI 27 (x0.Rows.length : Int),sC 26 (cF 3 x0.Rows zC.row),sA 2 2 2 0,sI 1 x1],[(6,(zC.row v8)),(2,(CV.frzRow (zJ.row x0)))]⟩ ?_
 rw [h12]
 refine mA zZ [(29,[]),(30,[]),(31,[]),(32,[]),(33,[]),(34,[]),(35,[])] 0 [⟨[25],3,54,55⟩,⟨[24,25],3,48,49⟩,⟨[24,25],37,41,42⟩,⟨[2,24,25],3,33,34⟩] fun cx => ?_
 exact mE zZ [68,28,27,26,2,1] [2]
theorem zHY (n : Nat) (v8 : zC) (y2 : Int) (x0 : zJ) (x1 : Int) (cx : Cx) : AT Tryz.prog cx (rg Tryz.f140 6) [⟨[],3,48,49⟩,⟨[],37,41,42⟩,⟨[2],3,33,34⟩] 15 [20,19,18,17,16,15,14,13,12,11,10,9,8,7,6,5,4,3,2,1,0] ⟨82,0,[sB 53 true,sI 49 v8.Id,sA 48 6 3 0,sR 42 2 2 0 1 false,sA 41 2 2 0,sI 34 v8.Id,sA 33 6 3 0,sA 6 6 3 0,sI 28 y2,sI 27 (x0.Rows.length : Int),sC 26 (cF 3 x0.Rows zC.row),sA 2 2 2 0,sI 1 x1],[(6,(zC.row v8)),(2,(CV.frzRow (zJ.row x0)))]⟩ (fun s => s = ⟨82,0,[sB 68 true,sI 28 y2,sI 27 (x0.Rows.length : Int),sC 26 (cF 3 x0.Rows zC.row),sA 2 2 2 0,sI 1 x1],[(2,(CV.frzRow (zJ.row x0)))]⟩) := by
 refine mA zZ [(21,[]),(22,[]),(23,[]),(24,[]),(25,[]),(26,[]),(27,[]),(28,[]),(29,[]),(30,[]),(31,[]),(32,[]),(33,[]),(34,[]),(35,[])] 0 [⟨[],3,48,49⟩,⟨[],37,41,42⟩,⟨[2],3,33,34⟩] fun cx => ?_
 exact mE zZ [68,28,27,26,2,1] [2]
theorem zJT (n : Nat) (x0 : zJ) (x1 : Int) (r : Bool) (H : zAD n x0 x1 = some r) : zI Tryz.prog 140 [.val true (CV.frzRow (zJ.row x0)),.val false [.lit (.int .i64 x1)]] [.val false [.lit (.bool r)]] [] := by
 refine cW Tryz.func140 (fun g d => sl [g 0,sl [g 1] (cn 24 (sl [g 2] .ret) .skip),sl [g 3] (.block 0 (.loop (sl [g 4,cn 29 .skip (.exit 0),.block 1 (sl [g 5,d 6] (cn 68 (sl [g 7] .ret) .skip))] (g 8)))),sl [g 9] (.block 2 (.loop (sl [g 10,cn 74 .skip (.exit 2),.block 3 (sl [g 11,g 12] (cn 80 (sl [g 13] .ret) .skip))] (g 14)))),g 15] .ret) [.tmp 4] fun cx => ?_
 unfold zAD at H
 refine gA 2 6 4 ?_
 refine tS ?_
 refine rA 1 ?_
 obtain ⟨r1,er1,H⟩ := bs H
 refine vA [.rd,.rd,.rd] (qM n x1 1 6 r1 er1) ?_
 refine lA 2 ?_
 refine sL 4102 4 ⟨82,0,[sB 12 (!r1),sA 2 2 2 0,sI 1 x1],[(2,(CV.frzRow (zJ.row x0)))]⟩ ?_
 cases h1 : (!r1)
 ·have H := zE h1 H
  refine lA 2 ?_
  refine kF x0.Pv intRow ?_
  refine lA 4 ?_
  refine sL 524294 4 ⟨82,0,[sB 19 ((x0.Pv.length : Int) != x1),sA 2 2 2 0,sI 1 x1],[(2,(CV.frzRow (zJ.row x0)))]⟩ ?_
  cases h2 : ((x0.Pv.length : Int) != x1)
  ·have H := zE h2 H
   refine lA 2 ?_
   refine kF x0.Rows zC.row ?_
   refine uA 2 16777222 4 ?_
   obtain ⟨h3,H⟩ | ⟨h3,H⟩ := bC H
   ·refine nA h3 ?_
    refine tK ?_
    refine tS ?_
    refine rA 2 ?_
    refine kF x0.Rows zC.row ?_
    refine uA 1 469762054 4 ?_
    obtain ⟨o7,eo7,Ho7⟩ := bs H
    clear H
    refine Tr.mid (ι := Unit) (fun v => ⟨82,0,[sA 2 2 2 0],[(2,(CV.frzRow (zJ.row x0)))]⟩) (fun v => JA n x0 = some r) ?_ ?_
    ·refine tB ?_
     refine Tr.loop (ι := Nat × (Int)) (fun v => ⟨82,0,[sI 28 v.2,sI 27 (x0.Rows.length : Int),sC 26 (cF 3 x0.Rows zC.row),sA 2 2 2 0,sI 1 x1],[(2,(CV.frzRow (zJ.row x0)))]⟩) (fun v => Zs n v.1 x0 x1 v.2 = some o7) (fun v => v.1) (n,0) eo7 (St.sub_of [28,27,26,2,1] [2] kr) ?_
     rintro ⟨mo7,y2⟩ H
     have H : Zs n mo7 x0 x1 y2 = some o7 := H
     obtain _ | mo7 := mo7
     ·exact nN H
     rw [Zs] at H
     refine gA 1 1006632966 4 ?_
     refine tS ?_
     obtain ⟨h6,H⟩ | ⟨h6,H⟩ := bC H
     ·refine nA h6 ?_
      refine Tr.exit ?_
      refine aJ ?_
      obtain rfl := si H
      have H := Ho7
      dsimp only at H
      exact jA () H [2] [2]
     refine tA h6 ?_
     refine tK ?_
     refine tS ?_
     refine tB ?_
     refine rA 1 ?_
     obtain ⟨v8,ev8,H⟩ := bs H
     refine iA zC.row ev8 ?_
     refine uA 4 469762150 68 ?_
     obtain ⟨r9,er9,H⟩ := bs H
     refine sT ⟨82,0,[sI 5 y2,sA 6 6 3 0,sI 28 y2,sI 27 (x0.Rows.length : Int),sC 26 (cF 3 x0.Rows zC.row),sA 2 2 2 0,sI 1 x1],[(6,(zC.row v8)),(2,(CV.frzRow (zJ.row x0)))]⟩ ?_
     cases h7 : (!r9)
     ·have H := zE h7 H
      refine sT ⟨82,0,[sI 5 y2,sA 6 6 3 0,sI 28 y2,sI 27 (x0.Rows.length : Int),sC 26 (cF 3 x0.Rows zC.row),sA 2 2 2 0,sI 1 x1],[(6,(zC.row v8)),(2,(CV.frzRow (zJ.row x0)))]⟩ ?_
      cases h8 : (decide (y2 > 0))
      ·have H := zE h8 H
       obtain ⟨r10,er10,H⟩ := bs H
       obtain ⟨r11,er11,H⟩ := bs H
       refine sT ⟨82,0,[sI 5 y2,sA 6 6 3 0,sI 28 y2,sI 27 (x0.Rows.length : Int),sC 26 (cF 3 x0.Rows zC.row),sA 2 2 2 0,sI 1 x1],[(6,(zC.row v8)),(2,(CV.frzRow (zJ.row x0)))]⟩ ?_
       cases h9 : (!r11)
       ·have H := zE h9 H
        refine Tr.draws mixed 36 kr ⟨82,0,[sB 68 ((IntKind.wrap .i64 (BitVec.ofInt (IntKind.bits .i64) v8.Bare &&& ~~~BitVec.ofInt (IntKind.bits .i64) v8.Members).toNat) != 0),sI 28 y2,sI 27 (x0.Rows.length : Int),sC 26 (cF 3 x0.Rows zC.row),sA 2 2 2 0,sI 1 x1],[(2,(CV.frzRow (zJ.row x0)))]⟩ (fun cx => ?_) ?_
        ·refine mA zZ [(0,[]),(1,[2,24,25])] 34 [⟨[2,24,25],3,33,34⟩] fun cx => ?_
         refine mC zZ 2 ?_
         refine vA [.rd,.rd,.rd] (qM n v8.Id 1 99 r9 er9) ?_
         refine fA ?_
         refine mA zZ [(3,[]),(4,[])] 31 [⟨[2,24,25],3,33,34⟩] fun cx => ?_
         refine sA_ 163678519398 68 ⟨82,0,[sB 37 (!r9),sI 34 v8.Id,sA 33 6 3 0,sI 5 y2,sA 6 6 3 0,sI 28 y2,sI 27 (x0.Rows.length : Int),sC 26 (cF 3 x0.Rows zC.row),sA 2 2 2 0,sI 1 x1],[(6,(zC.row v8)),(2,(CV.frzRow (zJ.row x0)))]⟩ ?_
         rw [h7]
         refine mA zZ [(5,[]),(6,[]),(7,[])] 28 [⟨[2,24,25],3,33,34⟩] fun cx => ?_
         refine sA_ 1263190147174 68 ⟨82,0,[sB 40 (decide (y2 > 0)),sB 37 false,sI 34 v8.Id,sA 33 6 3 0,sI 5 y2,sA 6 6 3 0,sI 28 y2,sI 27 (x0.Rows.length : Int),sC 26 (cF 3 x0.Rows zC.row),sA 2 2 2 0,sI 1 x1],[(6,(zC.row v8)),(2,(CV.frzRow (zJ.row x0)))]⟩ ?_
         rw [h8]
         refine mA zZ [(8,[]),(9,[]),(10,[]),(11,[]),(12,[]),(13,[]),(14,[]),(15,[]),(16,[]),(17,[]),(18,[]),(19,[]),(20,[]),(21,[]),(22,[25]),(23,[])] 12 [⟨[25],3,54,55⟩,⟨[2,24,25],3,33,34⟩] fun cx => ?_
         refine mC zZ 24 ?_
         refine vA [.rd] (zA4 n x1 r10 er10) ?_
         refine fA ?_
         refine mC zZ 25 ?_
         refine vA [.rd,.rd,.rd] (qM n v8.Members 0 r10 r11 er11) ?_
         refine fA ?_
         refine mA zZ [(26,[]),(27,[]),(28,[])] 7 [⟨[25],3,54,55⟩,⟨[2,24,25],3,33,34⟩] fun cx => ?_
         refine sA_ 0x20c000061c000046 68 ⟨82,0,[sB 61 (!r11),sI 55 v8.Members,sA 54 6 3 1,sI 34 v8.Id,sA 33 6 3 0,sA 6 6 3 0,sI 28 y2,sI 27 (x0.Rows.length : Int),sC 26 (cF 3 x0.Rows zC.row),sA 2 2 2 0,sI 1 x1],[(6,(zC.row v8)),(2,(CV.frzRow (zJ.row x0)))]⟩ ?_
         rw [h9]
         refine mA zZ [(29,[]),(30,[]),(31,[]),(32,[]),(33,[]),(34,[]),(35,[])] 0 [⟨[],3,64,65⟩,⟨[],3,62,63⟩,⟨[25],3,54,55⟩,⟨[2,24,25],3,33,34⟩] fun cx => ?_
         exact mE zZ [68,28,27,26,2,1] [2]
        refine sT ⟨82,0,[sB 68 ((IntKind.wrap .i64 (BitVec.ofInt (IntKind.bits .i64) v8.Bare &&& ~~~BitVec.ofInt (IntKind.bits .i64) v8.Members).toNat) != 0),sI 28 y2,sI 27 (x0.Rows.length : Int),sC 26 (cF 3 x0.Rows zC.row),sA 2 2 2 0,sI 1 x1],[(2,(CV.frzRow (zJ.row x0)))]⟩ ?_
        cases h10 : ((IntKind.wrap .i64 (BitVec.ofInt (IntKind.bits .i64) v8.Bare &&& ~~~BitVec.ofInt (IntKind.bits .i64) v8.Members).toNat) != 0)
        ·have H := zE h10 H
         refine nB_ ?_
         refine tK ?_
         refine eA 2 469762054 4 ?_
         exact jB mo7 (IntKind.wrap .i64 (y2 + 1)) H [28,27,26,2,1] [2]
        have H := zF h10 H
        refine tB_ ?_
        refine gA 1 16 0 ?_
        refine te ?_
        obtain rfl := si H
        have H := Ho7
        dsimp only at H
        exact fF H
       have H := zF h9 H
       refine Tr.draws mixed 36 kr ⟨82,0,[sB 68 true,sI 28 y2,sI 27 (x0.Rows.length : Int),sC 26 (cF 3 x0.Rows zC.row),sA 2 2 2 0,sI 1 x1],[(2,(CV.frzRow (zJ.row x0)))]⟩ (fun cx => ?_) ?_
       ·refine mA zZ [(0,[]),(1,[2,24,25])] 34 [⟨[2,24,25],3,33,34⟩] fun cx => ?_
        refine mC zZ 2 ?_
        refine vA [.rd,.rd,.rd] (qM n v8.Id 1 99 r9 er9) ?_
        refine fA ?_
        refine mA zZ [(3,[]),(4,[])] 31 [⟨[2,24,25],3,33,34⟩] fun cx => ?_
        refine sA_ 163678519398 68 ⟨82,0,[sB 37 (!r9),sI 34 v8.Id,sA 33 6 3 0,sI 5 y2,sA 6 6 3 0,sI 28 y2,sI 27 (x0.Rows.length : Int),sC 26 (cF 3 x0.Rows zC.row),sA 2 2 2 0,sI 1 x1],[(6,(zC.row v8)),(2,(CV.frzRow (zJ.row x0)))]⟩ ?_
        rw [h7]
        refine mA zZ [(5,[]),(6,[]),(7,[])] 28 [⟨[2,24,25],3,33,34⟩] fun cx => ?_
        refine sA_ 1263190147174 68 ⟨82,0,[sB 40 (decide (y2 > 0)),sB 37 false,sI 34 v8.Id,sA 33 6 3 0,sI 5 y2,sA 6 6 3 0,sI 28 y2,sI 27 (x0.Rows.length : Int),sC 26 (cF 3 x0.Rows zC.row),sA 2 2 2 0,sI 1 x1],[(6,(zC.row v8)),(2,(CV.frzRow (zJ.row x0)))]⟩ ?_
        rw [h8]
        refine mA zZ [(8,[]),(9,[]),(10,[]),(11,[]),(12,[]),(13,[]),(14,[]),(15,[]),(16,[]),(17,[]),(18,[]),(19,[]),(20,[]),(21,[]),(22,[25]),(23,[])] 12 [⟨[25],3,54,55⟩,⟨[2,24,25],3,33,34⟩] fun cx => ?_
        refine mC zZ 24 ?_
        refine vA [.rd] (zA4 n x1 r10 er10) ?_
        refine fA ?_
        refine mC zZ 25 ?_
        refine vA [.rd,.rd,.rd] (qM n v8.Members 0 r10 r11 er11) ?_
        refine fA ?_
        refine mA zZ [(26,[]),(27,[]),(28,[])] 7 [⟨[25],3,54,55⟩,⟨[2,24,25],3,33,34⟩] fun cx => ?_
        refine sA_ 0x20c000061c000046 68 ⟨82,0,[sB 61 (!r11),sI 55 v8.Members,sA 54 6 3 1,sI 34 v8.Id,sA 33 6 3 0,sA 6 6 3 0,sI 28 y2,sI 27 (x0.Rows.length : Int),sC 26 (cF 3 x0.Rows zC.row),sA 2 2 2 0,sI 1 x1],[(6,(zC.row v8)),(2,(CV.frzRow (zJ.row x0)))]⟩ ?_
        rw [h9]
        refine mA zZ [(29,[]),(30,[]),(31,[]),(32,[]),(33,[]),(34,[]),(35,[])] 0 [⟨[25],3,54,55⟩,⟨[2,24,25],3,33,34⟩] fun cx => ?_
        exact mE zZ [68,28,27,26,2,1] [2]
       refine tB_ ?_
       refine gA 1 16 0 ?_
       refine te ?_
       obtain rfl := si H
       have H := Ho7
       dsimp only at H
       exact fF H
      have H := zF h8 H
      obtain ⟨v12,ev12,H⟩ := bs H
      refine sT ⟨82,0,[sI 5 y2,sA 6 6 3 0,sI 28 y2,sI 27 (x0.Rows.length : Int),sC 26 (cF 3 x0.Rows zC.row),sA 2 2 2 0,sI 1 x1],[(6,(zC.row v8)),(2,(CV.frzRow (zJ.row x0)))]⟩ ?_
      cases h11 : (decide (v12.Id ≥ v8.Id))
      ·have H := zE h11 H
       obtain ⟨r13,er13,H⟩ := bs H
       obtain ⟨r14,er14,H⟩ := bs H
       refine sT ⟨82,0,[sI 5 y2,sA 6 6 3 0,sI 28 y2,sI 27 (x0.Rows.length : Int),sC 26 (cF 3 x0.Rows zC.row),sA 2 2 2 0,sI 1 x1],[(6,(zC.row v8)),(2,(CV.frzRow (zJ.row x0)))]⟩ ?_
       cases h12 : (!r14)
       ·have H := zE h12 H
        refine Tr.draws mixed 36 kr ⟨82,0,[sB 68 ((IntKind.wrap .i64 (BitVec.ofInt (IntKind.bits .i64) v8.Bare &&& ~~~BitVec.ofInt (IntKind.bits .i64) v8.Members).toNat) != 0),sI 28 y2,sI 27 (x0.Rows.length : Int),sC 26 (cF 3 x0.Rows zC.row),sA 2 2 2 0,sI 1 x1],[(2,(CV.frzRow (zJ.row x0)))]⟩ (fun cx => ?_) ?_
        ·refine mA zZ [(0,[]),(1,[2,24,25])] 34 [⟨[2,24,25],3,33,34⟩] fun cx => ?_
         refine mC zZ 2 ?_
         refine vA [.rd,.rd,.rd] (qM n v8.Id 1 99 r9 er9) ?_
         refine fA ?_
         refine mA zZ [(3,[]),(4,[])] 31 [⟨[2,24,25],3,33,34⟩] fun cx => ?_
         refine sA_ 163678519398 68 ⟨82,0,[sB 37 (!r9),sI 34 v8.Id,sA 33 6 3 0,sI 5 y2,sA 6 6 3 0,sI 28 y2,sI 27 (x0.Rows.length : Int),sC 26 (cF 3 x0.Rows zC.row),sA 2 2 2 0,sI 1 x1],[(6,(zC.row v8)),(2,(CV.frzRow (zJ.row x0)))]⟩ ?_
         rw [h7]
         refine mA zZ [(5,[]),(6,[]),(7,[])] 28 [⟨[2,24,25],3,33,34⟩] fun cx => ?_
         refine sA_ 1263190147174 68 ⟨82,0,[sB 40 (decide (y2 > 0)),sB 37 false,sI 34 v8.Id,sA 33 6 3 0,sI 5 y2,sA 6 6 3 0,sI 28 y2,sI 27 (x0.Rows.length : Int),sC 26 (cF 3 x0.Rows zC.row),sA 2 2 2 0,sI 1 x1],[(6,(zC.row v8)),(2,(CV.frzRow (zJ.row x0)))]⟩ ?_
         rw [h8]
         refine mA zZ [(8,[]),(9,[24,25]),(10,[]),(11,[])] 24 [⟨[24,25],37,41,42⟩,⟨[2,24,25],3,33,34⟩] fun cx => ?_
         refine iN zZ 12 zC.row ev12 fun cx => ?_
         refine mA zZ [(13,[]),(14,[]),(15,[]),(16,[24,25]),(17,[]),(18,[]),(19,[]),(20,[])] 15 [⟨[24,25],3,48,49⟩,⟨[24,25],37,41,42⟩,⟨[2,24,25],3,33,34⟩] fun cx => ?_
         refine sA_ 9858247494205510 68 ⟨82,0,[sB 53 (decide (v12.Id ≥ v8.Id)),sI 49 v8.Id,sA 48 6 3 0,sR 42 2 2 0 1 false,sA 41 2 2 0,sI 34 v8.Id,sA 33 6 3 0,sA 6 6 3 0,sI 28 y2,sI 27 (x0.Rows.length : Int),sC 26 (cF 3 x0.Rows zC.row),sA 2 2 2 0,sI 1 x1],[(6,(zC.row v8)),(2,(CV.frzRow (zJ.row x0)))]⟩ ?_
         rw [h11]
         exact zHW n x1 r13 v8 r14 y2 x0 er13 er14 h12 cx
        refine sT ⟨82,0,[sB 68 ((IntKind.wrap .i64 (BitVec.ofInt (IntKind.bits .i64) v8.Bare &&& ~~~BitVec.ofInt (IntKind.bits .i64) v8.Members).toNat) != 0),sI 28 y2,sI 27 (x0.Rows.length : Int),sC 26 (cF 3 x0.Rows zC.row),sA 2 2 2 0,sI 1 x1],[(2,(CV.frzRow (zJ.row x0)))]⟩ ?_
        cases h13 : ((IntKind.wrap .i64 (BitVec.ofInt (IntKind.bits .i64) v8.Bare &&& ~~~BitVec.ofInt (IntKind.bits .i64) v8.Members).toNat) != 0)
        ·have H := zE h13 H
         refine nB_ ?_
         refine tK ?_
         refine eA 2 469762054 4 ?_
         exact jB mo7 (IntKind.wrap .i64 (y2 + 1)) H [28,27,26,2,1] [2]
        have H := zF h13 H
        refine tB_ ?_
        refine gA 1 16 0 ?_
        refine te ?_
        obtain rfl := si H
        have H := Ho7
        dsimp only at H
        exact fF H
       have H := zF h12 H
       refine Tr.draws mixed 36 kr ⟨82,0,[sB 68 true,sI 28 y2,sI 27 (x0.Rows.length : Int),sC 26 (cF 3 x0.Rows zC.row),sA 2 2 2 0,sI 1 x1],[(2,(CV.frzRow (zJ.row x0)))]⟩ (fun cx => ?_) ?_
       ·refine mA zZ [(0,[]),(1,[2,24,25])] 34 [⟨[2,24,25],3,33,34⟩] fun cx => ?_
        refine mC zZ 2 ?_
        refine vA [.rd,.rd,.rd] (qM n v8.Id 1 99 r9 er9) ?_
        refine fA ?_
        refine mA zZ [(3,[]),(4,[])] 31 [⟨[2,24,25],3,33,34⟩] fun cx => ?_
        refine sA_ 163678519398 68 ⟨82,0,[sB 37 (!r9),sI 34 v8.Id,sA 33 6 3 0,sI 5 y2,sA 6 6 3 0,sI 28 y2,sI 27 (x0.Rows.length : Int),sC 26 (cF 3 x0.Rows zC.row),sA 2 2 2 0,sI 1 x1],[(6,(zC.row v8)),(2,(CV.frzRow (zJ.row x0)))]⟩ ?_
        rw [h7]
        refine mA zZ [(5,[]),(6,[]),(7,[])] 28 [⟨[2,24,25],3,33,34⟩] fun cx => ?_
        refine sA_ 1263190147174 68 ⟨82,0,[sB 40 (decide (y2 > 0)),sB 37 false,sI 34 v8.Id,sA 33 6 3 0,sI 5 y2,sA 6 6 3 0,sI 28 y2,sI 27 (x0.Rows.length : Int),sC 26 (cF 3 x0.Rows zC.row),sA 2 2 2 0,sI 1 x1],[(6,(zC.row v8)),(2,(CV.frzRow (zJ.row x0)))]⟩ ?_
        rw [h8]
        refine mA zZ [(8,[]),(9,[24,25]),(10,[]),(11,[])] 24 [⟨[24,25],37,41,42⟩,⟨[2,24,25],3,33,34⟩] fun cx => ?_
        refine iN zZ 12 zC.row ev12 fun cx => ?_
        refine mA zZ [(13,[]),(14,[]),(15,[]),(16,[24,25]),(17,[]),(18,[]),(19,[]),(20,[])] 15 [⟨[24,25],3,48,49⟩,⟨[24,25],37,41,42⟩,⟨[2,24,25],3,33,34⟩] fun cx => ?_
        refine sA_ 9858247494205510 68 ⟨82,0,[sB 53 (decide (v12.Id ≥ v8.Id)),sI 49 v8.Id,sA 48 6 3 0,sR 42 2 2 0 1 false,sA 41 2 2 0,sI 34 v8.Id,sA 33 6 3 0,sA 6 6 3 0,sI 28 y2,sI 27 (x0.Rows.length : Int),sC 26 (cF 3 x0.Rows zC.row),sA 2 2 2 0,sI 1 x1],[(6,(zC.row v8)),(2,(CV.frzRow (zJ.row x0)))]⟩ ?_
        rw [h11]
        exact zHX n x1 r13 v8 r14 y2 x0 er13 er14 h12 cx
       refine tB_ ?_
       refine gA 1 16 0 ?_
       refine te ?_
       obtain rfl := si H
       have H := Ho7
       dsimp only at H
       exact fF H
      have H := zF h11 H
      refine Tr.draws mixed 36 kr ⟨82,0,[sB 68 true,sI 28 y2,sI 27 (x0.Rows.length : Int),sC 26 (cF 3 x0.Rows zC.row),sA 2 2 2 0,sI 1 x1],[(2,(CV.frzRow (zJ.row x0)))]⟩ (fun cx => ?_) ?_
      ·refine mA zZ [(0,[]),(1,[2])] 34 [⟨[2],3,33,34⟩] fun cx => ?_
       refine mC zZ 2 ?_
       refine vA [.rd,.rd,.rd] (qM n v8.Id 1 99 r9 er9) ?_
       refine fA ?_
       refine mA zZ [(3,[]),(4,[])] 31 [⟨[2],3,33,34⟩] fun cx => ?_
       refine sA_ 163678519398 68 ⟨82,0,[sB 37 (!r9),sI 34 v8.Id,sA 33 6 3 0,sI 5 y2,sA 6 6 3 0,sI 28 y2,sI 27 (x0.Rows.length : Int),sC 26 (cF 3 x0.Rows zC.row),sA 2 2 2 0,sI 1 x1],[(6,(zC.row v8)),(2,(CV.frzRow (zJ.row x0)))]⟩ ?_
       rw [h7]
       refine mA zZ [(5,[]),(6,[]),(7,[])] 28 [⟨[2],3,33,34⟩] fun cx => ?_
       refine sA_ 1263190147174 68 ⟨82,0,[sB 40 (decide (y2 > 0)),sB 37 false,sI 34 v8.Id,sA 33 6 3 0,sI 5 y2,sA 6 6 3 0,sI 28 y2,sI 27 (x0.Rows.length : Int),sC 26 (cF 3 x0.Rows zC.row),sA 2 2 2 0,sI 1 x1],[(6,(zC.row v8)),(2,(CV.frzRow (zJ.row x0)))]⟩ ?_
       rw [h8]
       refine mA zZ [(8,[]),(9,[]),(10,[]),(11,[])] 24 [⟨[],37,41,42⟩,⟨[2],3,33,34⟩] fun cx => ?_
       refine iN zZ 12 zC.row ev12 fun cx => ?_
       refine mA zZ [(13,[]),(14,[]),(15,[]),(16,[]),(17,[]),(18,[]),(19,[]),(20,[])] 15 [⟨[],3,48,49⟩,⟨[],37,41,42⟩,⟨[2],3,33,34⟩] fun cx => ?_
       refine sA_ 9858247494205510 68 ⟨82,0,[sB 53 (decide (v12.Id ≥ v8.Id)),sI 49 v8.Id,sA 48 6 3 0,sR 42 2 2 0 1 false,sA 41 2 2 0,sI 34 v8.Id,sA 33 6 3 0,sA 6 6 3 0,sI 28 y2,sI 27 (x0.Rows.length : Int),sC 26 (cF 3 x0.Rows zC.row),sA 2 2 2 0,sI 1 x1],[(6,(zC.row v8)),(2,(CV.frzRow (zJ.row x0)))]⟩ ?_
       rw [h11]
       exact zHY n v8 y2 x0 x1 cx
      refine tB_ ?_
      refine gA 1 16 0 ?_
      refine te ?_
      obtain rfl := si H
      have H := Ho7
      dsimp only at H
      exact fF H
     have H := zF h7 H
     refine Tr.draws mixed 36 kr ⟨82,0,[sB 68 true,sI 28 y2,sI 27 (x0.Rows.length : Int),sC 26 (cF 3 x0.Rows zC.row),sA 2 2 2 0,sI 1 x1],[(2,(CV.frzRow (zJ.row x0)))]⟩ (fun cx => ?_) ?_
     ·refine mA zZ [(0,[]),(1,[2])] 34 [⟨[2],3,33,34⟩] fun cx => ?_
      refine mC zZ 2 ?_
      refine vA [.rd,.rd,.rd] (qM n v8.Id 1 99 r9 er9) ?_
      refine fA ?_
      refine mA zZ [(3,[]),(4,[])] 31 [⟨[2],3,33,34⟩] fun cx => ?_
      refine sA_ 163678519398 68 ⟨82,0,[sB 37 (!r9),sI 34 v8.Id,sA 33 6 3 0,sI 5 y2,sA 6 6 3 0,sI 28 y2,sI 27 (x0.Rows.length : Int),sC 26 (cF 3 x0.Rows zC.row),sA 2 2 2 0,sI 1 x1],[(6,(zC.row v8)),(2,(CV.frzRow (zJ.row x0)))]⟩ ?_
      rw [h7]
      refine mA zZ [(5,[]),(6,[]),(7,[]),(8,[]),(9,[]),(10,[]),(11,[]),(12,[]),(13,[]),(14,[]),(15,[]),(16,[]),(17,[]),(18,[]),(19,[]),(20,[]),(21,[]),(22,[]),(23,[]),(24,[]),(25,[]),(26,[]),(27,[]),(28,[]),(29,[]),(30,[]),(31,[]),(32,[]),(33,[]),(34,[]),(35,[])] 0 [⟨[2],3,33,34⟩] fun cx => ?_
      exact mE zZ [68,28,27,26,2,1] [2]
     refine tB_ ?_
     refine gA 1 16 0 ?_
     refine te ?_
     obtain rfl := si H
     have H := Ho7
     dsimp only at H
     exact fF H
    rintro _ H
    have H : (JA n x0) = some r := H
    unfold JA at H
    refine tS ?_
    refine rA 2 ?_
    refine kF x0.Pv intRow ?_
    refine uA 1 0x3800000000000000004 4 ?_
    obtain ⟨o4,eo4,Ho4⟩ := bs H
    clear H
    refine Tr.mid (ι := Unit) (fun v => ⟨82,0,[],[]⟩) (fun v => zAW n = some r) ?_ ?_
    ·refine tB ?_
     refine Tr.loop (ι := Nat × (Int)) (fun v => ⟨82,0,[sI 73 v.2,sI 72 (x0.Pv.length : Int),sC 71 (cF 1 x0.Pv intRow),sA 2 2 2 0],[(2,(CV.frzRow (zJ.row x0)))]⟩) (fun v => QS n v.1 x0 v.2 = some o4) (fun v => v.1) (n,0) eo4 (St.sub_of [73,72,71,2] [2] kr) ?_
     rintro ⟨mo4,y3⟩ H
     have H : QS n mo4 x0 y3 = some o4 := H
     obtain _ | mo4 := mo4
     ·exact nN H
     rw [QS] at H
     refine gA 1 0x7800000000000000004 4 ?_
     refine tS ?_
     obtain ⟨h4,H⟩ | ⟨h4,H⟩ := bC H
     ·refine nA h4 ?_
      refine Tr.exit ?_
      refine aJ ?_
      obtain rfl := si H
      have H := Ho4
      dsimp only at H
      exact jA () H [] []
     refine tA h4 ?_
     refine tK ?_
     refine tS ?_
     refine tB ?_
     refine tR ?_
     obtain ⟨v5,ev5,H⟩ := bs H
     refine iA intRow ev5 ?_
     refine uA 2 0x3800000000000000104 4 ?_
     refine rA 2 ?_
     obtain ⟨r6,er6,H⟩ := bs H
     refine vA [.rd,.rd] (zKH n x0 v5 r6 er6) ?_
     refine uA 1 0x103800000000000000004 4 ?_
     obtain ⟨h5,H⟩ | ⟨h5,H⟩ := bC H
     ·refine nA h5 ?_
      refine tK ?_
      refine eA 2 0x3800000000000000004 4 ?_
      exact jB mo4 (IntKind.wrap .i64 (y3 + 1)) H [73,72,71,2] [2]
     refine tA h5 ?_
     refine gA 1 16 0 ?_
     refine te ?_
     obtain rfl := si H
     have H := Ho4
     dsimp only at H
     exact fF H
    rintro _ H
    have H : (zAW n) = some r := H
    unfold zAW at H
    refine gA 1 16 0 ?_
    exact te (fT H)
   refine tA h3 ?_
   refine gA 1 16 0 ?_
   exact te (fF H)
  have H := zF h2 H
  refine uA 5 16777222 4 ?_
  refine tB_ ?_
  refine gA 1 16 0 ?_
  exact te (fF H)
 have H := zF h1 H
 refine uA 12 16777222 4 ?_
 refine tB_ ?_
 refine gA 1 16 0 ?_
 exact te (fF H)
def Qf (n : Nat) (x0 : Int) : Option (Bool) :=
  ((qI n x0 0 1000000).bind fun r1 => (some r1))
theorem zAF (n : Nat) (x0 : Int) (r : Bool) (H : Qf n x0 = some r) : zI Tryz.prog 141 [.val false [.lit (.int .i64 x0)]] [.val false [.lit (.bool r)]] [] := by
 refine cW Tryz.func141 (fun g d => sl [g 0,g 1] .ret) [.tmp 2] fun cx => ?_
 unfold Qf at H
 refine gA 1 1 0 ?_
 refine rA 1 ?_
 obtain ⟨r1,er1,H⟩ := bs H
 refine vA [.rd,.rd,.rd] (qM n x0 0 1000000 r1 er1) ?_
 refine uA 1 4 0 ?_
 exact te (fJ [(false,[cB r1])] H)
def YS (n : Nat) (x0 : zA) : Option (Bool) :=
  ((qI n x0.Id 1 99).bind fun r2 => (bif (!r2) then (some false) else (bif (decide ((x0.Name.size : Int) > 10)) then (some false) else ((qI n (x0.Ps.length : Int) 1 6).bind fun r3 => (bif (!r3) then (some false) else ((zAq n x0.F).bind fun r4 => (bif (!r4) then (some false) else ((zAD n x0.V (x0.Ps.length : Int)).bind fun r5 => (bif (!r5) then (some false) else ((Qf n x0.Tk).bind fun r6 => (bif r6 then ((Qf n x0.Pa).bind fun r7 => (bif r7 then ((Qf n x0.Wo).bind fun r8 => (bif r8 then ((Qf n x0.Dr).bind fun r9 => (bif r9 then ((Qf n x0.Ve).bind fun r10 => (some r10)) else (some false))) else (some false))) else (some false))) else (some false))))))))))))
def QI (n : Nat) : Nat → zA → Int → Option ((Unit) ⊕ (Bool))
  | 0,_,_ => none
  | mo11 + 1,x0,y1 => (bif (decide (y1 < (x0.Ps.length : Int))) then ((idx x0.Ps y1).bind fun v12 => ((zBT n v12).bind fun r13 => (bif (!r13) then (some (Sum.inr false)) else (QI n mo11 x0 (IntKind.wrap .i64 (y1 + 1)))))) else (some (Sum.inl ())))
def QR (n : Nat) (x0 : zA) : Option (Bool) :=
  ((QI n n x0 0).bind fun o => match o with | .inl _ => (YS n x0) | .inr r => some r)
theorem zCk (n : Nat) (x0 : zA) (r : Bool) (H : QR n x0 = some r) : zI Tryz.prog 41 [.val true (CV.frzRow (zA.row x0))] [.val false [.lit (.bool r)]] [] := by
 refine cW Tryz.func41 (fun g d => sl [g 0,sl [g 1] (.block 0 (.loop (sl [g 2,cn 9 .skip (.exit 0),.block 1 (sl [g 3,g 4] (cn 14 (sl [g 5] .ret) .skip))] (g 6)))),sl [g 7] (cn 47 (sl [g 8] .ret) .skip),g 9] .ret) [.tmp 2] fun cx => ?_
 unfold QR at H
 refine gA 2 2 2 ?_
 refine tS ?_
 refine rA 2 ?_
 refine kF x0.Ps Pt.row ?_
 refine uA 1 450 2 ?_
 obtain ⟨o11,eo11,Ho11⟩ := bs H
 clear H
 refine Tr.mid (ι := Unit) (fun v => ⟨71,0,[sA 1 1 11 0],[(1,(CV.frzRow (zA.row x0)))]⟩) (fun v => YS n x0 = some r) ?_ ?_
 ·refine tB ?_
  refine Tr.loop (ι := Nat × (Int)) (fun v => ⟨71,0,[sI 8 v.2,sI 7 (x0.Ps.length : Int),sC 6 (cF 8 x0.Ps Pt.row),sA 1 1 11 0],[(1,(CV.frzRow (zA.row x0)))]⟩) (fun v => QI n v.1 x0 v.2 = some o11) (fun v => v.1) (n,0) eo11 (St.sub_of [8,7,6,1] [1] kr) ?_
  rintro ⟨mo11,y1⟩ H
  have H : QI n mo11 x0 y1 = some o11 := H
  obtain _ | mo11 := mo11
  ·exact nN H
  rw [QI] at H
  refine gA 1 962 2 ?_
  refine tS ?_
  obtain ⟨h10,H⟩ | ⟨h10,H⟩ := bC H
  ·refine nA h10 ?_
   refine Tr.exit ?_
   refine aJ ?_
   obtain rfl := si H
   have H := Ho11
   dsimp only at H
   exact jA () H [1] [1]
  refine tA h10 ?_
  refine tK ?_
  refine tS ?_
  refine tB ?_
  refine tR ?_
  obtain ⟨v12,ev12,H⟩ := bs H
  refine iA Pt.row ev12 ?_
  refine uA 3 466 18 ?_
  refine rA 1 ?_
  obtain ⟨r13,er13,H⟩ := bs H
  refine vA [.rd] (zKs n v12 r13 er13) ?_
  refine uA 1 16834 2 ?_
  obtain ⟨h11,H⟩ | ⟨h11,H⟩ := bC H
  ·refine nA h11 ?_
   refine tK ?_
   refine eA 2 450 2 ?_
   exact jB mo11 (IntKind.wrap .i64 (y1 + 1)) H [8,7,6,1] [1]
  refine tA h11 ?_
  refine gA 1 4 0 ?_
  refine te ?_
  obtain rfl := si H
  have H := Ho11
  dsimp only at H
  exact fF H
 rintro _ H
 have H : (YS n x0) = some r := H
 unfold YS at H
 refine tS ?_
 refine rA 2 ?_
 obtain ⟨r2,er2,H⟩ := bs H
 refine vA [.rd,.rd,.rd] (qM n x0.Id 1 99 r2 er2) ?_
 refine lA 2 ?_
 refine sL 1048578 2 ⟨71,0,[sB 20 (!r2),sA 1 1 11 0],[(1,(CV.frzRow (zA.row x0)))]⟩ ?_
 cases h1 : (!r2)
 ·have H := zE h1 H
  refine lA 6 ?_
  refine sL 67108866 2 ⟨71,0,[sB 26 (decide ((x0.Name.size : Int) > 10)),sA 1 1 11 0],[(1,(CV.frzRow (zA.row x0)))]⟩ ?_
  cases h2 : (decide ((x0.Name.size : Int) > 10))
  ·have H := zE h2 H
   refine lA 2 ?_
   refine kF x0.Ps Pt.row ?_
   obtain ⟨r3,er3,H⟩ := bs H
   refine vA [.rd,.rd,.rd] (qM n (x0.Ps.length : Int) 1 6 r3 er3) ?_
   refine lA 3 ?_
   refine sL 8589934594 2 ⟨71,0,[sB 33 (!r3),sA 1 1 11 0],[(1,(CV.frzRow (zA.row x0)))]⟩ ?_
   cases h3 : (!r3)
   ·have H := zE h3 H
    refine lA 2 ?_
    obtain ⟨r4,er4,H⟩ := bs H
    refine vA [.rd] (zKG n x0.F r4 er4) ?_
    refine lA 3 ?_
    refine sL 549755813890 2 ⟨71,0,[sB 39 (!r4),sA 1 1 11 0],[(1,(CV.frzRow (zA.row x0)))]⟩ ?_
    cases h4 : (!r4)
    ·have H := zE h4 H
     refine lA 4 ?_
     refine kF x0.Ps Pt.row ?_
     obtain ⟨r5,er5,H⟩ := bs H
     refine vA [.rd,.rd] (zJT n x0.V (x0.Ps.length : Int) r5 er5) ?_
     refine uA 2 0x800000000002 2 ?_
     obtain ⟨h5,H⟩ | ⟨h5,H⟩ := bC H
     ·refine nA h5 ?_
      refine tK ?_
      refine rA 2 ?_
      obtain ⟨r6,er6,H⟩ := bs H
      refine vA [.rd] (zAF n x0.Tk r6 er6) ?_
      refine lA 1 ?_
      refine sL 0x8000000000002 2 ⟨71,0,[sB 51 r6,sA 1 1 11 0],[(1,(CV.frzRow (zA.row x0)))]⟩ ?_
      cases h6 : r6
      ·have H := zE h6 H
       refine uA 20 4 0 ?_
       exact te (fF H)
      have H := zF h6 H
      refine lA 2 ?_
      obtain ⟨r7,er7,H⟩ := bs H
      refine vA [.rd] (zAF n x0.Pa r7 er7) ?_
      refine lA 2 ?_
      refine sL 72057594037927938 2 ⟨71,0,[sB 56 r7,sA 1 1 11 0],[(1,(CV.frzRow (zA.row x0)))]⟩ ?_
      cases h7 : r7
      ·have H := zE h7 H
       refine uA 15 4 0 ?_
       exact te (fF H)
      have H := zF h7 H
      refine lA 2 ?_
      obtain ⟨r8,er8,H⟩ := bs H
      refine vA [.rd] (zAF n x0.Wo r8 er8) ?_
      refine lA 2 ?_
      refine sL 0x2000000000000002 2 ⟨71,0,[sB 61 r8,sA 1 1 11 0],[(1,(CV.frzRow (zA.row x0)))]⟩ ?_
      cases h8 : r8
      ·have H := zE h8 H
       refine uA 10 4 0 ?_
       exact te (fF H)
      have H := zF h8 H
      refine lA 2 ?_
      obtain ⟨r9,er9,H⟩ := bs H
      refine vA [.rd] (zAF n x0.Dr r9 er9) ?_
      refine lA 2 ?_
      refine sL 0x40000000000000002 2 ⟨71,0,[sB 66 r9,sA 1 1 11 0],[(1,(CV.frzRow (zA.row x0)))]⟩ ?_
      cases h9 : r9
      ·have H := zE h9 H
       refine uA 5 4 0 ?_
       exact te (fF H)
      have H := zF h9 H
      refine lA 2 ?_
      obtain ⟨r10,er10,H⟩ := bs H
      refine vA [.rd] (zAF n x0.Ve r10 er10) ?_
      refine uA 2 4 0 ?_
      exact te (fJ [(false,[cB r10])] H)
     refine tA h5 ?_
     refine gA 1 4 0 ?_
     exact te (fF H)
    have H := zF h4 H
    refine uA 8 0x800000000002 2 ?_
    refine tB_ ?_
    refine gA 1 4 0 ?_
    exact te (fF H)
   have H := zF h3 H
   refine uA 14 0x800000000002 2 ?_
   refine tB_ ?_
   refine gA 1 4 0 ?_
   exact te (fF H)
  have H := zF h2 H
  refine uA 21 0x800000000002 2 ?_
  refine tB_ ?_
  refine gA 1 4 0 ?_
  exact te (fF H)
 have H := zF h1 H
 refine uA 27 0x800000000002 2 ?_
 refine tB_ ?_
 refine gA 1 4 0 ?_
 exact te (fF H)
def zBV (n : Nat) : Option (Bool) :=
  (some false)
def Zd (n : Nat) : Nat → (List Link) → Int → Int → Int → Option ((Unit) ⊕ (Bool))
  | 0,_,_,_,_ => none
  | mo2 + 1,x0,x1,x2,y1 => (bif (decide (y1 < (x0.length : Int))) then ((idx x0 y1).bind fun v3 => (bif (v3.A == x1) then (bif (v3.P == x2) then (some (Sum.inr true)) else (bif (v3.B == x1) then (bif (v3.Q == x2) then (some (Sum.inr true)) else (Zd n mo2 x0 x1 x2 (IntKind.wrap .i64 (y1 + 1)))) else (Zd n mo2 x0 x1 x2 (IntKind.wrap .i64 (y1 + 1))))) else (bif (v3.B == x1) then (bif (v3.Q == x2) then (some (Sum.inr true)) else (Zd n mo2 x0 x1 x2 (IntKind.wrap .i64 (y1 + 1)))) else (Zd n mo2 x0 x1 x2 (IntKind.wrap .i64 (y1 + 1)))))) else (some (Sum.inl ())))
def JY (n : Nat) (x0 : (List Link)) (x1 : Int) (x2 : Int) : Option (Bool) :=
  ((Zd n n x0 x1 x2 0).bind fun o => match o with | .inl _ => (zBV n) | .inr r => some r)
theorem zDc (n : Nat) (x0 : (List Link)) (x1 : Int) (x2 : Int) (r : Bool) (H : JY n x0 x1 x2 = some r) : zI Tryz.prog 148 [.val false [.sl false 4 (CV.frzEs (x0.map Link.row))],.val false [.lit (.int .i64 x1)],.val false [.lit (.int .i64 x2)]] [.val false [.lit (.bool r)]] [] := by
 refine cW Tryz.func148 (fun g d => sl [g 0,sl [g 1] (.block 0 (.loop (sl [g 2,cn 12 .skip (.exit 0),.block 1 (sl [g 3,g 4] (cn 36 (sl [g 5] .ret) .skip))] (g 6)))),g 7] .ret) [.tmp 6] fun cx => ?_
 unfold JY at H
 refine gA 1 7 0 ?_
 refine tS ?_
 refine rA 1 ?_
 refine kF x0 Link.row ?_
 refine uA 1 3590 0 ?_
 obtain ⟨o2,eo2,Ho2⟩ := bs H
 clear H
 refine Tr.mid (ι := Unit) (fun v => ⟨38,0,[],[]⟩) (fun v => zBV n = some r) ?_ ?_
 ·refine tB ?_
  refine Tr.loop (ι := Nat × (Int)) (fun v => ⟨38,0,[sI 11 v.2,sI 10 (x0.length : Int),sC 9 (cF 4 x0 Link.row),sI 1 x1,sI 2 x2],[]⟩) (fun v => Zd n v.1 x0 x1 x2 v.2 = some o2) (fun v => v.1) (n,0) eo2 (St.sub_of [11,10,9,1,2] [] kr) ?_
  rintro ⟨mo2,y1⟩ H
  have H : Zd n mo2 x0 x1 x2 y1 = some o2 := H
  obtain _ | mo2 := mo2
  ·exact nN H
  rw [Zd] at H
  refine gA 1 7686 0 ?_
  refine tS ?_
  obtain ⟨h1,H⟩ | ⟨h1,H⟩ := bC H
  ·refine nA h1 ?_
   refine Tr.exit ?_
   refine aJ ?_
   obtain rfl := si H
   have H := Ho2
   dsimp only at H
   exact jA () H [] []
  refine tA h1 ?_
  refine tK ?_
  refine tS ?_
  refine tB ?_
  refine tR ?_
  obtain ⟨v3,ev3,H⟩ := bs H
  refine iA Link.row ev3 ?_
  refine uA 3 3846 256 ?_
  refine rA 5 ?_
  refine sL 528134 256 ⟨38,0,[sB 19 (v3.A == x1),sA 8 8 4 0,sI 11 y1,sI 10 (x0.length : Int),sC 9 (cF 4 x0 Link.row),sI 1 x1,sI 2 x2],[(8,(Link.row v3))]⟩ ?_
  cases h2 : (v3.A == x1)
  ·have H := zE h2 H
   refine lA 11 ?_
   refine sL 1107300102 256 ⟨38,0,[sB 30 (v3.B == x1),sB 25 false,sA 8 8 4 0,sI 11 y1,sI 10 (x0.length : Int),sC 9 (cF 4 x0 Link.row),sI 1 x1,sI 2 x2],[(8,(Link.row v3))]⟩ ?_
   cases h3 : (v3.B == x1)
   ·have H := zE h3 H
    refine uA 6 68719480326 0 ?_
    refine nB_ ?_
    refine tK ?_
    refine eA 2 3590 0 ?_
    exact jB mo2 (IntKind.wrap .i64 (y1 + 1)) H [11,10,9,1,2] []
   have H := zF h3 H
   refine uA 6 68719480326 0 ?_
   obtain ⟨h4,H⟩ | ⟨h4,H⟩ := bC H
   ·refine nA h4 ?_
    refine tK ?_
    refine eA 2 3590 0 ?_
    exact jB mo2 (IntKind.wrap .i64 (y1 + 1)) H [11,10,9,1,2] []
   refine tA h4 ?_
   refine gA 1 64 0 ?_
   refine te ?_
   obtain rfl := si H
   have H := Ho2
   dsimp only at H
   exact fT H
  have H := zF h2 H
  refine lA 6 ?_
  refine sL 33558278 256 ⟨38,0,[sB 25 (v3.P == x2),sA 8 8 4 0,sI 11 y1,sI 10 (x0.length : Int),sC 9 (cF 4 x0 Link.row),sI 1 x1,sI 2 x2],[(8,(Link.row v3))]⟩ ?_
  cases h5 : (v3.P == x2)
  ·have H := zE h5 H
   refine lA 5 ?_
   refine sL 1107300102 256 ⟨38,0,[sB 30 (v3.B == x1),sB 25 false,sA 8 8 4 0,sI 11 y1,sI 10 (x0.length : Int),sC 9 (cF 4 x0 Link.row),sI 1 x1,sI 2 x2],[(8,(Link.row v3))]⟩ ?_
   cases h6 : (v3.B == x1)
   ·have H := zE h6 H
    refine uA 6 68719480326 0 ?_
    refine nB_ ?_
    refine tK ?_
    refine eA 2 3590 0 ?_
    exact jB mo2 (IntKind.wrap .i64 (y1 + 1)) H [11,10,9,1,2] []
   have H := zF h6 H
   refine uA 6 68719480326 0 ?_
   obtain ⟨h7,H⟩ | ⟨h7,H⟩ := bC H
   ·refine nA h7 ?_
    refine tK ?_
    refine eA 2 3590 0 ?_
    exact jB mo2 (IntKind.wrap .i64 (y1 + 1)) H [11,10,9,1,2] []
   refine tA h7 ?_
   refine gA 1 64 0 ?_
   refine te ?_
   obtain rfl := si H
   have H := Ho2
   dsimp only at H
   exact fT H
  have H := zF h5 H
  refine uA 11 68719480326 0 ?_
  refine tB_ ?_
  refine gA 1 64 0 ?_
  refine te ?_
  obtain rfl := si H
  have H := Ho2
  dsimp only at H
  exact fT H
 rintro _ H
 have H : (zBV n) = some r := H
 unfold zBV at H
 refine gA 1 64 0 ?_
 exact te (fF H)
def QA (n : Nat) (x0 : Net) (x1 : Int) (x2 : Int) : Option (Pt × Bool) :=
  ((qI n x1 0 (IntKind.wrap .i64 ((x0.Bs.length : Int) - 1))).bind fun r1 => (bif (!r1) then (some ((⟨false,0,false,(⟨0,0,0,0,0⟩ : Vec)⟩ : Pt),false)) else ((idx x0.Bs x1).bind fun v2 => ((qI n x2 0 (IntKind.wrap .i64 ((v2.Ps.length : Int) - 1))).bind fun r3 => (bif (!r3) then (some ((⟨false,0,false,(⟨0,0,0,0,0⟩ : Vec)⟩ : Pt),false)) else ((idx x0.Bs x1).bind fun v4 => ((idx v4.Ps x2).bind fun v5 => (some (v5,true)))))))))
theorem Jp (n : Nat) (x0 : Net) (x1 : Int) (x2 : Int) (r : Pt × Bool) (H : QA n x0 x1 x2 = some r) : zI Tryz.prog 162 [.val true (CV.frzRow (Net.row x0)),.val false [.lit (.int .i64 x1)],.val false [.lit (.int .i64 x2)]] [.val true (Pt.row r.1),.val false [.lit (.bool r.2)]] [] := by
 refine cW Tryz.func162 (fun g d => sl [g 0,sl [g 1] (cn 27 (sl [g 2] .ret) .skip),g 3] .ret) [.cell 6 167,.tmp 7] fun cx => ?_
 unfold QA at H
 refine gA 3 78 72 ?_
 refine tS ?_
 refine rA 3 ?_
 refine kF x0.Bs zA.row ?_
 refine lA 1 ?_
 obtain ⟨r1,er1,H⟩ := bs H
 refine vA [.rd,.rd,.rd] (qM n x1 0 (IntKind.wrap .i64 ((x0.Bs.length : Int) - 1)) r1 er1) ?_
 refine lA 2 ?_
 refine sL 32846 72 ⟨38,0,[sB 15 (!r1),sA 6 6 8 0,sA 3 3 3 0,sI 1 x1,sI 2 x2],[(6,[cB false,cI 0,cB false,cI 0,cI 0,cI 0,cI 0,cI 0]),(3,(CV.frzRow (Net.row x0)))]⟩ ?_
 cases h1 : (!r1)
 ·have H := zE h1 H
  refine lA 4 ?_
  obtain ⟨v2,ev2,H⟩ := bs H
  refine iA zA.row ev2 ?_
  refine lA 2 ?_
  refine kF v2.Ps Pt.row ?_
  refine lA 1 ?_
  obtain ⟨r3,er3,H⟩ := bs H
  refine vA [.rd,.rd,.rd] (qM n x2 0 (IntKind.wrap .i64 ((v2.Ps.length : Int) - 1)) r3 er3) ?_
  refine uA 2 134217806 72 ?_
  obtain ⟨h2,H⟩ | ⟨h2,H⟩ := bC H
  ·refine nA h2 ?_
   refine tK ?_
   refine rA 3 ?_
   obtain ⟨v4,ev4,H⟩ := bs H
   refine iA zA.row ev4 ?_
   refine lA 3 ?_
   obtain ⟨v5,ev5,H⟩ := bs H
   refine iA Pt.row ev5 ?_
   refine uA 3 192 64 ?_
   exact te (fJ [(true,(Pt.row v5)),(false,[cB true])] H)
  refine tA h2 ?_
  refine gA 3 192 64 ?_
  exact te (fJ [(true,[cB false,cI 0,cB false,cI 0,cI 0,cI 0,cI 0,cI 0]),(false,[cB false])] H)
 have H := zF h1 H
 refine uA 12 134217806 72 ?_
 refine tB_ ?_
 refine gA 3 192 64 ?_
 exact te (fJ [(true,[cB false,cI 0,cB false,cI 0,cI 0,cI 0,cI 0,cI 0]),(false,[cB false])] H)
end Go.Proofs.YtcegokjpmppdbaaGreat.Tw
