import Derived.Test.YtajadnlejdpceaaProg
import Derived.Test.YtajadnlejdpceaaTlRule
import Derived.Test.YtajadnlejdpceaaTlU12
import Derived.Test.YtajadnlejdpceaaTwSL0
import Derived.WalkKit
set_option linter.unusedVariables false
set_option linter.unusedSimpArgs false
set_option maxRecDepth 100000
set_option maxHeartbeats 1000000
namespace Go.Proofs.Ytajadnlejdpceaa.Tw
open Go Go.TL Go.Proofs
def QO (n : Nat) (x0 : zA) (x1 : Int) (x2 : Bool) : Option (zA) :=
  ((QP n x0).bind fun r1 => ((YY n x0 x1).bind fun r2 => (bif (!r2) then (some r1) else ((idx x0.Ps x1).bind fun v3 => ((idx r1.Ps x1).bind fun v4 => ((qx n (⟨r1.Id,r1.Name,(r1.Ps.set (x1.toNat) (⟨x2,v3.Co,false,(⟨0,0,0,0,0⟩ : Vec)⟩ : Pt)),r1.F,r1.V,r1.Tk,r1.Pa,r1.Wo,r1.Dr,r1.Ve⟩ : zA)).bind fun r5 => (some r5)))))))
def zMx : Tab := ⟨13,[0,1,0,0,0,16,0,96,128,256,520,2047,4095],[0,1,0,0,0,16,0,96,128,256,520,6,3072],[0,1,0,0,0,16,0,112,240,496,1016,2047,4095]⟩
theorem zDB : zk (rg Try.f166 4) zMx = true := kr
theorem zDS (n : Nat) (x0 : zA) (x1 : Int) (x2 : Bool) (r : zA) (H : QO n x0 x1 x2 = some r) : zI Try.prog 166 [.val true (CV.frzRow (zA.row x0)),.val false [.lit (.int .i64 x1)],.val false [.lit (.bool x2)]] [.val true (zA.row r)] [] := by
 refine cW Try.func166 (fun g d => sl [g 0,g 1,sl [g 2] (cn 13 (sl [g 3] .ret) .skip),d 4,g 5] .ret) [.cell 6 42] fun cx => ?_
 unfold QO at H
 refine gA 2 78 72 ?_
 refine rA 1 ?_
 obtain ⟨r1,er1,H⟩ := bs H
 refine vA [.rd] (zBk n x0 r1 er1) ?_
 refine uA 2 206 200 ?_
 refine tS ?_
 refine rA 2 ?_
 obtain ⟨r2,er2,H⟩ := bs H
 refine vA [.rd,.rd] (zE1 n x0 x1 r2 er2) ?_
 refine uA 1 8398 200 ?_
 obtain ⟨h1,H⟩ | ⟨h1,H⟩ := bC H
 ·refine nA h1 ?_
  refine tK ?_
  obtain ⟨v3,ev3,H⟩ := bs H
  obtain ⟨v4,ev4,H⟩ := bs H
  refine Tr.draws mixed 13 kr ⟨29,0,[sA 7 7 11 0,sA 6 6 11 0],[(7,[cI r1.Id,cS r1.Name,cL 8 (r1.Ps.set (x1.toNat) (⟨x2,v3.Co,false,(⟨0,0,0,0,0⟩ : Vec)⟩ : Pt)) Pt.row,cL 5 r1.F zB.row,cL 3 r1.V.Rows zF.row,cL 1 r1.V.Pv intRow,cI r1.Tk,cI r1.Pa,cI r1.Wo,cI r1.Dr,cI r1.Ve]),(6,[cI 0,cS (⟨#[]⟩ : ByteArray),cL 8 ([] : List Pt) Pt.row,cL 5 ([] : List zB) zB.row,cL 3 ([] : List zF) zF.row,cL 1 ([] : List Int) intRow,cI 0,cI 0,cI 0,cI 0,cI 0])]⟩ (fun cx => ?_) ?_
  ·refine mA zDB [(0,[]),(1,[12]),(2,[]),(3,[]),(4,[]),(5,[10,12]),(6,[])] 6 [⟨[10,12],35,19,20⟩,⟨[12],35,15,16⟩] fun cx => ?_
   refine iN zDB 7 Pt.row ev3 fun cx => ?_
   refine mA zDB [(8,[]),(9,[])] 3 [⟨[10,12],35,19,20⟩,⟨[12],35,15,16⟩] fun cx => ?_
   refine mC zDB 10 ?_
   refine lA 1 ?_
   refine fA ?_
   refine oN zDB 11 Pt.row ev4 fun cx => ?_
   refine mC zDB 12 ?_
   refine LAt.storeB tOk (t := 55) (ty := 0) (ad := (.tmp 26)) (x := (.tmp 25)) (g := none) (tI 55) true [cB x2,cI v3.Co,cB false,cI 0,cI 0,cI 0,cI 0,cI 0] 7 2 (x1.toNat) 8 0 8 r1.Ps Pt.row v4 (⟨x2,v3.Co,false,(⟨0,0,0,0,0⟩ : Vec)⟩ : Pt) kr kr kr kr kr kr kr kr (zC ev4).2 kr kr kr kr ?_
   refine fA ?_
   exact mE zDB [7,6] [7,6]
  refine rA 1 ?_
  obtain ⟨r5,er5,H⟩ := bs H
  refine vA [.own] (zCA n (⟨r1.Id,r1.Name,(r1.Ps.set (x1.toNat) (⟨x2,v3.Co,false,(⟨0,0,0,0,0⟩ : Vec)⟩ : Pt)),r1.F,r1.V,r1.Tk,r1.Pa,r1.Wo,r1.Dr,r1.Ve⟩ : zA) r5 er5) ?_
  refine uA 1 64 64 ?_
  exact te (fJ [(true,(zA.row r5))] H)
 refine tA h1 ?_
 refine gA 2 64 64 ?_
 exact te (fJ [(true,(zA.row r1))] H)
def zAe (n : Nat) (x2 : (List Link)) (y8 : (List zA)) : Option (Net) :=
  (some (⟨y8,(([] : List Link) ++ x2),([] : List Say)⟩ : Net))
def JM (n : Nat) (k : (Int × (List zA) → Option (((List zA)) ⊕ (Net)))) (y6 : Int) (y12 : (List zA)) : Option (((List zA)) ⊕ (Net)) :=
  (k ((IntKind.wrap .i64 (y6 + 1)),y12))
def Zz (n : Nat) : Nat → Int → Int → Int → (List zA) → Option (((List zA)) ⊕ (Net))
  | 0,_,_,_,_ => none
  | mo13 + 1,x1,y6,y10,y11 => (bif (decide (y10 < x1)) then ((idx y11 y6).bind fun v14 => ((QO n v14 y10 true).bind fun r15 => (Zz n mo13 x1 y6 (IntKind.wrap .i64 (y10 + 1)) (y11.set (y6.toNat) r15)))) else (some (Sum.inl y11)))
def ZW (n : Nat) : Nat → Int → Int → (List zA) → Option (((List zA)) ⊕ (Net))
  | 0,_,_,_ => none
  | mo9 + 1,x1,y6,y7 => (bif (decide (y6 < (y7.length : Int))) then ((Zz n n x1 y6 0 y7).bind fun o => match o with | .inl y12 => (JM n (fun v => ZW n mo9 x1 v.1 v.2) y6 y12) | .inr r => some (Sum.inr r)) else (some (Sum.inl y7)))
def JL (n : Nat) (x1 : Int) (x2 : (List Link)) (y4 : (List zA)) : Option (Net) :=
  ((Zr n (⟨y4,(([] : List Link) ++ x2),([] : List Say)⟩ : Net)).bind fun r5 => (bif (!r5) then (some (⟨([] : List zA),([] : List Link),([] : List Say)⟩ : Net)) else ((ZW n n x1 0 y4).bind fun o => match o with | .inl y8 => (zAe n x2 y8) | .inr r => some r)))
def ZX (n : Nat) : Nat → (List Int) → Int → Int → (List zA) → Option (((List zA)) ⊕ (Net))
  | 0,_,_,_,_ => none
  | mo16 + 1,x0,x1,y2,y3 => (bif (decide (y2 < (x0.length : Int))) then ((idx x0 y2).bind fun v17 => ((Zg n v17 x1).bind fun r18 => (bif (decide (y3.length + [r18].length ≤ 268435456)) then (ZX n mo16 x0 x1 (IntKind.wrap .i64 (y2 + 1)) (y3 ++ [r18])) else none))) else (some (Sum.inl y3)))
def zAN (n : Nat) (x0 : (List Int)) (x1 : Int) (x2 : (List Link)) : Option (Net) :=
  (bif (decide (([] : List Link).length + x2.length ≤ 268435456)) then ((ZX n n x0 x1 0 ([] : List zA)).bind fun o => match o with | .inl y4 => (JL n x1 x2 y4) | .inr r => some r) else none)
def zMt : Tab := ⟨12,[0,1,0,0,12,16,0,96,128,386,1023,2047],[0,1,0,0,12,16,0,96,128,258,0,1536],[0,1,0,0,12,28,0,124,252,511,1023,2047]⟩
theorem zBP : zk (rg Try.f122 5) zMt = true := kr
def zMN : Tab := ⟨12,[0,1,0,0,8,0,48,64,0,384,1023,2047],[0,1,0,0,8,0,48,64,0,384,6,1536],[0,1,0,0,8,0,56,120,0,504,1023,2047]⟩
theorem zBJ : zk (rg Try.f122 14) zMN = true := kr
theorem zJ0 (n : Nat) (x0 : (List Int)) (x1 : Int) (x2 : (List Link)) (r : Net) (H : zAN n x0 x1 x2 = some r) : zI Try.prog 122 [.val false [.sl false 1 (CV.frzEs (x0.map intRow))],.val false [.lit (.int .i64 x1)],.val false [.sl false 4 (CV.frzEs (x2.map Link.row))]] [.val true (Net.row r)] [] := by
 refine cW Try.func122 (fun g d => sl [g 0,g 1,sl [g 2] (.block 0 (.loop (sl [sl [g 3] (cn 18 .skip (.exit 0)),.block 1 (d 5)] (g 4)))),sl [g 6] (cn 34 (sl [g 7] .ret) .skip),sl [g 8] (.block 2 (.loop (sl [sl [g 9] (cn 40 .skip (.exit 2)),.block 3 (sl [g 11] (.block 4 (.loop (sl [sl [g 12] (cn 45 .skip (.exit 4)),.block 5 (d 14)] (g 13)))))] (g 10)))),g 15] .ret) [.cell 6 76] fun cx => ?_
 unfold zAN at H
 refine gA 1 71 64 ?_
 refine rA 2 ?_
 obtain ⟨hg1,H⟩ := gs H
 refine pD Link.row hg1 ?_
 refine uA 3 195 192 ?_
 refine tS ?_
 refine gA 1 451 192 ?_
 obtain ⟨o16,eo16,Ho16⟩ := bs H
 clear H
 refine Tr.mid (ι := (List zA)) (fun v => ⟨60,0,[sA 7 7 3 0,sA 6 6 3 0,sI 1 x1],[(7,[cL 11 v zA.row,cL 4 (([] : List Link) ++ x2) Link.row,cL 7 ([] : List Say) Say.row]),(6,[cL 11 ([] : List zA) zA.row,cL 4 ([] : List Link) Link.row,cL 7 ([] : List Say) Say.row])]⟩) (fun v => JL n x1 x2 v = some r) ?_ ?_
 ·refine tB ?_
  refine Tr.loop (ι := Nat × (Int × (List zA))) (fun v => ⟨60,0,[sI 8 v.2.1,sA 7 7 3 0,sA 6 6 3 0,sC 0 (cF 1 x0 intRow),sI 1 x1],[(7,[cL 11 v.2.2 zA.row,cL 4 (([] : List Link) ++ x2) Link.row,cL 7 ([] : List Say) Say.row]),(6,[cL 11 ([] : List zA) zA.row,cL 4 ([] : List Link) Link.row,cL 7 ([] : List Say) Say.row])]⟩) (fun v => ZX n v.1 x0 x1 v.2.1 v.2.2 = some o16) (fun v => v.1) (n,(0,([] : List zA))) eo16 (St.sub_of [8,7,6,0,1] [7,6] kr) ?_
  rintro ⟨mo16,y2,y3⟩ H
  have H : ZX n mo16 x0 x1 y2 y3 = some o16 := H
  obtain _ | mo16 := mo16
  ·exact nN H
  rw [ZX] at H
  refine tS ?_
  refine rA 2 ?_
  refine kF x0 intRow ?_
  refine uA 1 262595 192 ?_
  obtain ⟨h4,H⟩ | ⟨h4,H⟩ := bC H
  ·refine nA h4 ?_
   refine Tr.exit ?_
   refine aJ ?_
   obtain rfl := si H
   have H := Ho16
   dsimp only at H
   exact jA y3 H [7,6,1] [7,6]
  refine tA h4 ?_
  refine tK ?_
  refine tS ?_
  refine tB ?_
  obtain ⟨v17,ev17,H⟩ := bs H
  obtain ⟨r18,er18,H⟩ := bs H
  obtain ⟨hg19,H⟩ := gs H
  refine Tr.draw mixed 12 kr ⟨60,0,[sI 8 y2,sA 7 7 3 0,sA 6 6 3 0,sC 0 (cF 1 x0 intRow),sI 1 x1],[(7,[cL 11 (y3 ++ [r18]) zA.row,cL 4 (([] : List Link) ++ x2) Link.row,cL 7 ([] : List Say) Say.row]),(6,[cL 11 ([] : List zA) zA.row,cL 4 ([] : List Link) Link.row,cL 7 ([] : List Say) Say.row])]⟩ (fun cx => ?_) ?_
  ·refine mA zBP [(0,[]),(1,[9,11]),(2,[]),(3,[])] 8 [⟨[9,11],53,21,22⟩] fun cx => ?_
   refine iN zBP 4 intRow ev17 fun cx => ?_
   refine mA zBP [(5,[]),(6,[])] 5 [⟨[9,11],53,21,22⟩] fun cx => ?_
   refine mC zBP 7 ?_
   refine vA [.rd,.rd] (zH3 n v17 x1 r18 er18) ?_
   refine fA ?_
   refine mC zBP 8 ?_
   refine lA 1 ?_
   refine fA ?_
   refine mC zBP 9 ?_
   refine LAt.appMU tOk (t := 53) (ty := 53) (e := 42) (x := (.tmp 22)) (y := (.tmp 29)) (d := 30) (g := none) (tI 42) zA.row y3 [r18] kr kr kr kr kr kr kr kr kr kr hg19 ?_
   refine fA ?_
   refine mA zBP [(10,[])] 1 [⟨[9,11],53,21,22⟩] fun cx => ?_
   refine mC zBP 11 ?_
   refine lA 1 ?_
   refine fA ?_
   exact mE zBP [8,7,6,0,1] [7,6]
  refine eA 3 451 192 ?_
  exact jB mo16 ((IntKind.wrap .i64 (y2 + 1)),(y3 ++ [r18])) H [8,7,6,0,1] [7,6]
 rintro y4 H
 have H : (JL n x1 x2 y4) = some r := H
 unfold JL at H
 refine tS ?_
 refine rA 1 ?_
 obtain ⟨r5,er5,H⟩ := bs H
 refine vB [.rd] [.box 7] (zHT n (⟨y4,(([] : List Link) ++ x2),([] : List Say)⟩ : Net) r5 er5) (.inr (qV (zK zR qW) qh)) ?_
 refine uA 1 17179869378 192 ?_
 obtain ⟨h1,H⟩ | ⟨h1,H⟩ := bC H
 ·refine nA h1 ?_
  refine tK ?_
  refine tS ?_
  refine gA 1 706 192 ?_
  obtain ⟨o9,eo9,Ho9⟩ := bs H
  clear H
  refine Tr.mid (ι := (List zA)) (fun v => ⟨60,0,[sA 7 7 3 0,sA 6 6 3 0],[(7,[cL 11 v zA.row,cL 4 (([] : List Link) ++ x2) Link.row,cL 7 ([] : List Say) Say.row]),(6,[cL 11 ([] : List zA) zA.row,cL 4 ([] : List Link) Link.row,cL 7 ([] : List Say) Say.row])]⟩) (fun v => zAe n x2 v = some r) ?_ ?_
  ·refine tB ?_
   refine Tr.loop (ι := Nat × (Int × (List zA))) (fun v => ⟨60,0,[sI 9 v.2.1,sA 7 7 3 0,sA 6 6 3 0,sI 1 x1],[(7,[cL 11 v.2.2 zA.row,cL 4 (([] : List Link) ++ x2) Link.row,cL 7 ([] : List Say) Say.row]),(6,[cL 11 ([] : List zA) zA.row,cL 4 ([] : List Link) Link.row,cL 7 ([] : List Say) Say.row])]⟩) (fun v => ZW n v.1 x1 v.2.1 v.2.2 = some o9) (fun v => v.1) (n,(0,y4)) eo9 (St.sub_of [9,7,6,1] [7,6] kr) ?_
   rintro ⟨mo9,y6,y7⟩ H
   have H : ZW n mo9 x1 y6 y7 = some o9 := H
   obtain _ | mo9 := mo9
   ·exact nN H
   rw [ZW] at H
   refine tS ?_
   refine rA 3 ?_
   refine kO y7 zA.row ?_
   refine uA 1 1099511628482 192 ?_
   obtain ⟨h2,H⟩ | ⟨h2,H⟩ := bC H
   ·refine nA h2 ?_
    refine Tr.exit ?_
    refine aJ ?_
    obtain rfl := si H
    have H := Ho9
    dsimp only at H
    exact jA y7 H [7,6] [7,6]
   refine tA h2 ?_
   refine tK ?_
   refine tS ?_
   refine tB ?_
   refine gA 1 1730 192 ?_
   obtain ⟨o13,eo13,Ho13⟩ := bs H
   clear H
   refine Tr.mid (ι := (List zA)) (fun v => ⟨60,0,[sI 9 y6,sA 7 7 3 0,sA 6 6 3 0,sI 1 x1],[(7,[cL 11 v zA.row,cL 4 (([] : List Link) ++ x2) Link.row,cL 7 ([] : List Say) Say.row]),(6,[cL 11 ([] : List zA) zA.row,cL 4 ([] : List Link) Link.row,cL 7 ([] : List Say) Say.row])]⟩) (fun v => JM n (fun v => ZW n mo9 x1 v.1 v.2) y6 v = some o9) ?_ ?_
   ·refine tB ?_
    refine Tr.loop (ι := Nat × (Int × (List zA))) (fun v => ⟨60,0,[sI 10 v.2.1,sI 9 y6,sA 7 7 3 0,sA 6 6 3 0,sI 1 x1],[(7,[cL 11 v.2.2 zA.row,cL 4 (([] : List Link) ++ x2) Link.row,cL 7 ([] : List Say) Say.row]),(6,[cL 11 ([] : List zA) zA.row,cL 4 ([] : List Link) Link.row,cL 7 ([] : List Say) Say.row])]⟩) (fun v => Zz n v.1 x1 y6 v.2.1 v.2.2 = some o13) (fun v => v.1) (n,(0,y7)) eo13 (St.sub_of [10,9,7,6,1] [7,6] kr) ?_
    rintro ⟨mo13,y10,y11⟩ H
    have H : Zz n mo13 x1 y6 y10 y11 = some o13 := H
    obtain _ | mo13 := mo13
    ·exact nN H
    rw [Zz] at H
    refine tS ?_
    refine gA 3 35184372090562 192 ?_
    obtain ⟨h3,H⟩ | ⟨h3,H⟩ := bC H
    ·refine nA h3 ?_
     refine Tr.exit ?_
     refine aJ ?_
     obtain rfl := si H
     have H := Ho13
     dsimp only at H
     exact jA y11 H [9,7,6,1] [7,6]
    refine tA h3 ?_
    refine tK ?_
    refine tS ?_
    refine tB ?_
    obtain ⟨v14,ev14,H⟩ := bs H
    obtain ⟨r15,er15,H⟩ := bs H
    refine Tr.draw mixed 12 kr ⟨60,0,[sI 10 y10,sI 9 y6,sA 7 7 3 0,sA 6 6 3 0,sI 1 x1],[(7,[cL 11 (y11.set (y6.toNat) r15) zA.row,cL 4 (([] : List Link) ++ x2) Link.row,cL 7 ([] : List Say) Say.row]),(6,[cL 11 ([] : List zA) zA.row,cL 4 ([] : List Link) Link.row,cL 7 ([] : List Say) Say.row])]⟩ (fun cx => ?_) ?_
    ·refine mA zBJ [(0,[]),(1,[11]),(2,[]),(3,[]),(4,[9,11]),(5,[])] 6 [⟨[9,11],53,51,52⟩,⟨[11],53,48,49⟩] fun cx => ?_
     refine oN zBJ 6 zA.row ev14 fun cx => ?_
     refine mA zBJ [(8,[])] 4 [⟨[9,11],53,51,52⟩,⟨[11],53,48,49⟩] fun cx => ?_
     refine mC zBJ 7 ?_
     refine dE (tI 42) (.box 7) [(0,0),(0,(y6.toNat))] 11 0 [.sl true 3 [[cL 11 y11 zA.row,cL 4 (([] : List Link) ++ x2) Link.row,cL 7 ([] : List Say) Say.row]]] (zA.row v14) (zL rfl (zC ev14).2) ?_
     refine fA ?_
     refine mC zBJ 9 ?_
     refine LAt.callO tOk [.rd,.rd,.rd] (f := 166) (av := #[.tmp 55,.tmp 56,.const (.bool true)]) (ats := #[42,3,4]) (d := (some 57)) (ty := 42) (g := none) [(55,zA.row v14)] none kr kr kr [.box 7] (zDS n v14 y10 true r15 er15) (zB5 (row := [.sl true 3 [[cL 11 y11 zA.row,cL 4 (([] : List Link) ++ x2) Link.row,cL 7 ([] : List Say) Say.row]]]) (q := [(0,0),(0,(y6.toNat))]) kr (zL rfl (zC ev14).2) zDA) kr zC9 (.inr (And.intro (qV (zA.row_mine _) qh) zB6)) ?_
     refine fA ?_
     refine oN zBJ 10 zA.row ev14 fun cx => ?_
     refine sA_ 0x61b0000000006c2 192 ⟨60,0,[(58,.adr (.box 7) [(0,0),(0,(y6.toNat))] 11 0),sV 57 (zA.row r15),sR 52 7 3 0 1 false,sA 51 7 3 0,sR 49 7 3 0 1 false,sA 48 7 3 0,sI 10 y10,sI 9 y6,sA 7 7 3 0,sA 6 6 3 0,sI 1 x1],[(7,[cL 11 y11 zA.row,cL 4 (([] : List Link) ++ x2) Link.row,cL 7 ([] : List Say) Say.row]),(6,[cL 11 ([] : List zA) zA.row,cL 4 ([] : List Link) Link.row,cL 7 ([] : List Say) Say.row])]⟩ ?_
     refine mC zBJ 11 ?_
     refine LAt.storeB tOk (t := 42) (ty := 0) (ad := (.tmp 58)) (x := (.tmp 57)) (g := none) (tI 42) true (zA.row r15) 7 0 (y6.toNat) 11 0 11 y11 zA.row v14 r15 kr kr kr kr kr kr kr kr (zC ev14).2 kr kr kr kr ?_
     refine fA ?_
     exact mE zBJ [10,9,7,6,1] [7,6]
    refine eA 3 1730 192 ?_
    exact jB mo13 ((IntKind.wrap .i64 (y10 + 1)),(y11.set (y6.toNat) r15)) H [10,9,7,6,1] [7,6]
   rintro y12 H
   have H : (JM n (fun v => ZW n mo9 x1 v.1 v.2) y6 y12) = some o9 := H
   unfold JM at H
   refine eA 3 706 192 ?_
   exact jB mo9 ((IntKind.wrap .i64 (y6 + 1)),y12) H [9,7,6,1] [7,6]
  rintro y8 H
  have H : (zAe n x2 y8) = some r := H
  unfold zAe at H
  refine gA 2 64 64 ?_
  exact te (fJ [(true,[cL 11 y8 zA.row,cL 4 (([] : List Link) ++ x2) Link.row,cL 7 ([] : List Say) Say.row])] H)
 refine tA h1 ?_
 refine gA 2 64 64 ?_
 exact te (fJ [(true,[cL 11 ([] : List zA) zA.row,cL 4 ([] : List Link) Link.row,cL 7 ([] : List Say) Say.row])] H)
def Zu (n : Nat) (x0 : Src) (x1 : (List Int)) : Option (Int × Src) :=
  ((zo n x0 (x1.length : Int)).bind fun r1 => ((idx x1 r1.1).bind fun v2 => (some (v2,r1.2))))
noncomputable abbrev G51 (k : Nat) := Rg Try.f51 k
theorem zAj (n : Nat) (x0 : Src) (x1 : (List Int)) (r : Int × Src) (H : Zu n x0 x1 = some r) : zI Try.prog 51 [.ptr (CV.frzRow (Src.row x0)),.val false [.sl false 1 (CV.frzEs (x1.map intRow))]] [.val false [.lit (.int .i64 r.1)]] [(0,(CV.frzRow (Src.row r.2)))] := by
 refine zI.of_body tOk Try.func51 rfl (c := (.seq (G51 0) (.seq (G51 1) .ret))) kr (Nat.le_of_ble_eq_true kr) 1 (rs := [.tmp 4]) rfl [] .nil [(false,[.lit (.int .i64 r.1)])] [] [(0,(CV.frzRow (Src.row r.2)))] fun cx => ?_
 show Tr _ _ _ ⟨12,1,[sA 0 0 3 0,sC 1 (cF 1 x1 intRow)],[(0,(CV.frzRow (Src.row x0)))]⟩ _
 unfold Zu at H
 refine gA 1 3 1 ?_
 refine rA 3 ?_
 refine kF x1 intRow ?_
 obtain ⟨r1,er1,H⟩ := bs H
 refine LAt.callL tOk [.lend,.rd] (f := 49) (av := #[.tmp 6,.tmp 8]) (ats := #[92,3]) (d := (some 9)) (ty := 3) (g := none) kr kr kr [] (qt n x0 (x1.length : Int) r1 er1) kr (.inl rfl) ?_
 obtain ⟨v2,ev2,H⟩ := bs H
 refine iA intRow ev2 ?_
 refine uA 2 17 1 ?_
 refine te ?_
 obtain rfl := si H
 exact Fin.ofY _ [(false,[cI v2])] [] _ [] _ [(0,(CV.frzRow (Src.row r1.2)))] kr rfl rfl rfl kr kr kr kr rfl rfl rfl
def Qa (n : Nat) (r5 : Int × Src) (x1 : Net) (y6 : Bool) : Option (Event × Src) :=
  (bif y6 then (bif ((x1.Ls.length : Int) == 0) then (some ((⟨6,0⟩ : Event),r5.2)) else ((zo n r5.2 (x1.Ls.length : Int)).bind fun r8 => (some ((⟨r5.1,r8.1⟩ : Event),r8.2)))) else (bif ((x1.Bs.length : Int) == 0) then (some ((⟨r5.1,0⟩ : Event),r5.2)) else ((zo n r5.2 (x1.Bs.length : Int)).bind fun r7 => (some ((⟨r5.1,r7.1⟩ : Event),r7.2)))))
def QZ (n : Nat) (x1 : Net) (y1 : Bool) (y2 : (List Int)) (y3 : Int) (y4 : Int) : Option (Event × Src) :=
  (bif y1 then ((Zu n (⟨y2,y3,y4⟩ : Src) [2,2,2,2,3]).bind fun r9 => ((zo n r9.2 (x1.Said.length : Int)).bind fun r10 => (some ((⟨r9.1,r10.1⟩ : Event),r10.2)))) else ((Zu n (⟨y2,y3,y4⟩ : Src) [1,1,1,1,4,5,6]).bind fun r5 => (bif (r5.1 == 4) then (Qa n r5 x1 true) else (Qa n r5 x1 (r5.1 == 5)))))
def YZ (n : Nat) (x0 : Src) (x1 : Net) : Option (Event × Src) :=
  (bif (decide ((x1.Said.length : Int) > 0)) then ((JU n x0 2).bind fun r11 => (QZ n x1 r11.1 r11.2.b r11.2.i r11.2.h)) else (QZ n x1 false x0.b x0.i x0.h))
noncomputable abbrev zD1 (k : Nat) := Rg Try.f126 k
noncomputable abbrev D126 (k : Nat) := Rd Try.f126 k
theorem zIo (n : Nat) (x0 : Src) (x1 : Net) (r : Event × Src) (H : YZ n x0 x1 = some r) : zI Try.prog 126 [.ptr (CV.frzRow (Src.row x0)),.val true (CV.frzRow (Net.row x1))] [.val true (Event.row r.1)] [(0,(CV.frzRow (Src.row r.2)))] := by
 refine zI.of_body tOk Try.func126 rfl (c := (.seq (zD1 0) (.seq (.seq (zD1 1) (.cond (.tmp 13) (.seq (D126 2) .ret) .skip)) (.seq (zD1 3) (.seq (.seq (zD1 4) (.cond (.tmp 31) (.seq (.seq (zD1 5) (.cond (.tmp 35) (.seq (zD1 6) .ret) .skip)) (.seq (zD1 7) .ret)) .skip)) (.seq (.seq (zD1 8) (.cond (.tmp 47) (.seq (zD1 9) .ret) .skip)) (.seq (zD1 10) .ret))))))) kr (Nat.le_of_ble_eq_true kr) 1 (rs := [.cell 4 172]) rfl [] .nil [(true,(Event.row r.1))] [] [(0,(CV.frzRow (Src.row r.2)))] fun cx => ?_
 show Tr _ _ _ ⟨57,1,[sA 0 0 3 0,sV 1 (CV.frzRow (Net.row x1))],[(0,(CV.frzRow (Src.row x0)))]⟩ _
 unfold YZ at H
 refine gA 2 25 25 ?_
 refine tS ?_
 refine tS ?_
 refine Tr.mid (ι := Bool × (List Int) × Int × Int) (fun v => ⟨57,1,[sB 13 v.1,sA 4 4 2 0,sA 3 3 3 0,sA 0 0 3 0],[(4,[cI 0,cI 0]),(3,(CV.frzRow (Net.row x1))),(0,[cF 1 v.2.1 zy,cI v.2.2.1,cI v.2.2.2])]⟩) (fun v => QZ n x1 v.1 v.2.1 v.2.2.1 v.2.2.2 = some r) ?_ ?_
 ·refine Tr.at ?_
  refine lA 2 ?_
  refine kF x1.Said Say.row ?_
  refine lA 2 ?_
  refine sL 1049 25 ⟨57,1,[sB 10 (decide ((x1.Said.length : Int) > 0)),sA 4 4 2 0,sA 3 3 3 0,sA 0 0 3 0],[(4,[cI 0,cI 0]),(3,(CV.frzRow (Net.row x1))),(0,(CV.frzRow (Src.row x0)))]⟩ ?_
  cases h6 : (decide ((x1.Said.length : Int) > 0))
  ·have H := zG h6 H
   refine uA 3 8217 25 ?_
   exact jA (false,x0.b,x0.i,x0.h) H [13,4,3,0] [4,3,0]
  have H := zH h6 H
  refine lA 1 ?_
  obtain ⟨r11,er11,H⟩ := bs H
  refine LAt.callL tOk [.lend,.rd] (f := 100) (av := #[.tmp 11,.const (.int .i64 2)]) (ats := #[92,3]) (d := (some 12)) (ty := 4) (g := (some (4,true))) kr kr kr [] (zGX n x0 2 r11 er11) kr (.inl rfl) ?_
  refine uA 1 8217 25 ?_
  exact jA (r11.1,r11.2.b,r11.2.i,r11.2.h) H [13,4,3,0] [4,3,0]
 rintro ⟨y1,y2,y3,y4⟩ H
 have H : (QZ n x1 y1 y2 y3 y4) = some r := H
 unfold QZ at H
 cases h1 : y1
 ·have H := zG h1 H
  refine nB_ ?_
  refine tK ?_
  refine rA 2 ?_
  obtain ⟨r5,er5,H⟩ := bs H
  refine LAt.callL tOk [.lend,.rd] (f := 51) (av := #[.tmp 23,.tmp 24]) (ats := #[92,38]) (d := (some 25)) (ty := 3) (g := none) kr kr kr [] (zAj n (⟨y2,y3,y4⟩ : Src) [1,1,1,1,4,5,6] r5 er5) kr (.inl rfl) ?_
  refine uA 1 57 25 ?_
  refine tS ?_
  refine tS ?_
  refine Tr.mid (ι := Bool) (fun v => ⟨57,1,[sB 31 v,sI 5 r5.1,sA 4 4 2 0,sA 3 3 3 0,sA 0 0 3 0],[(0,(CV.frzRow (Src.row r5.2))),(4,[cI 0,cI 0]),(3,(CV.frzRow (Net.row x1)))]⟩) (fun v => Qa n r5 x1 v = some r) ?_ ?_
  ·refine Tr.at ?_
   refine lA 3 ?_
   refine sL 268435513 25 ⟨57,1,[sB 28 (r5.1 == 4),sI 5 r5.1,sA 4 4 2 0,sA 3 3 3 0,sA 0 0 3 0],[(0,(CV.frzRow (Src.row r5.2))),(4,[cI 0,cI 0]),(3,(CV.frzRow (Net.row x1)))]⟩ ?_
   cases h5 : (r5.1 == 4)
   ·have H := zG h5 H
    refine uA 3 2147483705 25 ?_
    exact jA (r5.1 == 5) H [31,5,4,3,0] [0,4,3]
   have H := zH h5 H
   refine uA 3 2147483705 25 ?_
   exact jA true H [31,5,4,3,0] [0,4,3]
  rintro y6 H
  have H : (Qa n r5 x1 y6) = some r := H
  unfold Qa at H
  cases h2 : y6
  ·have H := zG h2 H
   refine nB_ ?_
   refine tK ?_
   refine tS ?_
   refine rA 2 ?_
   refine kF x1.Bs zA.row ?_
   refine uA 1 0x800000000039 25 ?_
   obtain ⟨h3,H⟩ | ⟨h3,H⟩ := bC H
   ·refine nA h3 ?_
    refine tK ?_
    refine rA 4 ?_
    refine kF x1.Bs zA.row ?_
    obtain ⟨r7,er7,H⟩ := bs H
    refine LAt.callL tOk [.lend,.rd] (f := 49) (av := #[.tmp 51,.tmp 54]) (ats := #[92,3]) (d := (some 55)) (ty := 3) (g := none) kr kr kr [] (qt n r5.2 (x1.Bs.length : Int) r7 er7) kr (.inl rfl) ?_
    refine uA 2 17 17 ?_
    refine te ?_
    obtain rfl := si H
    exact Fin.ofY _ [(true,[cI r5.1,cI r7.1])] [] _ [] _ [(0,(CV.frzRow (Src.row r7.2)))] kr rfl rfl rfl kr kr kr kr rfl rfl rfl
   refine tA h3 ?_
   refine gA 3 17 17 ?_
   refine te ?_
   obtain rfl := si H
   exact Fin.ofY _ [(true,[cI r5.1,cI 0])] [] _ [] _ [(0,(CV.frzRow (Src.row r5.2)))] kr rfl rfl rfl kr kr kr kr rfl rfl rfl
  have H := zH h2 H
  refine tB_ ?_
  refine tS ?_
  refine rA 2 ?_
  refine kF x1.Ls Link.row ?_
  refine uA 1 34359738425 25 ?_
  obtain ⟨h4,H⟩ | ⟨h4,H⟩ := bC H
  ·refine nA h4 ?_
   refine tK ?_
   refine rA 4 ?_
   refine kF x1.Ls Link.row ?_
   obtain ⟨r8,er8,H⟩ := bs H
   refine LAt.callL tOk [.lend,.rd] (f := 49) (av := #[.tmp 38,.tmp 41]) (ats := #[92,3]) (d := (some 42)) (ty := 3) (g := none) kr kr kr [] (qt n r5.2 (x1.Ls.length : Int) r8 er8) kr (.inl rfl) ?_
   refine uA 2 17 17 ?_
   refine te ?_
   obtain rfl := si H
   exact Fin.ofY _ [(true,[cI r5.1,cI r8.1])] [] _ [] _ [(0,(CV.frzRow (Src.row r8.2)))] kr rfl rfl rfl kr kr kr kr rfl rfl rfl
  refine tA h4 ?_
  refine gA 2 17 17 ?_
  refine te ?_
  obtain rfl := si H
  exact Fin.ofY _ [(true,[cI 6,cI 0])] [] _ [] _ [(0,(CV.frzRow (Src.row r5.2)))] kr rfl rfl rfl kr kr kr kr rfl rfl rfl
 have H := zH h1 H
 refine tB_ ?_
 obtain ⟨r9,er9,H⟩ := bs H
 obtain ⟨r10,er10,H⟩ := bs H
 refine Tr.draws mixed 10 kr ⟨57,1,[sA 4 4 2 0,sA 0 0 3 0],[(4,[cI r9.1,cI r10.1]),(0,(CV.frzRow (Src.row r10.2)))]⟩ (fun cx => ?_) ?_
 ·refine aA [(0,[]),(3,[]),(4,[]),(5,[7,8,9])] 6 [⟨[7,8,9],74,18,19⟩] fun cx => ?_
  refine aL tOk 6 74 3 177 19 20 none ⟨(.box 3),[(0,0)],2,false,7,(CV.frzEs (x1.Said.map Say.row))⟩ (x1.Said).length _ kr kr kr kr kr kr kr (zFq _ _) rfl (fun cx => ?_)
  refine bA 1 ?_
  refine lA 1 ?_
  refine fA ?_
  refine bA 2 ?_
  refine LAt.callL tOk [.lend,.rd] (f := 51) (av := #[.tmp 14,.tmp 15]) (ats := #[92,38]) (d := (some 16)) (ty := 3) (g := none) kr kr kr [] (zAj n (⟨y2,y3,y4⟩ : Src) [2,2,2,2,3] r9 er9) kr (.inl rfl) ?_
  refine fA ?_
  refine bA 7 ?_
  refine LAt.callL tOk [.lend,.rd] (f := 49) (av := #[.tmp 17,.tmp 20]) (ats := #[92,3]) (d := (some 21)) (ty := 3) (g := none) kr kr kr [] (qt n r9.2 (x1.Said.length : Int) r10 er10) kr (.inl rfl) ?_
  refine fA ?_
  refine bA 8 ?_
  refine lA 1 ?_
  refine fA ?_
  refine bA 9 ?_
  refine lA 1 ?_
  refine fA ?_
  exact eE [4,0] [4,0]
 refine te ?_
 obtain rfl := si H
 exact Fin.ofY _ [(true,[cI r9.1,cI r10.1])] [] _ [] _ [(0,(CV.frzRow (Src.row r10.2)))] kr rfl rfl rfl kr kr kr kr rfl rfl rfl
def J4 (n : Nat) (x0 : Net) (y5 : (List zA)) : Option (Net) :=
  (some (⟨y5,(([] : List Link) ++ x0.Ls),(([] : List Say) ++ x0.Said)⟩ : Net))
def QA (n : Nat) : Nat → Net → Int → (List zA) → Option (((List zA)) ⊕ (Net))
  | 0,_,_,_ => none
  | mo6 + 1,x0,y3,y4 => (bif (decide (y3 < (x0.Bs.length : Int))) then ((idx x0.Bs y3).bind fun v7 => ((QP n v7).bind fun r8 => (bif (decide (y4.length + [r8].length ≤ 268435456)) then (QA n mo6 x0 (IntKind.wrap .i64 (y3 + 1)) (y4 ++ [r8])) else none))) else (some (Sum.inl y4)))
def Jo (n : Nat) (x0 : Net) : Option (Net) :=
  (bif (decide (([] : List Link).length + x0.Ls.length ≤ 268435456)) then (bif (decide (([] : List Say).length + x0.Said.length ≤ 268435456)) then ((QA n n x0 0 ([] : List zA)).bind fun o => match o with | .inl y5 => (J4 n x0 y5) | .inr r => some r) else none) else none)
def zMy : Tab := ⟨12,[0,1,0,4,0,24,32,64,128,386,1023,2047],[0,1,0,4,0,24,32,64,128,258,0,1536],[0,1,0,4,0,28,60,124,252,511,1023,2047]⟩
theorem zBQ : zk (rg Try.f168 5) zMy = true := kr
theorem zHX (n : Nat) (x0 : Net) (hg1 : (decide (([] : List Link).length + x0.Ls.length ≤ 268435456)) = true) (hg2 : (decide (([] : List Say).length + x0.Said.length ≤ 268435456)) = true) (cx : Cx) : AT Try.prog cx (rg Try.f168 1) [] 11 [] ⟨33,0,[sA 2 2 3 0,sA 1 1 3 0],[(2,[cL 11 ([] : List zA) zA.row,cL 4 ([] : List Link) Link.row,cL 7 ([] : List Say) Say.row]),(1,(CV.frzRow (Net.row x0)))]⟩ (fun s => s = ⟨33,0,[sA 3 3 3 0,sA 2 2 3 0,sA 1 1 3 0],[(3,[cL 11 ([] : List zA) zA.row,cL 4 (([] : List Link) ++ x0.Ls) Link.row,cL 7 (([] : List Say) ++ x0.Said) Say.row]),(2,[cL 11 ([] : List zA) zA.row,cL 4 ([] : List Link) Link.row,cL 7 ([] : List Say) Say.row]),(1,(CV.frzRow (Net.row x0)))]⟩) := by
 refine aA [(1,[]),(2,[3,7,8,10]),(5,[]),(6,[7,8,10])] 7 [⟨[7,8,10],74,10,11⟩,⟨[3,7,8,10],73,6,7⟩] fun cx => ?_
 refine AT.big3 tOk 0 4 9 kr (And.intro kr ?_) (And.intro kr ?_) (And.intro kr ?_)
 ·refine lA 1 ?_
  refine fA ?_
  refine AT.big3 tOk 3 4 9 kr (And.intro kr ?_) (And.intro kr ?_) (And.intro kr ?_)
  ·refine pD Link.row hg1 ?_
   refine fA ?_
   refine AT.big2 tOk 4 9 kr (And.intro kr ?_) (And.intro kr ?_)
   ·refine lA 1 ?_
    refine fA ?_
    refine AT.big2 tOk 7 9 kr (And.intro kr ?_) (And.intro kr ?_)
    ·refine pD Say.row hg2 ?_
     refine fA ?_
     refine AT.big2 tOk 8 9 kr (And.intro kr ?_) (And.intro kr ?_)
     ·refine lA 1 ?_
      refine fA ?_
      refine bA 9 ?_
      refine lA 1 ?_
      refine fA ?_
      refine bA 10 ?_
      refine lA 1 ?_
      refine fA ?_
      exact eE [3,2,1] [3,2,1]
     ·refine lA 1 ?_
      refine fA ?_
      refine bA 8 ?_
      refine lA 1 ?_
      refine fA ?_
      refine bA 10 ?_
      refine lA 1 ?_
      refine fA ?_
      exact eE [3,2,1] [3,2,1]
    ·refine lA 1 ?_
     refine fA ?_
     refine bA 7 ?_
     refine pD Say.row hg2 ?_
     refine fA ?_
     refine bA 8 ?_
     refine lA 1 ?_
     refine fA ?_
     refine bA 10 ?_
     refine lA 1 ?_
     refine fA ?_
     exact eE [3,2,1] [3,2,1]
   ·refine lA 1 ?_
    refine fA ?_
    refine bA 4 ?_
    refine lA 1 ?_
    refine fA ?_
    refine bA 7 ?_
    refine pD Say.row hg2 ?_
    refine fA ?_
    refine bA 8 ?_
    refine lA 1 ?_
    refine fA ?_
    refine bA 10 ?_
    refine lA 1 ?_
    refine fA ?_
    exact eE [3,2,1] [3,2,1]
  ·refine lA 1 ?_
   refine fA ?_
   refine AT.big2 tOk 3 9 kr (And.intro kr ?_) (And.intro kr ?_)
   ·refine pD Link.row hg1 ?_
    refine fA ?_
    refine AT.big2 tOk 7 9 kr (And.intro kr ?_) (And.intro kr ?_)
    ·refine pD Say.row hg2 ?_
     refine fA ?_
     refine AT.big2 tOk 8 9 kr (And.intro kr ?_) (And.intro kr ?_)
     ·refine lA 1 ?_
      refine fA ?_
      refine bA 9 ?_
      refine lA 1 ?_
      refine fA ?_
      refine bA 10 ?_
      refine lA 1 ?_
      refine fA ?_
      exact eE [3,2,1] [3,2,1]
     ·refine lA 1 ?_
      refine fA ?_
      refine bA 8 ?_
      refine lA 1 ?_
      refine fA ?_
      refine bA 10 ?_
      refine lA 1 ?_
      refine fA ?_
      exact eE [3,2,1] [3,2,1]
    ·refine lA 1 ?_
     refine fA ?_
     refine bA 7 ?_
     refine pD Say.row hg2 ?_
     refine fA ?_
     refine bA 8 ?_
     refine lA 1 ?_
     refine fA ?_
     refine bA 10 ?_
     refine lA 1 ?_
     refine fA ?_
     exact eE [3,2,1] [3,2,1]
   ·refine lA 1 ?_
    refine fA ?_
    refine bA 3 ?_
    refine pD Link.row hg1 ?_
    refine fA ?_
    refine bA 7 ?_
    refine pD Say.row hg2 ?_
    refine fA ?_
    refine bA 8 ?_
    refine lA 1 ?_
    refine fA ?_
    refine bA 10 ?_
    refine lA 1 ?_
    refine fA ?_
    exact eE [3,2,1] [3,2,1]
  ·refine lA 1 ?_
   refine fA ?_
   refine AT.big2 tOk 3 4 kr (And.intro kr ?_) (And.intro kr ?_)
   ·refine pD Link.row hg1 ?_
    refine fA ?_
    refine bA 4 ?_
    refine lA 1 ?_
    refine fA ?_
    refine bA 7 ?_
    refine pD Say.row hg2 ?_
    refine fA ?_
    refine bA 8 ?_
    refine lA 1 ?_
    refine fA ?_
    refine bA 10 ?_
    refine lA 1 ?_
    refine fA ?_
    exact eE [3,2,1] [3,2,1]
   ·refine lA 1 ?_
    refine fA ?_
    refine bA 3 ?_
    refine pD Link.row hg1 ?_
    refine fA ?_
    refine bA 7 ?_
    refine pD Say.row hg2 ?_
    refine fA ?_
    refine bA 8 ?_
    refine lA 1 ?_
    refine fA ?_
    refine bA 10 ?_
    refine lA 1 ?_
    refine fA ?_
    exact eE [3,2,1] [3,2,1]
 ·refine lA 1 ?_
  refine fA ?_
  refine AT.big2 tOk 0 9 kr (And.intro kr ?_) (And.intro kr ?_)
  ·refine lA 1 ?_
   refine fA ?_
   refine AT.big2 tOk 3 9 kr (And.intro kr ?_) (And.intro kr ?_)
   ·refine pD Link.row hg1 ?_
    refine fA ?_
    refine AT.big2 tOk 7 9 kr (And.intro kr ?_) (And.intro kr ?_)
    ·refine pD Say.row hg2 ?_
     refine fA ?_
     refine AT.big2 tOk 8 9 kr (And.intro kr ?_) (And.intro kr ?_)
     ·refine lA 1 ?_
      refine fA ?_
      refine bA 9 ?_
      refine lA 1 ?_
      refine fA ?_
      refine bA 10 ?_
      refine lA 1 ?_
      refine fA ?_
      exact eE [3,2,1] [3,2,1]
     ·refine lA 1 ?_
      refine fA ?_
      refine bA 8 ?_
      refine lA 1 ?_
      refine fA ?_
      refine bA 10 ?_
      refine lA 1 ?_
      refine fA ?_
      exact eE [3,2,1] [3,2,1]
    ·refine lA 1 ?_
     refine fA ?_
     refine bA 7 ?_
     refine pD Say.row hg2 ?_
     refine fA ?_
     refine bA 8 ?_
     refine lA 1 ?_
     refine fA ?_
     refine bA 10 ?_
     refine lA 1 ?_
     refine fA ?_
     exact eE [3,2,1] [3,2,1]
   ·refine lA 1 ?_
    refine fA ?_
    refine bA 3 ?_
    refine pD Link.row hg1 ?_
    refine fA ?_
    refine bA 7 ?_
    refine pD Say.row hg2 ?_
    refine fA ?_
    refine bA 8 ?_
    refine lA 1 ?_
    refine fA ?_
    refine bA 10 ?_
    refine lA 1 ?_
    refine fA ?_
    exact eE [3,2,1] [3,2,1]
  ·refine lA 1 ?_
   refine fA ?_
   refine bA 0 ?_
   refine lA 1 ?_
   refine fA ?_
   refine bA 3 ?_
   refine pD Link.row hg1 ?_
   refine fA ?_
   refine bA 7 ?_
   refine pD Say.row hg2 ?_
   refine fA ?_
   refine bA 8 ?_
   refine lA 1 ?_
   refine fA ?_
   refine bA 10 ?_
   refine lA 1 ?_
   refine fA ?_
   exact eE [3,2,1] [3,2,1]
 ·refine lA 1 ?_
  refine fA ?_
  refine AT.big2 tOk 0 4 kr (And.intro kr ?_) (And.intro kr ?_)
  ·refine lA 1 ?_
   refine fA ?_
   refine AT.big2 tOk 3 4 kr (And.intro kr ?_) (And.intro kr ?_)
   ·refine pD Link.row hg1 ?_
    refine fA ?_
    refine bA 4 ?_
    refine lA 1 ?_
    refine fA ?_
    refine bA 7 ?_
    refine pD Say.row hg2 ?_
    refine fA ?_
    refine bA 8 ?_
    refine lA 1 ?_
    refine fA ?_
    refine bA 10 ?_
    refine lA 1 ?_
    refine fA ?_
    exact eE [3,2,1] [3,2,1]
   ·refine lA 1 ?_
    refine fA ?_
    refine bA 3 ?_
    refine pD Link.row hg1 ?_
    refine fA ?_
    refine bA 7 ?_
    refine pD Say.row hg2 ?_
    refine fA ?_
    refine bA 8 ?_
    refine lA 1 ?_
    refine fA ?_
    refine bA 10 ?_
    refine lA 1 ?_
    refine fA ?_
    exact eE [3,2,1] [3,2,1]
  ·refine lA 1 ?_
   refine fA ?_
   refine bA 0 ?_
   refine lA 1 ?_
   refine fA ?_
   refine bA 3 ?_
   refine pD Link.row hg1 ?_
   refine fA ?_
   refine bA 7 ?_
   refine pD Say.row hg2 ?_
   refine fA ?_
   refine bA 8 ?_
   refine lA 1 ?_
   refine fA ?_
   refine bA 10 ?_
   refine lA 1 ?_
   refine fA ?_
   exact eE [3,2,1] [3,2,1]
theorem zJZ (n : Nat) (x0 : Net) (r : Net) (H : Jo n x0 = some r) : zI Try.prog 168 [.val true (CV.frzRow (Net.row x0))] [.val true (Net.row r)] [] := by
 refine cW Try.func168 (fun g d => sl [g 0,d 1,sl [g 2] (.block 0 (.loop (sl [sl [g 3] (cn 18 .skip (.exit 0)),.block 1 (d 5)] (g 4)))),g 6] .ret) [.cell 2 76] fun cx => ?_
 unfold Jo at H
 refine gA 2 6 6 ?_
 obtain ⟨hg1,H⟩ := gs H
 obtain ⟨hg2,H⟩ := gs H
 refine sT ⟨33,0,[sA 2 2 3 0,sA 1 1 3 0],[(2,[cL 11 ([] : List zA) zA.row,cL 4 ([] : List Link) Link.row,cL 7 ([] : List Say) Say.row]),(1,(CV.frzRow (Net.row x0)))]⟩ ?_
 refine Tr.draws mixed 11 kr ⟨33,0,[sA 3 3 3 0,sA 2 2 3 0,sA 1 1 3 0],[(3,[cL 11 ([] : List zA) zA.row,cL 4 (([] : List Link) ++ x0.Ls) Link.row,cL 7 (([] : List Say) ++ x0.Said) Say.row]),(2,[cL 11 ([] : List zA) zA.row,cL 4 ([] : List Link) Link.row,cL 7 ([] : List Say) Say.row]),(1,(CV.frzRow (Net.row x0)))]⟩ (zHX n x0 hg1 hg2) ?_
 refine tS ?_
 refine gA 1 30 14 ?_
 obtain ⟨o6,eo6,Ho6⟩ := bs H
 clear H
 refine Tr.mid (ι := (List zA)) (fun v => ⟨33,0,[sA 3 3 3 0,sA 2 2 3 0],[(3,[cL 11 v zA.row,cL 4 (([] : List Link) ++ x0.Ls) Link.row,cL 7 (([] : List Say) ++ x0.Said) Say.row]),(2,[cL 11 ([] : List zA) zA.row,cL 4 ([] : List Link) Link.row,cL 7 ([] : List Say) Say.row])]⟩) (fun v => J4 n x0 v = some r) ?_ ?_
 ·refine tB ?_
  refine Tr.loop (ι := Nat × (Int × (List zA))) (fun v => ⟨33,0,[sI 4 v.2.1,sA 3 3 3 0,sA 2 2 3 0,sA 1 1 3 0],[(3,[cL 11 v.2.2 zA.row,cL 4 (([] : List Link) ++ x0.Ls) Link.row,cL 7 (([] : List Say) ++ x0.Said) Say.row]),(2,[cL 11 ([] : List zA) zA.row,cL 4 ([] : List Link) Link.row,cL 7 ([] : List Say) Say.row]),(1,(CV.frzRow (Net.row x0)))]⟩) (fun v => QA n v.1 x0 v.2.1 v.2.2 = some o6) (fun v => v.1) (n,(0,([] : List zA))) eo6 (St.sub_of [4,3,2,1] [3,2,1] kr) ?_
  rintro ⟨mo6,y3,y4⟩ H
  have H : QA n mo6 x0 y3 y4 = some o6 := H
  obtain _ | mo6 := mo6
  ·exact nN H
  rw [QA] at H
  refine tS ?_
  refine rA 3 ?_
  refine kF x0.Bs zA.row ?_
  refine uA 1 262174 14 ?_
  obtain ⟨h1,H⟩ | ⟨h1,H⟩ := bC H
  ·refine nA h1 ?_
   refine Tr.exit ?_
   refine aJ ?_
   obtain rfl := si H
   have H := Ho6
   dsimp only at H
   exact jA y4 H [3,2] [3,2]
  refine tA h1 ?_
  refine tK ?_
  refine tS ?_
  refine tB ?_
  obtain ⟨v7,ev7,H⟩ := bs H
  obtain ⟨r8,er8,H⟩ := bs H
  obtain ⟨hg9,H⟩ := gs H
  refine Tr.draw mixed 12 kr ⟨33,0,[sI 4 y3,sA 3 3 3 0,sA 2 2 3 0,sA 1 1 3 0],[(3,[cL 11 (y4 ++ [r8]) zA.row,cL 4 (([] : List Link) ++ x0.Ls) Link.row,cL 7 (([] : List Say) ++ x0.Said) Say.row]),(2,[cL 11 ([] : List zA) zA.row,cL 4 ([] : List Link) Link.row,cL 7 ([] : List Say) Say.row]),(1,(CV.frzRow (Net.row x0)))]⟩ (fun cx => ?_) ?_
  ·refine mA zBQ [(0,[]),(1,[9,11]),(2,[]),(3,[7,8,9,11]),(4,[])] 7 [⟨[7,8,9,11],53,23,24⟩,⟨[9,11],53,21,22⟩] fun cx => ?_
   refine iN zBQ 5 zA.row ev7 fun cx => ?_
   refine mA zBQ [(6,[])] 5 [⟨[7,8,9,11],53,23,24⟩,⟨[9,11],53,21,22⟩] fun cx => ?_
   refine mC zBQ 7 ?_
   refine vA [.rd] (zBk n v7 r8 er8) ?_
   refine fA ?_
   refine mC zBQ 8 ?_
   refine lA 1 ?_
   refine fA ?_
   refine mC zBQ 9 ?_
   refine LAt.appMU tOk (t := 53) (ty := 53) (e := 42) (x := (.tmp 22)) (y := (.tmp 29)) (d := 30) (g := none) (tI 42) zA.row y4 [r8] kr kr kr kr kr kr kr kr kr kr hg9 ?_
   refine fA ?_
   refine mA zBQ [(10,[])] 1 [⟨[7,8,9,11],53,23,24⟩,⟨[9,11],53,21,22⟩] fun cx => ?_
   refine mC zBQ 11 ?_
   refine lA 1 ?_
   refine fA ?_
   exact mE zBQ [4,3,2,1] [3,2,1]
  refine eA 3 30 14 ?_
  exact jB mo6 ((IntKind.wrap .i64 (y3 + 1)),(y4 ++ [r8])) H [4,3,2,1] [3,2,1]
 rintro y5 H
 have H : (J4 n x0 y5) = some r := H
 unfold J4 at H
 refine gA 2 4 4 ?_
 exact te (fJ [(true,[cL 11 y5 zA.row,cL 4 (([] : List Link) ++ x0.Ls) Link.row,cL 7 (([] : List Say) ++ x0.Said) Say.row])] H)
def zAd (n : Nat) (y3 : (List zB)) : Option ((List zB)) :=
  (some y3)
def qw (n : Nat) : Nat → (List zB) → Int → (List zB) → Option (((List zB)) ⊕ ((List zB)))
  | 0,_,_,_ => none
  | mo4 + 1,x0,y1,y2 => (bif (decide (y1 < (x0.length : Int))) then ((idx x0 y1).bind fun v5 => (bif v5.Sc then (bif (decide (y2.length + [v5].length ≤ 268435456)) then (qw n mo4 x0 (IntKind.wrap .i64 (y1 + 1)) (y2 ++ [v5])) else none) else (bif (decide (v5.Age < 4)) then (bif (decide (y2.length + [(⟨v5.Tag,v5.Mac,v5.Port,(IntKind.wrap .i64 (v5.Age + 1)),v5.Sc⟩ : zB)].length ≤ 268435456)) then (qw n mo4 x0 (IntKind.wrap .i64 (y1 + 1)) (y2 ++ [(⟨v5.Tag,v5.Mac,v5.Port,(IntKind.wrap .i64 (v5.Age + 1)),false⟩ : zB)])) else none) else (qw n mo4 x0 (IntKind.wrap .i64 (y1 + 1)) y2)))) else (some (Sum.inl y2)))
def Ye (n : Nat) (x0 : (List zB)) : Option ((List zB)) :=
  ((qw n n x0 0 ([] : List zB)).bind fun o => match o with | .inl y3 => (zAd n y3) | .inr r => some r)
theorem zJz (n : Nat) (x0 : (List zB)) (r : (List zB)) (H : Ye n x0 = some r) : zI Try.prog 180 [.val false [.sl false 5 (CV.frzEs (x0.map zB.row))]] [.val false [.sl true 5 (r.map zB.row)]] [] := by
 refine cW Try.func180 (fun g d => sl [g 0,g 1,sl [g 2] (.block 0 (.loop (sl [sl [g 3] (cn 10 .skip (.exit 0)),.block 1 (sl [g 5,sl [g 6] (cn 18 (sl [g 7] (.exit 1)) .skip),g 8] (cn 25 (sl [g 9] (g 10)) .skip))] (g 4)))),g 11] .ret) [.tmp 2] fun cx => ?_
 unfold Ye at H
 refine gA 1 1 0 ?_
 refine rA 1 ?_
 refine LAt.moveU (T := lk tab) (ty := 36) (x := (.tmp 6)) (d := 3) (g := none) false [cL 5 ([] : List zB) zB.row] kr kr kr kr kr ?_
 refine dA 9 0 ?_
 refine tS ?_
 refine gA 1 25 0 ?_
 obtain ⟨o4,eo4,Ho4⟩ := bs H
 clear H
 refine Tr.mid (ι := (List zB)) (fun v => ⟨35,0,[sC 3 (cL 5 v zB.row)],[]⟩) (fun v => zAd n v = some r) ?_ ?_
 ·refine tB ?_
  refine Tr.loop (ι := Nat × (Int × (List zB))) (fun v => ⟨35,0,[sI 4 v.2.1,sC 3 (cL 5 v.2.2 zB.row),sC 0 (cF 5 x0 zB.row)],[]⟩) (fun v => qw n v.1 x0 v.2.1 v.2.2 = some o4) (fun v => v.1) (n,(0,([] : List zB))) eo4 (St.sub_of [4,3,0] [] kr) ?_
  rintro ⟨mo4,y1,y2⟩ H
  have H : qw n mo4 x0 y1 y2 = some o4 := H
  obtain _ | mo4 := mo4
  ·exact nN H
  rw [qw] at H
  refine tS ?_
  refine rA 2 ?_
  refine kF x0 zB.row ?_
  refine uA 1 1049 0 ?_
  obtain ⟨h1,H⟩ | ⟨h1,H⟩ := bC H
  ·refine nA h1 ?_
   refine Tr.exit ?_
   refine aJ ?_
   obtain rfl := si H
   have H := Ho4
   dsimp only at H
   exact jA y2 H [3] []
  refine tA h1 ?_
  refine tK ?_
  refine tS ?_
  refine tB ?_
  refine rA 2 ?_
  obtain ⟨v5,ev5,H⟩ := bs H
  refine iA zB.row ev5 ?_
  refine uA 3 57 32 ?_
  refine tS ?_
  refine gA 2 262201 32 ?_
  refine sT ⟨35,0,[sB 18 v5.Sc,sA 5 5 5 0,sI 4 y1,sC 3 (cL 5 y2 zB.row),sC 0 (cF 5 x0 zB.row)],[(5,(zB.row v5))]⟩ ?_
  cases h2 : v5.Sc
  ·have H := zG h2 H
   refine nB_ ?_
   refine tK ?_
   refine gA 3 33554489 32 ?_
   obtain ⟨h3,H⟩ | ⟨h3,H⟩ := bC H
   ·refine nA h3 ?_
    refine tK ?_
    refine eA 3 25 0 ?_
    exact jB mo4 ((IntKind.wrap .i64 (y1 + 1)),y2) H [4,3,0] []
   refine tA h3 ?_
   refine gA 5 57 32 ?_
   refine Tr.at ?_
   refine lA 3 ?_
   obtain ⟨hg6,H⟩ := gs H
   refine LAt.appMU tOk (t := 36) (ty := 36) (e := 60) (x := (.tmp 30)) (y := (.tmp 32)) (d := 33) (g := none) (tI 60) zB.row y2 [(⟨v5.Tag,v5.Mac,v5.Port,(IntKind.wrap .i64 (v5.Age + 1)),v5.Sc⟩ : zB)] kr kr kr kr kr kr kr kr kr kr hg6 ?_
   refine LAt.moveU (T := lk tab) (ty := 36) (x := (.tmp 33)) (d := 3) (g := none) false [cL 5 (y2 ++ [(⟨v5.Tag,v5.Mac,v5.Port,(IntKind.wrap .i64 (v5.Age + 1)),v5.Sc⟩ : zB)]) zB.row] kr kr kr kr kr ?_
   refine dA 25 0 ?_
   refine eA 3 25 0 ?_
   refine sC' 25 0 ⟨35,0,[sI 4 (IntKind.wrap .i64 (y1 + 1)),sC 3 (cL 5 (y2 ++ [(⟨v5.Tag,v5.Mac,v5.Port,(IntKind.wrap .i64 (v5.Age + 1)),v5.Sc⟩ : zB)]) zB.row),sC 0 (cF 5 x0 zB.row)],[]⟩ ?_
   rw [h2]
   exact jB mo4 ((IntKind.wrap .i64 (y1 + 1)),(y2 ++ [(⟨v5.Tag,v5.Mac,v5.Port,(IntKind.wrap .i64 (v5.Age + 1)),false⟩ : zB)])) H [4,3,0] []
  have H := zH h2 H
  refine tB_ ?_
  refine rA 3 ?_
  obtain ⟨hg7,H⟩ := gs H
  refine LAt.appMU tOk (t := 36) (ty := 36) (e := 60) (x := (.tmp 19)) (y := (.tmp 21)) (d := 22) (g := none) (tI 60) zB.row y2 [v5] kr kr kr kr kr kr kr kr kr kr hg7 ?_
  refine LAt.moveU (T := lk tab) (ty := 36) (x := (.tmp 22)) (d := 3) (g := none) false [cL 5 (y2 ++ [v5]) zB.row] kr kr kr kr kr ?_
  refine dA 25 0 ?_
  refine Tr.exit ?_
  refine aJ ?_
  refine eA 3 25 0 ?_
  exact jB mo4 ((IntKind.wrap .i64 (y1 + 1)),(y2 ++ [v5])) H [4,3,0] []
 rintro y3 H
 have H : (zAd n y3) = some r := H
 unfold zAd at H
 refine gA 2 12 0 ?_
 exact te (fJ [(false,[cL 5 y3 zB.row])] H)
def zAg (n : Nat) (x0 : zA) : Option (zA) :=
  ((QP n x0).bind fun r1 => ((zT n x0).bind fun r2 => (bif (!r2) then (some r1) else ((Yh n x0.Tk).bind fun r3 => ((Ye n x0.F).bind fun r4 => ((qx n (⟨r1.Id,r1.Name,r1.Ps,r4,r1.V,r3,r1.Pa,r1.Wo,r1.Dr,r1.Ve⟩ : zA)).bind fun r5 => (some r5)))))))
theorem zLd (n : Nat) (x0 : zA) (r : zA) (H : zAg n x0 = some r) : zI Try.prog 169 [.val true (CV.frzRow (zA.row x0))] [.val true (zA.row r)] [] := by
 refine cW Try.func169 (fun g d => sl [g 0,g 1,sl [g 2] (cn 8 (sl [g 3] .ret) .skip),g 4,g 5,g 6] .ret) [.cell 2 42] fun cx => ?_
 unfold zAg at H
 refine gA 2 6 6 ?_
 refine rA 1 ?_
 obtain ⟨r1,er1,H⟩ := bs H
 refine vA [.rd] (zBk n x0 r1 er1) ?_
 refine uA 2 14 14 ?_
 refine tS ?_
 refine rA 1 ?_
 obtain ⟨r2,er2,H⟩ := bs H
 refine vA [.rd] (zCm n x0 r2 er2) ?_
 refine uA 1 270 14 ?_
 obtain ⟨h1,H⟩ | ⟨h1,H⟩ := bC H
 ·refine nA h1 ?_
  refine tK ?_
  refine rA 2 ?_
  obtain ⟨r3,er3,H⟩ := bs H
  refine vA [.rd] (zGV n x0.Tk r3 er3) ?_
  refine uA 2 14 14 ?_
  refine rA 2 ?_
  obtain ⟨r4,er4,H⟩ := bs H
  refine vA [.rd] (zJz n x0.F r4 er4) ?_
  refine uA 2 12 12 ?_
  refine rA 1 ?_
  obtain ⟨r5,er5,H⟩ := bs H
  refine vA [.own] (zCA n (⟨r1.Id,r1.Name,r1.Ps,r4,r1.V,r3,r1.Pa,r1.Wo,r1.Dr,r1.Ve⟩ : zA) r5 er5) ?_
  refine uA 1 4 4 ?_
  exact te (fJ [(true,(zA.row r5))] H)
 refine tA h1 ?_
 refine gA 2 4 4 ?_
 exact te (fJ [(true,(zA.row r1))] H)
def Qj (n : Nat) (x0 : Net) (x1 : Int) (x2 : Int) : Option (Bool) :=
  ((zP n x1 0 (IntKind.wrap .i64 ((x0.Bs.length : Int) - 1))).bind fun r1 => (bif r1 then ((idx x0.Bs x1).bind fun v2 => ((zP n x2 0 (IntKind.wrap .i64 ((v2.Ps.length : Int) - 1))).bind fun r3 => (bif r3 then ((idx x0.Bs x1).bind fun v4 => ((idx v4.Ps x2).bind fun v5 => (some v5.Up))) else (some false)))) else (some false)))
theorem zHZ (n : Nat) (x0 : Net) (x1 : Int) (x2 : Int) (r : Bool) (H : Qj n x0 x1 x2 = some r) : zI Try.prog 202 [.val true (CV.frzRow (Net.row x0)),.val false [.lit (.int .i64 x1)],.val false [.lit (.int .i64 x2)]] [.val false [.lit (.bool r)]] [] := by
 refine cW Try.func202 (fun g d => sl [g 0,g 1] .ret) [.tmp 6] fun cx => ?_
 unfold Qj at H
 refine gA 2 14 8 ?_
 refine rA 3 ?_
 refine kF x0.Bs zA.row ?_
 refine lA 1 ?_
 obtain ⟨r1,er1,H⟩ := bs H
 refine vA [.rd,.rd,.rd] (zQ n x1 0 (IntKind.wrap .i64 ((x0.Bs.length : Int) - 1)) r1 er1) ?_
 refine lA 1 ?_
 refine sL 8206 8 ⟨37,0,[sB 13 r1,sA 3 3 3 0,sI 1 x1,sI 2 x2],[(3,(CV.frzRow (Net.row x0)))]⟩ ?_
 cases h1 : r1
 ·have H := zG h1 H
  refine uA 24 64 0 ?_
  exact te (fF H)
 have H := zH h1 H
 refine lA 4 ?_
 obtain ⟨v2,ev2,H⟩ := bs H
 refine iA zA.row ev2 ?_
 refine lA 2 ?_
 refine kF v2.Ps Pt.row ?_
 refine lA 1 ?_
 obtain ⟨r3,er3,H⟩ := bs H
 refine vA [.rd,.rd,.rd] (zQ n x2 0 (IntKind.wrap .i64 ((v2.Ps.length : Int) - 1)) r3 er3) ?_
 refine lA 2 ?_
 refine sL 33554446 8 ⟨37,0,[sB 25 r3,sA 3 3 3 0,sI 1 x1,sI 2 x2],[(3,(CV.frzRow (Net.row x0)))]⟩ ?_
 cases h2 : r3
 ·have H := zG h2 H
  refine uA 12 64 0 ?_
  exact te (fF H)
 have H := zH h2 H
 refine lA 3 ?_
 obtain ⟨v4,ev4,H⟩ := bs H
 refine iA zA.row ev4 ?_
 refine lA 3 ?_
 obtain ⟨v5,ev5,H⟩ := bs H
 refine iA Pt.row ev5 ?_
 refine uA 4 64 0 ?_
 exact te (fJ [(false,[cB v5.Up])] H)
def q3 (n : Nat) (x0 : Net) (x1 : Int) : Option (Bool) :=
  ((zP n x1 0 (IntKind.wrap .i64 ((x0.Ls.length : Int) - 1))).bind fun r1 => (bif (!r1) then (some false) else ((idx x0.Ls x1).bind fun v2 => ((Qj n x0 v2.A v2.P).bind fun r3 => (bif r3 then ((Qj n x0 v2.B v2.Q).bind fun r4 => (some r4)) else (some false))))))
theorem zD8 (n : Nat) (x0 : Net) (x1 : Int) (r : Bool) (H : q3 n x0 x1 = some r) : zI Try.prog 192 [.val true (CV.frzRow (Net.row x0)),.val false [.lit (.int .i64 x1)]] [.val false [.lit (.bool r)]] [] := by
 refine cW Try.func192 (fun g d => sl [g 0,sl [g 1] (cn 12 (sl [g 2] .ret) .skip),g 3,g 4] .ret) [.tmp 4] fun cx => ?_
 unfold q3 at H
 refine gA 2 6 4 ?_
 refine tS ?_
 refine rA 3 ?_
 refine kF x0.Ls Link.row ?_
 refine lA 1 ?_
 obtain ⟨r1,er1,H⟩ := bs H
 refine vA [.rd,.rd,.rd] (zQ n x1 0 (IntKind.wrap .i64 ((x0.Ls.length : Int) - 1)) r1 er1) ?_
 refine uA 1 4102 4 ?_
 obtain ⟨h1,H⟩ | ⟨h1,H⟩ := bC H
 ·refine nA h1 ?_
  refine tK ?_
  refine rA 3 ?_
  obtain ⟨v2,ev2,H⟩ := bs H
  refine iA Link.row ev2 ?_
  refine uA 3 36 36 ?_
  refine rA 5 ?_
  obtain ⟨r3,er3,H⟩ := bs H
  refine vA [.rd,.rd,.rd] (zHZ n x0 v2.A v2.P r3 er3) ?_
  refine lA 1 ?_
  refine sL 16777252 36 ⟨32,0,[sB 24 r3,sA 5 5 4 0,sA 2 2 3 0],[(5,(Link.row v2)),(2,(CV.frzRow (Net.row x0)))]⟩ ?_
  cases h2 : r3
  ·have H := zG h2 H
   refine uA 8 16 0 ?_
   exact te (fF H)
  have H := zH h2 H
  refine lA 5 ?_
  obtain ⟨r4,er4,H⟩ := bs H
  refine vA [.rd,.rd,.rd] (zHZ n x0 v2.B v2.Q r4 er4) ?_
  refine uA 2 16 0 ?_
  exact te (fJ [(false,[cB r4])] H)
 refine tA h1 ?_
 refine gA 1 16 0 ?_
 exact te (fF H)
def JS (n : Nat) (x0 : Net) (x1 : Int) (x2 : Bool) : Option (Vec) :=
  ((idx x0.Ls x1).bind fun v1 => (bif x2 then ((idx x0.Bs v1.B).bind fun v5 => ((idx x0.Bs v1.B).bind fun v6 => ((qX n v5.Id v6.Ps v1.Q).bind fun r7 => (some r7)))) else ((idx x0.Bs v1.A).bind fun v2 => ((idx x0.Bs v1.A).bind fun v3 => ((qX n v2.Id v3.Ps v1.P).bind fun r4 => (some r4))))))
def zM7 : Tab := ⟨18,[0,1,0,4,10,16,32,0,128,0,512,1280,2048,4096,0,16384,41024,131071],[0,1,0,4,10,16,32,0,128,0,512,1280,2048,4096,0,16384,41024,65536],[0,1,0,4,15,31,63,0,128,0,512,1920,3968,8064,0,16384,65535,131071]⟩
theorem zCP : zk (rg Try.f193 3) zM7 = true := kr
def zM8 : Tab := ⟨18,[0,1,0,4,10,16,32,0,128,0,512,1280,2048,4096,0,16384,41024,131071],[0,1,0,4,10,16,32,0,128,0,512,1280,2048,4096,0,16384,41024,65536],[0,1,0,4,15,31,63,0,128,0,512,1920,3968,8064,0,16384,65535,131071]⟩
theorem zCQ : zk (rg Try.f193 4) zM8 = true := kr
theorem zGW (n : Nat) (x0 : Net) (x1 : Int) (x2 : Bool) (r : Vec) (H : JS n x0 x1 x2 = some r) : zI Try.prog 193 [.val true (CV.frzRow (Net.row x0)),.val false [.lit (.int .i64 x1)],.val false [.lit (.bool x2)]] [.val true (Vec.row r)] [] := by
 refine cW Try.func193 (fun g d => sl [g 0,g 1,sl [g 2] (cn 13 (sl [d 3] .ret) .skip),d 4] .ret) [.cell 6 46] fun cx => ?_
 unfold JS at H
 refine gA 2 78 72 ?_
 refine rA 3 ?_
 obtain ⟨v1,ev1,H⟩ := bs H
 refine iA Link.row ev1 ?_
 refine uA 3 204 200 ?_
 refine tS ?_
 refine gA 1 8392 200 ?_
 cases h1 : x2
 ·have H := zG h1 H
  refine nB_ ?_
  refine tK ?_
  obtain ⟨v2,ev2,H⟩ := bs H
  obtain ⟨v3,ev3,H⟩ := bs H
  obtain ⟨r4,er4,H⟩ := bs H
  refine Tr.draws mixed 18 kr ⟨48,0,[sA 6 6 5 0],[(6,(Vec.row r4))]⟩ (fun cx => ?_) ?_
  ·refine mA zCQ [(0,[]),(1,[16,17]),(2,[]),(3,[16,17])] 14 [⟨[16,17],3,33,34⟩,⟨[16,17],53,31,32⟩] fun cx => ?_
   refine iN zCQ 4 zA.row ev2 fun cx => ?_
   refine mA zCQ [(5,[]),(6,[]),(7,[]),(8,[16,17]),(9,[]),(10,[16,17])] 7 [⟨[16,17],3,40,41⟩,⟨[16,17],53,38,39⟩,⟨[16,17],3,33,34⟩,⟨[16,17],53,31,32⟩] fun cx => ?_
   refine iN zCQ 11 zA.row ev3 fun cx => ?_
   refine mA zCQ [(12,[]),(13,[]),(14,[]),(15,[16,17])] 2 [⟨[16,17],3,45,46⟩,⟨[16,17],3,40,41⟩,⟨[16,17],53,38,39⟩,⟨[16,17],3,33,34⟩,⟨[16,17],53,31,32⟩] fun cx => ?_
   refine mC zCQ 16 ?_
   refine vA [.rd,.rd,.rd] (zD9 n v2.Id v3.Ps v1.P r4 er4) ?_
   refine fA ?_
   refine mC zCQ 17 ?_
   refine lA 1 ?_
   refine fA ?_
   exact mE zCQ [6] [6]
  exact te (fJ [(true,(Vec.row r4))] H)
 have H := zH h1 H
 refine tB_ ?_
 obtain ⟨v5,ev5,H⟩ := bs H
 obtain ⟨v6,ev6,H⟩ := bs H
 obtain ⟨r7,er7,H⟩ := bs H
 refine Tr.draws mixed 18 kr ⟨48,0,[sA 6 6 5 0],[(6,(Vec.row r7))]⟩ (fun cx => ?_) ?_
 ·refine mA zCP [(0,[]),(1,[16,17]),(2,[]),(3,[16,17])] 14 [⟨[16,17],3,16,17⟩,⟨[16,17],53,14,15⟩] fun cx => ?_
  refine iN zCP 4 zA.row ev5 fun cx => ?_
  refine mA zCP [(5,[]),(6,[]),(7,[]),(8,[16,17]),(9,[]),(10,[16,17])] 7 [⟨[16,17],3,23,24⟩,⟨[16,17],53,21,22⟩,⟨[16,17],3,16,17⟩,⟨[16,17],53,14,15⟩] fun cx => ?_
  refine iN zCP 11 zA.row ev6 fun cx => ?_
  refine mA zCP [(12,[]),(13,[]),(14,[]),(15,[16,17])] 2 [⟨[16,17],3,28,29⟩,⟨[16,17],3,23,24⟩,⟨[16,17],53,21,22⟩,⟨[16,17],3,16,17⟩,⟨[16,17],53,14,15⟩] fun cx => ?_
  refine mC zCP 16 ?_
  refine vA [.rd,.rd,.rd] (zD9 n v5.Id v6.Ps v1.Q r7 er7) ?_
  refine fA ?_
  refine mC zCP 17 ?_
  refine lA 1 ?_
  refine fA ?_
  exact mE zCP [6] [6]
 exact te (fJ [(true,(Vec.row r7))] H)
def JC (n : Nat) (x0 : Net) (y3 : (List Say)) : Option (Net) :=
  (some (⟨x0.Bs,x0.Ls,y3⟩ : Net))
def Z6 (n : Nat) (k : (Int × (List Say) → Option (((List Say)) ⊕ (Net)))) (x0 : Net) (x1 : Int) (y1 : Int) (y6 : (List Say)) : Option (((List Say)) ⊕ (Net)) :=
  ((idx x0.Ls y1).bind fun v7 => (bif (v7.B == x1) then ((JS n (⟨x0.Bs,x0.Ls,y6⟩ : Net) y1 true).bind fun r8 => (bif (decide (y6.length + [(⟨y1,true,r8⟩ : Say)].length ≤ 268435456)) then (k ((IntKind.wrap .i64 (y1 + 1)),(y6 ++ [(⟨y1,true,r8⟩ : Say)]))) else none)) else (k ((IntKind.wrap .i64 (y1 + 1)),y6))))
def qb (n : Nat) : Nat → Net → Int → Int → (List Say) → Option (((List Say)) ⊕ (Net))
  | 0,_,_,_,_ => none
  | mo4 + 1,x0,x1,y1,y2 => (bif (decide (y1 < (x0.Ls.length : Int))) then ((q3 n (⟨x0.Bs,x0.Ls,y2⟩ : Net) y1).bind fun r5 => (bif (!r5) then (qb n mo4 x0 x1 (IntKind.wrap .i64 (y1 + 1)) y2) else (bif (decide ((y2.length : Int) ≥ 40)) then (qb n mo4 x0 x1 (IntKind.wrap .i64 (y1 + 1)) y2) else ((idx x0.Ls y1).bind fun v10 => (bif (v10.A == x1) then ((JS n (⟨x0.Bs,x0.Ls,y2⟩ : Net) y1 false).bind fun r11 => (bif (decide (y2.length + [(⟨y1,false,r11⟩ : Say)].length ≤ 268435456)) then (Z6 n (fun v => qb n mo4 x0 x1 v.1 v.2) x0 x1 y1 (y2 ++ [(⟨y1,false,r11⟩ : Say)])) else none)) else (Z6 n (fun v => qb n mo4 x0 x1 v.1 v.2) x0 x1 y1 y2)))))) else (some (Sum.inl y2)))
def Y5 (n : Nat) (x0 : Net) (x1 : Int) : Option (Net) :=
  ((qb n n x0 x1 0 x0.Said).bind fun o => match o with | .inl y3 => (JC n x0 y3) | .inr r => some r)
def zMz : Tab := ⟨17,[0,0,2,4,8,0,0,64,128,0,768,1056,2048,5136,16383,32767,49151],[0,0,2,4,8,0,0,64,128,0,768,1056,2048,4112,1,16384,40960],[0,0,2,6,14,0,0,64,192,0,960,2016,4064,8190,16383,32767,65535]⟩
noncomputable abbrev zHg (k : Nat) := Rg Try.f170 k
noncomputable abbrev zMl (k : Nat) := Rd Try.f170 k
theorem zCL : zk (rg Try.f170 5) zMz = true := kr
def zM0 : Tab := ⟨17,[0,0,2,4,8,0,0,64,128,0,768,1056,2048,5136,16383,32767,49151],[0,0,2,4,8,0,0,64,128,0,768,1056,2048,4112,1,16384,40960],[0,0,2,6,14,0,0,64,192,0,960,2016,4064,8190,16383,32767,65535]⟩
theorem zCM : zk (rg Try.f170 7) zM0 = true := kr
theorem zIC (n : Nat) (x0 : Net) (x1 : Int) (r : Net) (H : Y5 n x0 x1 = some r) : zI Try.prog 170 [.ptr (Net.row x0),.val false [.lit (.int .i64 x1)]] [] [(0,(Net.row r))] := by
 refine zI.of_body tOk Try.func170 rfl (c := (.seq (zHg 0) (.block 0 (.loop (.seq (.seq (zHg 1) (.cond (.tmp 11) .skip (.exit 0))) (.seq (.block 1 (.seq (.seq (zHg 3) (.cond (.tmp 27) (.exit 1) .skip)) (.seq (.seq (zHg 4) (.cond (.tmp 37) (zMl 5) .skip)) (.seq (zHg 6) (.cond (.tmp 63) (zMl 7) .skip))))) (zHg 2))))))) kr (Nat.le_of_ble_eq_true kr) 1 (rs := []) rfl [] .nil [] [] [(0,(Net.row r))] fun cx => ?_
 show Tr _ _ _ ⟨80,1,[sA 0 0 3 0,sI 1 x1],[(0,(Net.row x0))]⟩ _
 unfold Y5 at H
 refine gA 1 19 1 ?_
 obtain ⟨o4,eo4,Ho4⟩ := bs H
 clear H
 refine Tr.mid (ι := (List Say)) (fun v => ⟨80,1,[sA 0 0 3 0],[(0,[cL 11 x0.Bs zA.row,cL 4 x0.Ls Link.row,cL 7 v Say.row])]⟩) (fun v => JC n x0 v = some r) ?_ ?_
 ·refine tB ?_
  refine Tr.loop (ι := Nat × (Int × (List Say))) (fun v => ⟨80,1,[sI 4 v.2.1,sA 0 0 3 0,sI 1 x1],[(0,[cL 11 x0.Bs zA.row,cL 4 x0.Ls Link.row,cL 7 v.2.2 Say.row])]⟩) (fun v => qb n v.1 x0 x1 v.2.1 v.2.2 = some o4) (fun v => v.1) (n,(0,x0.Said)) eo4 (St.sub_of [4,0,1] [0] kr) ?_
  rintro ⟨mo4,y1,y2⟩ H
  have H : qb n mo4 x0 x1 y1 y2 = some o4 := H
  obtain _ | mo4 := mo4
  ·exact nN H
  rw [qb] at H
  refine tS ?_
  refine rA 5 ?_
  refine kO x0.Ls Link.row ?_
  refine uA 1 2067 1 ?_
  obtain ⟨h1,H⟩ | ⟨h1,H⟩ := bC H
  ·refine nA h1 ?_
   refine Tr.exit ?_
   refine aJ ?_
   obtain rfl := si H
   have H := Ho4
   dsimp only at H
   exact jA y2 H [0] [0]
  refine tA h1 ?_
  refine tK ?_
  refine tS ?_
  refine tB ?_
  refine tS ?_
  refine rA 4 ?_
  obtain ⟨r5,er5,H⟩ := bs H
  refine vB [.rd,.rd] [.box 0] (zD8 n (⟨x0.Bs,x0.Ls,y2⟩ : Net) y1 r5 er5) (.inr (qV (zK zR qW) qh)) ?_
  refine lA 2 ?_
  refine sL 1048595 1 ⟨80,1,[sB 20 (!r5),sI 4 y1,sA 0 0 3 0,sI 1 x1],[(0,[cL 11 x0.Bs zA.row,cL 4 x0.Ls Link.row,cL 7 y2 Say.row])]⟩ ?_
  cases h2 : (!r5)
  ·have H := zG h2 H
   refine lA 4 ?_
   refine kO y2 Say.row ?_
   refine uA 2 134217747 1 ?_
   obtain ⟨h3,H⟩ | ⟨h3,H⟩ := bC H
   ·refine nA h3 ?_
    refine tK ?_
    refine tS ?_
    refine Tr.mid (ι := (List Say)) (fun v => ⟨80,1,[sI 4 y1,sA 0 0 3 0,sI 1 x1],[(0,[cL 11 x0.Bs zA.row,cL 4 x0.Ls Link.row,cL 7 v Say.row])]⟩) (fun v => Z6 n (fun v => qb n mo4 x0 x1 v.1 v.2) x0 x1 y1 v = some o4) ?_ ?_
    ·refine rA 5 ?_
     obtain ⟨v10,ev10,H⟩ := bs H
     refine oA Link.row ev10 ?_
     refine lA 1 ?_
     refine dE (tI 3) (.box 0) [(0,0),(1,(y1.toNat))] 4 0 [.sl true 3 [[cL 11 x0.Bs zA.row,cL 4 x0.Ls Link.row,cL 7 y2 Say.row]]] (Link.row v10) (zL rfl (zC ev10).2) ?_
     refine uA 2 137438953491 1 ?_
     obtain ⟨h5,H⟩ | ⟨h5,H⟩ := bC H
     ·refine nA h5 ?_
      refine tK ?_
      exact jA y2 H [4,0,1] [0]
     refine tA h5 ?_
     obtain ⟨r11,er11,H⟩ := bs H
     obtain ⟨hg12,H⟩ := gs H
     refine Tr.draw mixed 17 kr ⟨80,1,[sI 4 y1,sA 0 0 3 0,sI 1 x1],[(0,[cL 11 x0.Bs zA.row,cL 4 x0.Ls Link.row,cL 7 (y2 ++ [(⟨y1,false,r11⟩ : Say)]) Say.row])]⟩ (fun cx => ?_) ?_
     ·refine mA zCL [(0,[]),(1,[]),(2,[]),(3,[]),(4,[13,16]),(5,[]),(6,[]),(7,[]),(8,[10,11,12,13,16]),(9,[])] 7 [⟨[10,11,12,13,16],76,45,46⟩,⟨[13,16],74,41,42⟩] fun cx => ?_
      refine mC zCL 10 ?_
      refine vB [.rd,.rd,.rd] [.box 0] (zGW n (⟨x0.Bs,x0.Ls,y2⟩ : Net) y1 false r11 er11) (.inr (qV (Vec.row_mine _) qh)) ?_
      refine fA ?_
      refine mC zCL 11 ?_
      refine lA 1 ?_
      refine fA ?_
      refine mC zCL 12 ?_
      refine lA 1 ?_
      refine fA ?_
      refine mC zCL 13 ?_
      refine LAt.appMU tOk (t := 74) (ty := 74) (e := 177) (x := (.tmp 42)) (y := (.tmp 50)) (d := 51) (g := none) (tI 177) Say.row y2 [(⟨y1,false,r11⟩ : Say)] kr kr kr kr kr kr kr kr kr kr hg12 ?_
      refine fA ?_
      refine mA zCL [(14,[]),(15,[])] 1 [⟨[10,11,12,13,16],76,45,46⟩,⟨[13,16],74,41,42⟩] fun cx => ?_
      refine mC zCL 16 ?_
      refine lA 1 ?_
      refine fA ?_
      exact mE zCL [4,0,1] [0]
     exact jA (y2 ++ [(⟨y1,false,r11⟩ : Say)]) H [4,0,1] [0]
    rintro y6 H
    have H : (Z6 n (fun v => qb n mo4 x0 x1 v.1 v.2) x0 x1 y1 y6) = some o4 := H
    unfold Z6 at H
    refine rA 5 ?_
    obtain ⟨v7,ev7,H⟩ := bs H
    refine oA Link.row ev7 ?_
    refine lA 1 ?_
    refine dE (tI 3) (.box 0) [(0,0),(1,(y1.toNat))] 4 2 [.sl true 3 [[cL 11 x0.Bs zA.row,cL 4 x0.Ls Link.row,cL 7 y6 Say.row]]] (Link.row v7) (zL rfl (zC ev7).2) ?_
    refine uA 2 0x8000000000000013 1 ?_
    obtain ⟨h4,H⟩ | ⟨h4,H⟩ := bC H
    ·refine nA h4 ?_
     refine tK ?_
     refine eA 3 19 1 ?_
     exact jB mo4 ((IntKind.wrap .i64 (y1 + 1)),y6) H [4,0,1] [0]
    refine tA h4 ?_
    obtain ⟨r8,er8,H⟩ := bs H
    obtain ⟨hg9,H⟩ := gs H
    refine Tr.draw mixed 17 kr ⟨80,1,[sI 4 y1,sA 0 0 3 0,sI 1 x1],[(0,[cL 11 x0.Bs zA.row,cL 4 x0.Ls Link.row,cL 7 (y6 ++ [(⟨y1,true,r8⟩ : Say)]) Say.row])]⟩ (fun cx => ?_) ?_
    ·refine mA zCM [(0,[]),(1,[]),(2,[]),(3,[]),(4,[13,16]),(5,[]),(6,[]),(7,[]),(8,[10,11,12,13,16]),(9,[])] 7 [⟨[10,11,12,13,16],76,71,72⟩,⟨[13,16],74,67,68⟩] fun cx => ?_
     refine mC zCM 10 ?_
     refine vB [.rd,.rd,.rd] [.box 0] (zGW n (⟨x0.Bs,x0.Ls,y6⟩ : Net) y1 true r8 er8) (.inr (qV (Vec.row_mine _) qh)) ?_
     refine fA ?_
     refine mC zCM 11 ?_
     refine lA 1 ?_
     refine fA ?_
     refine mC zCM 12 ?_
     refine lA 1 ?_
     refine fA ?_
     refine mC zCM 13 ?_
     refine LAt.appMU tOk (t := 74) (ty := 74) (e := 177) (x := (.tmp 68)) (y := (.tmp 76)) (d := 77) (g := none) (tI 177) Say.row y6 [(⟨y1,true,r8⟩ : Say)] kr kr kr kr kr kr kr kr kr kr hg9 ?_
     refine fA ?_
     refine mA zCM [(14,[]),(15,[])] 1 [⟨[10,11,12,13,16],76,71,72⟩,⟨[13,16],74,67,68⟩] fun cx => ?_
     refine mC zCM 16 ?_
     refine lA 1 ?_
     refine fA ?_
     exact mE zCM [4,0,1] [0]
    refine eA 3 19 1 ?_
    exact jB mo4 ((IntKind.wrap .i64 (y1 + 1)),(y6 ++ [(⟨y1,true,r8⟩ : Say)])) H [4,0,1] [0]
   refine tA h3 ?_
   refine Tr.exit ?_
   refine aJ ?_
   refine eA 3 19 1 ?_
   exact jB mo4 ((IntKind.wrap .i64 (y1 + 1)),y2) H [4,0,1] [0]
  have H := zH h2 H
  refine uA 7 134217747 1 ?_
  refine tB_ ?_
  refine Tr.exit ?_
  refine aJ ?_
  refine eA 3 19 1 ?_
  exact jB mo4 ((IntKind.wrap .i64 (y1 + 1)),y2) H [4,0,1] [0]
 rintro y3 H
 have H : (JC n x0 y3) = some r := H
 unfold JC at H
 obtain rfl := si H
 exact Fin.ofY _ [] [] _ [] _ [(0,[cL 11 x0.Bs zA.row,cL 4 x0.Ls Link.row,cL 7 y3 Say.row])] kr rfl rfl rfl kr kr kr kr rfl rfl rfl
def QM (n : Nat) (x0 : zA) (x1 : Int) (x2 : Vec) : Option (zA) :=
  ((QP n x0).bind fun r1 => ((YY n x0 x1).bind fun r2 => (bif (!r2) then (some r1) else ((idx x0.Ps x1).bind fun v3 => (bif (!v3.Up) then (some r1) else ((zl n x2).bind fun r4 => (bif (!r4) then (some r1) else ((idx r1.Ps x1).bind fun v5 => ((idx (r1.Ps.set (x1.toNat) (⟨v5.Up,v5.Co,true,v5.Hd⟩ : Pt)) x1).bind fun v6 => ((qx n (⟨r1.Id,r1.Name,((r1.Ps.set (x1.toNat) (⟨v5.Up,v5.Co,true,v5.Hd⟩ : Pt)).set (x1.toNat) (⟨v6.Up,v6.Co,v6.Has,x2⟩ : Pt)),r1.F,r1.V,r1.Tk,r1.Pa,r1.Wo,r1.Dr,r1.Ve⟩ : zA)).bind fun r7 => (some r7)))))))))))
theorem zFe (n : Nat) (x0 : zA) (x1 : Int) (x2 : Vec) (r : zA) (H : QM n x0 x1 x2 = some r) : zI Try.prog 203 [.val true (CV.frzRow (zA.row x0)),.val false [.lit (.int .i64 x1)],.val true (CV.frzRow (Vec.row x2))] [.val true (zA.row r)] [] := by
 refine cW Try.func203 (fun g d => sl [g 0,g 1,sl [g 2] (cn 27 (sl [g 3] .ret) .skip),g 4,g 5,g 6] .ret) [.cell 6 42] fun cx => ?_
 unfold QM at H
 refine gA 3 106 104 ?_
 refine rA 1 ?_
 obtain ⟨r1,er1,H⟩ := bs H
 refine vA [.rd] (zBk n x0 r1 er1) ?_
 refine uA 2 234 232 ?_
 refine tS ?_
 refine rA 2 ?_
 obtain ⟨r2,er2,H⟩ := bs H
 refine vA [.rd,.rd] (zE1 n x0 x1 r2 er2) ?_
 refine lA 2 ?_
 refine sL 16618 232 ⟨42,0,[sB 14 (!r2),sA 7 7 11 0,sA 6 6 11 0,sA 5 5 5 0,sA 3 3 11 0,sI 1 x1],[(7,(zA.row r1)),(6,[cI 0,cS (⟨#[]⟩ : ByteArray),cL 8 ([] : List Pt) Pt.row,cL 5 ([] : List zB) zB.row,cL 3 ([] : List zF) zF.row,cL 1 ([] : List Int) intRow,cI 0,cI 0,cI 0,cI 0,cI 0]),(5,(Vec.row x2)),(3,(CV.frzRow (zA.row x0)))]⟩ ?_
 cases h1 : (!r2)
 ·have H := zG h1 H
  refine lA 3 ?_
  obtain ⟨v3,ev3,H⟩ := bs H
  refine iA Pt.row ev3 ?_
  refine lA 5 ?_
  refine sL 8388834 224 ⟨42,0,[sB 23 (!v3.Up),sA 7 7 11 0,sA 6 6 11 0,sA 5 5 5 0,sI 1 x1],[(7,(zA.row r1)),(6,[cI 0,cS (⟨#[]⟩ : ByteArray),cL 8 ([] : List Pt) Pt.row,cL 5 ([] : List zB) zB.row,cL 3 ([] : List zF) zF.row,cL 1 ([] : List Int) intRow,cI 0,cI 0,cI 0,cI 0,cI 0]),(5,(Vec.row x2))]⟩ ?_
  cases h2 : (!v3.Up)
  ·have H := zG h2 H
   refine lA 1 ?_
   obtain ⟨r4,er4,H⟩ := bs H
   refine vA [.rd] (zBj n x2 r4 er4) ?_
   refine uA 2 134217954 224 ?_
   obtain ⟨h3,H⟩ | ⟨h3,H⟩ := bC H
   ·refine nA h3 ?_
    refine tK ?_
    refine rA 3 ?_
    obtain ⟨v5,ev5,H⟩ := bs H
    refine oA Pt.row ev5 ?_
    refine lA 1 ?_
    refine LAt.storeB tOk (t := 4) (ty := 0) (ad := (.tmp 33)) (x := (.const (.bool true))) (g := none) (tI 4) false [cB true] 7 2 (x1.toNat) 8 2 8 r1.Ps Pt.row v5 (⟨v5.Up,v5.Co,true,v5.Hd⟩ : Pt) kr kr kr kr kr kr kr kr (zC ev5).2 kr kr kr kr ?_
    refine dA 226 224 ?_
    refine rA 4 ?_
    obtain ⟨v6,ev6,H⟩ := bs H
    refine oA Pt.row ev6 ?_
    refine lA 1 ?_
    refine LAt.storeB tOk (t := 46) (ty := 0) (ad := (.tmp 39)) (x := (.tmp 37)) (g := none) (tI 46) true (Vec.row x2) 7 2 (x1.toNat) 8 3 8 (r1.Ps.set (x1.toNat) (⟨v5.Up,v5.Co,true,v5.Hd⟩ : Pt)) Pt.row v6 (⟨v6.Up,v6.Co,v6.Has,x2⟩ : Pt) kr kr kr kr kr kr kr kr (zC ev6).2 kr kr kr kr ?_
    refine dA 192 192 ?_
    refine rA 1 ?_
    obtain ⟨r7,er7,H⟩ := bs H
    refine vA [.own] (zCA n (⟨r1.Id,r1.Name,((r1.Ps.set (x1.toNat) (⟨v5.Up,v5.Co,true,v5.Hd⟩ : Pt)).set (x1.toNat) (⟨v6.Up,v6.Co,v6.Has,x2⟩ : Pt)),r1.F,r1.V,r1.Tk,r1.Pa,r1.Wo,r1.Dr,r1.Ve⟩ : zA) r7 er7) ?_
    refine uA 1 64 64 ?_
    exact te (fJ [(true,(zA.row r7))] H)
   refine tA h3 ?_
   refine gA 2 64 64 ?_
   exact te (fJ [(true,(zA.row r1))] H)
  have H := zH h2 H
  refine uA 4 134217954 224 ?_
  refine tB_ ?_
  refine gA 2 64 64 ?_
  exact te (fJ [(true,(zA.row r1))] H)
 have H := zH h1 H
 refine uA 13 134217954 224 ?_
 refine tB_ ?_
 refine gA 2 64 64 ?_
 exact te (fJ [(true,(zA.row r1))] H)
def Ys (n : Nat) (x0 : Net) (x1 : Int) (x2 : Bool) (x3 : Vec) : Option (Net) :=
  ((idx x0.Ls x1).bind fun v1 => (bif x2 then ((idx x0.Bs v1.A).bind fun v4 => ((QM n v4 v1.P x3).bind fun r5 => (some (⟨(x0.Bs.set (v1.A.toNat) r5),x0.Ls,x0.Said⟩ : Net)))) else ((idx x0.Bs v1.B).bind fun v2 => ((QM n v2 v1.Q x3).bind fun r3 => (some (⟨(x0.Bs.set (v1.B.toNat) r3),x0.Ls,x0.Said⟩ : Net))))))
def zM9 : Tab := ⟨20,[0,1,2,4,0,16,0,64,128,256,0,1024,2560,4096,0,16384,0,106496,262143,524287],[0,1,2,4,0,16,0,64,128,256,0,1024,2560,4096,0,16384,0,106496,40,393216],[0,1,3,7,0,16,0,64,192,448,0,1024,4032,8128,0,16384,0,131008,262143,524287]⟩
noncomputable abbrev zLj (k : Nat) := Rg Try.f194 k
noncomputable abbrev zMn (k : Nat) := Rd Try.f194 k
theorem zCR : zk (rg Try.f194 3) zM9 = true := kr
def zNA : Tab := ⟨20,[0,1,2,4,0,16,0,64,128,256,0,1024,2560,4096,0,16384,0,106496,262143,524287],[0,1,2,4,0,16,0,64,128,256,0,1024,2560,4096,0,16384,0,106496,40,393216],[0,1,3,7,0,16,0,64,192,448,0,1024,4032,8128,0,16384,0,131008,262143,524287]⟩
theorem zCS : zk (rg Try.f194 4) zNA = true := kr
theorem zJb (n : Nat) (x0 : Net) (x1 : Int) (x2 : Bool) (x3 : Vec) (r : Net) (H : Ys n x0 x1 x2 x3 = some r) : zI Try.prog 194 [.ptr (Net.row x0),.val false [.lit (.int .i64 x1)],.val false [.lit (.bool x2)],.val true (CV.frzRow (Vec.row x3))] [] [(0,(Net.row r))] := by
 refine zI.of_body tOk Try.func194 rfl (c := (.seq (zLj 0) (.seq (zLj 1) (.seq (.seq (zLj 2) (.cond (.tmp 16) (.seq (zMn 3) .ret) .skip)) (zMn 4))))) kr (Nat.le_of_ble_eq_true kr) 1 (rs := []) rfl [] .nil [] [] [(0,(Net.row r))] fun cx => ?_
 show Tr _ _ _ ⟨55,1,[sA 0 0 3 0,sI 1 x1,sB 2 x2,sV 3 (Vec.row x3)],[(0,(Net.row x0))]⟩ _
 unfold Ys at H
 refine gA 1 135 129 ?_
 refine rA 5 ?_
 obtain ⟨v1,ev1,H⟩ := bs H
 refine oA Link.row ev1 ?_
 refine dE (tI 119) (.box 0) [(0,0),(1,(x1.toNat))] 4 0 [.sl true 3 [(Net.row x0)]] (Link.row v1) (zL rfl (zC ev1).2) ?_
 refine uA 2 389 385 ?_
 refine tS ?_
 refine gA 1 65921 385 ?_
 cases h1 : x2
 ·have H := zG h1 H
  refine nB_ ?_
  refine tK ?_
  obtain ⟨v2,ev2,H⟩ := bs H
  obtain ⟨r3,er3,H⟩ := bs H
  refine Tr.draw mixed 20 kr ⟨55,1,[sA 0 0 3 0],[(0,[cL 11 (x0.Bs.set (v1.B.toNat) r3) zA.row,cL 4 x0.Ls Link.row,cL 7 x0.Said Say.row])]⟩ (fun cx => ?_) ?_
  ·refine mA zCS [(0,[]),(1,[]),(2,[]),(3,[19]),(4,[]),(5,[19]),(6,[]),(7,[]),(8,[]),(9,[17,19]),(10,[]),(11,[17,19])] 8 [⟨[17,19],3,46,47⟩,⟨[17,19],53,44,45⟩,⟨[19],3,40,41⟩,⟨[19],53,38,39⟩] fun cx => ?_
   refine oN zCS 12 zA.row ev2 fun cx => ?_
   refine mA zCS [(14,[]),(15,[17,19]),(16,[17,19])] 4 [⟨[17,19],46,7,52⟩,⟨[17,19],3,50,51⟩,⟨[17,19],3,46,47⟩,⟨[17,19],53,44,45⟩,⟨[19],3,40,41⟩,⟨[19],53,38,39⟩] fun cx => ?_
   refine mC zCS 13 ?_
   refine dE (tI 42) (.box 0) [(0,0),(0,(v1.B.toNat))] 11 0 [.sl true 3 [(Net.row x0)]] (zA.row v2) (zL rfl (zC ev2).2) ?_
   refine fA ?_
   refine mC zCS 17 ?_
   refine LAt.callO tOk [.rd,.rd,.rd] (f := 203) (av := #[.tmp 49,.tmp 51,.tmp 52]) (ats := #[42,3,46]) (d := (some 53)) (ty := 42) (g := none) [(49,zA.row v2)] none kr kr kr [.box 0] (zFe n v2 v1.Q x3 r3 er3) (zB5 (row := [.sl true 3 [(Net.row x0)]]) (q := [(0,0),(0,(v1.B.toNat))]) kr (zL rfl (zC ev2).2) zDA) kr zC9 (.inr (And.intro (qV (zA.row_mine _) qh) zB6)) ?_
   refine fA ?_
   refine oN zCS 18 zA.row ev2 fun cx => ?_
   refine sA_ 0x7cf3c000000081 385 ⟨55,1,[(54,.adr (.box 0) [(0,0),(0,(v1.B.toNat))] 11 0),sV 53 (zA.row r3),sV 52 (Vec.row x3),sI 51 v1.Q,sA 50 8 4 3,sI 47 v1.B,sA 46 8 4 2,sR 45 0 3 0 1 false,sA 44 0 3 0,sI 41 v1.B,sA 40 8 4 2,sR 39 0 3 0 1 false,sA 38 0 3 0,sA 7 7 5 0,sA 0 0 3 0],[(8,(Link.row v1)),(7,(Vec.row x3)),(0,(Net.row x0))]⟩ ?_
   refine mC zCS 19 ?_
   refine LAt.storeB tOk (t := 42) (ty := 0) (ad := (.tmp 54)) (x := (.tmp 53)) (g := none) (tI 42) true (zA.row r3) 0 0 (v1.B.toNat) 11 0 11 x0.Bs zA.row v2 r3 kr kr kr kr kr kr kr kr (zC ev2).2 kr kr kr kr ?_
   refine fA ?_
   exact mE zCS [0] [0]
  obtain rfl := si H
  exact Fin.ofY _ [] [] _ [] _ [(0,[cL 11 (x0.Bs.set (v1.B.toNat) r3) zA.row,cL 4 x0.Ls Link.row,cL 7 x0.Said Say.row])] kr rfl rfl rfl kr kr kr kr rfl rfl rfl
 have H := zH h1 H
 refine tB_ ?_
 obtain ⟨v4,ev4,H⟩ := bs H
 obtain ⟨r5,er5,H⟩ := bs H
 refine Tr.draws mixed 20 kr ⟨55,1,[sA 0 0 3 0],[(0,[cL 11 (x0.Bs.set (v1.A.toNat) r5) zA.row,cL 4 x0.Ls Link.row,cL 7 x0.Said Say.row])]⟩ (fun cx => ?_) ?_
 ·refine mA zCR [(0,[]),(1,[]),(2,[]),(3,[19]),(4,[]),(5,[19]),(6,[]),(7,[]),(8,[]),(9,[17,19]),(10,[]),(11,[17,19])] 8 [⟨[17,19],3,27,28⟩,⟨[17,19],53,25,26⟩,⟨[19],3,21,22⟩,⟨[19],53,19,20⟩] fun cx => ?_
  refine oN zCR 12 zA.row ev4 fun cx => ?_
  refine mA zCR [(14,[]),(15,[17,19]),(16,[17,19])] 4 [⟨[17,19],46,7,33⟩,⟨[17,19],3,31,32⟩,⟨[17,19],3,27,28⟩,⟨[17,19],53,25,26⟩,⟨[19],3,21,22⟩,⟨[19],53,19,20⟩] fun cx => ?_
  refine mC zCR 13 ?_
  refine dE (tI 42) (.box 0) [(0,0),(0,(v1.A.toNat))] 11 0 [.sl true 3 [(Net.row x0)]] (zA.row v4) (zL rfl (zC ev4).2) ?_
  refine fA ?_
  refine mC zCR 17 ?_
  refine LAt.callO tOk [.rd,.rd,.rd] (f := 203) (av := #[.tmp 30,.tmp 32,.tmp 33]) (ats := #[42,3,46]) (d := (some 34)) (ty := 42) (g := none) [(30,zA.row v4)] none kr kr kr [.box 0] (zFe n v4 v1.P x3 r5 er5) (zB5 (row := [.sl true 3 [(Net.row x0)]]) (q := [(0,0),(0,(v1.A.toNat))]) kr (zL rfl (zC ev4).2) zDA) kr zC9 (.inr (And.intro (qV (zA.row_mine _) qh) zB6)) ?_
  refine fA ?_
  refine oN zCR 18 zA.row ev4 fun cx => ?_
  refine sA_ 67083174017 385 ⟨55,1,[(35,.adr (.box 0) [(0,0),(0,(v1.A.toNat))] 11 0),sV 34 (zA.row r5),sV 33 (Vec.row x3),sI 32 v1.P,sA 31 8 4 1,sI 28 v1.A,sA 27 8 4 0,sR 26 0 3 0 1 false,sA 25 0 3 0,sI 22 v1.A,sA 21 8 4 0,sR 20 0 3 0 1 false,sA 19 0 3 0,sA 7 7 5 0,sA 0 0 3 0],[(8,(Link.row v1)),(7,(Vec.row x3)),(0,(Net.row x0))]⟩ ?_
  refine mC zCR 19 ?_
  refine LAt.storeB tOk (t := 42) (ty := 0) (ad := (.tmp 35)) (x := (.tmp 34)) (g := none) (tI 42) true (zA.row r5) 0 0 (v1.A.toNat) 11 0 11 x0.Bs zA.row v4 r5 kr kr kr kr kr kr kr kr (zC ev4).2 kr kr kr kr ?_
  refine fA ?_
  exact mE zCR [0] [0]
 refine te ?_
 obtain rfl := si H
 exact Fin.ofY _ [] [] _ [] _ [(0,[cL 11 (x0.Bs.set (v1.A.toNat) r5) zA.row,cL 4 x0.Ls Link.row,cL 7 x0.Said Say.row])] kr rfl rfl rfl kr kr kr kr rfl rfl rfl
def Yt (n : Nat) (x0 : Net) (x1 : Event) : Option (Net) :=
  ((idx x0.Said x1.At).bind fun v1 => (bif (decide ((0 : Int) ≤ 0) && (decide ((0 : Int) ≤ x1.At) && decide ((x1.At : Int) ≤ (x0.Said.length : Int)))) then (bif (decide (([] : List Say).length + ((x0.Said.drop ((0 : Int)).toNat).take (((x1.At : Int)).toNat - ((0 : Int)).toNat)).length ≤ 268435456)) then (bif (decide ((0 : Int) ≤ (IntKind.wrap .i64 (x1.At + 1))) && (decide (((IntKind.wrap .i64 (x1.At + 1)) : Int) ≤ (x0.Said.length : Int)) && decide (((x0.Said.length : Int) : Int) ≤ (x0.Said.length : Int)))) then (bif (decide ((([] : List Say) ++ ((x0.Said.drop ((0 : Int)).toNat).take (((x1.At : Int)).toNat - ((0 : Int)).toNat))).length + ((x0.Said.drop (((IntKind.wrap .i64 (x1.At + 1)) : Int)).toNat).take ((((x0.Said.length : Int) : Int)).toNat - (((IntKind.wrap .i64 (x1.At + 1)) : Int)).toNat)).length ≤ 268435456)) then (bif (x1.Ki == 2) then ((q3 n (⟨x0.Bs,x0.Ls,((([] : List Say) ++ ((x0.Said.drop ((0 : Int)).toNat).take (((x1.At : Int)).toNat - ((0 : Int)).toNat))) ++ ((x0.Said.drop (((IntKind.wrap .i64 (x1.At + 1)) : Int)).toNat).take ((((x0.Said.length : Int) : Int)).toNat - (((IntKind.wrap .i64 (x1.At + 1)) : Int)).toNat)))⟩ : Net) v1.Link).bind fun r6 => (bif r6 then ((Ys n (⟨x0.Bs,x0.Ls,((([] : List Say) ++ ((x0.Said.drop ((0 : Int)).toNat).take (((x1.At : Int)).toNat - ((0 : Int)).toNat))) ++ ((x0.Said.drop (((IntKind.wrap .i64 (x1.At + 1)) : Int)).toNat).take ((((x0.Said.length : Int) : Int)).toNat - (((IntKind.wrap .i64 (x1.At + 1)) : Int)).toNat)))⟩ : Net) v1.Link v1.Back v1.V).bind fun r7 => (some r7)) else (some (⟨x0.Bs,x0.Ls,((([] : List Say) ++ ((x0.Said.drop ((0 : Int)).toNat).take (((x1.At : Int)).toNat - ((0 : Int)).toNat))) ++ ((x0.Said.drop (((IntKind.wrap .i64 (x1.At + 1)) : Int)).toNat).take ((((x0.Said.length : Int) : Int)).toNat - (((IntKind.wrap .i64 (x1.At + 1)) : Int)).toNat)))⟩ : Net)))) else (some (⟨x0.Bs,x0.Ls,((([] : List Say) ++ ((x0.Said.drop ((0 : Int)).toNat).take (((x1.At : Int)).toNat - ((0 : Int)).toNat))) ++ ((x0.Said.drop (((IntKind.wrap .i64 (x1.At + 1)) : Int)).toNat).take ((((x0.Said.length : Int) : Int)).toNat - (((IntKind.wrap .i64 (x1.At + 1)) : Int)).toNat)))⟩ : Net))) else none) else none) else none) else none))
def zM1 : Tab := ⟨22,[0,0,0,4,8,16,0,64,160,258,0,1024,2048,4096,0,16384,32768,73728,131584,524287,1048575,1572863],[0,0,0,4,8,16,0,64,160,258,0,1024,2048,4096,0,16384,32768,73728,131584,1,524288,1310720],[0,0,0,4,12,28,0,64,252,510,0,1024,3072,7168,0,16384,49152,130048,262142,524287,1048575,2097151]⟩
noncomputable abbrev zMp (k : Nat) := Rg Try.f171 k
noncomputable abbrev zLi (k : Nat) := Rd Try.f171 k
theorem zn : zk (rg Try.f171 2) zM1 = true := kr
theorem zHa (n : Nat) (x0 : Net) (x1 : Event) (v1 : Say) (hg2 : (decide ((0 : Int) ≤ 0) && (decide ((0 : Int) ≤ x1.At) && decide ((x1.At : Int) ≤ (x0.Said.length : Int)))) = true) (hg3 : (decide (([] : List Say).length + ((x0.Said.drop ((0 : Int)).toNat).take (((x1.At : Int)).toNat - ((0 : Int)).toNat)).length ≤ 268435456)) = true) (hg4 : (decide ((0 : Int) ≤ (IntKind.wrap .i64 (x1.At + 1))) && (decide (((IntKind.wrap .i64 (x1.At + 1)) : Int) ≤ (x0.Said.length : Int)) && decide (((x0.Said.length : Int) : Int) ≤ (x0.Said.length : Int)))) = true) (hg5 : (decide ((([] : List Say) ++ ((x0.Said.drop ((0 : Int)).toNat).take (((x1.At : Int)).toNat - ((0 : Int)).toNat))).length + ((x0.Said.drop (((IntKind.wrap .i64 (x1.At + 1)) : Int)).toNat).take ((((x0.Said.length : Int) : Int)).toNat - (((IntKind.wrap .i64 (x1.At + 1)) : Int)).toNat)).length ≤ 268435456)) = true) (cx : Cx) : AT Try.prog cx (rg Try.f171 2) [] 22 [] ⟨53,1,[sA 4 4 7 0,sA 3 3 2 0,sA 0 0 3 0],[(0,[cL 11 x0.Bs zA.row,cL 4 x0.Ls Link.row,cF 7 x0.Said Say.row]),(4,(Say.row v1)),(3,(Event.row x1))]⟩ (fun s => s = ⟨53,1,[sA 4 4 7 0,sA 3 3 2 0,sA 0 0 3 0],[(0,[cL 11 x0.Bs zA.row,cL 4 x0.Ls Link.row,cL 7 ((([] : List Say) ++ ((x0.Said.drop ((0 : Int)).toNat).take (((x1.At : Int)).toNat - ((0 : Int)).toNat))) ++ ((x0.Said.drop (((IntKind.wrap .i64 (x1.At + 1)) : Int)).toNat).take ((((x0.Said.length : Int) : Int)).toNat - (((IntKind.wrap .i64 (x1.At + 1)) : Int)).toNat))) Say.row]),(4,(Say.row v1)),(3,(Event.row x1))]⟩) := by
 refine mA zn [(0,[]),(2,[]),(3,[]),(4,[]),(5,[8,9,18,21]),(6,[]),(7,[8,9,18,21]),(10,[]),(11,[]),(12,[]),(13,[17,18,21]),(14,[]),(15,[17,18,21]),(16,[])] 8 [⟨[17,18,21],3,27,28⟩,⟨[17,18,21],74,25,26⟩,⟨[8,9,18,21],3,19,20⟩,⟨[8,9,18,21],74,17,18⟩] fun cx => ?_
 refine mB3 tOk zn 1 8 17 kr (And.intro kr ?_) (And.intro kr ?_) (And.intro kr ?_)
 ·refine lA 1 ?_
  refine fA ?_
  refine mB2 tOk zn 8 17 kr (And.intro kr ?_) (And.intro kr ?_)
  ·refine LAt.cutG tOk (t := 74) (ty := 74) (e := 177) (x := (.tmp 18)) (lo := none) (hi := (some (.tmp 20))) (d := 21) (g := none) (tI 177) Say.row x0.Said ⟨(.box 0),[(0,0)],2,false,7,(CV.frzEs (x0.Said.map Say.row))⟩ 0 x1.At kr kr kr kr kr kr rfl kr rfl kr kr hg2 ?_
   refine fA ?_
   refine mB2 tOk zn 9 17 kr (And.intro kr ?_) (And.intro kr ?_)
   ·refine pD Say.row hg3 ?_
    refine fA ?_
    refine mC zn 17 ?_
    refine LAt.cutG tOk (t := 74) (ty := 74) (e := 177) (x := (.tmp 26)) (lo := (some (.tmp 29))) (hi := none) (d := 30) (g := none) (tI 177) Say.row x0.Said ⟨(.box 0),[(0,0)],2,false,7,(CV.frzEs (x0.Said.map Say.row))⟩ (IntKind.wrap .i64 (x1.At + 1)) (x0.Said.length : Int) kr kr kr kr kr kr rfl kr rfl kr kr hg4 ?_
    refine fA ?_
    refine mC zn 18 ?_
    refine pD Say.row hg5 ?_
    refine fA ?_
    refine mA zn [(19,[]),(20,[])] 1 [⟨[17,18,21],3,27,28⟩,⟨[17,18,21],74,25,26⟩,⟨[8,9,18,21],3,19,20⟩,⟨[8,9,18,21],74,17,18⟩] fun cx => ?_
    refine mC zn 21 ?_
    refine lA 1 ?_
    refine fA ?_
    exact mE zn [4,3,0] [0,4,3]
   ·refine LAt.cutG tOk (t := 74) (ty := 74) (e := 177) (x := (.tmp 26)) (lo := (some (.tmp 29))) (hi := none) (d := 30) (g := none) (tI 177) Say.row x0.Said ⟨(.box 0),[(0,0)],2,false,7,(CV.frzEs (x0.Said.map Say.row))⟩ (IntKind.wrap .i64 (x1.At + 1)) (x0.Said.length : Int) kr kr kr kr kr kr rfl kr rfl kr kr hg4 ?_
    refine fA ?_
    refine mC zn 9 ?_
    refine pD Say.row hg3 ?_
    refine fA ?_
    refine mC zn 18 ?_
    refine pD Say.row hg5 ?_
    refine fA ?_
    refine mA zn [(19,[]),(20,[])] 1 [⟨[17,18,21],3,27,28⟩,⟨[17,18,21],74,25,26⟩,⟨[8,9,18,21],3,19,20⟩,⟨[8,9,18,21],74,17,18⟩] fun cx => ?_
    refine mC zn 21 ?_
    refine lA 1 ?_
    refine fA ?_
    exact mE zn [4,3,0] [0,4,3]
  ·refine LAt.cutG tOk (t := 74) (ty := 74) (e := 177) (x := (.tmp 26)) (lo := (some (.tmp 29))) (hi := none) (d := 30) (g := none) (tI 177) Say.row x0.Said ⟨(.box 0),[(0,0)],2,false,7,(CV.frzEs (x0.Said.map Say.row))⟩ (IntKind.wrap .i64 (x1.At + 1)) (x0.Said.length : Int) kr kr kr kr kr kr rfl kr rfl kr kr hg4 ?_
   refine fA ?_
   refine mC zn 8 ?_
   refine LAt.cutG tOk (t := 74) (ty := 74) (e := 177) (x := (.tmp 18)) (lo := none) (hi := (some (.tmp 20))) (d := 21) (g := none) (tI 177) Say.row x0.Said ⟨(.box 0),[(0,0)],2,false,7,(CV.frzEs (x0.Said.map Say.row))⟩ 0 x1.At kr kr kr kr kr kr rfl kr rfl kr kr hg2 ?_
   refine fA ?_
   refine mC zn 9 ?_
   refine pD Say.row hg3 ?_
   refine fA ?_
   refine mC zn 18 ?_
   refine pD Say.row hg5 ?_
   refine fA ?_
   refine mA zn [(19,[]),(20,[])] 1 [⟨[17,18,21],3,27,28⟩,⟨[17,18,21],74,25,26⟩,⟨[8,9,18,21],3,19,20⟩,⟨[8,9,18,21],74,17,18⟩] fun cx => ?_
   refine mC zn 21 ?_
   refine lA 1 ?_
   refine fA ?_
   exact mE zn [4,3,0] [0,4,3]
 ·refine LAt.cutG tOk (t := 74) (ty := 74) (e := 177) (x := (.tmp 18)) (lo := none) (hi := (some (.tmp 20))) (d := 21) (g := none) (tI 177) Say.row x0.Said ⟨(.box 0),[(0,0)],2,false,7,(CV.frzEs (x0.Said.map Say.row))⟩ 0 x1.At kr kr kr kr kr kr rfl kr rfl kr kr hg2 ?_
  refine fA ?_
  refine mB2 tOk zn 1 17 kr (And.intro kr ?_) (And.intro kr ?_)
  ·refine lA 1 ?_
   refine fA ?_
   refine mB2 tOk zn 9 17 kr (And.intro kr ?_) (And.intro kr ?_)
   ·refine pD Say.row hg3 ?_
    refine fA ?_
    refine mC zn 17 ?_
    refine LAt.cutG tOk (t := 74) (ty := 74) (e := 177) (x := (.tmp 26)) (lo := (some (.tmp 29))) (hi := none) (d := 30) (g := none) (tI 177) Say.row x0.Said ⟨(.box 0),[(0,0)],2,false,7,(CV.frzEs (x0.Said.map Say.row))⟩ (IntKind.wrap .i64 (x1.At + 1)) (x0.Said.length : Int) kr kr kr kr kr kr rfl kr rfl kr kr hg4 ?_
    refine fA ?_
    refine mC zn 18 ?_
    refine pD Say.row hg5 ?_
    refine fA ?_
    refine mA zn [(19,[]),(20,[])] 1 [⟨[17,18,21],3,27,28⟩,⟨[17,18,21],74,25,26⟩,⟨[8,9,18,21],3,19,20⟩,⟨[8,9,18,21],74,17,18⟩] fun cx => ?_
    refine mC zn 21 ?_
    refine lA 1 ?_
    refine fA ?_
    exact mE zn [4,3,0] [0,4,3]
   ·refine LAt.cutG tOk (t := 74) (ty := 74) (e := 177) (x := (.tmp 26)) (lo := (some (.tmp 29))) (hi := none) (d := 30) (g := none) (tI 177) Say.row x0.Said ⟨(.box 0),[(0,0)],2,false,7,(CV.frzEs (x0.Said.map Say.row))⟩ (IntKind.wrap .i64 (x1.At + 1)) (x0.Said.length : Int) kr kr kr kr kr kr rfl kr rfl kr kr hg4 ?_
    refine fA ?_
    refine mC zn 9 ?_
    refine pD Say.row hg3 ?_
    refine fA ?_
    refine mC zn 18 ?_
    refine pD Say.row hg5 ?_
    refine fA ?_
    refine mA zn [(19,[]),(20,[])] 1 [⟨[17,18,21],3,27,28⟩,⟨[17,18,21],74,25,26⟩,⟨[8,9,18,21],3,19,20⟩,⟨[8,9,18,21],74,17,18⟩] fun cx => ?_
    refine mC zn 21 ?_
    refine lA 1 ?_
    refine fA ?_
    exact mE zn [4,3,0] [0,4,3]
  ·refine LAt.cutG tOk (t := 74) (ty := 74) (e := 177) (x := (.tmp 26)) (lo := (some (.tmp 29))) (hi := none) (d := 30) (g := none) (tI 177) Say.row x0.Said ⟨(.box 0),[(0,0)],2,false,7,(CV.frzEs (x0.Said.map Say.row))⟩ (IntKind.wrap .i64 (x1.At + 1)) (x0.Said.length : Int) kr kr kr kr kr kr rfl kr rfl kr kr hg4 ?_
   refine fA ?_
   refine mC zn 1 ?_
   refine lA 1 ?_
   refine fA ?_
   refine mC zn 9 ?_
   refine pD Say.row hg3 ?_
   refine fA ?_
   refine mC zn 18 ?_
   refine pD Say.row hg5 ?_
   refine fA ?_
   refine mA zn [(19,[]),(20,[])] 1 [⟨[17,18,21],3,27,28⟩,⟨[17,18,21],74,25,26⟩,⟨[8,9,18,21],3,19,20⟩,⟨[8,9,18,21],74,17,18⟩] fun cx => ?_
   refine mC zn 21 ?_
   refine lA 1 ?_
   refine fA ?_
   exact mE zn [4,3,0] [0,4,3]
 ·refine LAt.cutG tOk (t := 74) (ty := 74) (e := 177) (x := (.tmp 26)) (lo := (some (.tmp 29))) (hi := none) (d := 30) (g := none) (tI 177) Say.row x0.Said ⟨(.box 0),[(0,0)],2,false,7,(CV.frzEs (x0.Said.map Say.row))⟩ (IntKind.wrap .i64 (x1.At + 1)) (x0.Said.length : Int) kr kr kr kr kr kr rfl kr rfl kr kr hg4 ?_
  refine fA ?_
  refine mB2 tOk zn 1 8 kr (And.intro kr ?_) (And.intro kr ?_)
  ·refine lA 1 ?_
   refine fA ?_
   refine mC zn 8 ?_
   refine LAt.cutG tOk (t := 74) (ty := 74) (e := 177) (x := (.tmp 18)) (lo := none) (hi := (some (.tmp 20))) (d := 21) (g := none) (tI 177) Say.row x0.Said ⟨(.box 0),[(0,0)],2,false,7,(CV.frzEs (x0.Said.map Say.row))⟩ 0 x1.At kr kr kr kr kr kr rfl kr rfl kr kr hg2 ?_
   refine fA ?_
   refine mC zn 9 ?_
   refine pD Say.row hg3 ?_
   refine fA ?_
   refine mC zn 18 ?_
   refine pD Say.row hg5 ?_
   refine fA ?_
   refine mA zn [(19,[]),(20,[])] 1 [⟨[17,18,21],3,27,28⟩,⟨[17,18,21],74,25,26⟩,⟨[8,9,18,21],3,19,20⟩,⟨[8,9,18,21],74,17,18⟩] fun cx => ?_
   refine mC zn 21 ?_
   refine lA 1 ?_
   refine fA ?_
   exact mE zn [4,3,0] [0,4,3]
  ·refine LAt.cutG tOk (t := 74) (ty := 74) (e := 177) (x := (.tmp 18)) (lo := none) (hi := (some (.tmp 20))) (d := 21) (g := none) (tI 177) Say.row x0.Said ⟨(.box 0),[(0,0)],2,false,7,(CV.frzEs (x0.Said.map Say.row))⟩ 0 x1.At kr kr kr kr kr kr rfl kr rfl kr kr hg2 ?_
   refine fA ?_
   refine mC zn 1 ?_
   refine lA 1 ?_
   refine fA ?_
   refine mC zn 9 ?_
   refine pD Say.row hg3 ?_
   refine fA ?_
   refine mC zn 18 ?_
   refine pD Say.row hg5 ?_
   refine fA ?_
   refine mA zn [(19,[]),(20,[])] 1 [⟨[17,18,21],3,27,28⟩,⟨[17,18,21],74,25,26⟩,⟨[8,9,18,21],3,19,20⟩,⟨[8,9,18,21],74,17,18⟩] fun cx => ?_
   refine mC zn 21 ?_
   refine lA 1 ?_
   refine fA ?_
   exact mE zn [4,3,0] [0,4,3]
theorem zJd (n : Nat) (x0 : Net) (x1 : Event) (r : Net) (H : Yt n x0 x1 = some r) : zI Try.prog 171 [.ptr (Net.row x0),.val true (CV.frzRow (Event.row x1))] [] [(0,(Net.row r))] := by
 refine zI.of_body tOk Try.func171 rfl (c := (.seq (zMp 0) (.seq (zLi 1) (.seq (zLi 2) (.seq (zLi 3) (.cond (.tmp 44) (zMp 4) .skip)))))) kr (Nat.le_of_ble_eq_true kr) 1 (rs := []) rfl [] .nil [] [] [(0,(Net.row r))] fun cx => ?_
 show Tr _ _ _ ⟨53,1,[sA 0 0 3 0,sV 1 (Event.row x1)],[(0,(Net.row x0))]⟩ _
 unfold Yt at H
 refine gA 1 9 9 ?_
 obtain ⟨v1,ev1,H⟩ := bs H
 refine Tr.draws mixed 10 kr ⟨53,1,[sA 4 4 7 0,sA 3 3 2 0,sA 0 0 3 0],[(4,(Say.row v1)),(3,(Event.row x1)),(0,(Net.row x0))]⟩ (fun cx => ?_) ?_
 ·refine aA [(0,[]),(1,[]),(2,[]),(3,[9]),(4,[]),(5,[9])] 4 [⟨[9],3,9,10⟩,⟨[9],74,7,8⟩] fun cx => ?_
  refine aO tOk 6 74 0 8 10 11 none ⟨(.box 0),[(0,0)],2,true,7,(x0.Said.map Say.row)⟩ x1.At (x1.At.toNat) (Say.row v1) _ kr kr kr kr kr kr rfl kr (qv ev1) rfl rfl (fun cx => ?_)
  refine AT.big2 tOk 7 8 kr (And.intro kr ?_) (And.intro kr ?_)
  ·refine dE (tI 177) (.box 0) [(0,0),(2,(x1.At.toNat))] 7 0 [.sl true 3 [(Net.row x0)]] (Say.row v1) (zL rfl (zC ev1).2) ?_
   refine fA ?_
   refine bA 8 ?_
   refine lA 1 ?_
   refine fA ?_
   refine sA_ 6041 25 ⟨53,1,[sA 4 4 7 0,sV 12 (Say.row v1),sI 10 x1.At,sA 9 3 2 1,sR 8 0 3 2 1 false,sA 7 0 3 2,sA 3 3 2 0,sA 0 0 3 0],[(4,[cI 0,cB false,cI 0,cI 0,cI 0,cI 0,cI 0]),(3,(Event.row x1)),(0,(Net.row x0))]⟩ ?_
   refine bA 9 ?_
   refine lA 1 ?_
   refine fA ?_
   exact eE [4,3,0] [4,3,0]
  ·refine lA 1 ?_
   refine fA ?_
   refine bA 7 ?_
   refine dE (tI 177) (.box 0) [(0,0),(2,(x1.At.toNat))] 7 0 [.sl true 3 [(Net.row x0)]] (Say.row v1) (zL rfl (zC ev1).2) ?_
   refine fA ?_
   refine sA_ 6041 25 ⟨53,1,[sV 12 (Say.row v1),sA 4 4 7 0,sI 10 x1.At,sA 9 3 2 1,sR 8 0 3 2 1 false,sA 7 0 3 2,sA 3 3 2 0,sA 0 0 3 0],[(4,[cI 0,cB false,cI 0,cI 0,cI 0,cI 0,cI 0]),(3,(Event.row x1)),(0,(Net.row x0))]⟩ ?_
   refine bA 9 ?_
   refine lA 1 ?_
   refine fA ?_
   exact eE [4,3,0] [4,3,0]
 refine Tr.frzP 0 2 1 ?_
 obtain ⟨hg2,H⟩ := gs H
 obtain ⟨hg3,H⟩ := gs H
 obtain ⟨hg4,H⟩ := gs H
 obtain ⟨hg5,H⟩ := gs H
 refine sT ⟨53,1,[sA 4 4 7 0,sA 3 3 2 0,sA 0 0 3 0],[(0,[cL 11 x0.Bs zA.row,cL 4 x0.Ls Link.row,cF 7 x0.Said Say.row]),(4,(Say.row v1)),(3,(Event.row x1))]⟩ ?_
 refine Tr.draws mixed 22 kr ⟨53,1,[sA 4 4 7 0,sA 3 3 2 0,sA 0 0 3 0],[(0,[cL 11 x0.Bs zA.row,cL 4 x0.Ls Link.row,cL 7 ((([] : List Say) ++ ((x0.Said.drop ((0 : Int)).toNat).take (((x1.At : Int)).toNat - ((0 : Int)).toNat))) ++ ((x0.Said.drop (((IntKind.wrap .i64 (x1.At + 1)) : Int)).toNat).take ((((x0.Said.length : Int) : Int)).toNat - (((IntKind.wrap .i64 (x1.At + 1)) : Int)).toNat))) Say.row]),(4,(Say.row v1)),(3,(Event.row x1))]⟩ (zHa n x0 x1 v1 hg2 hg3 hg4 hg5) ?_
 refine tS ?_
 refine sT ⟨53,1,[sA 4 4 7 0,sA 3 3 2 0,sA 0 0 3 0],[(0,[cL 11 x0.Bs zA.row,cL 4 x0.Ls Link.row,cL 7 ((([] : List Say) ++ ((x0.Said.drop ((0 : Int)).toNat).take (((x1.At : Int)).toNat - ((0 : Int)).toNat))) ++ ((x0.Said.drop (((IntKind.wrap .i64 (x1.At + 1)) : Int)).toNat).take ((((x0.Said.length : Int) : Int)).toNat - (((IntKind.wrap .i64 (x1.At + 1)) : Int)).toNat))) Say.row]),(4,(Say.row v1)),(3,(Event.row x1))]⟩ ?_
 cases h1 : (x1.Ki == 2)
 ·have H := zG h1 H
  refine Tr.draw mixed 11 kr ⟨53,1,[sB 44 false,sA 4 4 7 0,sA 0 0 3 0],[(0,[cL 11 x0.Bs zA.row,cL 4 x0.Ls Link.row,cL 7 ((([] : List Say) ++ ((x0.Said.drop ((0 : Int)).toNat).take (((x1.At : Int)).toNat - ((0 : Int)).toNat))) ++ ((x0.Said.drop (((IntKind.wrap .i64 (x1.At + 1)) : Int)).toNat).take ((((x0.Said.length : Int) : Int)).toNat - (((IntKind.wrap .i64 (x1.At + 1)) : Int)).toNat))) Say.row]),(4,(Say.row v1))]⟩ (fun cx => ?_) ?_
  ·refine aA [(0,[]),(1,[]),(2,[]),(3,[])] 7 [⟨[],3,34,35⟩] fun cx => ?_
   refine sA_ 188978561041 25 ⟨53,1,[sB 37 (x1.Ki == 2),sI 35 x1.Ki,sA 34 3 2 0,sA 4 4 7 0,sA 0 0 3 0],[(0,[cL 11 x0.Bs zA.row,cL 4 x0.Ls Link.row,cL 7 ((([] : List Say) ++ ((x0.Said.drop ((0 : Int)).toNat).take (((x1.At : Int)).toNat - ((0 : Int)).toNat))) ++ ((x0.Said.drop (((IntKind.wrap .i64 (x1.At + 1)) : Int)).toNat).take ((((x0.Said.length : Int) : Int)).toNat - (((IntKind.wrap .i64 (x1.At + 1)) : Int)).toNat))) Say.row]),(4,(Say.row v1)),(3,(Event.row x1))]⟩ ?_
   rw [h1]
   refine aA [(4,[]),(5,[]),(6,[]),(7,[]),(8,[]),(9,[]),(10,[])] 0 [⟨[],3,34,35⟩] fun cx => ?_
   exact eE [44,4,0] [0,4]
  refine nB_ ?_
  refine tK ?_
  obtain rfl := si H
  exact Fin.ofY _ [] [] _ [] _ [(0,[cL 11 x0.Bs zA.row,cL 4 x0.Ls Link.row,cL 7 ((([] : List Say) ++ ((x0.Said.drop ((0 : Int)).toNat).take (((x1.At : Int)).toNat - ((0 : Int)).toNat))) ++ ((x0.Said.drop (((IntKind.wrap .i64 (x1.At + 1)) : Int)).toNat).take ((((x0.Said.length : Int) : Int)).toNat - (((IntKind.wrap .i64 (x1.At + 1)) : Int)).toNat))) Say.row])] kr rfl rfl rfl kr kr kr kr rfl rfl rfl
 have H := zH h1 H
 obtain ⟨r6,er6,H⟩ := bs H
 refine Tr.draw mixed 11 kr ⟨53,1,[sB 44 r6,sA 4 4 7 0,sA 0 0 3 0],[(0,[cL 11 x0.Bs zA.row,cL 4 x0.Ls Link.row,cL 7 ((([] : List Say) ++ ((x0.Said.drop ((0 : Int)).toNat).take (((x1.At : Int)).toNat - ((0 : Int)).toNat))) ++ ((x0.Said.drop (((IntKind.wrap .i64 (x1.At + 1)) : Int)).toNat).take ((((x0.Said.length : Int) : Int)).toNat - (((IntKind.wrap .i64 (x1.At + 1)) : Int)).toNat))) Say.row]),(4,(Say.row v1))]⟩ (fun cx => ?_) ?_
 ·refine aA [(0,[]),(1,[9]),(2,[]),(3,[])] 7 [⟨[9],3,34,35⟩] fun cx => ?_
  refine sA_ 188978561041 25 ⟨53,1,[sB 37 (x1.Ki == 2),sI 35 x1.Ki,sA 34 3 2 0,sA 4 4 7 0,sA 0 0 3 0],[(0,[cL 11 x0.Bs zA.row,cL 4 x0.Ls Link.row,cL 7 ((([] : List Say) ++ ((x0.Said.drop ((0 : Int)).toNat).take (((x1.At : Int)).toNat - ((0 : Int)).toNat))) ++ ((x0.Said.drop (((IntKind.wrap .i64 (x1.At + 1)) : Int)).toNat).take ((((x0.Said.length : Int) : Int)).toNat - (((IntKind.wrap .i64 (x1.At + 1)) : Int)).toNat))) Say.row]),(4,(Say.row v1)),(3,(Event.row x1))]⟩ ?_
  rw [h1]
  refine aA [(4,[]),(5,[]),(6,[9]),(7,[]),(8,[9])] 2 [⟨[9],3,41,42⟩,⟨[9],76,39,40⟩,⟨[9],3,34,35⟩] fun cx => ?_
  refine bA 9 ?_
  refine vB [.rd,.rd] [.box 0] (zD8 n (⟨x0.Bs,x0.Ls,((([] : List Say) ++ ((x0.Said.drop ((0 : Int)).toNat).take (((x1.At : Int)).toNat - ((0 : Int)).toNat))) ++ ((x0.Said.drop (((IntKind.wrap .i64 (x1.At + 1)) : Int)).toNat).take ((((x0.Said.length : Int) : Int)).toNat - (((IntKind.wrap .i64 (x1.At + 1)) : Int)).toNat)))⟩ : Net) v1.Link r6 er6) (.inr (qV (zK zR qW) qh)) ?_
  refine fA ?_
  refine aA [(10,[])] 0 [⟨[9],3,41,42⟩,⟨[9],76,39,40⟩,⟨[9],3,34,35⟩] fun cx => ?_
  exact eE [44,4,0] [0,4]
 cases h2 : r6
 ·have H := zG h2 H
  refine nB_ ?_
  refine tK ?_
  obtain rfl := si H
  exact Fin.ofY _ [] [] _ [] _ [(0,[cL 11 x0.Bs zA.row,cL 4 x0.Ls Link.row,cL 7 ((([] : List Say) ++ ((x0.Said.drop ((0 : Int)).toNat).take (((x1.At : Int)).toNat - ((0 : Int)).toNat))) ++ ((x0.Said.drop (((IntKind.wrap .i64 (x1.At + 1)) : Int)).toNat).take ((((x0.Said.length : Int) : Int)).toNat - (((IntKind.wrap .i64 (x1.At + 1)) : Int)).toNat))) Say.row])] kr rfl rfl rfl kr kr kr kr rfl rfl rfl
 have H := zH h2 H
 refine tB_ ?_
 refine Tr.at ?_
 refine lA 7 ?_
 obtain ⟨r7,er7,H⟩ := bs H
 refine LAt.callL tOk [.lend,.rd,.rd,.rd] (f := 194) (av := #[.tmp 45,.tmp 47,.tmp 49,.tmp 51]) (ats := #[180,3,4,46]) (d := (some 52)) (ty := 0) (g := none) kr kr kr [] (zJb n (⟨x0.Bs,x0.Ls,((([] : List Say) ++ ((x0.Said.drop ((0 : Int)).toNat).take (((x1.At : Int)).toNat - ((0 : Int)).toNat))) ++ ((x0.Said.drop (((IntKind.wrap .i64 (x1.At + 1)) : Int)).toNat).take ((((x0.Said.length : Int) : Int)).toNat - (((IntKind.wrap .i64 (x1.At + 1)) : Int)).toNat)))⟩ : Net) v1.Link v1.Back v1.V r7 er7) kr (.inl rfl) ?_
 refine dA 1 1 ?_
 obtain rfl := si H
 exact Fin.ofY _ [] [] _ [] _ [(0,(Net.row r7))] kr rfl rfl rfl kr kr kr kr rfl rfl rfl
def Jq (n : Nat) (x0 : Net) (x1 : Int) (x2 : Bool) : Option (Net) :=
  ((q3 n x0 x1).bind fun r1 => (bif (r1 == x2) then (some x0) else ((idx x0.Ls x1).bind fun v2 => ((idx x0.Bs v2.A).bind fun v3 => ((QO n v3 v2.P x2).bind fun r4 => ((idx (x0.Bs.set (v2.A.toNat) r4) v2.B).bind fun v5 => ((QO n v5 v2.Q x2).bind fun r6 => (some (⟨((x0.Bs.set (v2.A.toNat) r4).set (v2.B.toNat) r6),x0.Ls,x0.Said⟩ : Net)))))))))
def zM2 : Tab := ⟨20,[0,1,2,4,0,16,0,64,128,256,0,1024,2560,4096,0,16384,0,106496,262143,524287],[0,1,2,4,0,16,0,64,128,256,0,1024,2560,4096,0,16384,0,106496,40,393216],[0,1,3,7,0,16,0,64,192,448,0,1024,4032,8128,0,16384,0,131008,262143,524287]⟩
noncomputable abbrev zMq (k : Nat) := Rg Try.f172 k
noncomputable abbrev zMm (k : Nat) := Rd Try.f172 k
theorem zCN : zk (rg Try.f172 2) zM2 = true := kr
def zM3 : Tab := ⟨20,[0,1,2,4,0,16,0,64,128,256,0,1024,2560,4096,0,16384,0,106496,262143,524287],[0,1,2,4,0,16,0,64,128,256,0,1024,2560,4096,0,16384,0,106496,40,393216],[0,1,3,7,0,16,0,64,192,448,0,1024,4032,8128,0,16384,0,131008,262143,524287]⟩
theorem zCO : zk (rg Try.f172 3) zM3 = true := kr
theorem zJc (n : Nat) (x0 : Net) (x1 : Int) (x2 : Bool) (r : Net) (H : Jq n x0 x1 x2 = some r) : zI Try.prog 172 [.ptr (Net.row x0),.val false [.lit (.int .i64 x1)],.val false [.lit (.bool x2)]] [] [(0,(Net.row r))] := by
 refine zI.of_body tOk Try.func172 rfl (c := (.seq (.seq (zMq 0) (.cond (.tmp 13) .ret .skip)) (.seq (zMq 1) (.seq (zMm 2) (zMm 3))))) kr (Nat.le_of_ble_eq_true kr) 1 (rs := []) rfl [] .nil [] [] [(0,(Net.row r))] fun cx => ?_
 show Tr _ _ _ ⟨59,1,[sA 0 0 3 0,sI 1 x1,sB 2 x2],[(0,(Net.row x0))]⟩ _
 unfold Jq at H
 refine tS ?_
 refine rA 4 ?_
 obtain ⟨r1,er1,H⟩ := bs H
 refine vB [.rd,.rd] [.box 0] (zD8 n x0 x1 r1 er1) (.inr (qV (zK zR qW) qh)) ?_
 refine uA 2 8199 1 ?_
 obtain ⟨h1,H⟩ | ⟨h1,H⟩ := bC H
 ·refine nA h1 ?_
  refine tK ?_
  refine rA 5 ?_
  obtain ⟨v2,ev2,H⟩ := bs H
  refine oA Link.row ev2 ?_
  refine dE (tI 119) (.box 0) [(0,0),(1,(x1.toNat))] 4 0 [.sl true 3 [(Net.row x0)]] (Link.row v2) (zL rfl (zC ev2).2) ?_
  refine uA 2 69 65 ?_
  obtain ⟨v3,ev3,H⟩ := bs H
  obtain ⟨r4,er4,H⟩ := bs H
  refine Tr.draws mixed 20 kr ⟨59,1,[sA 6 6 4 0,sA 0 0 3 0,sB 2 x2],[(0,[cL 11 (x0.Bs.set (v2.A.toNat) r4) zA.row,cL 4 x0.Ls Link.row,cL 7 x0.Said Say.row]),(6,(Link.row v2))]⟩ (fun cx => ?_) ?_
  ·refine mA zCN [(0,[]),(1,[]),(2,[]),(3,[19]),(4,[]),(5,[19]),(6,[]),(7,[]),(8,[]),(9,[17,19]),(10,[]),(11,[17,19])] 8 [⟨[17,19],3,31,32⟩,⟨[17,19],53,29,30⟩,⟨[19],3,25,26⟩,⟨[19],53,23,24⟩] fun cx => ?_
   refine oN zCN 12 zA.row ev3 fun cx => ?_
   refine mA zCN [(14,[]),(15,[17,19]),(16,[])] 4 [⟨[17,19],3,35,36⟩,⟨[17,19],3,31,32⟩,⟨[17,19],53,29,30⟩,⟨[19],3,25,26⟩,⟨[19],53,23,24⟩] fun cx => ?_
   refine mC zCN 13 ?_
   refine dE (tI 42) (.box 0) [(0,0),(0,(v2.A.toNat))] 11 0 [.sl true 3 [(Net.row x0)]] (zA.row v3) (zL rfl (zC ev3).2) ?_
   refine fA ?_
   refine mC zCN 17 ?_
   refine LAt.callO tOk [.rd,.rd,.rd] (f := 166) (av := #[.tmp 34,.tmp 36,.tmp 37]) (ats := #[42,3,4]) (d := (some 38)) (ty := 42) (g := none) [(34,zA.row v3)] none kr kr kr [.box 0] (zDS n v3 v2.P x2 r4 er4) (zB5 (row := [.sl true 3 [(Net.row x0)]]) (q := [(0,0),(0,(v2.A.toNat))]) kr (zL rfl (zC ev3).2) zDA) kr zC9 (.inr (And.intro (qV (zA.row_mine _) qh) zB6)) ?_
   refine fA ?_
   refine oN zCN 18 zA.row ev3 fun cx => ?_
   refine sA_ 935891828805 65 ⟨59,1,[(39,.adr (.box 0) [(0,0),(0,(v2.A.toNat))] 11 0),sV 38 (zA.row r4),sI 36 v2.P,sA 35 6 4 1,sI 32 v2.A,sA 31 6 4 0,sR 30 0 3 0 1 false,sA 29 0 3 0,sI 26 v2.A,sA 25 6 4 0,sR 24 0 3 0 1 false,sA 23 0 3 0,sA 6 6 4 0,sA 0 0 3 0,sB 2 x2],[(6,(Link.row v2)),(0,(Net.row x0))]⟩ ?_
   refine mC zCN 19 ?_
   refine LAt.storeB tOk (t := 42) (ty := 0) (ad := (.tmp 39)) (x := (.tmp 38)) (g := none) (tI 42) true (zA.row r4) 0 0 (v2.A.toNat) 11 0 11 x0.Bs zA.row v3 r4 kr kr kr kr kr kr kr kr (zC ev3).2 kr kr kr kr ?_
   refine fA ?_
   exact mE zCN [6,0,2] [0,6]
  obtain ⟨v5,ev5,H⟩ := bs H
  obtain ⟨r6,er6,H⟩ := bs H
  refine Tr.draw mixed 20 kr ⟨59,1,[sA 0 0 3 0],[(0,[cL 11 ((x0.Bs.set (v2.A.toNat) r4).set (v2.B.toNat) r6) zA.row,cL 4 x0.Ls Link.row,cL 7 x0.Said Say.row])]⟩ (fun cx => ?_) ?_
  ·refine mA zCO [(0,[]),(1,[]),(2,[]),(3,[19]),(4,[]),(5,[19]),(6,[]),(7,[]),(8,[]),(9,[17,19]),(10,[]),(11,[17,19])] 8 [⟨[17,19],3,50,51⟩,⟨[17,19],53,48,49⟩,⟨[19],3,44,45⟩,⟨[19],53,42,43⟩] fun cx => ?_
   refine oN zCO 12 zA.row ev5 fun cx => ?_
   refine mA zCO [(14,[]),(15,[17,19]),(16,[])] 4 [⟨[17,19],3,54,55⟩,⟨[17,19],3,50,51⟩,⟨[17,19],53,48,49⟩,⟨[19],3,44,45⟩,⟨[19],53,42,43⟩] fun cx => ?_
   refine mC zCO 13 ?_
   refine dE (tI 42) (.box 0) [(0,0),(0,(v2.B.toNat))] 11 0 [.sl true 3 [[cL 11 (x0.Bs.set (v2.A.toNat) r4) zA.row,cL 4 x0.Ls Link.row,cL 7 x0.Said Say.row]]] (zA.row v5) (zL rfl (zC ev5).2) ?_
   refine fA ?_
   refine mC zCO 17 ?_
   refine LAt.callO tOk [.rd,.rd,.rd] (f := 166) (av := #[.tmp 53,.tmp 55,.tmp 56]) (ats := #[42,3,4]) (d := (some 57)) (ty := 42) (g := none) [(53,zA.row v5)] none kr kr kr [.box 0] (zDS n v5 v2.Q x2 r6 er6) (zB5 (row := [.sl true 3 [[cL 11 (x0.Bs.set (v2.A.toNat) r4) zA.row,cL 4 x0.Ls Link.row,cL 7 x0.Said Say.row]]]) (q := [(0,0),(0,(v2.B.toNat))]) kr (zL rfl (zC ev5).2) zDA) kr zC9 (.inr (And.intro (qV (zA.row_mine _) qh) zB6)) ?_
   refine fA ?_
   refine oN zCO 18 zA.row ev5 fun cx => ?_
   refine sA_ 0x6cf3c0000000001 65 ⟨59,1,[(58,.adr (.box 0) [(0,0),(0,(v2.B.toNat))] 11 0),sV 57 (zA.row r6),sI 55 v2.Q,sA 54 6 4 3,sI 51 v2.B,sA 50 6 4 2,sR 49 0 3 0 1 false,sA 48 0 3 0,sI 45 v2.B,sA 44 6 4 2,sR 43 0 3 0 1 false,sA 42 0 3 0,sA 0 0 3 0],[(0,[cL 11 (x0.Bs.set (v2.A.toNat) r4) zA.row,cL 4 x0.Ls Link.row,cL 7 x0.Said Say.row]),(6,(Link.row v2))]⟩ ?_
   refine mC zCO 19 ?_
   refine LAt.storeB tOk (t := 42) (ty := 0) (ad := (.tmp 58)) (x := (.tmp 57)) (g := none) (tI 42) true (zA.row r6) 0 0 (v2.B.toNat) 11 0 11 (x0.Bs.set (v2.A.toNat) r4) zA.row v5 r6 kr kr kr kr kr kr kr kr (zC ev5).2 kr kr kr kr ?_
   refine fA ?_
   exact mE zCO [0] [0]
  obtain rfl := si H
  exact Fin.ofY _ [] [] _ [] _ [(0,[cL 11 ((x0.Bs.set (v2.A.toNat) r4).set (v2.B.toNat) r6) zA.row,cL 4 x0.Ls Link.row,cL 7 x0.Said Say.row])] kr rfl rfl rfl kr kr kr kr rfl rfl rfl
 refine tA h1 ?_
 refine te ?_
 obtain rfl := si H
 exact Fin.ofY _ [] [] _ [] _ [(0,(Net.row x0))] kr rfl rfl rfl kr kr kr kr rfl rfl rfl
def Q7 (n : Nat) (r1 : Net) (x0 : Net) (x1 : Event) (y5 : Bool) : Option (Net × Bool) :=
  (bif y5 then ((zP n x1.At 0 (IntKind.wrap .i64 ((x0.Ls.length : Int) - 1))).bind fun r6 => (bif (!r6) then (some (r1,false)) else ((Jq n r1 x1.At (x1.Ki == 5)).bind fun r7 => (some (r7,true))))) else (some (r1,false)))
def Q6 (n : Nat) (r1 : Net) (x0 : Net) (x1 : Event) (y4 : Bool) : Option (Net × Bool) :=
  (bif y4 then ((zP n x1.At 0 (IntKind.wrap .i64 ((x0.Said.length : Int) - 1))).bind fun r8 => (bif (!r8) then (some (r1,false)) else ((Yt n r1 x1).bind fun r9 => (some (r9,true))))) else (bif (x1.Ki == 4) then (Q7 n r1 x0 x1 true) else (Q7 n r1 x0 x1 (x1.Ki == 5))))
def ZU (n : Nat) (r1 : Net) (x0 : Net) (x1 : Event) (y3 : Bool) : Option (Net × Bool) :=
  (bif y3 then ((zP n x1.At 0 (IntKind.wrap .i64 ((x0.Bs.length : Int) - 1))).bind fun r10 => (bif (!r10) then (some (r1,false)) else (bif (x1.Ki == 6) then ((idx x0.Bs x1.At).bind fun v12 => ((zAg n v12).bind fun r13 => ((idx r1.Bs x1.At).bind fun v14 => (some ((⟨(r1.Bs.set (x1.At.toNat) r13),r1.Ls,r1.Said⟩ : Net),true))))) else ((Y5 n r1 x1.At).bind fun r11 => (some (r11,true)))))) else (bif (x1.Ki == 2) then (Q6 n r1 x0 x1 true) else (Q6 n r1 x0 x1 (x1.Ki == 3))))
def zAf (n : Nat) (x0 : Net) (x1 : Event) : Option (Net × Bool) :=
  ((Jo n x0).bind fun r1 => ((Zr n x0).bind fun r2 => (bif (!r2) then (some (r1,false)) else (bif (x1.Ki == 1) then (ZU n r1 x0 x1 true) else (ZU n r1 x0 x1 (x1.Ki == 6))))))
def zMO : Tab := ⟨13,[0,1,0,4,0,16,0,64,160,256,512,2047,4095],[0,1,0,4,0,16,0,64,160,256,512,10,3072],[0,1,0,4,0,16,0,64,240,496,1008,2047,4095]⟩
theorem zBz : zk (rg Try.f125 10) zMO = true := kr
theorem zLc (n : Nat) (x0 : Net) (x1 : Event) (r : Net × Bool) (H : zAf n x0 x1 = some r) : zI Try.prog 125 [.val true (CV.frzRow (Net.row x0)),.val true (CV.frzRow (Event.row x1))] [.val true (Net.row r.1),.val false [.lit (.bool r.2)]] [] := by
 refine cW Try.func125 (fun g d => sl [g 0,g 1,sl [g 2] (cn 11 (sl [g 3] .ret) .skip),sl [g 4] (.block 0 (sl [sl [g 5] (cn 15 .skip (g 6))] (cn 15 (sl [sl [g 7] (cn 25 (sl [g 8] .ret) .skip),sl [g 9] (cn 29 (d 10) (g 11)),g 12] .ret) (sl [sl [g 13] (cn 46 .skip (g 14))] (cn 46 (sl [sl [g 15] (cn 56 (sl [g 16] .ret) .skip),g 17,g 18] .ret) (sl [sl [g 19] (cn 61 .skip (g 20))] (cn 61 (sl [sl [g 21] (cn 71 (sl [g 22] .ret) .skip),g 23,g 24] .ret) .skip))))))),g 25] .ret) [.cell 4 76,.tmp 5] fun cx => ?_
 unfold zAf at H
 refine gA 4 28 28 ?_
 refine rA 1 ?_
 obtain ⟨r1,er1,H⟩ := bs H
 refine vA [.rd] (zJZ n x0 r1 er1) ?_
 refine uA 2 92 92 ?_
 refine tS ?_
 refine rA 1 ?_
 obtain ⟨r2,er2,H⟩ := bs H
 refine vA [.rd] (zHT n x0 r2 er2) ?_
 refine uA 1 2140 92 ?_
 obtain ⟨h1,H⟩ | ⟨h1,H⟩ := bC H
 ·refine nA h1 ?_
  refine tK ?_
  refine tS ?_
  refine gA 2 16476 92 ?_
  refine tB ?_
  refine tS ?_
  refine Tr.mid (ι := Bool) (fun v => ⟨81,0,[sB 15 v,sI 14 x1.Ki,sA 6 6 3 0,sA 4 4 3 0,sA 3 3 2 0,sA 2 2 3 0],[(6,(Net.row r1)),(4,[cL 11 ([] : List zA) zA.row,cL 4 ([] : List Link) Link.row,cL 7 ([] : List Say) Say.row]),(3,(Event.row x1)),(2,(CV.frzRow (Net.row x0)))]⟩) (fun v => ZU n r1 x0 x1 v = some r) ?_ ?_
  ·refine gA 2 49244 92 ?_
   refine sT ⟨81,0,[sB 15 (x1.Ki == 1),sI 14 x1.Ki,sA 6 6 3 0,sA 4 4 3 0,sA 3 3 2 0,sA 2 2 3 0],[(6,(Net.row r1)),(4,[cL 11 ([] : List zA) zA.row,cL 4 ([] : List Link) Link.row,cL 7 ([] : List Say) Say.row]),(3,(Event.row x1)),(2,(CV.frzRow (Net.row x0)))]⟩ ?_
   cases h11 : (x1.Ki == 1)
   ·have H := zG h11 H
    refine nB_ ?_
    refine eA 2 49244 92 ?_
    exact jA (x1.Ki == 6) H [15,14,6,4,3,2] [6,4,3,2]
   have H := zH h11 H
   refine tB_ ?_
   refine tK ?_
   exact jA true H [15,14,6,4,3,2] [6,4,3,2]
  rintro y3 H
  have H : (ZU n r1 x0 x1 y3) = some r := H
  unfold ZU at H
  cases h2 : y3
  ·have H := zG h2 H
   refine nB_ ?_
   refine tS ?_
   refine Tr.mid (ι := Bool) (fun v => ⟨81,0,[sB 46 v,sI 14 x1.Ki,sA 6 6 3 0,sA 4 4 3 0,sA 3 3 2 0,sA 2 2 3 0],[(6,(Net.row r1)),(4,[cL 11 ([] : List zA) zA.row,cL 4 ([] : List Link) Link.row,cL 7 ([] : List Say) Say.row]),(3,(Event.row x1)),(2,(CV.frzRow (Net.row x0)))]⟩) (fun v => Q6 n r1 x0 x1 v = some r) ?_ ?_
   ·refine gA 2 70368744194140 92 ?_
    refine sT ⟨81,0,[sB 46 (x1.Ki == 2),sI 14 x1.Ki,sA 6 6 3 0,sA 4 4 3 0,sA 3 3 2 0,sA 2 2 3 0],[(6,(Net.row r1)),(4,[cL 11 ([] : List zA) zA.row,cL 4 ([] : List Link) Link.row,cL 7 ([] : List Say) Say.row]),(3,(Event.row x1)),(2,(CV.frzRow (Net.row x0)))]⟩ ?_
    cases h8 : (x1.Ki == 2)
    ·have H := zG h8 H
     refine nB_ ?_
     refine eA 2 70368744194140 92 ?_
     exact jA (x1.Ki == 3) H [46,14,6,4,3,2] [6,4,3,2]
    have H := zH h8 H
    refine tB_ ?_
    refine tK ?_
    exact jA true H [46,14,6,4,3,2] [6,4,3,2]
   rintro y4 H
   have H : (Q6 n r1 x0 x1 y4) = some r := H
   unfold Q6 at H
   cases h3 : y4
   ·have H := zG h3 H
    refine nB_ ?_
    refine tS ?_
    refine Tr.mid (ι := Bool) (fun v => ⟨81,0,[sB 61 v,sA 6 6 3 0,sA 4 4 3 0,sA 3 3 2 0,sA 2 2 3 0],[(6,(Net.row r1)),(4,[cL 11 ([] : List zA) zA.row,cL 4 ([] : List Link) Link.row,cL 7 ([] : List Say) Say.row]),(3,(Event.row x1)),(2,(CV.frzRow (Net.row x0)))]⟩) (fun v => Q7 n r1 x0 x1 v = some r) ?_ ?_
    ·refine gA 2 0x200000000000405c 92 ?_
     refine sT ⟨81,0,[sB 61 (x1.Ki == 4),sI 14 x1.Ki,sA 6 6 3 0,sA 4 4 3 0,sA 3 3 2 0,sA 2 2 3 0],[(6,(Net.row r1)),(4,[cL 11 ([] : List zA) zA.row,cL 4 ([] : List Link) Link.row,cL 7 ([] : List Say) Say.row]),(3,(Event.row x1)),(2,(CV.frzRow (Net.row x0)))]⟩ ?_
     cases h6 : (x1.Ki == 4)
     ·have H := zG h6 H
      refine nB_ ?_
      refine eA 2 0x200000000000005c 92 ?_
      exact jA (x1.Ki == 5) H [61,6,4,3,2] [6,4,3,2]
     have H := zH h6 H
     refine tB_ ?_
     refine tK ?_
     exact jA true H [61,6,4,3,2] [6,4,3,2]
    rintro y5 H
    have H : (Q7 n r1 x0 x1 y5) = some r := H
    unfold Q7 at H
    cases h4 : y5
    ·have H := zG h4 H
     refine nB_ ?_
     refine tK ?_
     refine gA 3 48 16 ?_
     exact te (fJ [(true,(Net.row r1)),(false,[cB false])] H)
    have H := zH h4 H
    refine tB_ ?_
    refine tS ?_
    refine rA 4 ?_
    refine kF x0.Ls Link.row ?_
    refine lA 1 ?_
    obtain ⟨r6,er6,H⟩ := bs H
    refine vA [.rd,.rd,.rd] (zQ n x1.At 0 (IntKind.wrap .i64 ((x0.Ls.length : Int) - 1)) r6 er6) ?_
    refine uA 1 0x800000000000000058 88 ?_
    obtain ⟨h5,H⟩ | ⟨h5,H⟩ := bC H
    ·refine nA h5 ?_
     refine tK ?_
     refine rA 5 ?_
     obtain ⟨r7,er7,H⟩ := bs H
     refine LAt.callL tOk [.lend,.rd,.rd] (f := 172) (av := #[.tmp 6,.tmp 74,.tmp 77]) (ats := #[180,3,4]) (d := (some 78)) (ty := 0) (g := none) kr kr kr [] (zJc n r1 x1.At (x1.Ki == 5) r7 er7) kr (.inl rfl) ?_
     refine dA 80 80 ?_
     refine gA 3 48 16 ?_
     exact te (fJ [(true,(Net.row r7)),(false,[cB true])] H)
    refine tA h5 ?_
    refine gA 3 48 16 ?_
    exact te (fJ [(true,(Net.row r1)),(false,[cB false])] H)
   have H := zH h3 H
   refine tB_ ?_
   refine tS ?_
   refine rA 4 ?_
   refine kF x0.Said Say.row ?_
   refine lA 1 ?_
   obtain ⟨r8,er8,H⟩ := bs H
   refine vA [.rd,.rd,.rd] (zQ n x1.At 0 (IntKind.wrap .i64 ((x0.Said.length : Int) - 1)) r8 er8) ?_
   refine uA 1 72057594037928024 88 ?_
   obtain ⟨h7,H⟩ | ⟨h7,H⟩ := bC H
   ·refine nA h7 ?_
    refine tK ?_
    refine rA 1 ?_
    obtain ⟨r9,er9,H⟩ := bs H
    refine LAt.callL tOk [.lend,.rd] (f := 171) (av := #[.tmp 6,.tmp 58]) (ats := #[180,172]) (d := (some 59)) (ty := 0) (g := none) kr kr kr [] (zJd n r1 x1 r9 er9) kr (.inl rfl) ?_
    refine dA 80 80 ?_
    refine gA 3 48 16 ?_
    exact te (fJ [(true,(Net.row r9)),(false,[cB true])] H)
   refine tA h7 ?_
   refine gA 3 48 16 ?_
   exact te (fJ [(true,(Net.row r1)),(false,[cB false])] H)
  have H := zH h2 H
  refine tB_ ?_
  refine tS ?_
  refine rA 4 ?_
  refine kF x0.Bs zA.row ?_
  refine lA 1 ?_
  obtain ⟨r10,er10,H⟩ := bs H
  refine vA [.rd,.rd,.rd] (zQ n x1.At 0 (IntKind.wrap .i64 ((x0.Bs.length : Int) - 1)) r10 er10) ?_
  refine uA 1 33554524 92 ?_
  obtain ⟨h9,H⟩ | ⟨h9,H⟩ := bC H
  ·refine nA h9 ?_
   refine tK ?_
   refine tS ?_
   refine gA 3 536871004 92 ?_
   obtain ⟨h10,H⟩ | ⟨h10,H⟩ := bC H
   ·refine nA h10 ?_
    refine Tr.at ?_
    refine lA 2 ?_
    obtain ⟨r11,er11,H⟩ := bs H
    refine LAt.callL tOk [.lend,.rd] (f := 170) (av := #[.tmp 6,.tmp 43]) (ats := #[180,3]) (d := (some 44)) (ty := 0) (g := none) kr kr kr [] (zIC n r1 x1.At r11 er11) kr (.inl rfl) ?_
    refine dA 80 80 ?_
    refine gA 3 48 16 ?_
    exact te (fJ [(true,(Net.row r11)),(false,[cB true])] H)
   refine tA h10 ?_
   obtain ⟨v12,ev12,H⟩ := bs H
   obtain ⟨r13,er13,H⟩ := bs H
   obtain ⟨v14,ev14,H⟩ := bs H
   refine Tr.draw mixed 13 kr ⟨81,0,[sA 6 6 3 0,sA 4 4 3 0],[(6,[cL 11 (r1.Bs.set (x1.At.toNat) r13) zA.row,cL 4 r1.Ls Link.row,cL 7 r1.Said Say.row]),(4,[cL 11 ([] : List zA) zA.row,cL 4 ([] : List Link) Link.row,cL 7 ([] : List Say) Say.row])]⟩ (fun cx => ?_) ?_
   ·refine mA zBz [(0,[]),(1,[12]),(2,[]),(3,[12]),(4,[]),(5,[10,12]),(6,[]),(7,[10,12])] 5 [⟨[10,12],3,36,37⟩,⟨[10,12],53,34,35⟩,⟨[12],3,32,33⟩,⟨[12],53,30,31⟩] fun cx => ?_
    refine iN zBz 8 zA.row ev12 fun cx => ?_
    refine mA zBz [(9,[])] 3 [⟨[10,12],3,36,37⟩,⟨[10,12],53,34,35⟩,⟨[12],3,32,33⟩,⟨[12],53,30,31⟩] fun cx => ?_
    refine mC zBz 10 ?_
    refine vA [.rd] (zLd n v12 r13 er13) ?_
    refine fA ?_
    refine oN zBz 11 zA.row ev14 fun cx => ?_
    refine mC zBz 12 ?_
    refine LAt.storeB tOk (t := 42) (ty := 0) (ad := (.tmp 41)) (x := (.tmp 40)) (g := none) (tI 42) true (zA.row r13) 6 0 (x1.At.toNat) 11 0 11 r1.Bs zA.row v14 r13 kr kr kr kr kr kr kr kr (zC ev14).2 kr kr kr kr ?_
    refine fA ?_
    exact mE zBz [6,4] [6,4]
   refine gA 3 48 16 ?_
   exact te (fJ [(true,[cL 11 (r1.Bs.set (x1.At.toNat) r13) zA.row,cL 4 r1.Ls Link.row,cL 7 r1.Said Say.row]),(false,[cB true])] H)
  refine tA h9 ?_
  refine gA 3 48 16 ?_
  exact te (fJ [(true,(Net.row r1)),(false,[cB false])] H)
 refine tA h1 ?_
 refine gA 3 48 16 ?_
 exact te (fJ [(true,(Net.row r1)),(false,[cB false])] H)
def J5 (n : Nat) (y23 : (List Int)) (y24 : Int) (y25 : Int) (y26 : (List zA)) (y27 : (List Link)) (y28 : (List Say)) : Option (Net × Src) :=
  (some ((⟨y26,y27,y28⟩ : Net),(⟨y23,y24,y25⟩ : Src)))
def QB (n : Nat) : Nat → Int → (List Int) → Int → Int → (List zA) → (List Link) → (List Say) → Option (((List Int) × Int × Int × (List zA) × (List Link) × (List Say)) ⊕ (Net × Src))
  | 0,_,_,_,_,_,_,_ => none
  | mo29 + 1,y16,y17,y18,y19,y20,y21,y22 => (bif (decide (y16 > 0)) then ((YZ n (⟨y17,y18,y19⟩ : Src) (⟨y20,y21,y22⟩ : Net)).bind fun r30 => ((zAf n (⟨y20,y21,y22⟩ : Net) r30.1).bind fun r31 => (QB n mo29 (IntKind.wrap .i64 (y16 - 1)) r30.2.b r30.2.i r30.2.h r31.1.Bs r31.1.Ls r31.1.Said))) else (some (Sum.inl (y17,y18,y19,y20,y21,y22))))
def Y2 (n : Nat) (r5 : Net) (x1 : Int) (y11 : (List zA)) (y12 : (List Int)) (y13 : Int) (y14 : Int) : Option (Net × Src) :=
  ((zo n (⟨y12,y13,y14⟩ : Src) (IntKind.wrap .i64 (x1 + 1))).bind fun r15 => ((QB n n r15.1 r15.2.b r15.2.i r15.2.h y11 r5.Ls r5.Said).bind fun o => match o with | .inl (y23,y24,y25,y26,y27,y28) => (J5 n y23 y24 y25 y26 y27 y28) | .inr r => some r))
def Y3 (n : Nat) (k : (Int × (List zA) × (List Int) × Int × Int → Option (((List zA) × (List Int) × Int × Int) ⊕ (Net × Src)))) (y6 : Int) (y38 : (List zA)) (y39 : (List Int)) (y40 : Int) (y41 : Int) : Option (((List zA) × (List Int) × Int × Int) ⊕ (Net × Src)) :=
  (k ((IntKind.wrap .i64 (y6 + 1)),y38,y39,y40,y41))
def QC (n : Nat) : Nat → Int → Int → (List zA) → (List Int) → Int → Int → Option (((List zA) × (List Int) × Int × Int) ⊕ (Net × Src))
  | 0,_,_,_,_,_,_ => none
  | mo42 + 1,y6,y33,y34,y35,y36,y37 => ((idx y34 y6).bind fun v43 => (bif (decide (y33 < (v43.Ps.length : Int))) then ((Zu n (⟨y35,y36,y37⟩ : Src) [1,1,2,5,20]).bind fun r44 => ((idx v43.Ps y33).bind fun v45 => (QC n mo42 y6 (IntKind.wrap .i64 (y33 + 1)) (y34.set (y6.toNat) (⟨v43.Id,v43.Name,(v43.Ps.set (y33.toNat) (⟨v45.Up,r44.1,v45.Has,v45.Hd⟩ : Pt)),v43.F,v43.V,v43.Tk,v43.Pa,v43.Wo,v43.Dr,v43.Ve⟩ : zA)) r44.2.b r44.2.i r44.2.h))) else (some (Sum.inl (y34,y35,y36,y37)))))
def ZK (n : Nat) : Nat → Int → (List zA) → (List Int) → Int → Int → Option (((List zA) × (List Int) × Int × Int) ⊕ (Net × Src))
  | 0,_,_,_,_,_ => none
  | mo32 + 1,y6,y7,y8,y9,y10 => (bif (decide (y6 < (y7.length : Int))) then ((QC n n y6 0 y7 y8 y9 y10).bind fun o => match o with | .inl (y38,y39,y40,y41) => (Y3 n (fun v => ZK n mo32 v.1 v.2.1 v.2.2.1 v.2.2.2.1 v.2.2.2.2) y6 y38 y39 y40 y41) | .inr r => some (Sum.inr r)) else (some (Sum.inl (y7,y8,y9,y10))))
def Jp (n : Nat) (x0 : Src) (x1 : Int) : Option (Net × Src) :=
  ((zo n x0 6).bind fun r1 => ((zo n r1.2 4).bind fun r2 => ((zAP n r2.2 (IntKind.wrap .i64 (1 + r1.1))).bind fun r3 => ((JQ n r3.2 (IntKind.wrap .i64 (1 + r1.1)) (IntKind.wrap .i64 (2 + r2.1))).bind fun r4 => ((zAN n r3.1 (IntKind.wrap .i64 (2 + r2.1)) r4.1).bind fun r5 => ((ZK n n 0 r5.Bs r4.2.b r4.2.i r4.2.h).bind fun o => match o with | .inl (y11,y12,y13,y14) => (Y2 n r5 x1 y11 y12 y13 y14) | .inr r => some r))))))
def zNC : Tab := ⟨13,[0,1,0,6,8,16,0,0,0,384,1023,2047,3071],[0,1,0,6,8,16,0,0,0,384,96,1024,2560],[0,1,0,7,15,31,0,0,0,384,1023,2047,4095]⟩
noncomputable abbrev G69 (k : Nat) := Rg Try.f69 k
noncomputable abbrev D69 (k : Nat) := Rd Try.f69 k
theorem QE : zk (rg Try.f69 10) zNC = true := kr
theorem zJa (n : Nat) (x0 : Src) (x1 : Int) (r : Net × Src) (H : Jp n x0 x1 = some r) : zI Try.prog 69 [.ptr (CV.frzRow (Src.row x0)),.val false [.lit (.int .i64 x1)]] [.val true (Net.row r.1)] [(0,(CV.frzRow (Src.row r.2)))] := by
 refine zI.of_body tOk Try.func69 rfl (c := (.seq (G69 0) (.seq (G69 1) (.seq (G69 2) (.seq (G69 3) (.seq (.seq (G69 4) (.block 0 (.loop (.seq (.seq (G69 5) (.cond (.tmp 30) .skip (.exit 0))) (.seq (.block 1 (.seq (G69 7) (.block 2 (.loop (.seq (.seq (G69 8) (.cond (.tmp 41) .skip (.exit 2))) (.seq (.block 3 (D69 10)) (G69 9))))))) (G69 6)))))) (.seq (.seq (G69 11) (.block 4 (.loop (.seq (.seq (G69 12) (.cond (.tmp 61) .skip (.exit 4))) (.seq (.block 5 (D69 14)) (G69 13)))))) (.seq (G69 15) .ret)))))))) kr (Nat.le_of_ble_eq_true kr) 1 (rs := [.cell 4 76]) rfl [] .nil [(true,(Net.row r.1))] [] [(0,(CV.frzRow (Src.row r.2)))] fun cx => ?_
 show Tr _ _ _ ⟨73,1,[sA 0 0 3 0,sI 1 x1],[(0,(CV.frzRow (Src.row x0)))]⟩ _
 unfold Jp at H
 refine gA 1 19 17 ?_
 refine rA 1 ?_
 obtain ⟨r1,er1,H⟩ := bs H
 refine LAt.callL tOk [.lend,.rd] (f := 49) (av := #[.tmp 11,.const (.int .i64 6)]) (ats := #[92,3]) (d := (some 12)) (ty := 3) (g := none) kr kr kr [] (qt n x0 6 r1 er1) kr (.inl rfl) ?_
 refine uA 2 51 17 ?_
 refine rA 1 ?_
 obtain ⟨r2,er2,H⟩ := bs H
 refine LAt.callL tOk [.lend,.rd] (f := 49) (av := #[.tmp 14,.const (.int .i64 4)]) (ats := #[92,3]) (d := (some 15)) (ty := 3) (g := none) kr kr kr [] (qt n r1.2 4 r2 er2) kr (.inl rfl) ?_
 refine uA 2 115 17 ?_
 refine rA 2 ?_
 obtain ⟨r3,er3,H⟩ := bs H
 refine LAt.callL tOk [.lend,.rd] (f := 123) (av := #[.tmp 17,.tmp 18]) (ats := #[92,3]) (d := (some 19)) (ty := 38) (g := none) kr kr kr [] (zJ3 n r2.2 (IntKind.wrap .i64 (1 + r1.1)) r3 er3) kr (.inl rfl) ?_
 refine lA 4 ?_
 obtain ⟨r4,er4,H⟩ := bs H
 refine LAt.callL tOk [.lend,.rd,.rd] (f := 124) (av := #[.tmp 21,.tmp 22,.tmp 23]) (ats := #[92,3,3]) (d := (some 24)) (ty := 73) (g := none) kr kr kr [] (zIn n r3.2 (IntKind.wrap .i64 (1 + r1.1)) (IntKind.wrap .i64 (2 + r2.1)) r4 er4) kr (.inl rfl) ?_
 obtain ⟨r5,er5,H⟩ := bs H
 refine vA [.rd,.rd,.rd] (zJ0 n r3.1 (IntKind.wrap .i64 (2 + r2.1)) r4.1 r5 er5) ?_
 refine uA 2 147 145 ?_
 refine tS ?_
 refine gA 1 403 145 ?_
 obtain ⟨o32,eo32,Ho32⟩ := bs H
 clear H
 refine Tr.mid (ι := (List zA) × (List Int) × Int × Int) (fun v => ⟨73,1,[sA 7 7 3 0,sA 4 4 3 0,sA 0 0 3 0,sI 1 x1],[(7,[cL 11 v.1 zA.row,cL 4 r5.Ls Link.row,cL 7 r5.Said Say.row]),(0,[cF 1 v.2.1 zy,cI v.2.2.1,cI v.2.2.2]),(4,[cL 11 ([] : List zA) zA.row,cL 4 ([] : List Link) Link.row,cL 7 ([] : List Say) Say.row])]⟩) (fun v => Y2 n r5 x1 v.1 v.2.1 v.2.2.1 v.2.2.2 = some r) ?_ ?_
 ·refine tB ?_
  refine Tr.loop (ι := Nat × (Int × (List zA) × (List Int) × Int × Int)) (fun v => ⟨73,1,[sI 8 v.2.1,sA 7 7 3 0,sA 4 4 3 0,sA 0 0 3 0,sI 1 x1],[(7,[cL 11 v.2.2.1 zA.row,cL 4 r5.Ls Link.row,cL 7 r5.Said Say.row]),(0,[cF 1 v.2.2.2.1 zy,cI v.2.2.2.2.1,cI v.2.2.2.2.2]),(4,[cL 11 ([] : List zA) zA.row,cL 4 ([] : List Link) Link.row,cL 7 ([] : List Say) Say.row])]⟩) (fun v => ZK n v.1 v.2.1 v.2.2.1 v.2.2.2.1 v.2.2.2.2.1 v.2.2.2.2.2 = some o32) (fun v => v.1) (n,(0,r5.Bs,r4.2.b,r4.2.i,r4.2.h)) eo32 (St.sub_of [8,7,4,0,1] [7,0,4] kr) ?_
  rintro ⟨mo32,y6,y7,y8,y9,y10⟩ H
  have H : ZK n mo32 y6 y7 y8 y9 y10 = some o32 := H
  obtain _ | mo32 := mo32
  ·exact nN H
  rw [ZK] at H
  refine tS ?_
  refine rA 3 ?_
  refine kO y7 zA.row ?_
  refine uA 1 1073742227 145 ?_
  obtain ⟨h2,H⟩ | ⟨h2,H⟩ := bC H
  ·refine nA h2 ?_
   refine Tr.exit ?_
   refine aJ ?_
   obtain rfl := si H
   have H := Ho32
   dsimp only at H
   exact jA (y7,y8,y9,y10) H [7,4,0,1] [7,0,4]
  refine tA h2 ?_
  refine tK ?_
  refine tS ?_
  refine tB ?_
  refine gA 1 915 145 ?_
  obtain ⟨o42,eo42,Ho42⟩ := bs H
  clear H
  refine Tr.mid (ι := (List zA) × (List Int) × Int × Int) (fun v => ⟨73,1,[sI 8 y6,sA 7 7 3 0,sA 4 4 3 0,sA 0 0 3 0,sI 1 x1],[(7,[cL 11 v.1 zA.row,cL 4 r5.Ls Link.row,cL 7 r5.Said Say.row]),(0,[cF 1 v.2.1 zy,cI v.2.2.1,cI v.2.2.2]),(4,[cL 11 ([] : List zA) zA.row,cL 4 ([] : List Link) Link.row,cL 7 ([] : List Say) Say.row])]⟩) (fun v => Y3 n (fun v => ZK n mo32 v.1 v.2.1 v.2.2.1 v.2.2.2.1 v.2.2.2.2) y6 v.1 v.2.1 v.2.2.1 v.2.2.2 = some o32) ?_ ?_
  ·refine tB ?_
   refine Tr.loop (ι := Nat × (Int × (List zA) × (List Int) × Int × Int)) (fun v => ⟨73,1,[sI 9 v.2.1,sI 8 y6,sA 7 7 3 0,sA 4 4 3 0,sA 0 0 3 0,sI 1 x1],[(7,[cL 11 v.2.2.1 zA.row,cL 4 r5.Ls Link.row,cL 7 r5.Said Say.row]),(0,[cF 1 v.2.2.2.1 zy,cI v.2.2.2.2.1,cI v.2.2.2.2.2]),(4,[cL 11 ([] : List zA) zA.row,cL 4 ([] : List Link) Link.row,cL 7 ([] : List Say) Say.row])]⟩) (fun v => QC n v.1 y6 v.2.1 v.2.2.1 v.2.2.2.1 v.2.2.2.2.1 v.2.2.2.2.2 = some o42) (fun v => v.1) (n,(0,y7,y8,y9,y10)) eo42 (St.sub_of [9,8,7,4,0,1] [7,0,4] kr) ?_
   rintro ⟨mo42,y33,y34,y35,y36,y37⟩ H
   have H : QC n mo42 y6 y33 y34 y35 y36 y37 = some o42 := H
   obtain _ | mo42 := mo42
   ·exact nN H
   rw [QC] at H
   refine tS ?_
   refine rA 4 ?_
   obtain ⟨v43,ev43,H⟩ := bs H
   refine oA zA.row ev43 ?_
   refine lA 1 ?_
   refine dE (tI 35) (.box 7) [(0,0),(0,(y6.toNat))] 11 2 [.sl true 3 [[cL 11 y34 zA.row,cL 4 r5.Ls Link.row,cL 7 r5.Said Say.row]]] (zA.row v43) (zL rfl (zC ev43).2) ?_
   refine lL tOk 35 3 55 39 40 none ⟨(.box 7),[(0,0),(0,(y6.toNat))],2,true,8,(v43.Ps.map Pt.row)⟩ (v43.Ps).length _ kr kr kr kr (ZR (row := [.sl true 3 [[cL 11 y34 zA.row,cL 4 r5.Ls Link.row,cL 7 r5.Said Say.row]]]) (e := zA.row v43) kr kr (zL rfl (zC ev43).2) rfl rfl) (zHt _ _) rfl ?_
   refine uA 1 2199023256467 145 ?_
   obtain ⟨h3,H⟩ | ⟨h3,H⟩ := bC H
   ·refine nA h3 ?_
    refine Tr.exit ?_
    refine aJ ?_
    obtain rfl := si H
    have H := Ho42
    dsimp only at H
    exact jA (y34,y35,y36,y37) H [8,7,4,0,1] [7,0,4]
   refine tA h3 ?_
   refine tK ?_
   refine tS ?_
   refine tB ?_
   obtain ⟨r44,er44,H⟩ := bs H
   obtain ⟨v45,ev45,H⟩ := bs H
   refine Tr.draw mixed 13 kr ⟨73,1,[sI 9 y33,sI 8 y6,sA 7 7 3 0,sA 4 4 3 0,sA 0 0 3 0,sI 1 x1],[(7,[cL 11 (y34.set (y6.toNat) (⟨v43.Id,v43.Name,(v43.Ps.set (y33.toNat) (⟨v45.Up,r44.1,v45.Has,v45.Hd⟩ : Pt)),v43.F,v43.V,v43.Tk,v43.Pa,v43.Wo,v43.Dr,v43.Ve⟩ : zA)) zA.row,cL 4 r5.Ls Link.row,cL 7 r5.Said Say.row]),(0,(CV.frzRow (Src.row r44.2))),(4,[cL 11 ([] : List zA) zA.row,cL 4 ([] : List Link) Link.row,cL 7 ([] : List Say) Say.row])]⟩ (fun cx => ?_) ?_
   ·refine mA QE [(0,[]),(1,[12]),(2,[])] 10 [⟨[12],53,44,45⟩] fun cx => ?_
    refine oN QE 3 zA.row ev43 fun cx => ?_
    refine mA QE [(4,[]),(6,[]),(7,[])] 6 [⟨[12],53,44,45⟩] fun cx => ?_
    refine mB2 tOk QE 5 8 kr (And.intro kr ?_) (And.intro kr ?_)
    ·refine dE (tI 35) (.box 7) [(0,0),(0,(y6.toNat))] 11 2 [.sl true 3 [[cL 11 y34 zA.row,cL 4 r5.Ls Link.row,cL 7 r5.Said Say.row]]] (zA.row v43) (zL rfl (zC ev43).2) ?_
     refine fA ?_
     refine mC QE 8 ?_
     refine lA 1 ?_
     refine fA ?_
     refine mC QE 9 ?_
     refine LAt.callL tOk [.lend,.rd] (f := 51) (av := #[.tmp 51,.tmp 52]) (ats := #[92,38]) (d := (some 53)) (ty := 3) (g := none) kr kr kr [] (zAj n (⟨y35,y36,y37⟩ : Src) [1,1,2,5,20] r44 er44) kr (.inl rfl) ?_
     refine fA ?_
     refine mC QE 10 ?_
     refine LAt.indexD tOk (t := 35) (ty := 0) (et := 55) (x := (.tmp 49)) (y := (.tmp 50)) (d := 54) (g := none) (tI 55) ⟨(.box 7),[(0,0),(0,(y6.toNat))],2,true,8,(v43.Ps.map Pt.row)⟩ .i64 y33 (y33.toNat) (Pt.row v45) kr kr kr kr kr kr kr (ZR (row := [.sl true 3 [[cL 11 y34 zA.row,cL 4 r5.Ls Link.row,cL 7 r5.Said Say.row]]]) (e := zA.row v43) kr kr (zL rfl (zC ev43).2) rfl rfl) rfl kr (qv ev45) rfl ?_
     refine fA ?_
     refine mA QE [(11,[])] 1 [⟨[12],53,44,45⟩] fun cx => ?_
     refine sA_ 0xa0300000000393 145 ⟨73,1,[(55,.adr (.box 7) [(0,0),(0,(y6.toNat)),(2,(y33.toNat))] 8 1),sI 53 r44.1,sR 45 7 3 0 1 false,sA 44 7 3 0,sI 9 y33,sI 8 y6,sA 7 7 3 0,sA 4 4 3 0,sA 0 0 3 0,sI 1 x1],[(0,(CV.frzRow (Src.row r44.2))),(7,[cL 11 y34 zA.row,cL 4 r5.Ls Link.row,cL 7 r5.Said Say.row]),(4,[cL 11 ([] : List zA) zA.row,cL 4 ([] : List Link) Link.row,cL 7 ([] : List Say) Say.row])]⟩ ?_
     refine mC QE 12 ?_
     refine LAt.storeK tOk (t := 3) (ty := 0) (ad := (.tmp 55)) (x := (.tmp 53)) (g := none) (tI 3) false [cI r44.1] (.box 7) [(0,0),(0,(y6.toNat)),(2,(y33.toNat))] [(0,(y6.toNat)),(2,(y33.toNat))] 8 1 [.sl true 3 [[cL 11 y34 zA.row,cL 4 r5.Ls Link.row,cL 7 r5.Said Say.row]]] (Pt.row v45) [cL 11 y34 zA.row,cL 4 r5.Ls Link.row,cL 7 r5.Said Say.row] [cL 11 (y34.set (y6.toNat) (⟨v43.Id,v43.Name,(v43.Ps.set (y33.toNat) (⟨v45.Up,r44.1,v45.Has,v45.Hd⟩ : Pt)),v43.F,v43.V,v43.Tk,v43.Pa,v43.Wo,v43.Dr,v43.Ve⟩ : zA)) zA.row,cL 4 r5.Ls Link.row,cL 7 r5.Said Say.row] kr kr kr kr kr kr (qN rfl (zC ev43).2 rfl (zC ev45).2) rfl (by intro h; cases h) kr kr rfl (zKj (new := (⟨v43.Id,v43.Name,(v43.Ps.set (y33.toNat) (⟨v45.Up,r44.1,v45.Has,v45.Hd⟩ : Pt)),v43.F,v43.V,v43.Tk,v43.Pa,v43.Wo,v43.Dr,v43.Ve⟩ : zA)) (new2 := (⟨v45.Up,r44.1,v45.Has,v45.Hd⟩ : Pt)) rfl (zC ev43).2 rfl (zC ev45).2 kr kr) kr ?_
     refine fA ?_
     exact mE QE [9,8,7,4,0,1] [7,0,4]
    ·refine lA 1 ?_
     refine fA ?_
     refine mB2 tOk QE 5 9 kr (And.intro kr ?_) (And.intro kr ?_)
     ·refine dE (tI 35) (.box 7) [(0,0),(0,(y6.toNat))] 11 2 [.sl true 3 [[cL 11 y34 zA.row,cL 4 r5.Ls Link.row,cL 7 r5.Said Say.row]]] (zA.row v43) (zL rfl (zC ev43).2) ?_
      refine fA ?_
      refine mC QE 9 ?_
      refine LAt.callL tOk [.lend,.rd] (f := 51) (av := #[.tmp 51,.tmp 52]) (ats := #[92,38]) (d := (some 53)) (ty := 3) (g := none) kr kr kr [] (zAj n (⟨y35,y36,y37⟩ : Src) [1,1,2,5,20] r44 er44) kr (.inl rfl) ?_
      refine fA ?_
      refine mC QE 10 ?_
      refine LAt.indexD tOk (t := 35) (ty := 0) (et := 55) (x := (.tmp 49)) (y := (.tmp 50)) (d := 54) (g := none) (tI 55) ⟨(.box 7),[(0,0),(0,(y6.toNat))],2,true,8,(v43.Ps.map Pt.row)⟩ .i64 y33 (y33.toNat) (Pt.row v45) kr kr kr kr kr kr kr (ZR (row := [.sl true 3 [[cL 11 y34 zA.row,cL 4 r5.Ls Link.row,cL 7 r5.Said Say.row]]]) (e := zA.row v43) kr kr (zL rfl (zC ev43).2) rfl rfl) rfl kr (qv ev45) rfl ?_
      refine fA ?_
      refine mA QE [(11,[])] 1 [⟨[12],53,44,45⟩] fun cx => ?_
      refine sA_ 0xa0300000000393 145 ⟨73,1,[(55,.adr (.box 7) [(0,0),(0,(y6.toNat)),(2,(y33.toNat))] 8 1),sI 53 r44.1,sR 45 7 3 0 1 false,sA 44 7 3 0,sI 9 y33,sI 8 y6,sA 7 7 3 0,sA 4 4 3 0,sA 0 0 3 0,sI 1 x1],[(0,(CV.frzRow (Src.row r44.2))),(7,[cL 11 y34 zA.row,cL 4 r5.Ls Link.row,cL 7 r5.Said Say.row]),(4,[cL 11 ([] : List zA) zA.row,cL 4 ([] : List Link) Link.row,cL 7 ([] : List Say) Say.row])]⟩ ?_
      refine mC QE 12 ?_
      refine LAt.storeK tOk (t := 3) (ty := 0) (ad := (.tmp 55)) (x := (.tmp 53)) (g := none) (tI 3) false [cI r44.1] (.box 7) [(0,0),(0,(y6.toNat)),(2,(y33.toNat))] [(0,(y6.toNat)),(2,(y33.toNat))] 8 1 [.sl true 3 [[cL 11 y34 zA.row,cL 4 r5.Ls Link.row,cL 7 r5.Said Say.row]]] (Pt.row v45) [cL 11 y34 zA.row,cL 4 r5.Ls Link.row,cL 7 r5.Said Say.row] [cL 11 (y34.set (y6.toNat) (⟨v43.Id,v43.Name,(v43.Ps.set (y33.toNat) (⟨v45.Up,r44.1,v45.Has,v45.Hd⟩ : Pt)),v43.F,v43.V,v43.Tk,v43.Pa,v43.Wo,v43.Dr,v43.Ve⟩ : zA)) zA.row,cL 4 r5.Ls Link.row,cL 7 r5.Said Say.row] kr kr kr kr kr kr (qN rfl (zC ev43).2 rfl (zC ev45).2) rfl (by intro h; cases h) kr kr rfl (zKj (new := (⟨v43.Id,v43.Name,(v43.Ps.set (y33.toNat) (⟨v45.Up,r44.1,v45.Has,v45.Hd⟩ : Pt)),v43.F,v43.V,v43.Tk,v43.Pa,v43.Wo,v43.Dr,v43.Ve⟩ : zA)) (new2 := (⟨v45.Up,r44.1,v45.Has,v45.Hd⟩ : Pt)) rfl (zC ev43).2 rfl (zC ev45).2 kr kr) kr ?_
      refine fA ?_
      exact mE QE [9,8,7,4,0,1] [7,0,4]
     ·refine LAt.callL tOk [.lend,.rd] (f := 51) (av := #[.tmp 51,.tmp 52]) (ats := #[92,38]) (d := (some 53)) (ty := 3) (g := none) kr kr kr [] (zAj n (⟨y35,y36,y37⟩ : Src) [1,1,2,5,20] r44 er44) kr (.inl rfl) ?_
      refine fA ?_
      refine mC QE 5 ?_
      refine dE (tI 35) (.box 7) [(0,0),(0,(y6.toNat))] 11 2 [.sl true 3 [[cL 11 y34 zA.row,cL 4 r5.Ls Link.row,cL 7 r5.Said Say.row]]] (zA.row v43) (zL rfl (zC ev43).2) ?_
      refine fA ?_
      refine mC QE 10 ?_
      refine LAt.indexD tOk (t := 35) (ty := 0) (et := 55) (x := (.tmp 49)) (y := (.tmp 50)) (d := 54) (g := none) (tI 55) ⟨(.box 7),[(0,0),(0,(y6.toNat))],2,true,8,(v43.Ps.map Pt.row)⟩ .i64 y33 (y33.toNat) (Pt.row v45) kr kr kr kr kr kr kr (ZR (row := [.sl true 3 [[cL 11 y34 zA.row,cL 4 r5.Ls Link.row,cL 7 r5.Said Say.row]]]) (e := zA.row v43) kr kr (zL rfl (zC ev43).2) rfl rfl) rfl kr (qv ev45) rfl ?_
      refine fA ?_
      refine mA QE [(11,[])] 1 [⟨[12],53,44,45⟩] fun cx => ?_
      refine sA_ 0xa0300000000393 145 ⟨73,1,[(55,.adr (.box 7) [(0,0),(0,(y6.toNat)),(2,(y33.toNat))] 8 1),sI 53 r44.1,sR 45 7 3 0 1 false,sA 44 7 3 0,sI 9 y33,sI 8 y6,sA 7 7 3 0,sA 4 4 3 0,sA 0 0 3 0,sI 1 x1],[(0,(CV.frzRow (Src.row r44.2))),(7,[cL 11 y34 zA.row,cL 4 r5.Ls Link.row,cL 7 r5.Said Say.row]),(4,[cL 11 ([] : List zA) zA.row,cL 4 ([] : List Link) Link.row,cL 7 ([] : List Say) Say.row])]⟩ ?_
      refine mC QE 12 ?_
      refine LAt.storeK tOk (t := 3) (ty := 0) (ad := (.tmp 55)) (x := (.tmp 53)) (g := none) (tI 3) false [cI r44.1] (.box 7) [(0,0),(0,(y6.toNat)),(2,(y33.toNat))] [(0,(y6.toNat)),(2,(y33.toNat))] 8 1 [.sl true 3 [[cL 11 y34 zA.row,cL 4 r5.Ls Link.row,cL 7 r5.Said Say.row]]] (Pt.row v45) [cL 11 y34 zA.row,cL 4 r5.Ls Link.row,cL 7 r5.Said Say.row] [cL 11 (y34.set (y6.toNat) (⟨v43.Id,v43.Name,(v43.Ps.set (y33.toNat) (⟨v45.Up,r44.1,v45.Has,v45.Hd⟩ : Pt)),v43.F,v43.V,v43.Tk,v43.Pa,v43.Wo,v43.Dr,v43.Ve⟩ : zA)) zA.row,cL 4 r5.Ls Link.row,cL 7 r5.Said Say.row] kr kr kr kr kr kr (qN rfl (zC ev43).2 rfl (zC ev45).2) rfl (by intro h; cases h) kr kr rfl (zKj (new := (⟨v43.Id,v43.Name,(v43.Ps.set (y33.toNat) (⟨v45.Up,r44.1,v45.Has,v45.Hd⟩ : Pt)),v43.F,v43.V,v43.Tk,v43.Pa,v43.Wo,v43.Dr,v43.Ve⟩ : zA)) (new2 := (⟨v45.Up,r44.1,v45.Has,v45.Hd⟩ : Pt)) rfl (zC ev43).2 rfl (zC ev45).2 kr kr) kr ?_
      refine fA ?_
      exact mE QE [9,8,7,4,0,1] [7,0,4]
   refine eA 3 915 145 ?_
   exact jB mo42 ((IntKind.wrap .i64 (y33 + 1)),(y34.set (y6.toNat) (⟨v43.Id,v43.Name,(v43.Ps.set (y33.toNat) (⟨v45.Up,r44.1,v45.Has,v45.Hd⟩ : Pt)),v43.F,v43.V,v43.Tk,v43.Pa,v43.Wo,v43.Dr,v43.Ve⟩ : zA)),r44.2.b,r44.2.i,r44.2.h) H [9,8,7,4,0,1] [7,0,4]
  rintro ⟨y38,y39,y40,y41⟩ H
  have H : (Y3 n (fun v => ZK n mo32 v.1 v.2.1 v.2.2.1 v.2.2.2.1 v.2.2.2.2) y6 y38 y39 y40 y41) = some o32 := H
  unfold Y3 at H
  refine eA 3 403 145 ?_
  exact jB mo32 ((IntKind.wrap .i64 (y6 + 1)),y38,y39,y40,y41) H [8,7,4,0,1] [7,0,4]
 rintro ⟨y11,y12,y13,y14⟩ H
 have H : (Y2 n r5 x1 y11 y12 y13 y14) = some r := H
 unfold Y2 at H
 refine tS ?_
 refine rA 3 ?_
 obtain ⟨r15,er15,H⟩ := bs H
 refine LAt.callL tOk [.lend,.rd] (f := 49) (av := #[.tmp 56,.tmp 58]) (ats := #[92,3]) (d := (some 59)) (ty := 3) (g := none) kr kr kr [] (qt n (⟨y12,y13,y14⟩ : Src) (IntKind.wrap .i64 (x1 + 1)) r15 er15) kr (.inl rfl) ?_
 refine uA 1 1169 145 ?_
 obtain ⟨o29,eo29,Ho29⟩ := bs H
 clear H
 refine Tr.mid (ι := (List Int) × Int × Int × (List zA) × (List Link) × (List Say)) (fun v => ⟨73,1,[sA 7 7 3 0,sA 4 4 3 0,sA 0 0 3 0],[(0,[cF 1 v.1 zy,cI v.2.1,cI v.2.2.1]),(7,[cL 11 v.2.2.2.1 zA.row,cL 4 v.2.2.2.2.1 Link.row,cL 7 v.2.2.2.2.2 Say.row]),(4,[cL 11 ([] : List zA) zA.row,cL 4 ([] : List Link) Link.row,cL 7 ([] : List Say) Say.row])]⟩) (fun v => J5 n v.1 v.2.1 v.2.2.1 v.2.2.2.1 v.2.2.2.2.1 v.2.2.2.2.2 = some r) ?_ ?_
 ·refine tB ?_
  refine Tr.loop (ι := Nat × (Int × (List Int) × Int × Int × (List zA) × (List Link) × (List Say))) (fun v => ⟨73,1,[sI 10 v.2.1,sA 7 7 3 0,sA 4 4 3 0,sA 0 0 3 0],[(0,[cF 1 v.2.2.1 zy,cI v.2.2.2.1,cI v.2.2.2.2.1]),(7,[cL 11 v.2.2.2.2.2.1 zA.row,cL 4 v.2.2.2.2.2.2.1 Link.row,cL 7 v.2.2.2.2.2.2.2 Say.row]),(4,[cL 11 ([] : List zA) zA.row,cL 4 ([] : List Link) Link.row,cL 7 ([] : List Say) Say.row])]⟩) (fun v => QB n v.1 v.2.1 v.2.2.1 v.2.2.2.1 v.2.2.2.2.1 v.2.2.2.2.2.1 v.2.2.2.2.2.2.1 v.2.2.2.2.2.2.2 = some o29) (fun v => v.1) (n,(r15.1,r15.2.b,r15.2.i,r15.2.h,y11,r5.Ls,r5.Said)) eo29 (St.sub_of [10,7,4,0] [0,7,4] kr) ?_
  rintro ⟨mo29,y16,y17,y18,y19,y20,y21,y22⟩ H
  have H : QB n mo29 y16 y17 y18 y19 y20 y21 y22 = some o29 := H
  obtain _ | mo29 := mo29
  ·exact nN H
  rw [QB] at H
  refine tS ?_
  refine gA 2 0x2000000000000491 145 ?_
  obtain ⟨h1,H⟩ | ⟨h1,H⟩ := bC H
  ·refine nA h1 ?_
   refine Tr.exit ?_
   refine aJ ?_
   obtain rfl := si H
   have H := Ho29
   dsimp only at H
   exact jA (y17,y18,y19,y20,y21,y22) H [7,4,0] [0,7,4]
  refine tA h1 ?_
  refine tK ?_
  refine tS ?_
  refine tB ?_
  refine Tr.frzB 7 ?_
  obtain ⟨r30,er30,H⟩ := bs H
  obtain ⟨r31,er31,H⟩ := bs H
  refine Tr.draw mixed 9 kr ⟨73,1,[sI 10 y16,sA 7 7 3 0,sA 4 4 3 0,sA 0 0 3 0],[(7,(Net.row r31.1)),(0,(CV.frzRow (Src.row r30.2))),(4,[cL 11 ([] : List zA) zA.row,cL 4 ([] : List Link) Link.row,cL 7 ([] : List Say) Say.row])]⟩ (fun cx => ?_) ?_
  ·refine aA [(0,[4,8]),(1,[]),(2,[3,4,8])] 6 [⟨[3,4,8],76,7,67⟩,⟨[4,8],76,7,65⟩] fun cx => ?_
   refine bA 3 ?_
   refine LAt.callL tOk [.lend,.rd] (f := 126) (av := #[.tmp 66,.tmp 67]) (ats := #[92,76]) (d := (some 68)) (ty := 172) (g := none) kr kr kr [] (zIo n (⟨y17,y18,y19⟩ : Src) (⟨y20,y21,y22⟩ : Net) r30 er30) kr (.inl rfl) ?_
   refine fA ?_
   refine bA 4 ?_
   refine vA [.rd,.rd] (zLc n (⟨y20,y21,y22⟩ : Net) r30.1 r31 er31) ?_
   refine fA ?_
   refine AT.movT tOk 5 (ty := 169) (t := 69) (d := 64) (g := none) [(true,(Net.row r31.1)),(false,[cB r31.2])] _ kr kr kr (.inl rfl) kr kr kr kr rfl (fun cx => ?_)
   refine aA [(6,[]),(7,[])] 1 [⟨[3,4,8],76,7,67⟩,⟨[4,8],76,7,65⟩] fun cx => ?_
   refine bA 8 ?_
   refine lA 1 ?_
   refine fA ?_
   exact eE [10,7,4,0] [7,0,4]
  refine eA 3 1169 145 ?_
  exact jB mo29 ((IntKind.wrap .i64 (y16 - 1)),r30.2.b,r30.2.i,r30.2.h,r31.1.Bs,r31.1.Ls,r31.1.Said) H [10,7,4,0] [0,7,4]
 rintro ⟨y23,y24,y25,y26,y27,y28⟩ H
 have H : (J5 n y23 y24 y25 y26 y27 y28) = some r := H
 unfold J5 at H
 refine gA 2 17 17 ?_
 refine te ?_
 obtain rfl := si H
 exact Fin.ofY _ [(true,[cL 11 y26 zA.row,cL 4 y27 Link.row,cL 7 y28 Say.row])] [] _ [] _ [(0,[cF 1 y23 zy,cI y24,cI y25])] kr rfl rfl rfl kr kr kr kr rfl rfl rfl
def JB (n : Nat) (y7 : (List Event)) (y8 : (List Int)) (y9 : Int) (y10 : Int) : Option ((List Event) × Src) :=
  (some (y7,(⟨y8,y9,y10⟩ : Src)))
def Za (n : Nat) : Nat → Int → (List Event) → (List Int) → Int → Int → Option (((List Event) × (List Int) × Int × Int) ⊕ ((List Event) × Src))
  | 0,_,_,_,_,_ => none
  | mo11 + 1,y2,y3,y4,y5,y6 => (bif (decide (y2 > 0)) then ((Zu n (⟨y4,y5,y6⟩ : Src) [1,1,1,2,2,2,2,3,4,5,6]).bind fun r12 => ((zo n r12.2 4).bind fun r13 => (bif (decide (y3.length + [(⟨r12.1,r13.1⟩ : Event)].length ≤ 268435456)) then (Za n mo11 (IntKind.wrap .i64 (y2 - 1)) (y3 ++ [(⟨r12.1,r13.1⟩ : Event)]) r13.2.b r13.2.i r13.2.h) else none))) else (some (Sum.inl (y3,y4,y5,y6))))
def Y4 (n : Nat) (x0 : Src) (x1 : Int) : Option ((List Event) × Src) :=
  ((zo n x0 x1).bind fun r1 => ((Za n n r1.1 ([] : List Event) r1.2.b r1.2.i r1.2.h).bind fun o => match o with | .inl (y7,y8,y9,y10) => (JB n y7 y8 y9 y10) | .inr r => some r))
noncomputable abbrev G71 (k : Nat) := Rg Try.f71 k
theorem zIB (n : Nat) (x0 : Src) (x1 : Int) (r : (List Event) × Src) (H : Y4 n x0 x1 = some r) : zI Try.prog 71 [.ptr (CV.frzRow (Src.row x0)),.val false [.lit (.int .i64 x1)]] [.val false [.sl true 2 (r.1.map Event.row)]] [(0,(CV.frzRow (Src.row r.2)))] := by
 refine zI.of_body tOk Try.func71 rfl (c := (.seq (G71 0) (.seq (G71 1) (.seq (.seq (G71 2) (.block 0 (.loop (.seq (.seq (G71 3) (.cond (.tmp 12) .skip (.exit 0))) (.seq (.block 1 (G71 5)) (G71 4)))))) (.seq (G71 6) .ret))))) kr (Nat.le_of_ble_eq_true kr) 1 (rs := [.tmp 4]) rfl [] .nil [(false,[.sl true 2 (r.1.map Event.row)])] [] [(0,(CV.frzRow (Src.row r.2)))] fun cx => ?_
 show Tr _ _ _ ⟨25,1,[sA 0 0 3 0,sI 1 x1],[(0,(CV.frzRow (Src.row x0)))]⟩ _
 unfold Y4 at H
 refine gA 1 3 1 ?_
 refine rA 1 ?_
 refine LAt.moveU (T := lk tab) (ty := 77) (x := (.tmp 7)) (d := 5) (g := none) false [cL 2 ([] : List Event) Event.row] kr kr kr kr kr ?_
 refine dA 35 1 ?_
 refine tS ?_
 refine rA 2 ?_
 obtain ⟨r1,er1,H⟩ := bs H
 refine LAt.callL tOk [.lend,.rd] (f := 49) (av := #[.tmp 8,.tmp 9]) (ats := #[92,3]) (d := (some 10)) (ty := 3) (g := none) kr kr kr [] (qt n x0 x1 r1 er1) kr (.inl rfl) ?_
 refine uA 1 97 1 ?_
 obtain ⟨o11,eo11,Ho11⟩ := bs H
 clear H
 refine Tr.mid (ι := (List Event) × (List Int) × Int × Int) (fun v => ⟨25,1,[sC 5 (cL 2 v.1 Event.row),sA 0 0 3 0],[(0,[cF 1 v.2.1 zy,cI v.2.2.1,cI v.2.2.2])]⟩) (fun v => JB n v.1 v.2.1 v.2.2.1 v.2.2.2 = some r) ?_ ?_
 ·refine tB ?_
  refine Tr.loop (ι := Nat × (Int × (List Event) × (List Int) × Int × Int)) (fun v => ⟨25,1,[sI 6 v.2.1,sC 5 (cL 2 v.2.2.1 Event.row),sA 0 0 3 0],[(0,[cF 1 v.2.2.2.1 zy,cI v.2.2.2.2.1,cI v.2.2.2.2.2])]⟩) (fun v => Za n v.1 v.2.1 v.2.2.1 v.2.2.2.1 v.2.2.2.2.1 v.2.2.2.2.2 = some o11) (fun v => v.1) (n,(r1.1,([] : List Event),r1.2.b,r1.2.i,r1.2.h)) eo11 (St.sub_of [6,5,0] [0] kr) ?_
  rintro ⟨mo11,y2,y3,y4,y5,y6⟩ H
  have H : Za n mo11 y2 y3 y4 y5 y6 = some o11 := H
  obtain _ | mo11 := mo11
  ·exact nN H
  rw [Za] at H
  refine tS ?_
  refine gA 2 4193 1 ?_
  obtain ⟨h1,H⟩ | ⟨h1,H⟩ := bC H
  ·refine nA h1 ?_
   refine Tr.exit ?_
   refine aJ ?_
   obtain rfl := si H
   have H := Ho11
   dsimp only at H
   exact jA (y3,y4,y5,y6) H [5,0] [0]
  refine tA h1 ?_
  refine tK ?_
  refine tS ?_
  refine tB ?_
  refine Tr.at ?_
  refine lA 3 ?_
  obtain ⟨r12,er12,H⟩ := bs H
  refine LAt.callL tOk [.lend,.rd] (f := 51) (av := #[.tmp 16,.tmp 17]) (ats := #[92,38]) (d := (some 18)) (ty := 3) (g := none) kr kr kr [] (zAj n (⟨y4,y5,y6⟩ : Src) [1,1,1,2,2,2,2,3,4,5,6] r12 er12) kr (.inl rfl) ?_
  refine lA 1 ?_
  obtain ⟨r13,er13,H⟩ := bs H
  refine LAt.callL tOk [.lend,.rd] (f := 49) (av := #[.tmp 19,.const (.int .i64 4)]) (ats := #[92,3]) (d := (some 20)) (ty := 3) (g := none) kr kr kr [] (qt n r12.2 4 r13 er13) kr (.inl rfl) ?_
  refine lA 2 ?_
  obtain ⟨hg14,H⟩ := gs H
  refine LAt.appMU tOk (t := 77) (ty := 77) (e := 172) (x := (.tmp 15)) (y := (.tmp 22)) (d := 23) (g := none) (tI 172) Event.row y3 [(⟨r12.1,r13.1⟩ : Event)] kr kr kr kr kr kr kr kr kr kr hg14 ?_
  refine LAt.moveU (T := lk tab) (ty := 77) (x := (.tmp 23)) (d := 5) (g := none) false [cL 2 (y3 ++ [(⟨r12.1,r13.1⟩ : Event)]) Event.row] kr kr kr kr kr ?_
  refine dA 97 1 ?_
  refine eA 3 97 1 ?_
  exact jB mo11 ((IntKind.wrap .i64 (y2 - 1)),(y3 ++ [(⟨r12.1,r13.1⟩ : Event)]),r13.2.b,r13.2.i,r13.2.h) H [6,5,0] [0]
 rintro ⟨y7,y8,y9,y10⟩ H
 have H : (JB n y7 y8 y9 y10) = some r := H
 unfold JB at H
 refine gA 2 49 1 ?_
 refine te ?_
 obtain rfl := si H
 exact Fin.ofY _ [(false,[cL 2 y7 Event.row])] [] _ [] _ [(0,[cF 1 y8 zy,cI y9,cI y10])] kr rfl rfl rfl kr kr kr kr rfl rfl rfl
def Jm (n : Nat) (x0 : (List Int)) : Option (Net × (List Event)) :=
  ((zAx n x0).bind fun r1 => ((zAQ n x0 20).bind fun r2 => ((Jp n r1 (IntKind.wrap .i64 (6 + r2))).bind fun r3 => ((Y4 n r3.2 10).bind fun r4 => (some (r3.1,r4.1))))))
theorem zJX (n : Nat) (x0 : (List Int)) (r : Net × (List Event)) (H : Jm n x0 = some r) : zI Try.prog 31 [.val false [.sl false 1 (CV.frzEs (x0.map zy))]] [.val true (Net.row r.1),.val false [.sl true 2 (r.2.map Event.row)]] [] := by
 refine cW Try.func31 (fun g d => sl [g 0,g 1,g 2] .ret) [.cell 2 76,.tmp 3] fun cx => ?_
 unfold Jm at H
 refine gA 2 5 4 ?_
 refine rA 1 ?_
 obtain ⟨r1,er1,H⟩ := bs H
 refine vA [.rd] (zKy n x0 r1 er1) ?_
 refine uA 1 21 68 ?_
 refine rA 2 ?_
 obtain ⟨r2,er2,H⟩ := bs H
 refine vA [.rd,.rd] (zJ4 n x0 20 r2 er2) ?_
 refine lA 1 ?_
 obtain ⟨r3,er3,H⟩ := bs H
 refine LAt.callL tOk [.lend,.rd] (f := 69) (av := #[.tmp 7,.tmp 10]) (ats := #[92,3]) (d := (some 11)) (ty := 76) (g := none) kr kr kr [] (zJa n r1 (IntKind.wrap .i64 (6 + r2)) r3 er3) kr (.inl rfl) ?_
 refine lA 1 ?_
 obtain ⟨r4,er4,H⟩ := bs H
 refine LAt.callL tOk [.lend,.rd] (f := 71) (av := #[.tmp 12,.const (.int .i64 10)]) (ats := #[92,3]) (d := (some 13)) (ty := 77) (g := none) kr kr kr [] (zIB n r3.2 10 r4 er4) kr (.inl rfl) ?_
 refine lA 1 ?_
 refine LAt.moveU (T := lk tab) (ty := 77) (x := (.tmp 13)) (d := 3) (g := none) false [cL 2 r4.1 Event.row] kr kr kr kr kr ?_
 refine dA 12 4 ?_
 exact te (fJ [(true,(Net.row r3.1)),(false,[cL 2 r4.1 Event.row])] H)
def zA8 (n : Nat) (x0 : (List zB)) : Option ((List zB)) :=
  (bif (decide (([] : List zB).length + x0.length ≤ 268435456)) then (some (([] : List zB) ++ x0)) else none)
theorem zJD (n : Nat) (x0 : (List zB)) (r : (List zB)) (H : zA8 n x0 = some r) : zI Try.prog 107 [.val false [.sl false 5 (CV.frzEs (x0.map zB.row))]] [.val false [.sl true 5 (r.map zB.row)]] [] := by
 refine cW Try.func107 (fun g d => sl [g 0,g 1] .ret) [.tmp 2] fun cx => ?_
 unfold zA8 at H
 refine gA 1 1 0 ?_
 refine rA 1 ?_
 obtain ⟨hg1,H⟩ := gs H
 refine LAt.appCU tOk (t := 36) (ty := 36) (e := 60) (x := (.const (.slice none 0 0))) (y := (.tmp 3)) (d := 4) (g := none) (tI 60) zB.row ([] : List zB) x0 ⟨(.slot 3),[],0,false,5,(CV.frzEs (x0.map zB.row))⟩ kr kr kr kr kr kr kr kr kr kr kr (.inr rfl) (fun _ => rfl) (fun _ => rfl) hg1 ?_
 refine LAt.moveU (T := lk tab) (ty := 36) (x := (.tmp 4)) (d := 2) (g := none) false [cL 5 (([] : List zB) ++ x0) zB.row] kr kr kr kr kr ?_
 refine dA 4 0 ?_
 exact te (fJ [(false,[cL 5 (([] : List zB) ++ x0) zB.row])] H)
def zAZ (n : Nat) (x0 : (List Int)) : Option ((List Int)) :=
  (bif (decide (([] : List Int).length + x0.length ≤ 268435456)) then (some (([] : List Int) ++ x0)) else none)
theorem zIg (n : Nat) (x0 : (List Int)) (r : (List Int)) (H : zAZ n x0 = some r) : zI Try.prog 65 [.val false [.sl false 1 (CV.frzEs (x0.map intRow))]] [.val false [.sl true 1 (r.map intRow)]] [] := by
 refine cW Try.func65 (fun g d => sl [g 0,g 1] .ret) [.tmp 2] fun cx => ?_
 unfold zAZ at H
 refine gA 1 1 0 ?_
 refine rA 1 ?_
 obtain ⟨hg1,H⟩ := gs H
 refine LAt.appCU tOk (t := 38) (ty := 38) (e := 3) (x := (.const (.slice none 0 0))) (y := (.tmp 3)) (d := 4) (g := none) (tI 3) intRow ([] : List Int) x0 ⟨(.slot 3),[],0,false,1,(CV.frzEs (x0.map intRow))⟩ kr kr kr kr kr kr kr kr kr kr kr (.inr rfl) (fun _ => rfl) (fun _ => rfl) hg1 ?_
 refine LAt.moveU (T := lk tab) (ty := 38) (x := (.tmp 4)) (d := 2) (g := none) false [cL 1 (([] : List Int) ++ x0) intRow] kr kr kr kr kr ?_
 refine dA 4 0 ?_
 exact te (fJ [(false,[cL 1 (([] : List Int) ++ x0) intRow])] H)
def JI (n : Nat) (x0 : zJ) : Option (zJ) :=
  (bif (decide (([] : List zF).length + x0.Rows.length ≤ 268435456)) then ((zAZ n x0.Pv).bind fun r2 => (some (⟨(([] : List zF) ++ x0.Rows),r2⟩ : zJ))) else none)
theorem zIh (n : Nat) (x0 : zJ) (r : zJ) (H : JI n x0 = some r) : zI Try.prog 108 [.val true (CV.frzRow (zJ.row x0))] [.val true (zJ.row r)] [] := by
 refine cW Try.func108 (fun g d => sl [g 0,d 1] .ret) [.cell 2 40] fun cx => ?_
 unfold JI at H
 refine gA 2 6 6 ?_
 obtain ⟨hg1,H⟩ := gs H
 obtain ⟨r2,er2,H⟩ := bs H
 refine Tr.draws mixed 8 kr ⟨10,0,[sA 2 2 2 0],[(2,[cL 3 (([] : List zF) ++ x0.Rows) zF.row,cL 1 r2 intRow])]⟩ (fun cx => ?_) ?_
 ·refine aA [(0,[]),(1,[2,5,6,7]),(3,[]),(4,[5,6,7])] 4 [⟨[5,6,7],38,6,7⟩,⟨[2,5,6,7],37,3,4⟩] fun cx => ?_
  refine bA 2 ?_
  refine LAt.appCU tOk (t := 37) (ty := 37) (e := 114) (x := (.const (.slice none 0 0))) (y := (.tmp 4)) (d := 5) (g := none) (tI 114) zF.row ([] : List zF) x0.Rows ⟨(.box 1),[(0,0)],0,false,3,(CV.frzEs (x0.Rows.map zF.row))⟩ kr kr kr kr kr kr kr kr kr kr kr (.inr rfl) (fun _ => rfl) (fun _ => rfl) hg1 ?_
  refine fA ?_
  refine bA 5 ?_
  refine vA [.rd] (zIg n x0.Pv r2 er2) ?_
  refine fA ?_
  refine bA 6 ?_
  refine lA 1 ?_
  refine fA ?_
  refine bA 7 ?_
  refine lA 1 ?_
  refine fA ?_
  exact eE [2] [2]
 exact te (fJ [(true,[cL 3 (([] : List zF) ++ x0.Rows) zF.row,cL 1 r2 intRow])] H)
def ZO (n : Nat) (x0 : zA) : Option (zA) :=
  (bif (decide (([] : List Pt).length + x0.Ps.length ≤ 268435456)) then ((zA8 n x0.F).bind fun r2 => ((JI n x0.V).bind fun r3 => (some (⟨x0.Id,x0.Name,(([] : List Pt) ++ x0.Ps),r2,r3,x0.Tk,x0.Pa,x0.Wo,x0.Dr,x0.Ve⟩ : zA)))) else none)
theorem zDk (n : Nat) (x0 : zA) (r : zA) (H : ZO n x0 = some r) : zI Try.prog 53 [.val true (CV.frzRow (zA.row x0))] [.val true (zA.row r)] [] := by
 refine cW Try.func53 (fun g d => sl [g 0,g 1,d 2,g 3] .ret) [.cell 2 42] fun cx => ?_
 unfold ZO at H
 refine gA 2 6 6 ?_
 refine rA 2 ?_
 obtain ⟨hg1,H⟩ := gs H
 refine LAt.appCU tOk (t := 35) (ty := 35) (e := 55) (x := (.const (.slice none 0 0))) (y := (.tmp 4)) (d := 5) (g := none) (tI 55) Pt.row ([] : List Pt) x0.Ps ⟨(.slot 4),[],0,false,8,(CV.frzEs (x0.Ps.map Pt.row))⟩ kr kr kr kr kr kr kr kr kr kr kr (.inr rfl) (fun _ => rfl) (fun _ => rfl) hg1 ?_
 refine uA 2 6 6 ?_
 obtain ⟨r2,er2,H⟩ := bs H
 obtain ⟨r3,er3,H⟩ := bs H
 refine Tr.draws mixed 10 kr ⟨16,0,[sA 2 2 11 0,sA 1 1 11 0],[(1,[cI x0.Id,cS x0.Name,cL 8 (([] : List Pt) ++ x0.Ps) Pt.row,cL 5 r2 zB.row,cL 3 r3.Rows zF.row,cL 1 r3.Pv intRow,cI x0.Tk,cI x0.Pa,cI x0.Wo,cI x0.Dr,cI x0.Ve]),(2,[cI 0,cS (⟨#[]⟩ : ByteArray),cL 8 ([] : List Pt) Pt.row,cL 5 ([] : List zB) zB.row,cL 3 ([] : List zF) zF.row,cL 1 ([] : List Int) intRow,cI 0,cI 0,cI 0,cI 0,cI 0])]⟩ (fun cx => ?_) ?_
 ·refine aA [(0,[]),(1,[2,5,7,9]),(3,[]),(4,[5,7,9])] 6 [⟨[5,7,9],40,10,11⟩,⟨[2,5,7,9],36,7,8⟩] fun cx => ?_
  refine bA 2 ?_
  refine vA [.rd] (zJD n x0.F r2 er2) ?_
  refine fA ?_
  refine aA [(6,[])] 4 [⟨[5,7,9],40,10,11⟩,⟨[2,5,7,9],36,7,8⟩] fun cx => ?_
  refine bA 5 ?_
  refine vA [.rd] (zIh n x0.V r3 er3) ?_
  refine fA ?_
  refine bA 7 ?_
  refine LAt.storeO tOk (t := 36) (ty := 0) (ad := (.tmp 13)) (x := (.tmp 9)) (g := none) (tI 36) false [cL 5 r2 zB.row] 1 3 [cI x0.Id,cS x0.Name,cL 8 (([] : List Pt) ++ x0.Ps) Pt.row,cF 5 x0.F zB.row,cF 3 x0.V.Rows zF.row,cF 1 x0.V.Pv intRow,cI x0.Tk,cI x0.Pa,cI x0.Wo,cI x0.Dr,cI x0.Ve] kr kr kr kr kr kr kr kr ?_
  refine fA ?_
  refine aA [(8,[])] 1 [⟨[5,7,9],40,10,11⟩,⟨[2,5,7,9],36,7,8⟩] fun cx => ?_
  refine bA 9 ?_
  refine lA 1 ?_
  refine fA ?_
  exact eE [2,1] [1,2]
 refine gA 2 4 4 ?_
 exact te (fJ [(true,[cI x0.Id,cS x0.Name,cL 8 (([] : List Pt) ++ x0.Ps) Pt.row,cL 5 r2 zB.row,cL 3 r3.Rows zF.row,cL 1 r3.Pv intRow,cI x0.Tk,cI x0.Pa,cI x0.Wo,cI x0.Dr,cI x0.Ve])] H)
def Jy (n : Nat) (x0 : Net) (y5 : (List zA)) : Option (Net) :=
  (some (⟨y5,(([] : List Link) ++ x0.Ls),(([] : List Say) ++ x0.Said)⟩ : Net))
def Z9 (n : Nat) : Nat → Net → Int → (List zA) → Option (((List zA)) ⊕ (Net))
  | 0,_,_,_ => none
  | mo6 + 1,x0,y3,y4 => (bif (decide (y3 < (x0.Bs.length : Int))) then ((idx x0.Bs y3).bind fun v7 => ((ZO n v7).bind fun r8 => (bif (decide (y4.length + [r8].length ≤ 268435456)) then (Z9 n mo6 x0 (IntKind.wrap .i64 (y3 + 1)) (y4 ++ [r8])) else none))) else (some (Sum.inl y4)))
def YK (n : Nat) (x0 : Net) : Option (Net) :=
  (bif (decide (([] : List Link).length + x0.Ls.length ≤ 268435456)) then (bif (decide (([] : List Say).length + x0.Said.length ≤ 268435456)) then ((Z9 n n x0 0 ([] : List zA)).bind fun o => match o with | .inl y5 => (Jy n x0 y5) | .inr r => some r) else none) else none)
theorem zFL (n : Nat) (x0 : Net) (r : Net) (H : YK n x0 = some r) : zI Try.prog 75 [.val true (CV.frzRow (Net.row x0))] [.val true (Net.row r)] [] := by
 refine cW Try.func75 (fun g d => sl [g 0,d 1,sl [g 2] (.block 0 (.loop (sl [g 3,cn 17 .skip (.exit 0),.block 1 (sl [g 4] (d 5))] (g 6)))),g 7] .ret) [.cell 2 76] fun cx => ?_
 unfold YK at H
 refine gA 2 6 6 ?_
 obtain ⟨hg1,H⟩ := gs H
 obtain ⟨hg2,H⟩ := gs H
 refine Tr.draws mixed 9 kr ⟨29,0,[sA 3 3 3 0,sA 2 2 3 0,sA 1 1 3 0],[(3,[cL 11 ([] : List zA) zA.row,cL 4 (([] : List Link) ++ x0.Ls) Link.row,cL 7 (([] : List Say) ++ x0.Said) Say.row]),(2,[cL 11 ([] : List zA) zA.row,cL 4 ([] : List Link) Link.row,cL 7 ([] : List Say) Say.row]),(1,(CV.frzRow (Net.row x0)))]⟩ (fun cx => ?_) ?_
 ·refine aA [(0,[]),(1,[2,5,6,8]),(3,[]),(4,[5,6,8])] 5 [⟨[5,6,8],74,9,10⟩,⟨[2,5,6,8],73,6,7⟩] fun cx => ?_
  refine AT.big2 tOk 2 7 kr (And.intro kr ?_) (And.intro kr ?_)
  ·refine LAt.appCU tOk (t := 73) (ty := 73) (e := 119) (x := (.const (.slice none 0 0))) (y := (.tmp 7)) (d := 8) (g := none) (tI 119) Link.row ([] : List Link) x0.Ls ⟨(.box 1),[(0,0)],1,false,4,(CV.frzEs (x0.Ls.map Link.row))⟩ kr kr kr kr kr kr kr kr kr kr kr (.inr rfl) (fun _ => rfl) (fun _ => rfl) hg1 ?_
   refine fA ?_
   refine AT.big2 tOk 5 7 kr (And.intro kr ?_) (And.intro kr ?_)
   ·refine LAt.appCU tOk (t := 74) (ty := 74) (e := 177) (x := (.const (.slice none 0 0))) (y := (.tmp 10)) (d := 11) (g := none) (tI 177) Say.row ([] : List Say) x0.Said ⟨(.box 1),[(0,0)],2,false,7,(CV.frzEs (x0.Said.map Say.row))⟩ kr kr kr kr kr kr kr kr kr kr kr (.inr rfl) (fun _ => rfl) (fun _ => rfl) hg2 ?_
    refine fA ?_
    refine AT.big2 tOk 6 7 kr (And.intro kr ?_) (And.intro kr ?_)
    ·refine lA 1 ?_
     refine fA ?_
     refine bA 7 ?_
     refine lA 1 ?_
     refine fA ?_
     refine bA 8 ?_
     refine lA 1 ?_
     refine fA ?_
     exact eE [3,2,1] [3,2,1]
    ·refine lA 1 ?_
     refine fA ?_
     refine bA 6 ?_
     refine lA 1 ?_
     refine fA ?_
     refine bA 8 ?_
     refine lA 1 ?_
     refine fA ?_
     exact eE [3,2,1] [3,2,1]
   ·refine lA 1 ?_
    refine fA ?_
    refine bA 5 ?_
    refine LAt.appCU tOk (t := 74) (ty := 74) (e := 177) (x := (.const (.slice none 0 0))) (y := (.tmp 10)) (d := 11) (g := none) (tI 177) Say.row ([] : List Say) x0.Said ⟨(.box 1),[(0,0)],2,false,7,(CV.frzEs (x0.Said.map Say.row))⟩ kr kr kr kr kr kr kr kr kr kr kr (.inr rfl) (fun _ => rfl) (fun _ => rfl) hg2 ?_
    refine fA ?_
    refine bA 6 ?_
    refine lA 1 ?_
    refine fA ?_
    refine bA 8 ?_
    refine lA 1 ?_
    refine fA ?_
    exact eE [3,2,1] [3,2,1]
  ·refine lA 1 ?_
   refine fA ?_
   refine bA 2 ?_
   refine LAt.appCU tOk (t := 73) (ty := 73) (e := 119) (x := (.const (.slice none 0 0))) (y := (.tmp 7)) (d := 8) (g := none) (tI 119) Link.row ([] : List Link) x0.Ls ⟨(.box 1),[(0,0)],1,false,4,(CV.frzEs (x0.Ls.map Link.row))⟩ kr kr kr kr kr kr kr kr kr kr kr (.inr rfl) (fun _ => rfl) (fun _ => rfl) hg1 ?_
   refine fA ?_
   refine bA 5 ?_
   refine LAt.appCU tOk (t := 74) (ty := 74) (e := 177) (x := (.const (.slice none 0 0))) (y := (.tmp 10)) (d := 11) (g := none) (tI 177) Say.row ([] : List Say) x0.Said ⟨(.box 1),[(0,0)],2,false,7,(CV.frzEs (x0.Said.map Say.row))⟩ kr kr kr kr kr kr kr kr kr kr kr (.inr rfl) (fun _ => rfl) (fun _ => rfl) hg2 ?_
   refine fA ?_
   refine bA 6 ?_
   refine lA 1 ?_
   refine fA ?_
   refine bA 8 ?_
   refine lA 1 ?_
   refine fA ?_
   exact eE [3,2,1] [3,2,1]
 refine tS ?_
 refine rA 2 ?_
 refine kF x0.Bs zA.row ?_
 refine uA 1 114700 12 ?_
 obtain ⟨o6,eo6,Ho6⟩ := bs H
 clear H
 refine Tr.mid (ι := (List zA)) (fun v => ⟨29,0,[sA 3 3 3 0,sA 2 2 3 0],[(3,[cL 11 v zA.row,cL 4 (([] : List Link) ++ x0.Ls) Link.row,cL 7 (([] : List Say) ++ x0.Said) Say.row]),(2,[cL 11 ([] : List zA) zA.row,cL 4 ([] : List Link) Link.row,cL 7 ([] : List Say) Say.row])]⟩) (fun v => Jy n x0 v = some r) ?_ ?_
 ·refine tB ?_
  refine Tr.loop (ι := Nat × (Int × (List zA))) (fun v => ⟨29,0,[sI 16 v.2.1,sI 15 (x0.Bs.length : Int),sC 14 (cF 11 x0.Bs zA.row),sA 3 3 3 0,sA 2 2 3 0],[(3,[cL 11 v.2.2 zA.row,cL 4 (([] : List Link) ++ x0.Ls) Link.row,cL 7 (([] : List Say) ++ x0.Said) Say.row]),(2,[cL 11 ([] : List zA) zA.row,cL 4 ([] : List Link) Link.row,cL 7 ([] : List Say) Say.row])]⟩) (fun v => Z9 n v.1 x0 v.2.1 v.2.2 = some o6) (fun v => v.1) (n,(0,([] : List zA))) eo6 (St.sub_of [16,15,14,3,2] [3,2] kr) ?_
  rintro ⟨mo6,y3,y4⟩ H
  have H : Z9 n mo6 x0 y3 y4 = some o6 := H
  obtain _ | mo6 := mo6
  ·exact nN H
  rw [Z9] at H
  refine gA 1 245772 12 ?_
  refine tS ?_
  obtain ⟨h1,H⟩ | ⟨h1,H⟩ := bC H
  ·refine nA h1 ?_
   refine Tr.exit ?_
   refine aJ ?_
   obtain rfl := si H
   have H := Ho6
   dsimp only at H
   exact jA y4 H [3,2] [3,2]
  refine tA h1 ?_
  refine tK ?_
  refine tS ?_
  refine tB ?_
  refine tR ?_
  obtain ⟨v7,ev7,H⟩ := bs H
  refine iA zA.row ev7 ?_
  refine uA 3 114732 44 ?_
  obtain ⟨r8,er8,H⟩ := bs H
  obtain ⟨hg9,H⟩ := gs H
  refine Tr.draw mixed 8 kr ⟨29,0,[sI 16 y3,sI 15 (x0.Bs.length : Int),sC 14 (cF 11 x0.Bs zA.row),sA 3 3 3 0,sA 2 2 3 0],[(3,[cL 11 (y4 ++ [r8]) zA.row,cL 4 (([] : List Link) ++ x0.Ls) Link.row,cL 7 (([] : List Say) ++ x0.Said) Say.row]),(2,[cL 11 ([] : List zA) zA.row,cL 4 ([] : List Link) Link.row,cL 7 ([] : List Say) Say.row])]⟩ (fun cx => ?_) ?_
  ·refine aA [(0,[]),(1,[5,7]),(2,[3,4,5,7])] 5 [⟨[3,4,5,7],42,5,22⟩,⟨[5,7],53,20,21⟩] fun cx => ?_
   refine bA 3 ?_
   refine vA [.rd] (zDk n v7 r8 er8) ?_
   refine fA ?_
   refine bA 4 ?_
   refine lA 1 ?_
   refine fA ?_
   refine bA 5 ?_
   refine LAt.appMU tOk (t := 53) (ty := 53) (e := 42) (x := (.tmp 21)) (y := (.tmp 24)) (d := 25) (g := none) (tI 42) zA.row y4 [r8] kr kr kr kr kr kr kr kr kr kr hg9 ?_
   refine fA ?_
   refine aA [(6,[])] 1 [⟨[3,4,5,7],42,5,22⟩,⟨[5,7],53,20,21⟩] fun cx => ?_
   refine bA 7 ?_
   refine lA 1 ?_
   refine fA ?_
   exact eE [16,15,14,3,2] [3,2]
  refine eA 2 114700 12 ?_
  exact jB mo6 ((IntKind.wrap .i64 (y3 + 1)),(y4 ++ [r8])) H [16,15,14,3,2] [3,2]
 rintro y5 H
 have H : (Jy n x0 y5) = some r := H
 unfold Jy at H
 refine gA 2 4 4 ?_
 exact te (fJ [(true,[cL 11 y5 zA.row,cL 4 (([] : List Link) ++ x0.Ls) Link.row,cL 7 (([] : List Say) ++ x0.Said) Say.row])] H)
def qO (n : Nat) (x0 : Int) (x1 : Int) (x2 : Int) : Option (Bool) :=
  (bif (decide (x0 ≥ x1)) then (some (decide (x0 ≤ x2))) else (some false))
theorem qY (n : Nat) (x0 : Int) (x1 : Int) (x2 : Int) (r : Bool) (H : qO n x0 x1 x2 = some r) : zI Try.prog 44 [.val false [.lit (.int .i64 x0)],.val false [.lit (.int .i64 x1)],.val false [.lit (.int .i64 x2)]] [.val false [.lit (.bool r)]] [] := by
 refine cW Try.func44 (fun g d => sl [g 0,g 1] .ret) [.tmp 6] fun cx => ?_
 unfold qO at H
 refine gA 1 7 0 ?_
 refine rA 4 ?_
 refine sL 1029 0 ⟨15,0,[sB 10 (decide (x0 ≥ x1)),sI 0 x0,sI 2 x2],[]⟩ ?_
 cases h1 : (decide (x0 ≥ x1))
 ·have H := zG h1 H
  refine uA 5 64 0 ?_
  exact te (fF H)
 have H := zH h1 H
 refine uA 5 64 0 ?_
 exact te (fJ [(false,[cB (decide (x0 ≤ x2))])] H)
def YU (n : Nat) (x0 : Vec) : Option (Bool) :=
  ((qO n x0.Root 1 99).bind fun r1 => (bif r1 then ((qO n x0.Co 0 100000).bind fun r2 => (bif r2 then ((qO n x0.Hops 0 10).bind fun r3 => (bif r3 then ((qO n x0.Bridge 1 99).bind fun r4 => (bif r4 then ((qO n x0.Port 0 7).bind fun r5 => (some r5)) else (some false))) else (some false))) else (some false))) else (some false)))
theorem zBZ (n : Nat) (x0 : Vec) (r : Bool) (H : YU n x0 = some r) : zI Try.prog 20 [.val true (CV.frzRow (Vec.row x0))] [.val false [.lit (.bool r)]] [] := by
 refine cW Try.func20 (fun g d => sl [g 0,g 1] .ret) [.tmp 2] fun cx => ?_
 unfold YU at H
 refine gA 2 2 2 ?_
 refine rA 2 ?_
 obtain ⟨r1,er1,H⟩ := bs H
 refine vA [.rd,.rd,.rd] (qY n x0.Root 1 99 r1 er1) ?_
 refine lA 1 ?_
 refine sL 66 2 ⟨26,0,[sB 6 r1,sA 1 1 5 0],[(1,(Vec.row x0))]⟩ ?_
 cases h1 : r1
 ·have H := zG h1 H
  refine uA 20 4 0 ?_
  exact te (fF H)
 have H := zH h1 H
 refine lA 2 ?_
 obtain ⟨r2,er2,H⟩ := bs H
 refine vA [.rd,.rd,.rd] (qY n x0.Co 0 100000 r2 er2) ?_
 refine lA 2 ?_
 refine sL 2050 2 ⟨26,0,[sB 11 r2,sA 1 1 5 0],[(1,(Vec.row x0))]⟩ ?_
 cases h2 : r2
 ·have H := zG h2 H
  refine uA 15 4 0 ?_
  exact te (fF H)
 have H := zH h2 H
 refine lA 2 ?_
 obtain ⟨r3,er3,H⟩ := bs H
 refine vA [.rd,.rd,.rd] (qY n x0.Hops 0 10 r3 er3) ?_
 refine lA 2 ?_
 refine sL 65538 2 ⟨26,0,[sB 16 r3,sA 1 1 5 0],[(1,(Vec.row x0))]⟩ ?_
 cases h3 : r3
 ·have H := zG h3 H
  refine uA 10 4 0 ?_
  exact te (fF H)
 have H := zH h3 H
 refine lA 2 ?_
 obtain ⟨r4,er4,H⟩ := bs H
 refine vA [.rd,.rd,.rd] (qY n x0.Bridge 1 99 r4 er4) ?_
 refine lA 2 ?_
 refine sL 2097154 2 ⟨26,0,[sB 21 r4,sA 1 1 5 0],[(1,(Vec.row x0))]⟩ ?_
 cases h4 : r4
 ·have H := zG h4 H
  refine uA 5 4 0 ?_
  exact te (fF H)
 have H := zH h4 H
 refine lA 2 ?_
 obtain ⟨r5,er5,H⟩ := bs H
 refine vA [.rd,.rd,.rd] (qY n x0.Port 0 7 r5 er5) ?_
 refine uA 2 4 0 ?_
 exact te (fJ [(false,[cB r5])] H)
def zBX (n : Nat) (x0 : Pt) : Option (Bool) :=
  ((qO n x0.Co 1 1000).bind fun r1 => (bif (!r1) then (some false) else (bif x0.Has then (bif (!x0.Up) then (some false) else ((YU n x0.Hd).bind fun r2 => (some r2))) else (some ((x0.Hd.Root == 0) && ((x0.Hd.Co == 0) && ((x0.Hd.Hops == 0) && ((x0.Hd.Bridge == 0) && ((x0.Hd.Port == 0) && true)))))))))
theorem zLM (n : Nat) (x0 : Pt) (r : Bool) (H : zBX n x0 = some r) : zI Try.prog 60 [.val true (CV.frzRow (Pt.row x0))] [.val false [.lit (.bool r)]] [] := by
 refine cW Try.func60 (fun g d => sl [g 0,sl [g 1] (cn 15 (sl [g 2] .ret) .skip),sl [g 3] (cn 17 (sl [g 4] .ret) .skip),g 5] .ret) [.tmp 2] fun cx => ?_
 unfold zBX at H
 refine gA 2 2 2 ?_
 refine tS ?_
 refine rA 2 ?_
 obtain ⟨r1,er1,H⟩ := bs H
 refine vA [.rd,.rd,.rd] (qY n x0.Co 1 1000 r1 er1) ?_
 refine lA 2 ?_
 refine sL 130 2 ⟨25,0,[sB 7 (!r1),sA 1 1 8 0],[(1,(Pt.row x0))]⟩ ?_
 cases h1 : (!r1)
 ·have H := zG h1 H
  refine lA 3 ?_
  refine sL 1154 2 ⟨25,0,[sB 10 x0.Has,sB 7 false,sA 1 1 8 0],[(1,(Pt.row x0))]⟩ ?_
  cases h2 : x0.Has
  ·have H := zG h2 H
   refine uA 5 32770 2 ?_
   refine nB_ ?_
   refine tK ?_
   refine tS ?_
   refine gA 2 131074 2 ?_
   refine sT ⟨25,0,[sB 17 x0.Has,sA 1 1 8 0],[(1,(Pt.row x0))]⟩ ?_
   rw [h2]
   refine nB_ ?_
   refine tK ?_
   refine rA 3 ?_
   refine LAt.eqSG false (t := 46) (ty := 46) (ty' := 4) (x := (.tmp 22)) (y := (.tmp 23)) (d := 24) (g := none) ((x0.Hd.Root == 0) && ((x0.Hd.Co == 0) && ((x0.Hd.Hops == 0) && ((x0.Hd.Bridge == 0) && ((x0.Hd.Port == 0) && true))))) _ kr kr kr kr rfl ?_
   refine uA 1 4 0 ?_
   exact te (fJ [(false,[cB ((x0.Hd.Root == 0) && ((x0.Hd.Co == 0) && ((x0.Hd.Hops == 0) && ((x0.Hd.Bridge == 0) && ((x0.Hd.Port == 0) && true)))))])] H)
  have H := zH h2 H
  refine uA 5 32770 2 ?_
  obtain ⟨h3,H⟩ | ⟨h3,H⟩ := bC H
  ·refine nA h3 ?_
   refine tK ?_
   refine tS ?_
   refine gA 2 131074 2 ?_
   refine sT ⟨25,0,[sB 17 x0.Has,sA 1 1 8 0],[(1,(Pt.row x0))]⟩ ?_
   rw [h2]
   refine tB_ ?_
   refine rA 2 ?_
   obtain ⟨r2,er2,H⟩ := bs H
   refine vA [.rd] (zBZ n x0.Hd r2 er2) ?_
   refine uA 1 4 0 ?_
   exact te (fJ [(false,[cB r2])] H)
  refine tA h3 ?_
  refine gA 1 4 0 ?_
  exact te (fF H)
 have H := zH h1 H
 refine uA 8 32770 2 ?_
 refine tB_ ?_
 refine gA 1 4 0 ?_
 exact te (fF H)
def zBb (n : Nat) (x0 : zB) : Option (Bool) :=
  ((qO n x0.Tag 1 99).bind fun r1 => (bif r1 then ((qO n x0.Mac 1 9999).bind fun r2 => (bif r2 then ((qO n x0.Port 0 7).bind fun r3 => (bif r3 then ((qO n x0.Age 0 4).bind fun r4 => (bif r4 then (bif (!x0.Sc) then (some true) else (some (x0.Age == 0))) else (some false))) else (some false))) else (some false))) else (some false)))
theorem zD3 (n : Nat) (x0 : zB) (r : Bool) (H : zBb n x0 = some r) : zI Try.prog 114 [.val true (CV.frzRow (zB.row x0))] [.val false [.lit (.bool r)]] [] := by
 refine cW Try.func114 (fun g d => sl [g 0,g 1] .ret) [.tmp 2] fun cx => ?_
 unfold zBb at H
 refine gA 2 2 2 ?_
 refine rA 2 ?_
 obtain ⟨r1,er1,H⟩ := bs H
 refine vA [.rd,.rd,.rd] (qY n x0.Tag 1 99 r1 er1) ?_
 refine lA 1 ?_
 refine sL 66 2 ⟨31,0,[sB 6 r1,sA 1 1 5 0],[(1,(zB.row x0))]⟩ ?_
 cases h1 : r1
 ·have H := zG h1 H
  refine uA 25 4 0 ?_
  exact te (fF H)
 have H := zH h1 H
 refine lA 2 ?_
 obtain ⟨r2,er2,H⟩ := bs H
 refine vA [.rd,.rd,.rd] (qY n x0.Mac 1 9999 r2 er2) ?_
 refine lA 2 ?_
 refine sL 2050 2 ⟨31,0,[sB 11 r2,sA 1 1 5 0],[(1,(zB.row x0))]⟩ ?_
 cases h2 : r2
 ·have H := zG h2 H
  refine uA 20 4 0 ?_
  exact te (fF H)
 have H := zH h2 H
 refine lA 2 ?_
 obtain ⟨r3,er3,H⟩ := bs H
 refine vA [.rd,.rd,.rd] (qY n x0.Port 0 7 r3 er3) ?_
 refine lA 2 ?_
 refine sL 65538 2 ⟨31,0,[sB 16 r3,sA 1 1 5 0],[(1,(zB.row x0))]⟩ ?_
 cases h3 : r3
 ·have H := zG h3 H
  refine uA 15 4 0 ?_
  exact te (fF H)
 have H := zH h3 H
 refine lA 2 ?_
 obtain ⟨r4,er4,H⟩ := bs H
 refine vA [.rd,.rd,.rd] (qY n x0.Age 0 4 r4 er4) ?_
 refine lA 2 ?_
 refine sL 2097154 2 ⟨31,0,[sB 21 r4,sA 1 1 5 0],[(1,(zB.row x0))]⟩ ?_
 cases h4 : r4
 ·have H := zG h4 H
  refine uA 10 4 0 ?_
  exact te (fF H)
 have H := zH h4 H
 refine lA 4 ?_
 refine sL 35651586 2 ⟨31,0,[sB 25 (!x0.Sc),sB 21 true,sA 1 1 5 0],[(1,(zB.row x0))]⟩ ?_
 cases h5 : (!x0.Sc)
 ·have H := zG h5 H
  refine uA 6 4 0 ?_
  exact te (fJ [(false,[cB (x0.Age == 0)])] H)
 have H := zH h5 H
 refine uA 6 4 0 ?_
 exact te (fT H)
def zAG (n : Nat) (x0 : zB) (x1 : Int) (x2 : Int) : Option (Bool) :=
  (bif (decide (x0.Tag > x1)) then (some true) else (bif (x0.Tag == x1) then (some (decide (x0.Mac > x2))) else (some false)))
theorem zJo (n : Nat) (x0 : zB) (x1 : Int) (x2 : Int) (r : Bool) (H : zAG n x0 x1 x2 = some r) : zI Try.prog 115 [.val true (CV.frzRow (zB.row x0)),.val false [.lit (.int .i64 x1)],.val false [.lit (.int .i64 x2)]] [.val false [.lit (.bool r)]] [] := by
 refine cW Try.func115 (fun g d => sl [g 0,g 1] .ret) [.tmp 6] fun cx => ?_
 unfold zAG at H
 refine gA 2 14 8 ?_
 refine rA 5 ?_
 refine sL 2062 8 ⟨23,0,[sB 11 (decide (x0.Tag > x1)),sA 3 3 5 0,sI 1 x1,sI 2 x2],[(3,(zB.row x0))]⟩ ?_
 cases h1 : (decide (x0.Tag > x1))
 ·have H := zG h1 H
  refine lA 5 ?_
  refine sL 67596 8 ⟨23,0,[sB 16 (x0.Tag == x1),sB 11 false,sA 3 3 5 0,sI 2 x2],[(3,(zB.row x0))]⟩ ?_
  cases h2 : (x0.Tag == x1)
  ·have H := zG h2 H
   refine uA 7 64 0 ?_
   exact te (fF H)
  have H := zH h2 H
  refine uA 7 64 0 ?_
  exact te (fJ [(false,[cB (decide (x0.Mac > x2))])] H)
 have H := zH h1 H
 refine uA 12 64 0 ?_
 exact te (fT H)
def zA2 (n : Nat) (x0 : (List zB)) : Option (Bool) :=
  (some (decide ((x0.length : Int) ≤ 12)))
def QI (n : Nat) : Nat → (List zB) → Int → Option ((Unit) ⊕ (Bool))
  | 0,_,_ => none
  | mo2 + 1,x0,y1 => (bif (decide (y1 < (x0.length : Int))) then ((idx x0 y1).bind fun v3 => ((zBb n v3).bind fun r4 => (bif (!r4) then (some (Sum.inr false)) else (bif (decide (y1 > 0)) then ((idx x0 (IntKind.wrap .i64 (y1 - 1))).bind fun v5 => ((idx x0 (IntKind.wrap .i64 (y1 - 1))).bind fun v6 => ((zAG n v3 v5.Tag v6.Mac).bind fun r7 => (bif (!r7) then (some (Sum.inr false)) else (QI n mo2 x0 (IntKind.wrap .i64 (y1 + 1))))))) else (QI n mo2 x0 (IntKind.wrap .i64 (y1 + 1))))))) else (some (Sum.inl ())))
def zAs (n : Nat) (x0 : (List zB)) : Option (Bool) :=
  ((QI n n x0 0).bind fun o => match o with | .inl _ => (zA2 n x0) | .inr r => some r)
def zNU : Tab := ⟨24,[0,1,2,6,8,24,40,64,64,64,576,1344,2112,4160,64,64,32832,81984,131136,262208,532672,1048640,2097224,4194312],[0,1,2,4,8,24,40,64,64,64,576,1344,2112,4160,64,64,32832,81984,131136,262208,532672,1048640,2097224,4194312],[0,1,3,7,15,31,63,127,127,127,639,1919,3967,8063,127,127,32895,114815,245887,508031,1048575,2097151,4194303,8388607]⟩
theorem Qk : zk (rg Try.f61 4) zNU = true := kr
theorem zKf (n : Nat) (x0 : (List zB)) (r : Bool) (H : zAs n x0 = some r) : zI Try.prog 61 [.val false [.sl false 5 (CV.frzEs (x0.map zB.row))]] [.val false [.lit (.bool r)]] [] := by
 refine cW Try.func61 (fun g d => sl [g 0,sl [g 1] (.block 0 (.loop (sl [g 2,cn 8 .skip (.exit 0),.block 1 (sl [g 3,d 4] (cn 35 (sl [g 5] .ret) .skip))] (g 6)))),g 7] .ret) [.tmp 2] fun cx => ?_
 unfold zAs at H
 refine gA 1 1 0 ?_
 refine tS ?_
 refine rA 1 ?_
 refine kF x0 zB.row ?_
 refine uA 1 225 0 ?_
 obtain ⟨o2,eo2,Ho2⟩ := bs H
 clear H
 refine Tr.mid (ι := Unit) (fun v => ⟨40,0,[sC 0 (cF 5 x0 zB.row)],[]⟩) (fun v => zA2 n x0 = some r) ?_ ?_
 ·refine tB ?_
  refine Tr.loop (ι := Nat × (Int)) (fun v => ⟨40,0,[sI 7 v.2,sI 6 (x0.length : Int),sC 5 (cF 5 x0 zB.row),sC 0 (cF 5 x0 zB.row)],[]⟩) (fun v => QI n v.1 x0 v.2 = some o2) (fun v => v.1) (n,0) eo2 (St.sub_of [7,6,5,0] [] kr) ?_
  rintro ⟨mo2,y1⟩ H
  have H : QI n mo2 x0 y1 = some o2 := H
  obtain _ | mo2 := mo2
  ·exact nN H
  rw [QI] at H
  refine gA 1 481 0 ?_
  refine tS ?_
  obtain ⟨h1,H⟩ | ⟨h1,H⟩ := bC H
  ·refine nA h1 ?_
   refine Tr.exit ?_
   refine aJ ?_
   obtain rfl := si H
   have H := Ho2
   dsimp only at H
   exact jA () H [0] []
  refine tA h1 ?_
  refine tK ?_
  refine tS ?_
  refine tB ?_
  refine rA 1 ?_
  obtain ⟨v3,ev3,H⟩ := bs H
  refine iA zB.row ev3 ?_
  refine uA 4 249 16 ?_
  obtain ⟨r4,er4,H⟩ := bs H
  refine sT ⟨40,0,[sI 3 y1,sA 4 4 5 0,sI 7 y1,sI 6 (x0.length : Int),sC 5 (cF 5 x0 zB.row),sC 0 (cF 5 x0 zB.row)],[(4,(zB.row v3))]⟩ ?_
  cases h2 : (!r4)
  ·have H := zG h2 H
   refine sT ⟨40,0,[sI 3 y1,sA 4 4 5 0,sI 7 y1,sI 6 (x0.length : Int),sC 5 (cF 5 x0 zB.row),sC 0 (cF 5 x0 zB.row)],[(4,(zB.row v3))]⟩ ?_
   cases h3 : (decide (y1 > 0))
   ·have H := zG h3 H
    refine Tr.draws mixed 24 kr ⟨40,0,[sB 35 false,sI 7 y1,sI 6 (x0.length : Int),sC 5 (cF 5 x0 zB.row),sC 0 (cF 5 x0 zB.row)],[]⟩ (fun cx => ?_) ?_
    ·refine mA Qk [(0,[1])] 23 [⟨[1],60,4,12⟩] fun cx => ?_
     refine mC Qk 1 ?_
     refine vA [.rd] (zD3 n v3 r4 er4) ?_
     refine fA ?_
     refine mA Qk [(2,[]),(3,[])] 20 [⟨[1],60,4,12⟩] fun cx => ?_
     refine sA_ 37113 16 ⟨40,0,[sB 15 (!r4),sV 12 (zB.row v3),sI 3 y1,sA 4 4 5 0,sI 7 y1,sI 6 (x0.length : Int),sC 5 (cF 5 x0 zB.row),sC 0 (cF 5 x0 zB.row)],[(4,(zB.row v3))]⟩ ?_
     rw [h2]
     refine mA Qk [(4,[]),(5,[]),(6,[])] 17 [⟨[1],60,4,12⟩] fun cx => ?_
     refine sA_ 299257 16 ⟨40,0,[sB 18 (decide (y1 > 0)),sB 15 false,sV 12 (zB.row v3),sI 3 y1,sA 4 4 5 0,sI 7 y1,sI 6 (x0.length : Int),sC 5 (cF 5 x0 zB.row),sC 0 (cF 5 x0 zB.row)],[(4,(zB.row v3))]⟩ ?_
     rw [h3]
     refine mA Qk [(7,[]),(8,[]),(9,[]),(10,[]),(11,[]),(12,[]),(13,[]),(14,[]),(15,[]),(16,[]),(17,[]),(18,[]),(19,[]),(20,[]),(21,[]),(22,[]),(23,[])] 0 [⟨[1],60,4,12⟩] fun cx => ?_
     exact mE Qk [35,7,6,5,0] []
    refine nB_ ?_
    refine tK ?_
    refine eA 2 225 0 ?_
    exact jB mo2 (IntKind.wrap .i64 (y1 + 1)) H [7,6,5,0] []
   have H := zH h3 H
   obtain ⟨v5,ev5,H⟩ := bs H
   obtain ⟨v6,ev6,H⟩ := bs H
   obtain ⟨r7,er7,H⟩ := bs H
   refine Tr.draws mixed 24 kr ⟨40,0,[sB 35 (!r7),sI 7 y1,sI 6 (x0.length : Int),sC 5 (cF 5 x0 zB.row),sC 0 (cF 5 x0 zB.row)],[]⟩ (fun cx => ?_) ?_
   ·refine mA Qk [(0,[1,20])] 23 [⟨[1,20],60,4,12⟩] fun cx => ?_
    refine mC Qk 1 ?_
    refine vA [.rd] (zD3 n v3 r4 er4) ?_
    refine fA ?_
    refine mA Qk [(2,[]),(3,[])] 20 [⟨[1,20],60,4,12⟩] fun cx => ?_
    refine sA_ 37113 16 ⟨40,0,[sB 15 (!r4),sV 12 (zB.row v3),sI 3 y1,sA 4 4 5 0,sI 7 y1,sI 6 (x0.length : Int),sC 5 (cF 5 x0 zB.row),sC 0 (cF 5 x0 zB.row)],[(4,(zB.row v3))]⟩ ?_
    rw [h2]
    refine mA Qk [(4,[]),(5,[]),(6,[])] 17 [⟨[1,20],60,4,12⟩] fun cx => ?_
    refine sA_ 299257 16 ⟨40,0,[sB 18 (decide (y1 > 0)),sB 15 false,sV 12 (zB.row v3),sI 3 y1,sA 4 4 5 0,sI 7 y1,sI 6 (x0.length : Int),sC 5 (cF 5 x0 zB.row),sC 0 (cF 5 x0 zB.row)],[(4,(zB.row v3))]⟩ ?_
    rw [h3]
    refine mA Qk [(7,[20]),(8,[]),(9,[]),(10,[])] 13 [⟨[20],60,4,19⟩,⟨[1,20],60,4,12⟩] fun cx => ?_
    refine iN Qk 11 zB.row ev5 fun cx => ?_
    refine mA Qk [(12,[]),(13,[]),(14,[]),(15,[]),(16,[])] 7 [⟨[20],60,4,19⟩,⟨[1,20],60,4,12⟩] fun cx => ?_
    refine iN Qk 17 zB.row ev6 fun cx => ?_
    refine mA Qk [(18,[]),(19,[])] 4 [⟨[20],60,4,19⟩,⟨[1,20],60,4,12⟩] fun cx => ?_
    refine mC Qk 20 ?_
    refine vA [.rd,.rd,.rd] (zJo n v3 v5.Tag v6.Mac r7 er7) ?_
    refine fA ?_
    refine mA Qk [(21,[]),(22,[]),(23,[])] 0 [⟨[20],60,4,19⟩,⟨[1,20],60,4,12⟩] fun cx => ?_
    exact mE Qk [35,7,6,5,0] []
   refine sT ⟨40,0,[sB 35 (!r7),sI 7 y1,sI 6 (x0.length : Int),sC 5 (cF 5 x0 zB.row),sC 0 (cF 5 x0 zB.row)],[]⟩ ?_
   cases h4 : (!r7)
   ·have H := zG h4 H
    refine nB_ ?_
    refine tK ?_
    refine eA 2 225 0 ?_
    exact jB mo2 (IntKind.wrap .i64 (y1 + 1)) H [7,6,5,0] []
   have H := zH h4 H
   refine tB_ ?_
   refine gA 1 4 0 ?_
   refine te ?_
   obtain rfl := si H
   have H := Ho2
   dsimp only at H
   exact fF H
  have H := zH h2 H
  refine Tr.draws mixed 24 kr ⟨40,0,[sB 35 true,sI 7 y1,sI 6 (x0.length : Int),sC 5 (cF 5 x0 zB.row),sC 0 (cF 5 x0 zB.row)],[]⟩ (fun cx => ?_) ?_
  ·refine mA Qk [(0,[1])] 23 [⟨[1],60,4,12⟩] fun cx => ?_
   refine mC Qk 1 ?_
   refine vA [.rd] (zD3 n v3 r4 er4) ?_
   refine fA ?_
   refine mA Qk [(2,[]),(3,[])] 20 [⟨[1],60,4,12⟩] fun cx => ?_
   refine sA_ 37113 16 ⟨40,0,[sB 15 (!r4),sV 12 (zB.row v3),sI 3 y1,sA 4 4 5 0,sI 7 y1,sI 6 (x0.length : Int),sC 5 (cF 5 x0 zB.row),sC 0 (cF 5 x0 zB.row)],[(4,(zB.row v3))]⟩ ?_
   rw [h2]
   refine mA Qk [(4,[]),(5,[]),(6,[]),(7,[]),(8,[]),(9,[]),(10,[]),(11,[]),(12,[]),(13,[]),(14,[]),(15,[]),(16,[]),(17,[]),(18,[]),(19,[]),(20,[]),(21,[]),(22,[]),(23,[])] 0 [⟨[1],60,4,12⟩] fun cx => ?_
   exact mE Qk [35,7,6,5,0] []
  refine tB_ ?_
  refine gA 1 4 0 ?_
  refine te ?_
  obtain rfl := si H
  have H := Ho2
  dsimp only at H
  exact fF H
 rintro _ H
 have H : (zA2 n x0) = some r := H
 unfold zA2 at H
 refine rA 1 ?_
 refine kF x0 zB.row ?_
 refine uA 2 4 0 ?_
 exact te (fJ [(false,[cB (decide ((x0.length : Int) ≤ 12))])] H)
def Qg (n : Nat) (x0 : Int) : Option (Int) :=
  (bif (decide ((0 : Int) ≤ x0)) then (some (IntKind.wrap .i64 ((IntKind.wrap .i64 (1 * 2 ^ min ((x0 : Int)).toNat (IntKind.bits .i64))) - 1))) else none)
theorem zA7 (n : Nat) (x0 : Int) (r : Int) (H : Qg n x0 = some r) : zI Try.prog 116 [.val false [.lit (.int .i64 x0)]] [.val false [.lit (.int .i64 r)]] [] := by
 refine cW Try.func116 (fun g d => sl [g 0,g 1] .ret) [.tmp 2] fun cx => ?_
 unfold Qg at H
 refine gA 1 1 0 ?_
 refine rA 1 ?_
 obtain ⟨hg1,H⟩ := gs H
 refine LAt.binC tOk (op := .shl) (t := 3) (ty := 3) (ty' := 3) (x := (.const (.int .i64 1))) (y := (.tmp 3)) (d := 4) (g := none) (.int .i64 1) (.int .i64 x0) (.int .i64 (IntKind.wrap .i64 (1 * 2 ^ min ((x0 : Int)).toNat (IntKind.bits .i64)))) _ kr kr kr kr kr (φ := (0 : Int) ≤ x0) kr (of_decide_eq_true hg1) rfl ?_
 refine uA 2 4 0 ?_
 exact te (fJ [(false,[cI (IntKind.wrap .i64 ((IntKind.wrap .i64 (1 * 2 ^ min ((x0 : Int)).toNat (IntKind.bits .i64))) - 1))])] H)
def zA4 (n : Nat) : Option (Int) :=
  (some (-1))
def YJ (n : Nat) : Nat → zJ → Int → Int → Option ((Unit) ⊕ (Int))
  | 0,_,_,_ => none
  | mo2 + 1,x0,x1,y1 => (bif (decide (y1 < (x0.Rows.length : Int))) then ((idx x0.Rows y1).bind fun v3 => (bif (v3.Id == x1) then (some (Sum.inr y1)) else (YJ n mo2 x0 x1 (IntKind.wrap .i64 (y1 + 1))))) else (some (Sum.inl ())))
def zAu (n : Nat) (x0 : zJ) (x1 : Int) : Option (Int) :=
  ((YJ n n x0 x1 0).bind fun o => match o with | .inl _ => (zA4 n) | .inr r => some r)
theorem zKh (n : Nat) (x0 : zJ) (x1 : Int) (r : Int) (H : zAu n x0 x1 = some r) : zI Try.prog 117 [.val true (CV.frzRow (zJ.row x0)),.val false [.lit (.int .i64 x1)]] [.val false [.lit (.int .i64 r)]] [] := by
 refine cW Try.func117 (fun g d => sl [g 0,sl [g 1] (.block 0 (.loop (sl [g 2,cn 11 .skip (.exit 0),.block 1 (sl [g 3,g 4] (cn 18 (sl [g 5] .ret) .skip))] (g 6)))),g 7] .ret) [.tmp 4] fun cx => ?_
 unfold zAu at H
 refine gA 2 6 4 ?_
 refine tS ?_
 refine rA 2 ?_
 refine kF x0.Rows zF.row ?_
 refine uA 1 1794 0 ?_
 obtain ⟨o2,eo2,Ho2⟩ := bs H
 clear H
 refine Tr.mid (ι := Unit) (fun v => ⟨21,0,[],[]⟩) (fun v => zA4 n = some r) ?_ ?_
 ·refine tB ?_
  refine Tr.loop (ι := Nat × (Int)) (fun v => ⟨21,0,[sI 10 v.2,sI 9 (x0.Rows.length : Int),sC 8 (cF 3 x0.Rows zF.row),sI 1 x1],[]⟩) (fun v => YJ n v.1 x0 x1 v.2 = some o2) (fun v => v.1) (n,0) eo2 (St.sub_of [10,9,8,1] [] kr) ?_
  rintro ⟨mo2,y1⟩ H
  have H : YJ n mo2 x0 x1 y1 = some o2 := H
  obtain _ | mo2 := mo2
  ·exact nN H
  rw [YJ] at H
  refine gA 1 3842 0 ?_
  refine tS ?_
  obtain ⟨h1,H⟩ | ⟨h1,H⟩ := bC H
  ·refine nA h1 ?_
   refine Tr.exit ?_
   refine aJ ?_
   obtain rfl := si H
   have H := Ho2
   dsimp only at H
   exact jA () H [] []
  refine tA h1 ?_
  refine tK ?_
  refine tS ?_
  refine tB ?_
  refine rA 1 ?_
  obtain ⟨v3,ev3,H⟩ := bs H
  refine iA zF.row ev3 ?_
  refine uA 4 1890 64 ?_
  refine gA 4 263970 0 ?_
  obtain ⟨h2,H⟩ | ⟨h2,H⟩ := bC H
  ·refine nA h2 ?_
   refine tK ?_
   refine eA 2 1794 0 ?_
   exact jB mo2 (IntKind.wrap .i64 (y1 + 1)) H [10,9,8,1] []
  refine tA h2 ?_
  refine gA 2 16 0 ?_
  refine te ?_
  obtain rfl := si H
  have H := Ho2
  dsimp only at H
  exact fJ [(false,[cI y1])] H
 rintro _ H
 have H : (zA4 n) = some r := H
 unfold zA4 at H
 refine gA 1 16 0 ?_
 exact te (fJ [(false,[cI (-1)])] H)
def zAY (n : Nat) : Option (Bool) :=
  (some true)
def Qf (n : Nat) : Nat → zJ → Int → Option ((Unit) ⊕ (Bool))
  | 0,_,_ => none
  | mo4 + 1,x0,y3 => (bif (decide (y3 < (x0.Pv.length : Int))) then ((idx x0.Pv y3).bind fun v5 => ((zAu n x0 v5).bind fun r6 => (bif (decide (r6 < 0)) then (some (Sum.inr false)) else (Qf n mo4 x0 (IntKind.wrap .i64 (y3 + 1)))))) else (some (Sum.inl ())))
def JH (n : Nat) (x0 : zJ) : Option (Bool) :=
  ((Qf n n x0 0).bind fun o => match o with | .inl _ => (zAY n) | .inr r => some r)
def Zy (n : Nat) : Nat → zJ → Int → Int → Option ((Unit) ⊕ (Bool))
  | 0,_,_,_ => none
  | mo7 + 1,x0,x1,y2 => (bif (decide (y2 < (x0.Rows.length : Int))) then ((idx x0.Rows y2).bind fun v8 => ((qO n v8.Id 1 99).bind fun r9 => (bif (!r9) then (some (Sum.inr false)) else (bif (decide (y2 > 0)) then ((idx x0.Rows (IntKind.wrap .i64 (y2 - 1))).bind fun v12 => (bif (decide (v12.Id ≥ v8.Id)) then (some (Sum.inr false)) else ((Qg n x1).bind fun r13 => ((qO n v8.Members 0 r13).bind fun r14 => (bif (!r14) then (some (Sum.inr false)) else (bif ((IntKind.wrap .i64 (BitVec.ofInt (IntKind.bits .i64) v8.Bare &&& ~~~BitVec.ofInt (IntKind.bits .i64) v8.Members).toNat) != 0) then (some (Sum.inr false)) else (Zy n mo7 x0 x1 (IntKind.wrap .i64 (y2 + 1))))))))) else ((Qg n x1).bind fun r10 => ((qO n v8.Members 0 r10).bind fun r11 => (bif (!r11) then (some (Sum.inr false)) else (bif ((IntKind.wrap .i64 (BitVec.ofInt (IntKind.bits .i64) v8.Bare &&& ~~~BitVec.ofInt (IntKind.bits .i64) v8.Members).toNat) != 0) then (some (Sum.inr false)) else (Zy n mo7 x0 x1 (IntKind.wrap .i64 (y2 + 1))))))))))) else (some (Sum.inl ())))
def zAF (n : Nat) (x0 : zJ) (x1 : Int) : Option (Bool) :=
  ((qO n x1 1 6).bind fun r1 => (bif (!r1) then (some false) else (bif ((x0.Pv.length : Int) != x1) then (some false) else (bif (decide ((x0.Rows.length : Int) > 6)) then (some false) else ((Zy n n x0 x1 0).bind fun o => match o with | .inl _ => (JH n x0) | .inr r => some r)))))
def zNV : Tab := ⟨36,[0,1,2,4,12,16,48,80,128,384,128,1152,2688,4224,8320,128,32896,82048,131216,262160,524416,1048576,3145728,1048576,9437184,22020096,34603008,68157440,167772160,268435456,805306368,268435456,2415919104,5637144576,8858370048,17448304640],[0,1,2,4,8,16,48,80,128,384,128,1152,2688,4224,8320,128,32896,82048,131216,262160,524288,1048576,3145728,1048576,9437184,22020096,34603008,68157440,134217728,268435456,805306368,268435456,2415919104,5637144576,8858370048,17448304640],[0,1,3,7,15,31,63,127,255,511,255,1279,4095,8191,16383,255,33023,131071,262143,524287,1048575,2097151,4194303,2097151,10485759,33554431,67108863,134217727,268435455,536870911,1073741823,536870911,2684354559,8589934591,17179869183,34359738367]⟩
theorem zr : zk (rg Try.f62 6) zNV = true := kr
theorem zHp (n : Nat) (x1 : Int) (r13 : Int) (v8 : zF) (r14 : Bool) (y2 : Int) (x0 : zJ) (er13 : (Qg n x1) = some r13) (er14 : (qO n v8.Members 0 r13) = some r14) (h12 : (!r14) = false) (cx : Cx) : AT Try.prog cx (rg Try.f62 6) [⟨[24,25],3,48,49⟩,⟨[24,25],37,41,42⟩,⟨[2,24,25],3,33,34⟩] 15 [20,19,18,17,16,15,14,13,12,11,10,9,8,7,6,5,4,3,2,1,0] ⟨82,0,[sB 53 false,sI 49 v8.Id,sA 48 6 3 0,sR 42 2 2 0 1 false,sA 41 2 2 0,sI 34 v8.Id,sA 33 6 3 0,sA 6 6 3 0,sI 28 y2,sI 27 (x0.Rows.length : Int),sC 26 (cF 3 x0.Rows zF.row),sA 2 2 2 0,sI 1 x1],[(6,(zF.row v8)),(2,(CV.frzRow (zJ.row x0)))]⟩ (fun s => s = ⟨82,0,[sB 68 ((IntKind.wrap .i64 (BitVec.ofInt (IntKind.bits .i64) v8.Bare &&& ~~~BitVec.ofInt (IntKind.bits .i64) v8.Members).toNat) != 0),sI 28 y2,sI 27 (x0.Rows.length : Int),sC 26 (cF 3 x0.Rows zF.row),sA 2 2 2 0,sI 1 x1],[(2,(CV.frzRow (zJ.row x0)))]⟩) := by
 refine mA zr [(21,[]),(22,[25]),(23,[])] 12 [⟨[25],3,54,55⟩,⟨[24,25],3,48,49⟩,⟨[24,25],37,41,42⟩,⟨[2,24,25],3,33,34⟩] fun cx => ?_
 refine mC zr 24 ?_
 refine vA [.rd] (zA7 n x1 r13 er13) ?_
 refine fA ?_
 refine mC zr 25 ?_
 refine vA [.rd,.rd,.rd] (qY n v8.Members 0 r13 r14 er14) ?_
 refine fA ?_
 refine mA zr [(26,[]),(27,[]),(28,[])] 7 [⟨[25],3,54,55⟩,⟨[24,25],3,48,49⟩,⟨[24,25],37,41,42⟩,⟨[2,24,25],3,33,34⟩] fun cx => ?_
 refine sA_ 0x20c306061c000046 68 ⟨82,0,[sB 61 (!r14),sI 55 v8.Members,sA 54 6 3 1,sI 49 v8.Id,sA 48 6 3 0,sR 42 2 2 0 1 false,sA 41 2 2 0,sI 34 v8.Id,sA 33 6 3 0,sA 6 6 3 0,sI 28 y2,sI 27 (x0.Rows.length : Int),sC 26 (cF 3 x0.Rows zF.row),sA 2 2 2 0,sI 1 x1],[(6,(zF.row v8)),(2,(CV.frzRow (zJ.row x0)))]⟩ ?_
 rw [h12]
 refine mA zr [(29,[]),(30,[]),(31,[]),(32,[]),(33,[]),(34,[]),(35,[])] 0 [⟨[],3,64,65⟩,⟨[],3,62,63⟩,⟨[25],3,54,55⟩,⟨[24,25],3,48,49⟩,⟨[24,25],37,41,42⟩,⟨[2,24,25],3,33,34⟩] fun cx => ?_
 exact mE zr [68,28,27,26,2,1] [2]
theorem zHq (n : Nat) (x1 : Int) (r13 : Int) (v8 : zF) (r14 : Bool) (y2 : Int) (x0 : zJ) (er13 : (Qg n x1) = some r13) (er14 : (qO n v8.Members 0 r13) = some r14) (h12 : (!r14) = true) (cx : Cx) : AT Try.prog cx (rg Try.f62 6) [⟨[24,25],3,48,49⟩,⟨[24,25],37,41,42⟩,⟨[2,24,25],3,33,34⟩] 15 [20,19,18,17,16,15,14,13,12,11,10,9,8,7,6,5,4,3,2,1,0] ⟨82,0,[sB 53 false,sI 49 v8.Id,sA 48 6 3 0,sR 42 2 2 0 1 false,sA 41 2 2 0,sI 34 v8.Id,sA 33 6 3 0,sA 6 6 3 0,sI 28 y2,sI 27 (x0.Rows.length : Int),sC 26 (cF 3 x0.Rows zF.row),sA 2 2 2 0,sI 1 x1],[(6,(zF.row v8)),(2,(CV.frzRow (zJ.row x0)))]⟩ (fun s => s = ⟨82,0,[sB 68 true,sI 28 y2,sI 27 (x0.Rows.length : Int),sC 26 (cF 3 x0.Rows zF.row),sA 2 2 2 0,sI 1 x1],[(2,(CV.frzRow (zJ.row x0)))]⟩) := by
 refine mA zr [(21,[]),(22,[25]),(23,[])] 12 [⟨[25],3,54,55⟩,⟨[24,25],3,48,49⟩,⟨[24,25],37,41,42⟩,⟨[2,24,25],3,33,34⟩] fun cx => ?_
 refine mC zr 24 ?_
 refine vA [.rd] (zA7 n x1 r13 er13) ?_
 refine fA ?_
 refine mC zr 25 ?_
 refine vA [.rd,.rd,.rd] (qY n v8.Members 0 r13 r14 er14) ?_
 refine fA ?_
 refine mA zr [(26,[]),(27,[]),(28,[])] 7 [⟨[25],3,54,55⟩,⟨[24,25],3,48,49⟩,⟨[24,25],37,41,42⟩,⟨[2,24,25],3,33,34⟩] fun cx => ?_
 refine sA_ 0x20c306061c000046 68 ⟨82,0,[sB 61 (!r14),sI 55 v8.Members,sA 54 6 3 1,sI 49 v8.Id,sA 48 6 3 0,sR 42 2 2 0 1 false,sA 41 2 2 0,sI 34 v8.Id,sA 33 6 3 0,sA 6 6 3 0,sI 28 y2,sI 27 (x0.Rows.length : Int),sC 26 (cF 3 x0.Rows zF.row),sA 2 2 2 0,sI 1 x1],[(6,(zF.row v8)),(2,(CV.frzRow (zJ.row x0)))]⟩ ?_
 rw [h12]
 refine mA zr [(29,[]),(30,[]),(31,[]),(32,[]),(33,[]),(34,[]),(35,[])] 0 [⟨[25],3,54,55⟩,⟨[24,25],3,48,49⟩,⟨[24,25],37,41,42⟩,⟨[2,24,25],3,33,34⟩] fun cx => ?_
 exact mE zr [68,28,27,26,2,1] [2]
theorem zHr (n : Nat) (v8 : zF) (y2 : Int) (x0 : zJ) (x1 : Int) (cx : Cx) : AT Try.prog cx (rg Try.f62 6) [⟨[],3,48,49⟩,⟨[],37,41,42⟩,⟨[2],3,33,34⟩] 15 [20,19,18,17,16,15,14,13,12,11,10,9,8,7,6,5,4,3,2,1,0] ⟨82,0,[sB 53 true,sI 49 v8.Id,sA 48 6 3 0,sR 42 2 2 0 1 false,sA 41 2 2 0,sI 34 v8.Id,sA 33 6 3 0,sA 6 6 3 0,sI 28 y2,sI 27 (x0.Rows.length : Int),sC 26 (cF 3 x0.Rows zF.row),sA 2 2 2 0,sI 1 x1],[(6,(zF.row v8)),(2,(CV.frzRow (zJ.row x0)))]⟩ (fun s => s = ⟨82,0,[sB 68 true,sI 28 y2,sI 27 (x0.Rows.length : Int),sC 26 (cF 3 x0.Rows zF.row),sA 2 2 2 0,sI 1 x1],[(2,(CV.frzRow (zJ.row x0)))]⟩) := by
 refine mA zr [(21,[]),(22,[]),(23,[]),(24,[]),(25,[]),(26,[]),(27,[]),(28,[]),(29,[]),(30,[]),(31,[]),(32,[]),(33,[]),(34,[]),(35,[])] 0 [⟨[],3,48,49⟩,⟨[],37,41,42⟩,⟨[2],3,33,34⟩] fun cx => ?_
 exact mE zr [68,28,27,26,2,1] [2]
theorem zJn (n : Nat) (x0 : zJ) (x1 : Int) (r : Bool) (H : zAF n x0 x1 = some r) : zI Try.prog 62 [.val true (CV.frzRow (zJ.row x0)),.val false [.lit (.int .i64 x1)]] [.val false [.lit (.bool r)]] [] := by
 refine cW Try.func62 (fun g d => sl [g 0,sl [g 1] (cn 24 (sl [g 2] .ret) .skip),sl [g 3] (.block 0 (.loop (sl [g 4,cn 29 .skip (.exit 0),.block 1 (sl [g 5,d 6] (cn 68 (sl [g 7] .ret) .skip))] (g 8)))),sl [g 9] (.block 2 (.loop (sl [g 10,cn 74 .skip (.exit 2),.block 3 (sl [g 11,g 12] (cn 80 (sl [g 13] .ret) .skip))] (g 14)))),g 15] .ret) [.tmp 4] fun cx => ?_
 unfold zAF at H
 refine gA 2 6 4 ?_
 refine tS ?_
 refine rA 1 ?_
 obtain ⟨r1,er1,H⟩ := bs H
 refine vA [.rd,.rd,.rd] (qY n x1 1 6 r1 er1) ?_
 refine lA 2 ?_
 refine sL 4102 4 ⟨82,0,[sB 12 (!r1),sA 2 2 2 0,sI 1 x1],[(2,(CV.frzRow (zJ.row x0)))]⟩ ?_
 cases h1 : (!r1)
 ·have H := zG h1 H
  refine lA 2 ?_
  refine kF x0.Pv intRow ?_
  refine lA 4 ?_
  refine sL 524294 4 ⟨82,0,[sB 19 ((x0.Pv.length : Int) != x1),sA 2 2 2 0,sI 1 x1],[(2,(CV.frzRow (zJ.row x0)))]⟩ ?_
  cases h2 : ((x0.Pv.length : Int) != x1)
  ·have H := zG h2 H
   refine lA 2 ?_
   refine kF x0.Rows zF.row ?_
   refine uA 2 16777222 4 ?_
   obtain ⟨h3,H⟩ | ⟨h3,H⟩ := bC H
   ·refine nA h3 ?_
    refine tK ?_
    refine tS ?_
    refine rA 2 ?_
    refine kF x0.Rows zF.row ?_
    refine uA 1 469762054 4 ?_
    obtain ⟨o7,eo7,Ho7⟩ := bs H
    clear H
    refine Tr.mid (ι := Unit) (fun v => ⟨82,0,[sA 2 2 2 0],[(2,(CV.frzRow (zJ.row x0)))]⟩) (fun v => JH n x0 = some r) ?_ ?_
    ·refine tB ?_
     refine Tr.loop (ι := Nat × (Int)) (fun v => ⟨82,0,[sI 28 v.2,sI 27 (x0.Rows.length : Int),sC 26 (cF 3 x0.Rows zF.row),sA 2 2 2 0,sI 1 x1],[(2,(CV.frzRow (zJ.row x0)))]⟩) (fun v => Zy n v.1 x0 x1 v.2 = some o7) (fun v => v.1) (n,0) eo7 (St.sub_of [28,27,26,2,1] [2] kr) ?_
     rintro ⟨mo7,y2⟩ H
     have H : Zy n mo7 x0 x1 y2 = some o7 := H
     obtain _ | mo7 := mo7
     ·exact nN H
     rw [Zy] at H
     refine gA 1 1006632966 4 ?_
     refine tS ?_
     obtain ⟨h6,H⟩ | ⟨h6,H⟩ := bC H
     ·refine nA h6 ?_
      refine Tr.exit ?_
      refine aJ ?_
      obtain rfl := si H
      have H := Ho7
      dsimp only at H
      exact jA () H [2] [2]
     refine tA h6 ?_
     refine tK ?_
     refine tS ?_
     refine tB ?_
     refine rA 1 ?_
     obtain ⟨v8,ev8,H⟩ := bs H
     refine iA zF.row ev8 ?_
     refine uA 4 469762150 68 ?_
     obtain ⟨r9,er9,H⟩ := bs H
     refine sT ⟨82,0,[sI 5 y2,sA 6 6 3 0,sI 28 y2,sI 27 (x0.Rows.length : Int),sC 26 (cF 3 x0.Rows zF.row),sA 2 2 2 0,sI 1 x1],[(6,(zF.row v8)),(2,(CV.frzRow (zJ.row x0)))]⟩ ?_
     cases h7 : (!r9)
     ·have H := zG h7 H
      refine sT ⟨82,0,[sI 5 y2,sA 6 6 3 0,sI 28 y2,sI 27 (x0.Rows.length : Int),sC 26 (cF 3 x0.Rows zF.row),sA 2 2 2 0,sI 1 x1],[(6,(zF.row v8)),(2,(CV.frzRow (zJ.row x0)))]⟩ ?_
      cases h8 : (decide (y2 > 0))
      ·have H := zG h8 H
       obtain ⟨r10,er10,H⟩ := bs H
       obtain ⟨r11,er11,H⟩ := bs H
       refine sT ⟨82,0,[sI 5 y2,sA 6 6 3 0,sI 28 y2,sI 27 (x0.Rows.length : Int),sC 26 (cF 3 x0.Rows zF.row),sA 2 2 2 0,sI 1 x1],[(6,(zF.row v8)),(2,(CV.frzRow (zJ.row x0)))]⟩ ?_
       cases h9 : (!r11)
       ·have H := zG h9 H
        refine Tr.draws mixed 36 kr ⟨82,0,[sB 68 ((IntKind.wrap .i64 (BitVec.ofInt (IntKind.bits .i64) v8.Bare &&& ~~~BitVec.ofInt (IntKind.bits .i64) v8.Members).toNat) != 0),sI 28 y2,sI 27 (x0.Rows.length : Int),sC 26 (cF 3 x0.Rows zF.row),sA 2 2 2 0,sI 1 x1],[(2,(CV.frzRow (zJ.row x0)))]⟩ (fun cx => ?_) ?_
        ·refine mA zr [(0,[]),(1,[2,24,25])] 34 [⟨[2,24,25],3,33,34⟩] fun cx => ?_
         refine mC zr 2 ?_
         refine vA [.rd,.rd,.rd] (qY n v8.Id 1 99 r9 er9) ?_
         refine fA ?_
         refine mA zr [(3,[]),(4,[])] 31 [⟨[2,24,25],3,33,34⟩] fun cx => ?_
         refine sA_ 163678519398 68 ⟨82,0,[sB 37 (!r9),sI 34 v8.Id,sA 33 6 3 0,sI 5 y2,sA 6 6 3 0,sI 28 y2,sI 27 (x0.Rows.length : Int),sC 26 (cF 3 x0.Rows zF.row),sA 2 2 2 0,sI 1 x1],[(6,(zF.row v8)),(2,(CV.frzRow (zJ.row x0)))]⟩ ?_
         rw [h7]
         refine mA zr [(5,[]),(6,[]),(7,[])] 28 [⟨[2,24,25],3,33,34⟩] fun cx => ?_
         refine sA_ 1263190147174 68 ⟨82,0,[sB 40 (decide (y2 > 0)),sB 37 false,sI 34 v8.Id,sA 33 6 3 0,sI 5 y2,sA 6 6 3 0,sI 28 y2,sI 27 (x0.Rows.length : Int),sC 26 (cF 3 x0.Rows zF.row),sA 2 2 2 0,sI 1 x1],[(6,(zF.row v8)),(2,(CV.frzRow (zJ.row x0)))]⟩ ?_
         rw [h8]
         refine mA zr [(8,[]),(9,[]),(10,[]),(11,[]),(12,[]),(13,[]),(14,[]),(15,[]),(16,[]),(17,[]),(18,[]),(19,[]),(20,[]),(21,[]),(22,[25]),(23,[])] 12 [⟨[25],3,54,55⟩,⟨[2,24,25],3,33,34⟩] fun cx => ?_
         refine mC zr 24 ?_
         refine vA [.rd] (zA7 n x1 r10 er10) ?_
         refine fA ?_
         refine mC zr 25 ?_
         refine vA [.rd,.rd,.rd] (qY n v8.Members 0 r10 r11 er11) ?_
         refine fA ?_
         refine mA zr [(26,[]),(27,[]),(28,[])] 7 [⟨[25],3,54,55⟩,⟨[2,24,25],3,33,34⟩] fun cx => ?_
         refine sA_ 0x20c000061c000046 68 ⟨82,0,[sB 61 (!r11),sI 55 v8.Members,sA 54 6 3 1,sI 34 v8.Id,sA 33 6 3 0,sA 6 6 3 0,sI 28 y2,sI 27 (x0.Rows.length : Int),sC 26 (cF 3 x0.Rows zF.row),sA 2 2 2 0,sI 1 x1],[(6,(zF.row v8)),(2,(CV.frzRow (zJ.row x0)))]⟩ ?_
         rw [h9]
         refine mA zr [(29,[]),(30,[]),(31,[]),(32,[]),(33,[]),(34,[]),(35,[])] 0 [⟨[],3,64,65⟩,⟨[],3,62,63⟩,⟨[25],3,54,55⟩,⟨[2,24,25],3,33,34⟩] fun cx => ?_
         exact mE zr [68,28,27,26,2,1] [2]
        refine sT ⟨82,0,[sB 68 ((IntKind.wrap .i64 (BitVec.ofInt (IntKind.bits .i64) v8.Bare &&& ~~~BitVec.ofInt (IntKind.bits .i64) v8.Members).toNat) != 0),sI 28 y2,sI 27 (x0.Rows.length : Int),sC 26 (cF 3 x0.Rows zF.row),sA 2 2 2 0,sI 1 x1],[(2,(CV.frzRow (zJ.row x0)))]⟩ ?_
        cases h10 : ((IntKind.wrap .i64 (BitVec.ofInt (IntKind.bits .i64) v8.Bare &&& ~~~BitVec.ofInt (IntKind.bits .i64) v8.Members).toNat) != 0)
        ·have H := zG h10 H
         refine nB_ ?_
         refine tK ?_
         refine eA 2 469762054 4 ?_
         exact jB mo7 (IntKind.wrap .i64 (y2 + 1)) H [28,27,26,2,1] [2]
        have H := zH h10 H
        refine tB_ ?_
        refine gA 1 16 0 ?_
        refine te ?_
        obtain rfl := si H
        have H := Ho7
        dsimp only at H
        exact fF H
       have H := zH h9 H
       refine Tr.draws mixed 36 kr ⟨82,0,[sB 68 true,sI 28 y2,sI 27 (x0.Rows.length : Int),sC 26 (cF 3 x0.Rows zF.row),sA 2 2 2 0,sI 1 x1],[(2,(CV.frzRow (zJ.row x0)))]⟩ (fun cx => ?_) ?_
       ·refine mA zr [(0,[]),(1,[2,24,25])] 34 [⟨[2,24,25],3,33,34⟩] fun cx => ?_
        refine mC zr 2 ?_
        refine vA [.rd,.rd,.rd] (qY n v8.Id 1 99 r9 er9) ?_
        refine fA ?_
        refine mA zr [(3,[]),(4,[])] 31 [⟨[2,24,25],3,33,34⟩] fun cx => ?_
        refine sA_ 163678519398 68 ⟨82,0,[sB 37 (!r9),sI 34 v8.Id,sA 33 6 3 0,sI 5 y2,sA 6 6 3 0,sI 28 y2,sI 27 (x0.Rows.length : Int),sC 26 (cF 3 x0.Rows zF.row),sA 2 2 2 0,sI 1 x1],[(6,(zF.row v8)),(2,(CV.frzRow (zJ.row x0)))]⟩ ?_
        rw [h7]
        refine mA zr [(5,[]),(6,[]),(7,[])] 28 [⟨[2,24,25],3,33,34⟩] fun cx => ?_
        refine sA_ 1263190147174 68 ⟨82,0,[sB 40 (decide (y2 > 0)),sB 37 false,sI 34 v8.Id,sA 33 6 3 0,sI 5 y2,sA 6 6 3 0,sI 28 y2,sI 27 (x0.Rows.length : Int),sC 26 (cF 3 x0.Rows zF.row),sA 2 2 2 0,sI 1 x1],[(6,(zF.row v8)),(2,(CV.frzRow (zJ.row x0)))]⟩ ?_
        rw [h8]
        refine mA zr [(8,[]),(9,[]),(10,[]),(11,[]),(12,[]),(13,[]),(14,[]),(15,[]),(16,[]),(17,[]),(18,[]),(19,[]),(20,[]),(21,[]),(22,[25]),(23,[])] 12 [⟨[25],3,54,55⟩,⟨[2,24,25],3,33,34⟩] fun cx => ?_
        refine mC zr 24 ?_
        refine vA [.rd] (zA7 n x1 r10 er10) ?_
        refine fA ?_
        refine mC zr 25 ?_
        refine vA [.rd,.rd,.rd] (qY n v8.Members 0 r10 r11 er11) ?_
        refine fA ?_
        refine mA zr [(26,[]),(27,[]),(28,[])] 7 [⟨[25],3,54,55⟩,⟨[2,24,25],3,33,34⟩] fun cx => ?_
        refine sA_ 0x20c000061c000046 68 ⟨82,0,[sB 61 (!r11),sI 55 v8.Members,sA 54 6 3 1,sI 34 v8.Id,sA 33 6 3 0,sA 6 6 3 0,sI 28 y2,sI 27 (x0.Rows.length : Int),sC 26 (cF 3 x0.Rows zF.row),sA 2 2 2 0,sI 1 x1],[(6,(zF.row v8)),(2,(CV.frzRow (zJ.row x0)))]⟩ ?_
        rw [h9]
        refine mA zr [(29,[]),(30,[]),(31,[]),(32,[]),(33,[]),(34,[]),(35,[])] 0 [⟨[25],3,54,55⟩,⟨[2,24,25],3,33,34⟩] fun cx => ?_
        exact mE zr [68,28,27,26,2,1] [2]
       refine tB_ ?_
       refine gA 1 16 0 ?_
       refine te ?_
       obtain rfl := si H
       have H := Ho7
       dsimp only at H
       exact fF H
      have H := zH h8 H
      obtain ⟨v12,ev12,H⟩ := bs H
      refine sT ⟨82,0,[sI 5 y2,sA 6 6 3 0,sI 28 y2,sI 27 (x0.Rows.length : Int),sC 26 (cF 3 x0.Rows zF.row),sA 2 2 2 0,sI 1 x1],[(6,(zF.row v8)),(2,(CV.frzRow (zJ.row x0)))]⟩ ?_
      cases h11 : (decide (v12.Id ≥ v8.Id))
      ·have H := zG h11 H
       obtain ⟨r13,er13,H⟩ := bs H
       obtain ⟨r14,er14,H⟩ := bs H
       refine sT ⟨82,0,[sI 5 y2,sA 6 6 3 0,sI 28 y2,sI 27 (x0.Rows.length : Int),sC 26 (cF 3 x0.Rows zF.row),sA 2 2 2 0,sI 1 x1],[(6,(zF.row v8)),(2,(CV.frzRow (zJ.row x0)))]⟩ ?_
       cases h12 : (!r14)
       ·have H := zG h12 H
        refine Tr.draws mixed 36 kr ⟨82,0,[sB 68 ((IntKind.wrap .i64 (BitVec.ofInt (IntKind.bits .i64) v8.Bare &&& ~~~BitVec.ofInt (IntKind.bits .i64) v8.Members).toNat) != 0),sI 28 y2,sI 27 (x0.Rows.length : Int),sC 26 (cF 3 x0.Rows zF.row),sA 2 2 2 0,sI 1 x1],[(2,(CV.frzRow (zJ.row x0)))]⟩ (fun cx => ?_) ?_
        ·refine mA zr [(0,[]),(1,[2,24,25])] 34 [⟨[2,24,25],3,33,34⟩] fun cx => ?_
         refine mC zr 2 ?_
         refine vA [.rd,.rd,.rd] (qY n v8.Id 1 99 r9 er9) ?_
         refine fA ?_
         refine mA zr [(3,[]),(4,[])] 31 [⟨[2,24,25],3,33,34⟩] fun cx => ?_
         refine sA_ 163678519398 68 ⟨82,0,[sB 37 (!r9),sI 34 v8.Id,sA 33 6 3 0,sI 5 y2,sA 6 6 3 0,sI 28 y2,sI 27 (x0.Rows.length : Int),sC 26 (cF 3 x0.Rows zF.row),sA 2 2 2 0,sI 1 x1],[(6,(zF.row v8)),(2,(CV.frzRow (zJ.row x0)))]⟩ ?_
         rw [h7]
         refine mA zr [(5,[]),(6,[]),(7,[])] 28 [⟨[2,24,25],3,33,34⟩] fun cx => ?_
         refine sA_ 1263190147174 68 ⟨82,0,[sB 40 (decide (y2 > 0)),sB 37 false,sI 34 v8.Id,sA 33 6 3 0,sI 5 y2,sA 6 6 3 0,sI 28 y2,sI 27 (x0.Rows.length : Int),sC 26 (cF 3 x0.Rows zF.row),sA 2 2 2 0,sI 1 x1],[(6,(zF.row v8)),(2,(CV.frzRow (zJ.row x0)))]⟩ ?_
         rw [h8]
         refine mA zr [(8,[]),(9,[24,25]),(10,[]),(11,[])] 24 [⟨[24,25],37,41,42⟩,⟨[2,24,25],3,33,34⟩] fun cx => ?_
         refine iN zr 12 zF.row ev12 fun cx => ?_
         refine mA zr [(13,[]),(14,[]),(15,[]),(16,[24,25]),(17,[]),(18,[]),(19,[]),(20,[])] 15 [⟨[24,25],3,48,49⟩,⟨[24,25],37,41,42⟩,⟨[2,24,25],3,33,34⟩] fun cx => ?_
         refine sA_ 9858247494205510 68 ⟨82,0,[sB 53 (decide (v12.Id ≥ v8.Id)),sI 49 v8.Id,sA 48 6 3 0,sR 42 2 2 0 1 false,sA 41 2 2 0,sI 34 v8.Id,sA 33 6 3 0,sA 6 6 3 0,sI 28 y2,sI 27 (x0.Rows.length : Int),sC 26 (cF 3 x0.Rows zF.row),sA 2 2 2 0,sI 1 x1],[(6,(zF.row v8)),(2,(CV.frzRow (zJ.row x0)))]⟩ ?_
         rw [h11]
         exact zHp n x1 r13 v8 r14 y2 x0 er13 er14 h12 cx
        refine sT ⟨82,0,[sB 68 ((IntKind.wrap .i64 (BitVec.ofInt (IntKind.bits .i64) v8.Bare &&& ~~~BitVec.ofInt (IntKind.bits .i64) v8.Members).toNat) != 0),sI 28 y2,sI 27 (x0.Rows.length : Int),sC 26 (cF 3 x0.Rows zF.row),sA 2 2 2 0,sI 1 x1],[(2,(CV.frzRow (zJ.row x0)))]⟩ ?_
        cases h13 : ((IntKind.wrap .i64 (BitVec.ofInt (IntKind.bits .i64) v8.Bare &&& ~~~BitVec.ofInt (IntKind.bits .i64) v8.Members).toNat) != 0)
        ·have H := zG h13 H
         refine nB_ ?_
         refine tK ?_
         refine eA 2 469762054 4 ?_
         exact jB mo7 (IntKind.wrap .i64 (y2 + 1)) H [28,27,26,2,1] [2]
        have H := zH h13 H
        refine tB_ ?_
        refine gA 1 16 0 ?_
        refine te ?_
        obtain rfl := si H
        have H := Ho7
        dsimp only at H
        exact fF H
       have H := zH h12 H
       refine Tr.draws mixed 36 kr ⟨82,0,[sB 68 true,sI 28 y2,sI 27 (x0.Rows.length : Int),sC 26 (cF 3 x0.Rows zF.row),sA 2 2 2 0,sI 1 x1],[(2,(CV.frzRow (zJ.row x0)))]⟩ (fun cx => ?_) ?_
       ·refine mA zr [(0,[]),(1,[2,24,25])] 34 [⟨[2,24,25],3,33,34⟩] fun cx => ?_
        refine mC zr 2 ?_
        refine vA [.rd,.rd,.rd] (qY n v8.Id 1 99 r9 er9) ?_
        refine fA ?_
        refine mA zr [(3,[]),(4,[])] 31 [⟨[2,24,25],3,33,34⟩] fun cx => ?_
        refine sA_ 163678519398 68 ⟨82,0,[sB 37 (!r9),sI 34 v8.Id,sA 33 6 3 0,sI 5 y2,sA 6 6 3 0,sI 28 y2,sI 27 (x0.Rows.length : Int),sC 26 (cF 3 x0.Rows zF.row),sA 2 2 2 0,sI 1 x1],[(6,(zF.row v8)),(2,(CV.frzRow (zJ.row x0)))]⟩ ?_
        rw [h7]
        refine mA zr [(5,[]),(6,[]),(7,[])] 28 [⟨[2,24,25],3,33,34⟩] fun cx => ?_
        refine sA_ 1263190147174 68 ⟨82,0,[sB 40 (decide (y2 > 0)),sB 37 false,sI 34 v8.Id,sA 33 6 3 0,sI 5 y2,sA 6 6 3 0,sI 28 y2,sI 27 (x0.Rows.length : Int),sC 26 (cF 3 x0.Rows zF.row),sA 2 2 2 0,sI 1 x1],[(6,(zF.row v8)),(2,(CV.frzRow (zJ.row x0)))]⟩ ?_
        rw [h8]
        refine mA zr [(8,[]),(9,[24,25]),(10,[]),(11,[])] 24 [⟨[24,25],37,41,42⟩,⟨[2,24,25],3,33,34⟩] fun cx => ?_
        refine iN zr 12 zF.row ev12 fun cx => ?_
        refine mA zr [(13,[]),(14,[]),(15,[]),(16,[24,25]),(17,[]),(18,[]),(19,[]),(20,[])] 15 [⟨[24,25],3,48,49⟩,⟨[24,25],37,41,42⟩,⟨[2,24,25],3,33,34⟩] fun cx => ?_
        refine sA_ 9858247494205510 68 ⟨82,0,[sB 53 (decide (v12.Id ≥ v8.Id)),sI 49 v8.Id,sA 48 6 3 0,sR 42 2 2 0 1 false,sA 41 2 2 0,sI 34 v8.Id,sA 33 6 3 0,sA 6 6 3 0,sI 28 y2,sI 27 (x0.Rows.length : Int),sC 26 (cF 3 x0.Rows zF.row),sA 2 2 2 0,sI 1 x1],[(6,(zF.row v8)),(2,(CV.frzRow (zJ.row x0)))]⟩ ?_
        rw [h11]
        exact zHq n x1 r13 v8 r14 y2 x0 er13 er14 h12 cx
       refine tB_ ?_
       refine gA 1 16 0 ?_
       refine te ?_
       obtain rfl := si H
       have H := Ho7
       dsimp only at H
       exact fF H
      have H := zH h11 H
      refine Tr.draws mixed 36 kr ⟨82,0,[sB 68 true,sI 28 y2,sI 27 (x0.Rows.length : Int),sC 26 (cF 3 x0.Rows zF.row),sA 2 2 2 0,sI 1 x1],[(2,(CV.frzRow (zJ.row x0)))]⟩ (fun cx => ?_) ?_
      ·refine mA zr [(0,[]),(1,[2])] 34 [⟨[2],3,33,34⟩] fun cx => ?_
       refine mC zr 2 ?_
       refine vA [.rd,.rd,.rd] (qY n v8.Id 1 99 r9 er9) ?_
       refine fA ?_
       refine mA zr [(3,[]),(4,[])] 31 [⟨[2],3,33,34⟩] fun cx => ?_
       refine sA_ 163678519398 68 ⟨82,0,[sB 37 (!r9),sI 34 v8.Id,sA 33 6 3 0,sI 5 y2,sA 6 6 3 0,sI 28 y2,sI 27 (x0.Rows.length : Int),sC 26 (cF 3 x0.Rows zF.row),sA 2 2 2 0,sI 1 x1],[(6,(zF.row v8)),(2,(CV.frzRow (zJ.row x0)))]⟩ ?_
       rw [h7]
       refine mA zr [(5,[]),(6,[]),(7,[])] 28 [⟨[2],3,33,34⟩] fun cx => ?_
       refine sA_ 1263190147174 68 ⟨82,0,[sB 40 (decide (y2 > 0)),sB 37 false,sI 34 v8.Id,sA 33 6 3 0,sI 5 y2,sA 6 6 3 0,sI 28 y2,sI 27 (x0.Rows.length : Int),sC 26 (cF 3 x0.Rows zF.row),sA 2 2 2 0,sI 1 x1],[(6,(zF.row v8)),(2,(CV.frzRow (zJ.row x0)))]⟩ ?_
       rw [h8]
       refine mA zr [(8,[]),(9,[]),(10,[]),(11,[])] 24 [⟨[],37,41,42⟩,⟨[2],3,33,34⟩] fun cx => ?_
       refine iN zr 12 zF.row ev12 fun cx => ?_
       refine mA zr [(13,[]),(14,[]),(15,[]),(16,[]),(17,[]),(18,[]),(19,[]),(20,[])] 15 [⟨[],3,48,49⟩,⟨[],37,41,42⟩,⟨[2],3,33,34⟩] fun cx => ?_
       refine sA_ 9858247494205510 68 ⟨82,0,[sB 53 (decide (v12.Id ≥ v8.Id)),sI 49 v8.Id,sA 48 6 3 0,sR 42 2 2 0 1 false,sA 41 2 2 0,sI 34 v8.Id,sA 33 6 3 0,sA 6 6 3 0,sI 28 y2,sI 27 (x0.Rows.length : Int),sC 26 (cF 3 x0.Rows zF.row),sA 2 2 2 0,sI 1 x1],[(6,(zF.row v8)),(2,(CV.frzRow (zJ.row x0)))]⟩ ?_
       rw [h11]
       exact zHr n v8 y2 x0 x1 cx
      refine tB_ ?_
      refine gA 1 16 0 ?_
      refine te ?_
      obtain rfl := si H
      have H := Ho7
      dsimp only at H
      exact fF H
     have H := zH h7 H
     refine Tr.draws mixed 36 kr ⟨82,0,[sB 68 true,sI 28 y2,sI 27 (x0.Rows.length : Int),sC 26 (cF 3 x0.Rows zF.row),sA 2 2 2 0,sI 1 x1],[(2,(CV.frzRow (zJ.row x0)))]⟩ (fun cx => ?_) ?_
     ·refine mA zr [(0,[]),(1,[2])] 34 [⟨[2],3,33,34⟩] fun cx => ?_
      refine mC zr 2 ?_
      refine vA [.rd,.rd,.rd] (qY n v8.Id 1 99 r9 er9) ?_
      refine fA ?_
      refine mA zr [(3,[]),(4,[])] 31 [⟨[2],3,33,34⟩] fun cx => ?_
      refine sA_ 163678519398 68 ⟨82,0,[sB 37 (!r9),sI 34 v8.Id,sA 33 6 3 0,sI 5 y2,sA 6 6 3 0,sI 28 y2,sI 27 (x0.Rows.length : Int),sC 26 (cF 3 x0.Rows zF.row),sA 2 2 2 0,sI 1 x1],[(6,(zF.row v8)),(2,(CV.frzRow (zJ.row x0)))]⟩ ?_
      rw [h7]
      refine mA zr [(5,[]),(6,[]),(7,[]),(8,[]),(9,[]),(10,[]),(11,[]),(12,[]),(13,[]),(14,[]),(15,[]),(16,[]),(17,[]),(18,[]),(19,[]),(20,[]),(21,[]),(22,[]),(23,[]),(24,[]),(25,[]),(26,[]),(27,[]),(28,[]),(29,[]),(30,[]),(31,[]),(32,[]),(33,[]),(34,[]),(35,[])] 0 [⟨[2],3,33,34⟩] fun cx => ?_
      exact mE zr [68,28,27,26,2,1] [2]
     refine tB_ ?_
     refine gA 1 16 0 ?_
     refine te ?_
     obtain rfl := si H
     have H := Ho7
     dsimp only at H
     exact fF H
    rintro _ H
    have H : (JH n x0) = some r := H
    unfold JH at H
    refine tS ?_
    refine rA 2 ?_
    refine kF x0.Pv intRow ?_
    refine uA 1 0x3800000000000000004 4 ?_
    obtain ⟨o4,eo4,Ho4⟩ := bs H
    clear H
    refine Tr.mid (ι := Unit) (fun v => ⟨82,0,[],[]⟩) (fun v => zAY n = some r) ?_ ?_
    ·refine tB ?_
     refine Tr.loop (ι := Nat × (Int)) (fun v => ⟨82,0,[sI 73 v.2,sI 72 (x0.Pv.length : Int),sC 71 (cF 1 x0.Pv intRow),sA 2 2 2 0],[(2,(CV.frzRow (zJ.row x0)))]⟩) (fun v => Qf n v.1 x0 v.2 = some o4) (fun v => v.1) (n,0) eo4 (St.sub_of [73,72,71,2] [2] kr) ?_
     rintro ⟨mo4,y3⟩ H
     have H : Qf n mo4 x0 y3 = some o4 := H
     obtain _ | mo4 := mo4
     ·exact nN H
     rw [Qf] at H
     refine gA 1 0x7800000000000000004 4 ?_
     refine tS ?_
     obtain ⟨h4,H⟩ | ⟨h4,H⟩ := bC H
     ·refine nA h4 ?_
      refine Tr.exit ?_
      refine aJ ?_
      obtain rfl := si H
      have H := Ho4
      dsimp only at H
      exact jA () H [] []
     refine tA h4 ?_
     refine tK ?_
     refine tS ?_
     refine tB ?_
     refine tR ?_
     obtain ⟨v5,ev5,H⟩ := bs H
     refine iA intRow ev5 ?_
     refine uA 2 0x3800000000000000104 4 ?_
     refine rA 2 ?_
     obtain ⟨r6,er6,H⟩ := bs H
     refine vA [.rd,.rd] (zKh n x0 v5 r6 er6) ?_
     refine uA 1 0x103800000000000000004 4 ?_
     obtain ⟨h5,H⟩ | ⟨h5,H⟩ := bC H
     ·refine nA h5 ?_
      refine tK ?_
      refine eA 2 0x3800000000000000004 4 ?_
      exact jB mo4 (IntKind.wrap .i64 (y3 + 1)) H [73,72,71,2] [2]
     refine tA h5 ?_
     refine gA 1 16 0 ?_
     refine te ?_
     obtain rfl := si H
     have H := Ho4
     dsimp only at H
     exact fF H
    rintro _ H
    have H : (zAY n) = some r := H
    unfold zAY at H
    refine gA 1 16 0 ?_
    exact te (fT H)
   refine tA h3 ?_
   refine gA 1 16 0 ?_
   exact te (fF H)
  have H := zH h2 H
  refine uA 5 16777222 4 ?_
  refine tB_ ?_
  refine gA 1 16 0 ?_
  exact te (fF H)
 have H := zH h1 H
 refine uA 12 16777222 4 ?_
 refine tB_ ?_
 refine gA 1 16 0 ?_
 exact te (fF H)
def Qu (n : Nat) (x0 : Int) : Option (Bool) :=
  ((qO n x0 0 1000000).bind fun r1 => (some r1))
theorem zAH (n : Nat) (x0 : Int) (r : Bool) (H : Qu n x0 = some r) : zI Try.prog 63 [.val false [.lit (.int .i64 x0)]] [.val false [.lit (.bool r)]] [] := by
 refine cW Try.func63 (fun g d => sl [g 0,g 1] .ret) [.tmp 2] fun cx => ?_
 unfold Qu at H
 refine gA 1 1 0 ?_
 refine rA 1 ?_
 obtain ⟨r1,er1,H⟩ := bs H
 refine vA [.rd,.rd,.rd] (qY n x0 0 1000000 r1 er1) ?_
 refine uA 1 4 0 ?_
 exact te (fJ [(false,[cB r1])] H)
def Yd (n : Nat) (x0 : zA) : Option (Bool) :=
  ((qO n x0.Id 1 99).bind fun r2 => (bif (!r2) then (some false) else (bif (decide ((x0.Name.size : Int) > 10)) then (some false) else ((qO n (x0.Ps.length : Int) 1 6).bind fun r3 => (bif (!r3) then (some false) else ((zAs n x0.F).bind fun r4 => (bif (!r4) then (some false) else ((zAF n x0.V (x0.Ps.length : Int)).bind fun r5 => (bif (!r5) then (some false) else ((Qu n x0.Tk).bind fun r6 => (bif r6 then ((Qu n x0.Pa).bind fun r7 => (bif r7 then ((Qu n x0.Wo).bind fun r8 => (bif r8 then ((Qu n x0.Dr).bind fun r9 => (bif r9 then ((Qu n x0.Ve).bind fun r10 => (some r10)) else (some false))) else (some false))) else (some false))) else (some false))))))))))))
def QS (n : Nat) : Nat → zA → Int → Option ((Unit) ⊕ (Bool))
  | 0,_,_ => none
  | mo11 + 1,x0,y1 => (bif (decide (y1 < (x0.Ps.length : Int))) then ((idx x0.Ps y1).bind fun v12 => ((zBX n v12).bind fun r13 => (bif (!r13) then (some (Sum.inr false)) else (QS n mo11 x0 (IntKind.wrap .i64 (y1 + 1)))))) else (some (Sum.inl ())))
def Qd (n : Nat) (x0 : zA) : Option (Bool) :=
  ((QS n n x0 0).bind fun o => match o with | .inl _ => (Yd n x0) | .inr r => some r)
theorem zEy (n : Nat) (x0 : zA) (r : Bool) (H : Qd n x0 = some r) : zI Try.prog 24 [.val true (CV.frzRow (zA.row x0))] [.val false [.lit (.bool r)]] [] := by
 refine cW Try.func24 (fun g d => sl [g 0,sl [g 1] (.block 0 (.loop (sl [g 2,cn 9 .skip (.exit 0),.block 1 (sl [g 3,g 4] (cn 14 (sl [g 5] .ret) .skip))] (g 6)))),sl [g 7] (cn 47 (sl [g 8] .ret) .skip),g 9] .ret) [.tmp 2] fun cx => ?_
 unfold Qd at H
 refine gA 2 2 2 ?_
 refine tS ?_
 refine rA 2 ?_
 refine kF x0.Ps Pt.row ?_
 refine uA 1 450 2 ?_
 obtain ⟨o11,eo11,Ho11⟩ := bs H
 clear H
 refine Tr.mid (ι := Unit) (fun v => ⟨71,0,[sA 1 1 11 0],[(1,(CV.frzRow (zA.row x0)))]⟩) (fun v => Yd n x0 = some r) ?_ ?_
 ·refine tB ?_
  refine Tr.loop (ι := Nat × (Int)) (fun v => ⟨71,0,[sI 8 v.2,sI 7 (x0.Ps.length : Int),sC 6 (cF 8 x0.Ps Pt.row),sA 1 1 11 0],[(1,(CV.frzRow (zA.row x0)))]⟩) (fun v => QS n v.1 x0 v.2 = some o11) (fun v => v.1) (n,0) eo11 (St.sub_of [8,7,6,1] [1] kr) ?_
  rintro ⟨mo11,y1⟩ H
  have H : QS n mo11 x0 y1 = some o11 := H
  obtain _ | mo11 := mo11
  ·exact nN H
  rw [QS] at H
  refine gA 1 962 2 ?_
  refine tS ?_
  obtain ⟨h10,H⟩ | ⟨h10,H⟩ := bC H
  ·refine nA h10 ?_
   refine Tr.exit ?_
   refine aJ ?_
   obtain rfl := si H
   have H := Ho11
   dsimp only at H
   exact jA () H [1] [1]
  refine tA h10 ?_
  refine tK ?_
  refine tS ?_
  refine tB ?_
  refine tR ?_
  obtain ⟨v12,ev12,H⟩ := bs H
  refine iA Pt.row ev12 ?_
  refine uA 3 466 18 ?_
  refine rA 1 ?_
  obtain ⟨r13,er13,H⟩ := bs H
  refine vA [.rd] (zLM n v12 r13 er13) ?_
  refine uA 1 16834 2 ?_
  obtain ⟨h11,H⟩ | ⟨h11,H⟩ := bC H
  ·refine nA h11 ?_
   refine tK ?_
   refine eA 2 450 2 ?_
   exact jB mo11 (IntKind.wrap .i64 (y1 + 1)) H [8,7,6,1] [1]
  refine tA h11 ?_
  refine gA 1 4 0 ?_
  refine te ?_
  obtain rfl := si H
  have H := Ho11
  dsimp only at H
  exact fF H
 rintro _ H
 have H : (Yd n x0) = some r := H
 unfold Yd at H
 refine tS ?_
 refine rA 2 ?_
 obtain ⟨r2,er2,H⟩ := bs H
 refine vA [.rd,.rd,.rd] (qY n x0.Id 1 99 r2 er2) ?_
 refine lA 2 ?_
 refine sL 1048578 2 ⟨71,0,[sB 20 (!r2),sA 1 1 11 0],[(1,(CV.frzRow (zA.row x0)))]⟩ ?_
 cases h1 : (!r2)
 ·have H := zG h1 H
  refine lA 6 ?_
  refine sL 67108866 2 ⟨71,0,[sB 26 (decide ((x0.Name.size : Int) > 10)),sA 1 1 11 0],[(1,(CV.frzRow (zA.row x0)))]⟩ ?_
  cases h2 : (decide ((x0.Name.size : Int) > 10))
  ·have H := zG h2 H
   refine lA 2 ?_
   refine kF x0.Ps Pt.row ?_
   obtain ⟨r3,er3,H⟩ := bs H
   refine vA [.rd,.rd,.rd] (qY n (x0.Ps.length : Int) 1 6 r3 er3) ?_
   refine lA 3 ?_
   refine sL 8589934594 2 ⟨71,0,[sB 33 (!r3),sA 1 1 11 0],[(1,(CV.frzRow (zA.row x0)))]⟩ ?_
   cases h3 : (!r3)
   ·have H := zG h3 H
    refine lA 2 ?_
    obtain ⟨r4,er4,H⟩ := bs H
    refine vA [.rd] (zKf n x0.F r4 er4) ?_
    refine lA 3 ?_
    refine sL 549755813890 2 ⟨71,0,[sB 39 (!r4),sA 1 1 11 0],[(1,(CV.frzRow (zA.row x0)))]⟩ ?_
    cases h4 : (!r4)
    ·have H := zG h4 H
     refine lA 4 ?_
     refine kF x0.Ps Pt.row ?_
     obtain ⟨r5,er5,H⟩ := bs H
     refine vA [.rd,.rd] (zJn n x0.V (x0.Ps.length : Int) r5 er5) ?_
     refine uA 2 0x800000000002 2 ?_
     obtain ⟨h5,H⟩ | ⟨h5,H⟩ := bC H
     ·refine nA h5 ?_
      refine tK ?_
      refine rA 2 ?_
      obtain ⟨r6,er6,H⟩ := bs H
      refine vA [.rd] (zAH n x0.Tk r6 er6) ?_
      refine lA 1 ?_
      refine sL 0x8000000000002 2 ⟨71,0,[sB 51 r6,sA 1 1 11 0],[(1,(CV.frzRow (zA.row x0)))]⟩ ?_
      cases h6 : r6
      ·have H := zG h6 H
       refine uA 20 4 0 ?_
       exact te (fF H)
      have H := zH h6 H
      refine lA 2 ?_
      obtain ⟨r7,er7,H⟩ := bs H
      refine vA [.rd] (zAH n x0.Pa r7 er7) ?_
      refine lA 2 ?_
      refine sL 72057594037927938 2 ⟨71,0,[sB 56 r7,sA 1 1 11 0],[(1,(CV.frzRow (zA.row x0)))]⟩ ?_
      cases h7 : r7
      ·have H := zG h7 H
       refine uA 15 4 0 ?_
       exact te (fF H)
      have H := zH h7 H
      refine lA 2 ?_
      obtain ⟨r8,er8,H⟩ := bs H
      refine vA [.rd] (zAH n x0.Wo r8 er8) ?_
      refine lA 2 ?_
      refine sL 0x2000000000000002 2 ⟨71,0,[sB 61 r8,sA 1 1 11 0],[(1,(CV.frzRow (zA.row x0)))]⟩ ?_
      cases h8 : r8
      ·have H := zG h8 H
       refine uA 10 4 0 ?_
       exact te (fF H)
      have H := zH h8 H
      refine lA 2 ?_
      obtain ⟨r9,er9,H⟩ := bs H
      refine vA [.rd] (zAH n x0.Dr r9 er9) ?_
      refine lA 2 ?_
      refine sL 0x40000000000000002 2 ⟨71,0,[sB 66 r9,sA 1 1 11 0],[(1,(CV.frzRow (zA.row x0)))]⟩ ?_
      cases h9 : r9
      ·have H := zG h9 H
       refine uA 5 4 0 ?_
       exact te (fF H)
      have H := zH h9 H
      refine lA 2 ?_
      obtain ⟨r10,er10,H⟩ := bs H
      refine vA [.rd] (zAH n x0.Ve r10 er10) ?_
      refine uA 2 4 0 ?_
      exact te (fJ [(false,[cB r10])] H)
     refine tA h5 ?_
     refine gA 1 4 0 ?_
     exact te (fF H)
    have H := zH h4 H
    refine uA 8 0x800000000002 2 ?_
    refine tB_ ?_
    refine gA 1 4 0 ?_
    exact te (fF H)
   have H := zH h3 H
   refine uA 14 0x800000000002 2 ?_
   refine tB_ ?_
   refine gA 1 4 0 ?_
   exact te (fF H)
  have H := zH h2 H
  refine uA 21 0x800000000002 2 ?_
  refine tB_ ?_
  refine gA 1 4 0 ?_
  exact te (fF H)
 have H := zH h1 H
 refine uA 27 0x800000000002 2 ?_
 refine tB_ ?_
 refine gA 1 4 0 ?_
 exact te (fF H)
def zBa (n : Nat) : Option (Bool) :=
  (some false)
def Zk (n : Nat) : Nat → (List Link) → Int → Int → Int → Option ((Unit) ⊕ (Bool))
  | 0,_,_,_,_ => none
  | mo2 + 1,x0,x1,x2,y1 => (bif (decide (y1 < (x0.length : Int))) then ((idx x0 y1).bind fun v3 => (bif (v3.A == x1) then (bif (v3.P == x2) then (some (Sum.inr true)) else (bif (v3.B == x1) then (bif (v3.Q == x2) then (some (Sum.inr true)) else (Zk n mo2 x0 x1 x2 (IntKind.wrap .i64 (y1 + 1)))) else (Zk n mo2 x0 x1 x2 (IntKind.wrap .i64 (y1 + 1))))) else (bif (v3.B == x1) then (bif (v3.Q == x2) then (some (Sum.inr true)) else (Zk n mo2 x0 x1 x2 (IntKind.wrap .i64 (y1 + 1)))) else (Zk n mo2 x0 x1 x2 (IntKind.wrap .i64 (y1 + 1)))))) else (some (Sum.inl ())))
def Je (n : Nat) (x0 : (List Link)) (x1 : Int) (x2 : Int) : Option (Bool) :=
  ((Zk n n x0 x1 x2 0).bind fun o => match o with | .inl _ => (zBa n) | .inr r => some r)
theorem zDl (n : Nat) (x0 : (List Link)) (x1 : Int) (x2 : Int) (r : Bool) (H : Je n x0 x1 x2 = some r) : zI Try.prog 128 [.val false [.sl false 4 (CV.frzEs (x0.map Link.row))],.val false [.lit (.int .i64 x1)],.val false [.lit (.int .i64 x2)]] [.val false [.lit (.bool r)]] [] := by
 refine cW Try.func128 (fun g d => sl [g 0,sl [g 1] (.block 0 (.loop (sl [g 2,cn 12 .skip (.exit 0),.block 1 (sl [g 3,g 4] (cn 36 (sl [g 5] .ret) .skip))] (g 6)))),g 7] .ret) [.tmp 6] fun cx => ?_
 unfold Je at H
 refine gA 1 7 0 ?_
 refine tS ?_
 refine rA 1 ?_
 refine kF x0 Link.row ?_
 refine uA 1 3590 0 ?_
 obtain ⟨o2,eo2,Ho2⟩ := bs H
 clear H
 refine Tr.mid (ι := Unit) (fun v => ⟨38,0,[],[]⟩) (fun v => zBa n = some r) ?_ ?_
 ·refine tB ?_
  refine Tr.loop (ι := Nat × (Int)) (fun v => ⟨38,0,[sI 11 v.2,sI 10 (x0.length : Int),sC 9 (cF 4 x0 Link.row),sI 1 x1,sI 2 x2],[]⟩) (fun v => Zk n v.1 x0 x1 x2 v.2 = some o2) (fun v => v.1) (n,0) eo2 (St.sub_of [11,10,9,1,2] [] kr) ?_
  rintro ⟨mo2,y1⟩ H
  have H : Zk n mo2 x0 x1 x2 y1 = some o2 := H
  obtain _ | mo2 := mo2
  ·exact nN H
  rw [Zk] at H
  refine gA 1 7686 0 ?_
  refine tS ?_
  obtain ⟨h1,H⟩ | ⟨h1,H⟩ := bC H
  ·refine nA h1 ?_
   refine Tr.exit ?_
   refine aJ ?_
   obtain rfl := si H
   have H := Ho2
   dsimp only at H
   exact jA () H [] []
  refine tA h1 ?_
  refine tK ?_
  refine tS ?_
  refine tB ?_
  refine tR ?_
  obtain ⟨v3,ev3,H⟩ := bs H
  refine iA Link.row ev3 ?_
  refine uA 3 3846 256 ?_
  refine rA 5 ?_
  refine sL 528134 256 ⟨38,0,[sB 19 (v3.A == x1),sA 8 8 4 0,sI 11 y1,sI 10 (x0.length : Int),sC 9 (cF 4 x0 Link.row),sI 1 x1,sI 2 x2],[(8,(Link.row v3))]⟩ ?_
  cases h2 : (v3.A == x1)
  ·have H := zG h2 H
   refine lA 11 ?_
   refine sL 1107300102 256 ⟨38,0,[sB 30 (v3.B == x1),sB 25 false,sA 8 8 4 0,sI 11 y1,sI 10 (x0.length : Int),sC 9 (cF 4 x0 Link.row),sI 1 x1,sI 2 x2],[(8,(Link.row v3))]⟩ ?_
   cases h3 : (v3.B == x1)
   ·have H := zG h3 H
    refine uA 6 68719480326 0 ?_
    refine nB_ ?_
    refine tK ?_
    refine eA 2 3590 0 ?_
    exact jB mo2 (IntKind.wrap .i64 (y1 + 1)) H [11,10,9,1,2] []
   have H := zH h3 H
   refine uA 6 68719480326 0 ?_
   obtain ⟨h4,H⟩ | ⟨h4,H⟩ := bC H
   ·refine nA h4 ?_
    refine tK ?_
    refine eA 2 3590 0 ?_
    exact jB mo2 (IntKind.wrap .i64 (y1 + 1)) H [11,10,9,1,2] []
   refine tA h4 ?_
   refine gA 1 64 0 ?_
   refine te ?_
   obtain rfl := si H
   have H := Ho2
   dsimp only at H
   exact fT H
  have H := zH h2 H
  refine lA 6 ?_
  refine sL 33558278 256 ⟨38,0,[sB 25 (v3.P == x2),sA 8 8 4 0,sI 11 y1,sI 10 (x0.length : Int),sC 9 (cF 4 x0 Link.row),sI 1 x1,sI 2 x2],[(8,(Link.row v3))]⟩ ?_
  cases h5 : (v3.P == x2)
  ·have H := zG h5 H
   refine lA 5 ?_
   refine sL 1107300102 256 ⟨38,0,[sB 30 (v3.B == x1),sB 25 false,sA 8 8 4 0,sI 11 y1,sI 10 (x0.length : Int),sC 9 (cF 4 x0 Link.row),sI 1 x1,sI 2 x2],[(8,(Link.row v3))]⟩ ?_
   cases h6 : (v3.B == x1)
   ·have H := zG h6 H
    refine uA 6 68719480326 0 ?_
    refine nB_ ?_
    refine tK ?_
    refine eA 2 3590 0 ?_
    exact jB mo2 (IntKind.wrap .i64 (y1 + 1)) H [11,10,9,1,2] []
   have H := zH h6 H
   refine uA 6 68719480326 0 ?_
   obtain ⟨h7,H⟩ | ⟨h7,H⟩ := bC H
   ·refine nA h7 ?_
    refine tK ?_
    refine eA 2 3590 0 ?_
    exact jB mo2 (IntKind.wrap .i64 (y1 + 1)) H [11,10,9,1,2] []
   refine tA h7 ?_
   refine gA 1 64 0 ?_
   refine te ?_
   obtain rfl := si H
   have H := Ho2
   dsimp only at H
   exact fT H
  have H := zH h5 H
  refine uA 11 68719480326 0 ?_
  refine tB_ ?_
  refine gA 1 64 0 ?_
  refine te ?_
  obtain rfl := si H
  have H := Ho2
  dsimp only at H
  exact fT H
 rintro _ H
 have H : (zBa n) = some r := H
 unfold zBa at H
 refine gA 1 64 0 ?_
 exact te (fF H)
def ZG (n : Nat) (x0 : Net) (x1 : Int) (x2 : Int) : Option (Pt × Bool) :=
  ((qO n x1 0 (IntKind.wrap .i64 ((x0.Bs.length : Int) - 1))).bind fun r1 => (bif (!r1) then (some ((⟨false,0,false,(⟨0,0,0,0,0⟩ : Vec)⟩ : Pt),false)) else ((idx x0.Bs x1).bind fun v2 => ((qO n x2 0 (IntKind.wrap .i64 ((v2.Ps.length : Int) - 1))).bind fun r3 => (bif (!r3) then (some ((⟨false,0,false,(⟨0,0,0,0,0⟩ : Vec)⟩ : Pt),false)) else ((idx x0.Bs x1).bind fun v4 => ((idx v4.Ps x2).bind fun v5 => (some (v5,true)))))))))
theorem Y7 (n : Nat) (x0 : Net) (x1 : Int) (x2 : Int) (r : Pt × Bool) (H : ZG n x0 x1 x2 = some r) : zI Try.prog 130 [.val true (CV.frzRow (Net.row x0)),.val false [.lit (.int .i64 x1)],.val false [.lit (.int .i64 x2)]] [.val true (Pt.row r.1),.val false [.lit (.bool r.2)]] [] := by
 refine cW Try.func130 (fun g d => sl [g 0,sl [g 1] (cn 27 (sl [g 2] .ret) .skip),g 3] .ret) [.cell 6 55,.tmp 7] fun cx => ?_
 unfold ZG at H
 refine gA 3 78 72 ?_
 refine tS ?_
 refine rA 3 ?_
 refine kF x0.Bs zA.row ?_
 refine lA 1 ?_
 obtain ⟨r1,er1,H⟩ := bs H
 refine vA [.rd,.rd,.rd] (qY n x1 0 (IntKind.wrap .i64 ((x0.Bs.length : Int) - 1)) r1 er1) ?_
 refine lA 2 ?_
 refine sL 32846 72 ⟨38,0,[sB 15 (!r1),sA 6 6 8 0,sA 3 3 3 0,sI 1 x1,sI 2 x2],[(6,[cB false,cI 0,cB false,cI 0,cI 0,cI 0,cI 0,cI 0]),(3,(CV.frzRow (Net.row x0)))]⟩ ?_
 cases h1 : (!r1)
 ·have H := zG h1 H
  refine lA 4 ?_
  obtain ⟨v2,ev2,H⟩ := bs H
  refine iA zA.row ev2 ?_
  refine lA 2 ?_
  refine kF v2.Ps Pt.row ?_
  refine lA 1 ?_
  obtain ⟨r3,er3,H⟩ := bs H
  refine vA [.rd,.rd,.rd] (qY n x2 0 (IntKind.wrap .i64 ((v2.Ps.length : Int) - 1)) r3 er3) ?_
  refine uA 2 134217806 72 ?_
  obtain ⟨h2,H⟩ | ⟨h2,H⟩ := bC H
  ·refine nA h2 ?_
   refine tK ?_
   refine rA 3 ?_
   obtain ⟨v4,ev4,H⟩ := bs H
   refine iA zA.row ev4 ?_
   refine lA 3 ?_
   obtain ⟨v5,ev5,H⟩ := bs H
   refine iA Pt.row ev5 ?_
   refine uA 3 192 64 ?_
   exact te (fJ [(true,(Pt.row v5)),(false,[cB true])] H)
  refine tA h2 ?_
  refine gA 3 192 64 ?_
  exact te (fJ [(true,[cB false,cI 0,cB false,cI 0,cI 0,cI 0,cI 0,cI 0]),(false,[cB false])] H)
 have H := zH h1 H
 refine uA 12 134217806 72 ?_
 refine tB_ ?_
 refine gA 3 192 64 ?_
 exact te (fJ [(true,[cB false,cI 0,cB false,cI 0,cI 0,cI 0,cI 0,cI 0]),(false,[cB false])] H)
end Go.Proofs.Ytajadnlejdpceaa.Tw
