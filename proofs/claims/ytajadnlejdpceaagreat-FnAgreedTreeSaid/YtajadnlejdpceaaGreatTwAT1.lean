import Derived.Test.YtajadnlejdpceaaGreatProg
import Derived.Test.YtajadnlejdpceaaGreatTlRule
import Derived.Test.YtajadnlejdpceaaGreatTlU14
import Derived.Test.YtajadnlejdpceaaGreatTwAT0
import Derived.WalkKit
set_option linter.unusedVariables false
set_option linter.unusedSimpArgs false
set_option maxRecDepth 100000
set_option maxHeartbeats 1000000
namespace Go.Proofs.YtajadnlejdpceaaGreat.Tw
open Go Go.TL Go.Proofs
def QX (n : Nat) (x0 : zA) (x1 : Int) (x2 : Bool) : Option (zA) :=
  ((QY n x0).bind fun r1 => ((Yl n x0 x1).bind fun r2 => (bif (!r2) then (some r1) else ((idx x0.Ps x1).bind fun v3 => ((idx r1.Ps x1).bind fun v4 => ((q4 n (⟨r1.Id,r1.Name,(r1.Ps.set (x1.toNat) (⟨x2,v3.Co,false,(⟨0,0,0,0,0⟩ : Vec)⟩ : Pt)),r1.F,r1.V,r1.Tk,r1.Pa,r1.Wo,r1.Dr,r1.Ve⟩ : zA)).bind fun r5 => (some r5)))))))
def zOS : Tab := ⟨13,[0,1,0,0,0,16,0,96,128,256,520,2047,4095],[0,1,0,0,0,16,0,96,128,256,520,6,3072],[0,1,0,0,0,16,0,112,240,496,1016,2047,4095]⟩
theorem zFL : za (rg Tryz.f20 4) zOS = true := kr
theorem zEE (n : Nat) (x0 : zA) (x1 : Int) (x2 : Bool) (r : zA) (H : QX n x0 x1 x2 = some r) : zH Tryz.prog 20 [.val true (fR (zA.row x0)),.val false [.lit (.int .i64 x1)],.val false [.lit (.bool x2)]] [.val true (zA.row r)] [] := by
 refine cW Tryz.func20 (fun g d => sl [g 0,g 1,sl [g 2] (cn 13 (sl [g 3] .ret) .skip),d 4,g 5] .ret) [.cell 6 31] fun cx=>?_
 unfold QX at H
 refine gA 2 78 72<|rA 1<|bE H fun r1 er1 H=> vA [.rd] (zCI n x0 r1 er1)<|uA 2 206 200<|tS<|rA 2<|bE H fun r2 er2 H=> vA [.rd,.rd] (zFt n x0 x1 r2 er2)<|uA 1 8398 200 ?_
 obtain ⟨h1,H⟩ | ⟨h1,H⟩ := bC H
 ·refine nA h1<|tK<|bE H fun v3 ev3 H=> bE H fun v4 ev4 H=> Tr.draws mixed 13 kr ⟨29,0,[sA 7 7 11 0,sA 6 6 11 0],[(7,[cI r1.Id,cS r1.Name,cL 8 (r1.Ps.set (x1.toNat) (⟨x2,v3.Co,false,(⟨0,0,0,0,0⟩ : Vec)⟩ : Pt)) Pt.row,cL 5 r1.F zB.row,cL 3 r1.V.Rows zE.row,cL 1 r1.V.Pv intRow,cI r1.Tk,cI r1.Pa,cI r1.Wo,cI r1.Dr,cI r1.Ve]),(6,[cI 0,cS (⟨#[]⟩ : ByteArray),cL 8 ([] : List Pt) Pt.row,cL 5 ([] : List zB) zB.row,cL 3 ([] : List zE) zE.row,cL 1 ([] : List Int) intRow,cI 0,cI 0,cI 0,cI 0,cI 0])]⟩ (fun cx=>?_) ?_
  ·exact mA zFL [(0,[]),(1,[12]),(2,[]),(3,[]),(4,[]),(5,[10,12]),(6,[])] 6 [⟨[10,12],24,19,20⟩,⟨[12],24,15,16⟩] fun cx=>iN zFL 7 Pt.row ev3 fun cx=>mA zFL [(8,[]),(9,[])] 3 [⟨[10,12],24,19,20⟩,⟨[12],24,15,16⟩] fun cx=>mC zFL 10<|lA 1<|fA<|oN zFL 11 Pt.row ev4 fun cx=>mC zFL 12<|LAt.storeB tOk (t := 100) (ty := 0) (ad := (.tmp 26)) (x := (.tmp 25)) (g := none) (tI 100) true [cB x2,cI v3.Co,cB false,cI 0,cI 0,cI 0,cI 0,cI 0] 7 2 (x1.toNat) 8 0 8 r1.Ps Pt.row v4 (⟨x2,v3.Co,false,(⟨0,0,0,0,0⟩ : Vec)⟩ : Pt) kr kr kr kr kr kr kr kr (zO ev4).2 kr kr kr kr<|fA<|mE zFL [7,6] [7,6]
  exact rA 1<|bE H fun r5 er5 H=> vA [.own] (zCj n (⟨r1.Id,r1.Name,(r1.Ps.set (x1.toNat) (⟨x2,v3.Co,false,(⟨0,0,0,0,0⟩ : Vec)⟩ : Pt)),r1.F,r1.V,r1.Tk,r1.Pa,r1.Wo,r1.Dr,r1.Ve⟩ : zA) r5 er5)<|uA 1 64 64<|te (fJ [(true,(zA.row r5))] H)
 exact tA h1<|gA 2 64 64<|te (fJ [(true,(zA.row r1))] H)
def zA6 (n : Nat) (x2 : (List Link)) (y8 : (List zA)) : Option (Net) :=
  (some (⟨y8,(([] : List Link) ++ x2),([] : List Say)⟩ : Net))
def Jk (n : Nat) (k : (Int × (List zA) → Option (((List zA)) ⊕ (Net)))) (y6 : Int) (y12 : (List zA)) : Option (((List zA)) ⊕ (Net)) :=
  (k ((IntKind.wrap .i64 (y6 + 1)),y12))
def QD (n : Nat) : Nat → Int → Int → Int → (List zA) → Option (((List zA)) ⊕ (Net))
  | 0,_,_,_,_ => none
  | mo13 + 1,x1,y6,y10,y11 => (bif (decide (y10 < x1)) then ((idx y11 y6).bind fun v14 => ((QX n v14 y10 true).bind fun r15 => (QD n mo13 x1 y6 (IntKind.wrap .i64 (y10 + 1)) (y11.set (y6.toNat) r15)))) else (some (Sum.inl y11)))
def Ze (n : Nat) : Nat → Int → Int → (List zA) → Option (((List zA)) ⊕ (Net))
  | 0,_,_,_ => none
  | mo9 + 1,x1,y6,y7 => (bif (decide (y6 < (y7.length : Int))) then ((QD n n x1 y6 0 y7).bind fun o => match o with | .inl y12 => (Jk n (fun v => Ze n mo9 x1 v.1 v.2) y6 y12) | .inr r => some (Sum.inr r)) else (some (Sum.inl y7)))
def Jj (n : Nat) (x1 : Int) (x2 : (List Link)) (y4 : (List zA)) : Option (Net) :=
  ((Zv n (⟨y4,(([] : List Link) ++ x2),([] : List Say)⟩ : Net)).bind fun r5 => (bif (!r5) then (some (⟨([] : List zA),([] : List Link),([] : List Say)⟩ : Net)) else ((Ze n n x1 0 y4).bind fun o => match o with | .inl y8 => (zA6 n x2 y8) | .inr r => some r)))
def Zf (n : Nat) : Nat → (List Int) → Int → Int → (List zA) → Option (((List zA)) ⊕ (Net))
  | 0,_,_,_,_ => none
  | mo16 + 1,x0,x1,y2,y3 => (bif (decide (y2 < (x0.length : Int))) then ((idx x0 y2).bind fun v17 => ((Zp n v17 x1).bind fun r18 => (bif (decide (y3.length + [r18].length ≤ 268435456)) then (Zf n mo16 x0 x1 (IntKind.wrap .i64 (y2 + 1)) (y3 ++ [r18])) else none))) else (some (Sum.inl y3)))
def zAo (n : Nat) (x0 : (List Int)) (x1 : Int) (x2 : (List Link)) : Option (Net) :=
  (bif (decide (([] : List Link).length + x2.length ≤ 268435456)) then ((Zf n n x0 x1 0 ([] : List zA)).bind fun o => match o with | .inl y4 => (Jj n x1 x2 y4) | .inr r => some r) else none)
def zOV : Tab := ⟨12,[0,1,0,0,12,16,0,96,128,386,1023,2047],[0,1,0,0,12,16,0,96,128,258,0,1536],[0,1,0,0,12,28,0,124,252,511,1023,2047]⟩
theorem zDj : za (rg Tryz.f46 5) zOV = true := kr
def zOB : Tab := ⟨12,[0,1,0,0,8,0,48,64,0,384,1023,2047],[0,1,0,0,8,0,48,64,0,384,6,1536],[0,1,0,0,8,0,56,120,0,504,1023,2047]⟩
theorem zC9 : za (rg Tryz.f46 14) zOB = true := kr
theorem zKv (n : Nat) (x0 : (List Int)) (x1 : Int) (x2 : (List Link)) (r : Net) (H : zAo n x0 x1 x2 = some r) : zH Tryz.prog 46 [.val false [.sl false 1 (CV.frzEs (x0.map intRow))],.val false [.lit (.int .i64 x1)],.val false [.sl false 4 (CV.frzEs (x2.map Link.row))]] [.val true (Net.row r)] [] := by
 refine cW Tryz.func46 (fun g d => sl [g 0,g 1,sl [g 2] (.block 0 (.loop (sl [sl [g 3] (cn 18 .skip (.exit 0)),.block 1 (d 5)] (g 4)))),sl [g 6] (cn 34 (sl [g 7] .ret) .skip),sl [g 8] (.block 2 (.loop (sl [sl [g 9] (cn 40 .skip (.exit 2)),.block 3 (sl [g 11] (.block 4 (.loop (sl [sl [g 12] (cn 45 .skip (.exit 4)),.block 5 (d 14)] (g 13)))))] (g 10)))),g 15] .ret) [.cell 6 53] fun cx=>?_
 unfold zAo at H
 refine gA 1 71 64<|rA 2<|gE H fun hg1 H=> pD Link.row hg1<|uA 3 195 192<|tS<|gA 1 451 192 ?_
 obtain ⟨o16,eo16,Ho16⟩ := bs H
 clear H
 refine Tr.mid (ι := (List zA)) (fun v => ⟨60,0,[sA 7 7 3 0,sA 6 6 3 0,sI 1 x1],[(7,[cL 11 v zA.row,cL 4 (([] : List Link) ++ x2) Link.row,cL 7 ([] : List Say) Say.row]),(6,[cL 11 ([] : List zA) zA.row,cL 4 ([] : List Link) Link.row,cL 7 ([] : List Say) Say.row])]⟩) (fun v => Jj n x1 x2 v = some r) ?_ ?_
 ·refine tB<|Tr.loop (ι := Nat × (Int × (List zA))) (fun v => ⟨60,0,[sI 8 v.2.1,sA 7 7 3 0,sA 6 6 3 0,sC 0 (cF 1 x0 intRow),sI 1 x1],[(7,[cL 11 v.2.2 zA.row,cL 4 (([] : List Link) ++ x2) Link.row,cL 7 ([] : List Say) Say.row]),(6,[cL 11 ([] : List zA) zA.row,cL 4 ([] : List Link) Link.row,cL 7 ([] : List Say) Say.row])]⟩) (fun v => Zf n v.1 x0 x1 v.2.1 v.2.2 = some o16) (fun v => v.1) (n,(0,([] : List zA))) eo16 (St.sub_of [8,7,6,0,1] [7,6] kr) ?_
  rintro ⟨mo16,y2,y3⟩ H
  have H : Zf n mo16 x0 x1 y2 y3 = some o16 := H
  obtain _ | mo16 := mo16
  ·exact nN H
  rw [Zf] at H
  refine tS<|rA 2<|kF x0 intRow<|uA 1 262595 192 ?_
  obtain ⟨h4,H⟩ | ⟨h4,H⟩ := bC H
  ·refine nA h4<|Tr.exit<|aJ ?_
   obtain rfl := si H
   have H := Ho16
   dsimp only at H
   exact jA y3 H [7,6,1] [7,6]
  refine tA h4<|tK<|tS<|tB<|bE H fun v17 ev17 H=> bE H fun r18 er18 H=> gE H fun hg19 H=> Tr.draw mixed 12 kr ⟨60,0,[sI 8 y2,sA 7 7 3 0,sA 6 6 3 0,sC 0 (cF 1 x0 intRow),sI 1 x1],[(7,[cL 11 (y3 ++ [r18]) zA.row,cL 4 (([] : List Link) ++ x2) Link.row,cL 7 ([] : List Say) Say.row]),(6,[cL 11 ([] : List zA) zA.row,cL 4 ([] : List Link) Link.row,cL 7 ([] : List Say) Say.row])]⟩ (fun cx=>?_) ?_
  ·exact mA zDj [(0,[]),(1,[9,11]),(2,[]),(3,[])] 8 [⟨[9,11],49,21,22⟩] fun cx=>iN zDj 4 intRow ev17 fun cx=>mA zDj [(5,[]),(6,[])] 5 [⟨[9,11],49,21,22⟩] fun cx=>mC zDj 7<|vA [.rd,.rd] (zIs n v17 x1 r18 er18)<|fA<|mC zDj 8<|lA 1<|fA<|mC zDj 9<|LAt.appMU tOk (t := 49) (ty := 49) (e := 31) (x := (.tmp 22)) (y := (.tmp 29)) (d := 30) (g := none) (tI 31) zA.row y3 [r18] kr kr kr kr kr kr kr kr kr kr hg19<|fA<|mA zDj [(10,[])] 1 [⟨[9,11],49,21,22⟩] fun cx=>mC zDj 11<|lA 1<|fA<|mE zDj [8,7,6,0,1] [7,6]
  exact eA 3 451 192<|jB mo16 ((wI (y2 + 1)),(y3 ++ [r18])) H [8,7,6,0,1] [7,6]
 rintro y4 H
 have H : (Jj n x1 x2 y4) = some r := H
 unfold Jj at H
 refine tS<|rA 1<|bE H fun r5 er5 H=> vB [.rd] [.box 7] (zIK n (⟨y4,(([] : List Link) ++ x2),([] : List Say)⟩ : Net) r5 er5) (.inr (zk (zI zN qF) qG))<|uA 1 17179869378 192 ?_
 obtain ⟨h1,H⟩ | ⟨h1,H⟩ := bC H
 ·refine nA h1<|tK<|tS<|gA 1 706 192 ?_
  obtain ⟨o9,eo9,Ho9⟩ := bs H
  clear H
  refine Tr.mid (ι := (List zA)) (fun v => ⟨60,0,[sA 7 7 3 0,sA 6 6 3 0],[(7,[cL 11 v zA.row,cL 4 (([] : List Link) ++ x2) Link.row,cL 7 ([] : List Say) Say.row]),(6,[cL 11 ([] : List zA) zA.row,cL 4 ([] : List Link) Link.row,cL 7 ([] : List Say) Say.row])]⟩) (fun v => zA6 n x2 v = some r) ?_ ?_
  ·refine tB<|Tr.loop (ι := Nat × (Int × (List zA))) (fun v => ⟨60,0,[sI 9 v.2.1,sA 7 7 3 0,sA 6 6 3 0,sI 1 x1],[(7,[cL 11 v.2.2 zA.row,cL 4 (([] : List Link) ++ x2) Link.row,cL 7 ([] : List Say) Say.row]),(6,[cL 11 ([] : List zA) zA.row,cL 4 ([] : List Link) Link.row,cL 7 ([] : List Say) Say.row])]⟩) (fun v => Ze n v.1 x1 v.2.1 v.2.2 = some o9) (fun v => v.1) (n,(0,y4)) eo9 (St.sub_of [9,7,6,1] [7,6] kr) ?_
   rintro ⟨mo9,y6,y7⟩ H
   have H : Ze n mo9 x1 y6 y7 = some o9 := H
   obtain _ | mo9 := mo9
   ·exact nN H
   rw [Ze] at H
   refine tS<|rA 3<|kO y7 zA.row<|uA 1 1099511628482 192 ?_
   obtain ⟨h2,H⟩ | ⟨h2,H⟩ := bC H
   ·refine nA h2<|Tr.exit<|aJ ?_
    obtain rfl := si H
    have H := Ho9
    dsimp only at H
    exact jA y7 H [7,6] [7,6]
   refine tA h2<|tK<|tS<|tB<|gA 1 1730 192 ?_
   obtain ⟨o13,eo13,Ho13⟩ := bs H
   clear H
   refine Tr.mid (ι := (List zA)) (fun v => ⟨60,0,[sI 9 y6,sA 7 7 3 0,sA 6 6 3 0,sI 1 x1],[(7,[cL 11 v zA.row,cL 4 (([] : List Link) ++ x2) Link.row,cL 7 ([] : List Say) Say.row]),(6,[cL 11 ([] : List zA) zA.row,cL 4 ([] : List Link) Link.row,cL 7 ([] : List Say) Say.row])]⟩) (fun v => Jk n (fun v => Ze n mo9 x1 v.1 v.2) y6 v = some o9) ?_ ?_
   ·refine tB<|Tr.loop (ι := Nat × (Int × (List zA))) (fun v => ⟨60,0,[sI 10 v.2.1,sI 9 y6,sA 7 7 3 0,sA 6 6 3 0,sI 1 x1],[(7,[cL 11 v.2.2 zA.row,cL 4 (([] : List Link) ++ x2) Link.row,cL 7 ([] : List Say) Say.row]),(6,[cL 11 ([] : List zA) zA.row,cL 4 ([] : List Link) Link.row,cL 7 ([] : List Say) Say.row])]⟩) (fun v => QD n v.1 x1 y6 v.2.1 v.2.2 = some o13) (fun v => v.1) (n,(0,y7)) eo13 (St.sub_of [10,9,7,6,1] [7,6] kr) ?_
    rintro ⟨mo13,y10,y11⟩ H
    have H : QD n mo13 x1 y6 y10 y11 = some o13 := H
    obtain _ | mo13 := mo13
    ·exact nN H
    rw [QD] at H
    refine tS<|gA 3 35184372090562 192 ?_
    obtain ⟨h3,H⟩ | ⟨h3,H⟩ := bC H
    ·refine nA h3<|Tr.exit<|aJ ?_
     obtain rfl := si H
     have H := Ho13
     dsimp only at H
     exact jA y11 H [9,7,6,1] [7,6]
    refine tA h3<|tK<|tS<|tB<|bE H fun v14 ev14 H=> bE H fun r15 er15 H=> Tr.draw mixed 12 kr ⟨60,0,[sI 10 y10,sI 9 y6,sA 7 7 3 0,sA 6 6 3 0,sI 1 x1],[(7,[cL 11 (y11.set (y6.toNat) r15) zA.row,cL 4 (([] : List Link) ++ x2) Link.row,cL 7 ([] : List Say) Say.row]),(6,[cL 11 ([] : List zA) zA.row,cL 4 ([] : List Link) Link.row,cL 7 ([] : List Say) Say.row])]⟩ (fun cx=>?_) ?_
    ·refine mA zC9 [(0,[]),(1,[11]),(2,[]),(3,[]),(4,[9,11]),(5,[])] 6 [⟨[9,11],49,51,52⟩,⟨[11],49,48,49⟩] fun cx=>oN zC9 6 zA.row ev14 fun cx=>mA zC9 [(8,[])] 4 [⟨[9,11],49,51,52⟩,⟨[11],49,48,49⟩] fun cx=>mC zC9 7<|dE (tI 31) (.box 7) [(0,0),(0,(y6.toNat))] 11 0 [.sl true 3 [[cL 11 y11 zA.row,cL 4 (([] : List Link) ++ x2) Link.row,cL 7 ([] : List Say) Say.row]]] (zA.row v14) (zy rfl (zO ev14).2)<|fA<|mC zC9 9<|LAt.callO tOk [.rd,.rd,.rd] (f := 20) (av := #[.tmp 55,.tmp 56,.const (.bool true)]) (ats := #[31,3,4]) (d := (some 57)) (ty := 31) (g := none) [(55,zA.row v14)] none kr kr kr [.box 7] (zEE n v14 y10 true r15 er15) (zCf (row := [.sl true 3 [[cL 11 y11 zA.row,cL 4 (([] : List Link) ++ x2) Link.row,cL 7 ([] : List Say) Say.row]]]) (q := [(0,0),(0,(y6.toNat))]) kr (zy rfl (zO ev14).2) zDw) kr zDv (.inr (And.intro (zk (zA.row_mine _) qG) zCg))<|fA<|oN zC9 10 zA.row ev14 fun cx=>sA_ 0x61b0000000006c2 192 ⟨60,0,[(58,.adr (.box 7) [(0,0),(0,(y6.toNat))] 11 0),sV 57 (zA.row r15),sR 52 7 3 0 1 false,sA 51 7 3 0,sR 49 7 3 0 1 false,sA 48 7 3 0,sI 10 y10,sI 9 y6,sA 7 7 3 0,sA 6 6 3 0,sI 1 x1],[(7,[cL 11 y11 zA.row,cL 4 (([] : List Link) ++ x2) Link.row,cL 7 ([] : List Say) Say.row]),(6,[cL 11 ([] : List zA) zA.row,cL 4 ([] : List Link) Link.row,cL 7 ([] : List Say) Say.row])]⟩<|mC zC9 11<|LAt.storeB tOk (t := 31) (ty := 0) (ad := (.tmp 58)) (x := (.tmp 57)) (g := none) (tI 31) true (zA.row r15) 7 0 (y6.toNat) 11 0 11 y11 zA.row v14 r15 kr kr kr kr kr kr kr kr (zO ev14).2 kr kr kr kr ?_
     exact fA<|mE zC9 [10,9,7,6,1] [7,6]
    exact eA 3 1730 192<|jB mo13 ((wI (y10 + 1)),(y11.set (y6.toNat) r15)) H [10,9,7,6,1] [7,6]
   rintro y12 H
   have H : (Jk n (fun v => Ze n mo9 x1 v.1 v.2) y6 y12) = some o9 := H
   unfold Jk at H
   exact eA 3 706 192<|jB mo9 ((wI (y6 + 1)),y12) H [9,7,6,1] [7,6]
  rintro y8 H
  have H : (zA6 n x2 y8) = some r := H
  unfold zA6 at H
  exact gA 2 64 64<|te (fJ [(true,[cL 11 y8 zA.row,cL 4 (([] : List Link) ++ x2) Link.row,cL 7 ([] : List Say) Say.row])] H)
 exact tA h1<|gA 2 64 64<|te (fJ [(true,[cL 11 ([] : List zA) zA.row,cL 4 ([] : List Link) Link.row,cL 7 ([] : List Say) Say.row])] H)
def Z3 (n : Nat) (x0 : Src) (x1 : (List Int)) : Option (Int × Src) :=
  ((zp n x0 (x1.length : Int)).bind fun r1 => ((idx x1 r1.1).bind fun v2 => (some (v2,r1.2))))
noncomputable abbrev G78 (k : Nat) := Rg Tryz.f78 k
theorem zBB (n : Nat) (x0 : Src) (x1 : (List Int)) (r : Int × Src) (H : Z3 n x0 x1 = some r) : zH Tryz.prog 78 [.ptr (fR (Src.row x0)),.val false [.sl false 1 (CV.frzEs (x1.map intRow))]] [.val false [.lit (.int .i64 r.1)]] [(0,(fR (Src.row r.2)))] := by
 refine zH.of_body tOk Tryz.func78 rfl (c := (.seq (G78 0) (.seq (G78 1) .ret))) kr (Nat.le_of_ble_eq_true kr) 1 (rs := [.tmp 4]) rfl [] .nil [(false,[.lit (.int .i64 r.1)])] [] [(0,(fR (Src.row r.2)))] fun cx=>?_
 show Tr _ _ _ ⟨12,1,[sA 0 0 3 0,sC 1 (cF 1 x1 intRow)],[(0,(fR (Src.row x0)))]⟩ _
 unfold Z3 at H
 exact gA 1 3 1<|rA 3<|kF x1 intRow<|bE H fun r1 er1 H=> vL [.lend,.rd] (qv n x0 (x1.length : Int) r1 er1)<|bE H fun v2 ev2 H=> iA intRow ev2<|uA 2 17 1<|te<|fY [(false,[cI v2])] [(0,(fR (Src.row r1.2)))] H
def Qi (n : Nat) (r5 : Int × Src) (x1 : Net) (y6 : Bool) : Option (Event × Src) :=
  (bif y6 then (bif ((x1.Ls.length : Int) == 0) then (some ((⟨6,0⟩ : Event),r5.2)) else ((zp n r5.2 (x1.Ls.length : Int)).bind fun r8 => (some ((⟨r5.1,r8.1⟩ : Event),r8.2)))) else (bif ((x1.Bs.length : Int) == 0) then (some ((⟨r5.1,0⟩ : Event),r5.2)) else ((zp n r5.2 (x1.Bs.length : Int)).bind fun r7 => (some ((⟨r5.1,r7.1⟩ : Event),r7.2)))))
def Qh (n : Nat) (x1 : Net) (y1 : Bool) (y2 : (List Int)) (y3 : Int) (y4 : Int) : Option (Event × Src) :=
  (bif y1 then ((Z3 n (⟨y2,y3,y4⟩ : Src) [2,2,2,2,3]).bind fun r9 => ((zp n r9.2 (x1.Said.length : Int)).bind fun r10 => (some ((⟨r9.1,r10.1⟩ : Event),r10.2)))) else ((Z3 n (⟨y2,y3,y4⟩ : Src) [1,1,1,1,4,5,6]).bind fun r5 => (bif (r5.1 == 4) then (Qi n r5 x1 true) else (Qi n r5 x1 (r5.1 == 5)))))
def Ym (n : Nat) (x0 : Src) (x1 : Net) : Option (Event × Src) :=
  (bif (decide ((x1.Said.length : Int) > 0)) then ((Js n x0 2).bind fun r11 => (Qh n x1 r11.1 r11.2.b r11.2.i r11.2.h)) else (Qh n x1 false x0.b x0.i x0.h))
noncomputable abbrev zEo (k : Nat) := Rg Tryz.f139 k
noncomputable abbrev D139 (k : Nat) := Rd Tryz.f139 k
theorem zJb (n : Nat) (x0 : Src) (x1 : Net) (r : Event × Src) (H : Ym n x0 x1 = some r) : zH Tryz.prog 139 [.ptr (fR (Src.row x0)),.val true (fR (Net.row x1))] [.val true (Event.row r.1)] [(0,(fR (Src.row r.2)))] := by
 refine zH.of_body tOk Tryz.func139 rfl (c := (.seq (zEo 0) (.seq (.seq (zEo 1) (.cond (.tmp 13) (.seq (D139 2) .ret) .skip)) (.seq (zEo 3) (.seq (.seq (zEo 4) (.cond (.tmp 31) (.seq (.seq (zEo 5) (.cond (.tmp 35) (.seq (zEo 6) .ret) .skip)) (.seq (zEo 7) .ret)) .skip)) (.seq (.seq (zEo 8) (.cond (.tmp 47) (.seq (zEo 9) .ret) .skip)) (.seq (zEo 10) .ret))))))) kr (Nat.le_of_ble_eq_true kr) 1 (rs := [.cell 4 84]) rfl [] .nil [(true,(Event.row r.1))] [] [(0,(fR (Src.row r.2)))] fun cx=>?_
 show Tr _ _ _ ⟨57,1,[sA 0 0 3 0,sV 1 (fR (Net.row x1))],[(0,(fR (Src.row x0)))]⟩ _
 unfold Ym at H
 refine gA 2 25 25<|tS<|tS<|Tr.mid (ι := Bool × (List Int) × Int × Int) (fun v => ⟨57,1,[sB 13 v.1,sA 4 4 2 0,sA 3 3 3 0,sA 0 0 3 0],[(4,[cI 0,cI 0]),(3,(fR (Net.row x1))),(0,[cF 1 v.2.1 zg,cI v.2.2.1,cI v.2.2.2])]⟩) (fun v => Qh n x1 v.1 v.2.1 v.2.2.1 v.2.2.2 = some r) ?_ ?_
 ·refine Tr.at<|lA 2<|kF x1.Said Say.row<|lA 2<|sL 1049 25 ⟨57,1,[sB 10 (decide ((x1.Said.length : Int) > 0)),sA 4 4 2 0,sA 3 3 3 0,sA 0 0 3 0],[(4,[cI 0,cI 0]),(3,(fR (Net.row x1))),(0,(fR (Src.row x0)))]⟩ ?_
  cases h6 : (decide ((x1.Said.length : Int) > 0))
  ·have H := zF h6 H
   exact uA 3 8217 25<|jA (false,x0.b,x0.i,x0.h) H [13,4,3,0] [4,3,0]
  have H := zG h6 H
  exact lA 1<|bE H fun r11 er11 H=> vL [.lend,.rd] (zHM n x0 2 r11 er11)<|uA 1 8217 25<|jA (r11.1,r11.2.b,r11.2.i,r11.2.h) H [13,4,3,0] [4,3,0]
 rintro ⟨y1,y2,y3,y4⟩ H
 have H : (Qh n x1 y1 y2 y3 y4) = some r := H
 unfold Qh at H
 cases h1 : y1
 ·have H := zF h1 H
  refine nB_<|tK<|rA 2<|bE H fun r5 er5 H=> vL [.lend,.rd] (zBB n (⟨y2,y3,y4⟩ : Src) [1,1,1,1,4,5,6] r5 er5)<|uA 1 57 25<|tS<|tS<|Tr.mid (ι := Bool) (fun v => ⟨57,1,[sB 31 v,sI 5 r5.1,sA 4 4 2 0,sA 3 3 3 0,sA 0 0 3 0],[(0,(fR (Src.row r5.2))),(4,[cI 0,cI 0]),(3,(fR (Net.row x1)))]⟩) (fun v => Qi n r5 x1 v = some r) ?_ ?_
  ·refine Tr.at<|lA 3<|sL 268435513 25 ⟨57,1,[sB 28 (r5.1 == 4),sI 5 r5.1,sA 4 4 2 0,sA 3 3 3 0,sA 0 0 3 0],[(0,(fR (Src.row r5.2))),(4,[cI 0,cI 0]),(3,(fR (Net.row x1)))]⟩ ?_
   cases h5 : (r5.1 == 4)
   ·have H := zF h5 H
    exact uA 3 2147483705 25<|jA (r5.1 == 5) H [31,5,4,3,0] [0,4,3]
   have H := zG h5 H
   exact uA 3 2147483705 25<|jA true H [31,5,4,3,0] [0,4,3]
  rintro y6 H
  have H : (Qi n r5 x1 y6) = some r := H
  unfold Qi at H
  cases h2 : y6
  ·have H := zF h2 H
   refine nB_<|tK<|tS<|rA 2<|kF x1.Bs zA.row<|uA 1 0x800000000039 25 ?_
   obtain ⟨h3,H⟩ | ⟨h3,H⟩ := bC H
   ·exact nA h3<|tK<|rA 4<|kF x1.Bs zA.row<|bE H fun r7 er7 H=> vL [.lend,.rd] (qv n r5.2 (x1.Bs.length : Int) r7 er7)<|uA 2 17 17<|te<|fY [(true,[cI r5.1,cI r7.1])] [(0,(fR (Src.row r7.2)))] H
   exact tA h3<|gA 3 17 17<|te<|fY [(true,[cI r5.1,cI 0])] [(0,(fR (Src.row r5.2)))] H
  have H := zG h2 H
  refine tB_<|tS<|rA 2<|kF x1.Ls Link.row<|uA 1 34359738425 25 ?_
  obtain ⟨h4,H⟩ | ⟨h4,H⟩ := bC H
  ·exact nA h4<|tK<|rA 4<|kF x1.Ls Link.row<|bE H fun r8 er8 H=> vL [.lend,.rd] (qv n r5.2 (x1.Ls.length : Int) r8 er8)<|uA 2 17 17<|te<|fY [(true,[cI r5.1,cI r8.1])] [(0,(fR (Src.row r8.2)))] H
  exact tA h4<|gA 2 17 17<|te<|fY [(true,[cI 6,cI 0])] [(0,(fR (Src.row r5.2)))] H
 have H := zG h1 H
 refine tB_<|bE H fun r9 er9 H=> bE H fun r10 er10 H=> Tr.draws mixed 10 kr ⟨57,1,[sA 4 4 2 0,sA 0 0 3 0],[(4,[cI r9.1,cI r10.1]),(0,(fR (Src.row r10.2)))]⟩ (fun cx=>?_) ?_
 ·refine aA [(0,[]),(3,[]),(4,[]),(5,[7,8,9])] 6 [⟨[7,8,9],51,18,19⟩] fun cx=>aL tOk 6 51 3 127 19 20 none ⟨(.box 3),[(0,0)],2,false,7,(CV.frzEs (x1.Said.map Say.row))⟩ (x1.Said).length _ kr kr kr kr kr kr kr (zGm _ _) rfl (fun cx=>?_)
  exact bA 1<|lA 1<|fA<|bA 2<|vL [.lend,.rd] (zBB n (⟨y2,y3,y4⟩ : Src) [2,2,2,2,3] r9 er9)<|fA<|bA 7<|vL [.lend,.rd] (qv n r9.2 (x1.Said.length : Int) r10 er10)<|fA<|bA 8<|lA 1<|fA<|bA 9<|lA 1<|fA<|eE [4,0] [4,0]
 exact te<|fY [(true,[cI r9.1,cI r10.1])] [(0,(fR (Src.row r10.2)))] H
def zAR (n : Nat) (x0 : Net) (y5 : (List zA)) : Option (Net) :=
  (some (⟨y5,(([] : List Link) ++ x0.Ls),(([] : List Say) ++ x0.Said)⟩ : Net))
def QL (n : Nat) : Nat → Net → Int → (List zA) → Option (((List zA)) ⊕ (Net))
  | 0,_,_,_ => none
  | mo6 + 1,x0,y3,y4 => (bif (decide (y3 < (x0.Bs.length : Int))) then ((idx x0.Bs y3).bind fun v7 => ((QY n v7).bind fun r8 => (bif (decide (y4.length + [r8].length ≤ 268435456)) then (QL n mo6 x0 (IntKind.wrap .i64 (y3 + 1)) (y4 ++ [r8])) else none))) else (some (Sum.inl y4)))
def zAD (n : Nat) (x0 : Net) : Option (Net) :=
  (bif (decide (([] : List Link).length + x0.Ls.length ≤ 268435456)) then (bif (decide (([] : List Say).length + x0.Said.length ≤ 268435456)) then ((QL n n x0 0 ([] : List zA)).bind fun o => match o with | .inl y5 => (zAR n x0 y5) | .inr r => some r) else none) else none)
def zNv : Tab := ⟨12,[0,1,0,4,0,24,32,64,128,386,1023,2047],[0,1,0,4,0,24,32,64,128,258,0,1536],[0,1,0,4,0,28,60,124,252,511,1023,2047]⟩
theorem zB0 : za (rg Tryz.f143 5) zNv = true := kr
theorem zIN (n : Nat) (x0 : Net) (hg1 : (decide (([] : List Link).length + x0.Ls.length ≤ 268435456)) = true) (hg2 : (decide (([] : List Say).length + x0.Said.length ≤ 268435456)) = true) (cx : Cx) : AT Tryz.prog cx (rg Tryz.f143 1) [] 11 [] ⟨33,0,[sA 2 2 3 0,sA 1 1 3 0],[(2,[cL 11 ([] : List zA) zA.row,cL 4 ([] : List Link) Link.row,cL 7 ([] : List Say) Say.row]),(1,(fR (Net.row x0)))]⟩ (fun s => s = ⟨33,0,[sA 3 3 3 0,sA 2 2 3 0,sA 1 1 3 0],[(3,[cL 11 ([] : List zA) zA.row,cL 4 (([] : List Link) ++ x0.Ls) Link.row,cL 7 (([] : List Say) ++ x0.Said) Say.row]),(2,[cL 11 ([] : List zA) zA.row,cL 4 ([] : List Link) Link.row,cL 7 ([] : List Say) Say.row]),(1,(fR (Net.row x0)))]⟩) := by
 refine aA [(1,[]),(2,[3,7,8,10]),(5,[]),(6,[7,8,10])] 7 [⟨[7,8,10],51,10,11⟩,⟨[3,7,8,10],50,6,7⟩] fun cx=>AT.big3 tOk 0 4 9 kr (And.intro kr ?_) (And.intro kr ?_) (And.intro kr ?_)
 ·refine lA 1<|fA<|AT.big3 tOk 3 4 9 kr (And.intro kr ?_) (And.intro kr ?_) (And.intro kr ?_)
  ·refine pD Link.row hg1<|fA<|AT.big2 tOk 4 9 kr (And.intro kr ?_) (And.intro kr ?_)
   ·refine lA 1<|fA<|AT.big2 tOk 7 9 kr (And.intro kr ?_) (And.intro kr ?_)
    ·refine pD Say.row hg2<|fA<|AT.big2 tOk 8 9 kr (And.intro kr ?_) (And.intro kr ?_)
     ·exact lA 1<|fA<|bA 9<|lA 1<|fA<|bA 10<|lA 1<|fA<|eE [3,2,1] [3,2,1]
     ·exact lA 1<|fA<|bA 8<|lA 1<|fA<|bA 10<|lA 1<|fA<|eE [3,2,1] [3,2,1]
    ·exact lA 1<|fA<|bA 7<|pD Say.row hg2<|fA<|bA 8<|lA 1<|fA<|bA 10<|lA 1<|fA<|eE [3,2,1] [3,2,1]
   ·exact lA 1<|fA<|bA 4<|lA 1<|fA<|bA 7<|pD Say.row hg2<|fA<|bA 8<|lA 1<|fA<|bA 10<|lA 1<|fA<|eE [3,2,1] [3,2,1]
  ·refine lA 1<|fA<|AT.big2 tOk 3 9 kr (And.intro kr ?_) (And.intro kr ?_)
   ·refine pD Link.row hg1<|fA<|AT.big2 tOk 7 9 kr (And.intro kr ?_) (And.intro kr ?_)
    ·refine pD Say.row hg2<|fA<|AT.big2 tOk 8 9 kr (And.intro kr ?_) (And.intro kr ?_)
     ·exact lA 1<|fA<|bA 9<|lA 1<|fA<|bA 10<|lA 1<|fA<|eE [3,2,1] [3,2,1]
     ·exact lA 1<|fA<|bA 8<|lA 1<|fA<|bA 10<|lA 1<|fA<|eE [3,2,1] [3,2,1]
    ·exact lA 1<|fA<|bA 7<|pD Say.row hg2<|fA<|bA 8<|lA 1<|fA<|bA 10<|lA 1<|fA<|eE [3,2,1] [3,2,1]
   ·exact lA 1<|fA<|bA 3<|pD Link.row hg1<|fA<|bA 7<|pD Say.row hg2<|fA<|bA 8<|lA 1<|fA<|bA 10<|lA 1<|fA<|eE [3,2,1] [3,2,1]
  ·refine lA 1<|fA<|AT.big2 tOk 3 4 kr (And.intro kr ?_) (And.intro kr ?_)
   ·exact pD Link.row hg1<|fA<|bA 4<|lA 1<|fA<|bA 7<|pD Say.row hg2<|fA<|bA 8<|lA 1<|fA<|bA 10<|lA 1<|fA<|eE [3,2,1] [3,2,1]
   ·exact lA 1<|fA<|bA 3<|pD Link.row hg1<|fA<|bA 7<|pD Say.row hg2<|fA<|bA 8<|lA 1<|fA<|bA 10<|lA 1<|fA<|eE [3,2,1] [3,2,1]
 ·refine lA 1<|fA<|AT.big2 tOk 0 9 kr (And.intro kr ?_) (And.intro kr ?_)
  ·refine lA 1<|fA<|AT.big2 tOk 3 9 kr (And.intro kr ?_) (And.intro kr ?_)
   ·refine pD Link.row hg1<|fA<|AT.big2 tOk 7 9 kr (And.intro kr ?_) (And.intro kr ?_)
    ·refine pD Say.row hg2<|fA<|AT.big2 tOk 8 9 kr (And.intro kr ?_) (And.intro kr ?_)
     ·exact lA 1<|fA<|bA 9<|lA 1<|fA<|bA 10<|lA 1<|fA<|eE [3,2,1] [3,2,1]
     ·exact lA 1<|fA<|bA 8<|lA 1<|fA<|bA 10<|lA 1<|fA<|eE [3,2,1] [3,2,1]
    ·exact lA 1<|fA<|bA 7<|pD Say.row hg2<|fA<|bA 8<|lA 1<|fA<|bA 10<|lA 1<|fA<|eE [3,2,1] [3,2,1]
   ·exact lA 1<|fA<|bA 3<|pD Link.row hg1<|fA<|bA 7<|pD Say.row hg2<|fA<|bA 8<|lA 1<|fA<|bA 10<|lA 1<|fA<|eE [3,2,1] [3,2,1]
  ·exact lA 1<|fA<|bA 0<|lA 1<|fA<|bA 3<|pD Link.row hg1<|fA<|bA 7<|pD Say.row hg2<|fA<|bA 8<|lA 1<|fA<|bA 10<|lA 1<|fA<|eE [3,2,1] [3,2,1]
 ·refine lA 1<|fA<|AT.big2 tOk 0 4 kr (And.intro kr ?_) (And.intro kr ?_)
  ·refine lA 1<|fA<|AT.big2 tOk 3 4 kr (And.intro kr ?_) (And.intro kr ?_)
   ·exact pD Link.row hg1<|fA<|bA 4<|lA 1<|fA<|bA 7<|pD Say.row hg2<|fA<|bA 8<|lA 1<|fA<|bA 10<|lA 1<|fA<|eE [3,2,1] [3,2,1]
   ·exact lA 1<|fA<|bA 3<|pD Link.row hg1<|fA<|bA 7<|pD Say.row hg2<|fA<|bA 8<|lA 1<|fA<|bA 10<|lA 1<|fA<|eE [3,2,1] [3,2,1]
  ·exact lA 1<|fA<|bA 0<|lA 1<|fA<|bA 3<|pD Link.row hg1<|fA<|bA 7<|pD Say.row hg2<|fA<|bA 8<|lA 1<|fA<|bA 10<|lA 1<|fA<|eE [3,2,1] [3,2,1]
theorem zKQ (n : Nat) (x0 : Net) (r : Net) (H : zAD n x0 = some r) : zH Tryz.prog 143 [.val true (fR (Net.row x0))] [.val true (Net.row r)] [] := by
 refine cW Tryz.func143 (fun g d => sl [g 0,d 1,sl [g 2] (.block 0 (.loop (sl [sl [g 3] (cn 18 .skip (.exit 0)),.block 1 (d 5)] (g 4)))),g 6] .ret) [.cell 2 53] fun cx=>?_
 unfold zAD at H
 refine gA 2 6 6<|gE H fun hg1 H=> gE H fun hg2 H=> sT ⟨33,0,[sA 2 2 3 0,sA 1 1 3 0],[(2,[cL 11 ([] : List zA) zA.row,cL 4 ([] : List Link) Link.row,cL 7 ([] : List Say) Say.row]),(1,(fR (Net.row x0)))]⟩<|Tr.draws mixed 11 kr ⟨33,0,[sA 3 3 3 0,sA 2 2 3 0,sA 1 1 3 0],[(3,[cL 11 ([] : List zA) zA.row,cL 4 (([] : List Link) ++ x0.Ls) Link.row,cL 7 (([] : List Say) ++ x0.Said) Say.row]),(2,[cL 11 ([] : List zA) zA.row,cL 4 ([] : List Link) Link.row,cL 7 ([] : List Say) Say.row]),(1,(fR (Net.row x0)))]⟩ (zIN n x0 hg1 hg2)<|tS<|gA 1 30 14 ?_
 obtain ⟨o6,eo6,Ho6⟩ := bs H
 clear H
 refine Tr.mid (ι := (List zA)) (fun v => ⟨33,0,[sA 3 3 3 0,sA 2 2 3 0],[(3,[cL 11 v zA.row,cL 4 (([] : List Link) ++ x0.Ls) Link.row,cL 7 (([] : List Say) ++ x0.Said) Say.row]),(2,[cL 11 ([] : List zA) zA.row,cL 4 ([] : List Link) Link.row,cL 7 ([] : List Say) Say.row])]⟩) (fun v => zAR n x0 v = some r) ?_ ?_
 ·refine tB<|Tr.loop (ι := Nat × (Int × (List zA))) (fun v => ⟨33,0,[sI 4 v.2.1,sA 3 3 3 0,sA 2 2 3 0,sA 1 1 3 0],[(3,[cL 11 v.2.2 zA.row,cL 4 (([] : List Link) ++ x0.Ls) Link.row,cL 7 (([] : List Say) ++ x0.Said) Say.row]),(2,[cL 11 ([] : List zA) zA.row,cL 4 ([] : List Link) Link.row,cL 7 ([] : List Say) Say.row]),(1,(fR (Net.row x0)))]⟩) (fun v => QL n v.1 x0 v.2.1 v.2.2 = some o6) (fun v => v.1) (n,(0,([] : List zA))) eo6 (St.sub_of [4,3,2,1] [3,2,1] kr) ?_
  rintro ⟨mo6,y3,y4⟩ H
  have H : QL n mo6 x0 y3 y4 = some o6 := H
  obtain _ | mo6 := mo6
  ·exact nN H
  rw [QL] at H
  refine tS<|rA 3<|kF x0.Bs zA.row<|uA 1 262174 14 ?_
  obtain ⟨h1,H⟩ | ⟨h1,H⟩ := bC H
  ·refine nA h1<|Tr.exit<|aJ ?_
   obtain rfl := si H
   have H := Ho6
   dsimp only at H
   exact jA y4 H [3,2] [3,2]
  refine tA h1<|tK<|tS<|tB<|bE H fun v7 ev7 H=> bE H fun r8 er8 H=> gE H fun hg9 H=> Tr.draw mixed 12 kr ⟨33,0,[sI 4 y3,sA 3 3 3 0,sA 2 2 3 0,sA 1 1 3 0],[(3,[cL 11 (y4 ++ [r8]) zA.row,cL 4 (([] : List Link) ++ x0.Ls) Link.row,cL 7 (([] : List Say) ++ x0.Said) Say.row]),(2,[cL 11 ([] : List zA) zA.row,cL 4 ([] : List Link) Link.row,cL 7 ([] : List Say) Say.row]),(1,(fR (Net.row x0)))]⟩ (fun cx=>?_) ?_
  ·exact mA zB0 [(0,[]),(1,[9,11]),(2,[]),(3,[7,8,9,11]),(4,[])] 7 [⟨[7,8,9,11],49,23,24⟩,⟨[9,11],49,21,22⟩] fun cx=>iN zB0 5 zA.row ev7 fun cx=>mA zB0 [(6,[])] 5 [⟨[7,8,9,11],49,23,24⟩,⟨[9,11],49,21,22⟩] fun cx=>mC zB0 7<|vA [.rd] (zCI n v7 r8 er8)<|fA<|mC zB0 8<|lA 1<|fA<|mC zB0 9<|LAt.appMU tOk (t := 49) (ty := 49) (e := 31) (x := (.tmp 22)) (y := (.tmp 29)) (d := 30) (g := none) (tI 31) zA.row y4 [r8] kr kr kr kr kr kr kr kr kr kr hg9<|fA<|mA zB0 [(10,[])] 1 [⟨[7,8,9,11],49,23,24⟩,⟨[9,11],49,21,22⟩] fun cx=>mC zB0 11<|lA 1<|fA<|mE zB0 [4,3,2,1] [3,2,1]
  exact eA 3 30 14<|jB mo6 ((wI (y3 + 1)),(y4 ++ [r8])) H [4,3,2,1] [3,2,1]
 rintro y5 H
 have H : (zAR n x0 y5) = some r := H
 unfold zAR at H
 exact gA 2 4 4<|te (fJ [(true,[cL 11 y5 zA.row,cL 4 (([] : List Link) ++ x0.Ls) Link.row,cL 7 (([] : List Say) ++ x0.Said) Say.row])] H)
def zA4 (n : Nat) (y3 : (List zB)) : Option ((List zB)) :=
  (some y3)
def q3 (n : Nat) : Nat → (List zB) → Int → (List zB) → Option (((List zB)) ⊕ ((List zB)))
  | 0,_,_,_ => none
  | mo4 + 1,x0,y1,y2 => (bif (decide (y1 < (x0.length : Int))) then ((idx x0 y1).bind fun v5 => (bif v5.Sc then (bif (decide (y2.length + [v5].length ≤ 268435456)) then (q3 n mo4 x0 (IntKind.wrap .i64 (y1 + 1)) (y2 ++ [v5])) else none) else (bif (decide (v5.Age < 4)) then (bif (decide (y2.length + [(⟨v5.Tag,v5.Mac,v5.Port,(IntKind.wrap .i64 (v5.Age + 1)),v5.Sc⟩ : zB)].length ≤ 268435456)) then (q3 n mo4 x0 (IntKind.wrap .i64 (y1 + 1)) (y2 ++ [(⟨v5.Tag,v5.Mac,v5.Port,(IntKind.wrap .i64 (v5.Age + 1)),false⟩ : zB)])) else none) else (q3 n mo4 x0 (IntKind.wrap .i64 (y1 + 1)) y2)))) else (some (Sum.inl y2)))
def Ys (n : Nat) (x0 : (List zB)) : Option ((List zB)) :=
  ((q3 n n x0 0 ([] : List zB)).bind fun o => match o with | .inl y3 => (zA4 n y3) | .inr r => some r)
theorem zKt (n : Nat) (x0 : (List zB)) (r : (List zB)) (H : Ys n x0 = some r) : zH Tryz.prog 96 [.val false [.sl false 5 (CV.frzEs (x0.map zB.row))]] [.val false [.sl true 5 (r.map zB.row)]] [] := by
 refine cW Tryz.func96 (fun g d => sl [g 0,g 1,sl [g 2] (.block 0 (.loop (sl [sl [g 3] (cn 10 .skip (.exit 0)),.block 1 (sl [g 5,sl [g 6] (cn 18 (sl [g 7] (.exit 1)) .skip),g 8] (cn 25 (sl [g 9] (g 10)) .skip))] (g 4)))),g 11] .ret) [.tmp 2] fun cx=>?_
 unfold Ys at H
 refine gA 1 1 0<|rA 1<|LAt.moveU (T := lk tab) (ty := 25) (x := (.tmp 6)) (d := 3) (g := none) false [cL 5 ([] : List zB) zB.row] kr kr kr kr kr<|dA 9 0<|tS<|gA 1 25 0 ?_
 obtain ⟨o4,eo4,Ho4⟩ := bs H
 clear H
 refine Tr.mid (ι := (List zB)) (fun v => ⟨35,0,[sC 3 (cL 5 v zB.row)],[]⟩) (fun v => zA4 n v = some r) ?_ ?_
 ·refine tB<|Tr.loop (ι := Nat × (Int × (List zB))) (fun v => ⟨35,0,[sI 4 v.2.1,sC 3 (cL 5 v.2.2 zB.row),sC 0 (cF 5 x0 zB.row)],[]⟩) (fun v => q3 n v.1 x0 v.2.1 v.2.2 = some o4) (fun v => v.1) (n,(0,([] : List zB))) eo4 (St.sub_of [4,3,0] [] kr) ?_
  rintro ⟨mo4,y1,y2⟩ H
  have H : q3 n mo4 x0 y1 y2 = some o4 := H
  obtain _ | mo4 := mo4
  ·exact nN H
  rw [q3] at H
  refine tS<|rA 2<|kF x0 zB.row<|uA 1 1049 0 ?_
  obtain ⟨h1,H⟩ | ⟨h1,H⟩ := bC H
  ·refine nA h1<|Tr.exit<|aJ ?_
   obtain rfl := si H
   have H := Ho4
   dsimp only at H
   exact jA y2 H [3] []
  refine tA h1<|tK<|tS<|tB<|rA 2<|bE H fun v5 ev5 H=> iA zB.row ev5<|uA 3 57 32<|tS<|gA 2 262201 32<|sT ⟨35,0,[sB 18 v5.Sc,sA 5 5 5 0,sI 4 y1,sC 3 (cL 5 y2 zB.row),sC 0 (cF 5 x0 zB.row)],[(5,(zB.row v5))]⟩ ?_
  cases h2 : v5.Sc
  ·have H := zF h2 H
   refine nB_<|tK<|gA 3 33554489 32 ?_
   obtain ⟨h3,H⟩ | ⟨h3,H⟩ := bC H
   ·exact nA h3<|tK<|eA 3 25 0<|jB mo4 ((wI (y1 + 1)),y2) H [4,3,0] []
   refine tA h3<|gA 5 57 32<|Tr.at<|lA 3<|gE H fun hg6 H=> LAt.appMU tOk (t := 25) (ty := 25) (e := 103) (x := (.tmp 30)) (y := (.tmp 32)) (d := 33) (g := none) (tI 103) zB.row y2 [(⟨v5.Tag,v5.Mac,v5.Port,(wI (v5.Age + 1)),v5.Sc⟩ : zB)] kr kr kr kr kr kr kr kr kr kr hg6<|LAt.moveU (T := lk tab) (ty := 25) (x := (.tmp 33)) (d := 3) (g := none) false [cL 5 (y2 ++ [(⟨v5.Tag,v5.Mac,v5.Port,(wI (v5.Age + 1)),v5.Sc⟩ : zB)]) zB.row] kr kr kr kr kr<|dA 25 0<|eA 3 25 0<|sC' 25 0 ⟨35,0,[sI 4 (wI (y1 + 1)),sC 3 (cL 5 (y2 ++ [(⟨v5.Tag,v5.Mac,v5.Port,(wI (v5.Age + 1)),v5.Sc⟩ : zB)]) zB.row),sC 0 (cF 5 x0 zB.row)],[]⟩ ?_
   rw [h2]
   exact jB mo4 ((wI (y1 + 1)),(y2 ++ [(⟨v5.Tag,v5.Mac,v5.Port,(wI (v5.Age + 1)),false⟩ : zB)])) H [4,3,0] []
  have H := zG h2 H
  exact tB_<|rA 3<|gE H fun hg7 H=> LAt.appMU tOk (t := 25) (ty := 25) (e := 103) (x := (.tmp 19)) (y := (.tmp 21)) (d := 22) (g := none) (tI 103) zB.row y2 [v5] kr kr kr kr kr kr kr kr kr kr hg7<|LAt.moveU (T := lk tab) (ty := 25) (x := (.tmp 22)) (d := 3) (g := none) false [cL 5 (y2 ++ [v5]) zB.row] kr kr kr kr kr<|dA 25 0<|Tr.exit<|aJ<|eA 3 25 0<|jB mo4 ((wI (y1 + 1)),(y2 ++ [v5])) H [4,3,0] []
 rintro y3 H
 have H : (zA4 n y3) = some r := H
 unfold zA4 at H
 exact gA 2 12 0<|te (fJ [(false,[cL 5 y3 zB.row])] H)
def zA8 (n : Nat) (x0 : zA) : Option (zA) :=
  ((QY n x0).bind fun r1 => ((zR n x0).bind fun r2 => (bif (!r2) then (some r1) else ((Yu n x0.Tk).bind fun r3 => ((Ys n x0.F).bind fun r4 => ((q4 n (⟨r1.Id,r1.Name,r1.Ps,r4,r1.V,r3,r1.Pa,r1.Wo,r1.Dr,r1.Ve⟩ : zA)).bind fun r5 => (some r5)))))))
theorem zMb (n : Nat) (x0 : zA) (r : zA) (H : zA8 n x0 = some r) : zH Tryz.prog 22 [.val true (fR (zA.row x0))] [.val true (zA.row r)] [] := by
 refine cW Tryz.func22 (fun g d => sl [g 0,g 1,sl [g 2] (cn 8 (sl [g 3] .ret) .skip),g 4,g 5,g 6] .ret) [.cell 2 31] fun cx=>?_
 unfold zA8 at H
 refine gA 2 6 6<|rA 1<|bE H fun r1 er1 H=> vA [.rd] (zCI n x0 r1 er1)<|uA 2 14 14<|tS<|rA 1<|bE H fun r2 er2 H=> vA [.rd] (zDV n x0 r2 er2)<|uA 1 270 14 ?_
 obtain ⟨h1,H⟩ | ⟨h1,H⟩ := bC H
 ·exact nA h1<|tK<|rA 2<|bE H fun r3 er3 H=> vA [.rd] (zHL n x0.Tk r3 er3)<|uA 2 14 14<|rA 2<|bE H fun r4 er4 H=> vA [.rd] (zKt n x0.F r4 er4)<|uA 2 12 12<|rA 1<|bE H fun r5 er5 H=> vA [.own] (zCj n (⟨r1.Id,r1.Name,r1.Ps,r4,r1.V,r3,r1.Pa,r1.Wo,r1.Dr,r1.Ve⟩ : zA) r5 er5)<|uA 1 4 4<|te (fJ [(true,(zA.row r5))] H)
 exact tA h1<|gA 2 4 4<|te (fJ [(true,(zA.row r1))] H)
def Qr (n : Nat) (x0 : Net) (x1 : Int) (x2 : Int) : Option (Bool) :=
  ((zP n x1 0 (IntKind.wrap .i64 ((x0.Bs.length : Int) - 1))).bind fun r1 => (bif r1 then ((idx x0.Bs x1).bind fun v2 => ((zP n x2 0 (IntKind.wrap .i64 ((v2.Ps.length : Int) - 1))).bind fun r3 => (bif r3 then ((idx x0.Bs x1).bind fun v4 => ((idx v4.Ps x2).bind fun v5 => (some v5.Up))) else (some false)))) else (some false)))
theorem zIP (n : Nat) (x0 : Net) (x1 : Int) (x2 : Int) (r : Bool) (H : Qr n x0 x1 x2 = some r) : zH Tryz.prog 128 [.val true (fR (Net.row x0)),.val false [.lit (.int .i64 x1)],.val false [.lit (.int .i64 x2)]] [.val false [.lit (.bool r)]] [] := by
 refine cW Tryz.func128 (fun g d => sl [g 0,g 1] .ret) [.tmp 6] fun cx=>?_
 unfold Qr at H
 refine gA 2 14 8<|rA 3<|kF x0.Bs zA.row<|lA 1<|bE H fun r1 er1 H=> vA [.rd,.rd,.rd] (zQ n x1 0 (wI ((x0.Bs.length : Int) - 1)) r1 er1)<|lA 1<|sL 8206 8 ⟨37,0,[sB 13 r1,sA 3 3 3 0,sI 1 x1,sI 2 x2],[(3,(fR (Net.row x0)))]⟩ ?_
 cases h1 : r1
 ·have H := zF h1 H
  exact uA 24 64 0<|te (fF H)
 have H := zG h1 H
 refine lA 4<|bE H fun v2 ev2 H=> iA zA.row ev2<|lA 2<|kF v2.Ps Pt.row<|lA 1<|bE H fun r3 er3 H=> vA [.rd,.rd,.rd] (zQ n x2 0 (wI ((v2.Ps.length : Int) - 1)) r3 er3)<|lA 2<|sL 33554446 8 ⟨37,0,[sB 25 r3,sA 3 3 3 0,sI 1 x1,sI 2 x2],[(3,(fR (Net.row x0)))]⟩ ?_
 cases h2 : r3
 ·have H := zF h2 H
  exact uA 12 64 0<|te (fF H)
 have H := zG h2 H
 exact lA 3<|bE H fun v4 ev4 H=> iA zA.row ev4<|lA 3<|bE H fun v5 ev5 H=> iA Pt.row ev5<|uA 4 64 0<|te (fJ [(false,[cB v5.Up])] H)
def qu (n : Nat) (x0 : Net) (x1 : Int) : Option (Bool) :=
  ((zP n x1 0 (IntKind.wrap .i64 ((x0.Ls.length : Int) - 1))).bind fun r1 => (bif (!r1) then (some false) else ((idx x0.Ls x1).bind fun v2 => ((Qr n x0 v2.A v2.P).bind fun r3 => (bif r3 then ((Qr n x0 v2.B v2.Q).bind fun r4 => (some r4)) else (some false))))))
theorem zCs (n : Nat) (x0 : Net) (x1 : Int) (r : Bool) (H : qu n x0 x1 = some r) : zH Tryz.prog 50 [.val true (fR (Net.row x0)),.val false [.lit (.int .i64 x1)]] [.val false [.lit (.bool r)]] [] := by
 refine cW Tryz.func50 (fun g d => sl [g 0,sl [g 1] (cn 12 (sl [g 2] .ret) .skip),g 3,g 4] .ret) [.tmp 4] fun cx=>?_
 unfold qu at H
 refine gA 2 6 4<|tS<|rA 3<|kF x0.Ls Link.row<|lA 1<|bE H fun r1 er1 H=> vA [.rd,.rd,.rd] (zQ n x1 0 (wI ((x0.Ls.length : Int) - 1)) r1 er1)<|uA 1 4102 4 ?_
 obtain ⟨h1,H⟩ | ⟨h1,H⟩ := bC H
 ·refine nA h1<|tK<|rA 3<|bE H fun v2 ev2 H=> iA Link.row ev2<|uA 3 36 36<|rA 5<|bE H fun r3 er3 H=> vA [.rd,.rd,.rd] (zIP n x0 v2.A v2.P r3 er3)<|lA 1<|sL 16777252 36 ⟨32,0,[sB 24 r3,sA 5 5 4 0,sA 2 2 3 0],[(5,(Link.row v2)),(2,(fR (Net.row x0)))]⟩ ?_
  cases h2 : r3
  ·have H := zF h2 H
   exact uA 8 16 0<|te (fF H)
  have H := zG h2 H
  exact lA 5<|bE H fun r4 er4 H=> vA [.rd,.rd,.rd] (zIP n x0 v2.B v2.Q r4 er4)<|uA 2 16 0<|te (fJ [(false,[cB r4])] H)
 exact tA h1<|gA 1 16 0<|te (fF H)
def Qz (n : Nat) (x0 : Net) (x1 : Int) (x2 : Bool) : Option (Vec) :=
  ((idx x0.Ls x1).bind fun v1 => (bif x2 then ((idx x0.Bs v1.B).bind fun v5 => ((idx x0.Bs v1.B).bind fun v6 => ((qZ n v5.Id v6.Ps v1.Q).bind fun r7 => (some r7)))) else ((idx x0.Bs v1.A).bind fun v2 => ((idx x0.Bs v1.A).bind fun v3 => ((qZ n v2.Id v3.Ps v1.P).bind fun r4 => (some r4))))))
def zN4 : Tab := ⟨18,[0,1,0,4,10,16,32,0,128,0,512,1280,2048,4096,0,16384,41024,131071],[0,1,0,4,10,16,32,0,128,0,512,1280,2048,4096,0,16384,41024,65536],[0,1,0,4,15,31,63,0,128,0,512,1920,3968,8064,0,16384,65535,131071]⟩
theorem zC6 : za (rg Tryz.f149 3) zN4 = true := kr
def zN5 : Tab := ⟨18,[0,1,0,4,10,16,32,0,128,0,512,1280,2048,4096,0,16384,41024,131071],[0,1,0,4,10,16,32,0,128,0,512,1280,2048,4096,0,16384,41024,65536],[0,1,0,4,15,31,63,0,128,0,512,1920,3968,8064,0,16384,65535,131071]⟩
theorem zC7 : za (rg Tryz.f149 4) zN5 = true := kr
theorem zCt (n : Nat) (x0 : Net) (x1 : Int) (x2 : Bool) (r : Vec) (H : Qz n x0 x1 x2 = some r) : zH Tryz.prog 149 [.val true (fR (Net.row x0)),.val false [.lit (.int .i64 x1)],.val false [.lit (.bool x2)]] [.val true (Vec.row r)] [] := by
 refine cW Tryz.func149 (fun g d => sl [g 0,g 1,sl [g 2] (cn 13 (sl [d 3] .ret) .skip),d 4] .ret) [.cell 6 33] fun cx=>?_
 unfold Qz at H
 refine gA 2 78 72<|rA 3<|bE H fun v1 ev1 H=> iA Link.row ev1<|uA 3 204 200<|tS<|gA 1 8392 200 ?_
 cases h1 : x2
 ·have H := zF h1 H
  refine nB_<|tK<|bE H fun v2 ev2 H=> bE H fun v3 ev3 H=> bE H fun r4 er4 H=> Tr.draws mixed 18 kr ⟨48,0,[sA 6 6 5 0],[(6,(Vec.row r4))]⟩ (fun cx=>?_) ?_
  ·exact mA zC7 [(0,[]),(1,[16,17]),(2,[]),(3,[16,17])] 14 [⟨[16,17],3,33,34⟩,⟨[16,17],49,31,32⟩] fun cx=>iN zC7 4 zA.row ev2 fun cx=>mA zC7 [(5,[]),(6,[]),(7,[]),(8,[16,17]),(9,[]),(10,[16,17])] 7 [⟨[16,17],3,40,41⟩,⟨[16,17],49,38,39⟩,⟨[16,17],3,33,34⟩,⟨[16,17],49,31,32⟩] fun cx=>iN zC7 11 zA.row ev3 fun cx=>mA zC7 [(12,[]),(13,[]),(14,[]),(15,[16,17])] 2 [⟨[16,17],3,45,46⟩,⟨[16,17],3,40,41⟩,⟨[16,17],49,38,39⟩,⟨[16,17],3,33,34⟩,⟨[16,17],49,31,32⟩] fun cx=>mC zC7 16<|vA [.rd,.rd,.rd] (zEw n v2.Id v3.Ps v1.P r4 er4)<|fA<|mC zC7 17<|lA 1<|fA<|mE zC7 [6] [6]
  exact te (fJ [(true,(Vec.row r4))] H)
 have H := zG h1 H
 refine tB_<|bE H fun v5 ev5 H=> bE H fun v6 ev6 H=> bE H fun r7 er7 H=> Tr.draws mixed 18 kr ⟨48,0,[sA 6 6 5 0],[(6,(Vec.row r7))]⟩ (fun cx=>?_) ?_
 ·exact mA zC6 [(0,[]),(1,[16,17]),(2,[]),(3,[16,17])] 14 [⟨[16,17],3,16,17⟩,⟨[16,17],49,14,15⟩] fun cx=>iN zC6 4 zA.row ev5 fun cx=>mA zC6 [(5,[]),(6,[]),(7,[]),(8,[16,17]),(9,[]),(10,[16,17])] 7 [⟨[16,17],3,23,24⟩,⟨[16,17],49,21,22⟩,⟨[16,17],3,16,17⟩,⟨[16,17],49,14,15⟩] fun cx=>iN zC6 11 zA.row ev6 fun cx=>mA zC6 [(12,[]),(13,[]),(14,[]),(15,[16,17])] 2 [⟨[16,17],3,28,29⟩,⟨[16,17],3,23,24⟩,⟨[16,17],49,21,22⟩,⟨[16,17],3,16,17⟩,⟨[16,17],49,14,15⟩] fun cx=>mC zC6 16<|vA [.rd,.rd,.rd] (zEw n v5.Id v6.Ps v1.Q r7 er7)<|fA<|mC zC6 17<|lA 1<|fA<|mE zC6 [6] [6]
 exact te (fJ [(true,(Vec.row r7))] H)
def JV (n : Nat) (x0 : Net) (y3 : (List Say)) : Option (Net) :=
  (some (⟨x0.Bs,x0.Ls,y3⟩ : Net))
def QH (n : Nat) (k : (Int × (List Say) → Option (((List Say)) ⊕ (Net)))) (x0 : Net) (x1 : Int) (y1 : Int) (y6 : (List Say)) : Option (((List Say)) ⊕ (Net)) :=
  ((idx x0.Ls y1).bind fun v7 => (bif (v7.B == x1) then ((Qz n (⟨x0.Bs,x0.Ls,y6⟩ : Net) y1 true).bind fun r8 => (bif (decide (y6.length + [(⟨y1,true,r8⟩ : Say)].length ≤ 268435456)) then (k ((IntKind.wrap .i64 (y1 + 1)),(y6 ++ [(⟨y1,true,r8⟩ : Say)]))) else none)) else (k ((IntKind.wrap .i64 (y1 + 1)),y6))))
def qe (n : Nat) : Nat → Net → Int → Int → (List Say) → Option (((List Say)) ⊕ (Net))
  | 0,_,_,_,_ => none
  | mo4 + 1,x0,x1,y1,y2 => (bif (decide (y1 < (x0.Ls.length : Int))) then ((qu n (⟨x0.Bs,x0.Ls,y2⟩ : Net) y1).bind fun r5 => (bif (!r5) then (qe n mo4 x0 x1 (IntKind.wrap .i64 (y1 + 1)) y2) else (bif (decide ((y2.length : Int) ≥ 40)) then (qe n mo4 x0 x1 (IntKind.wrap .i64 (y1 + 1)) y2) else ((idx x0.Ls y1).bind fun v10 => (bif (v10.A == x1) then ((Qz n (⟨x0.Bs,x0.Ls,y2⟩ : Net) y1 false).bind fun r11 => (bif (decide (y2.length + [(⟨y1,false,r11⟩ : Say)].length ≤ 268435456)) then (QH n (fun v => qe n mo4 x0 x1 v.1 v.2) x0 x1 y1 (y2 ++ [(⟨y1,false,r11⟩ : Say)])) else none)) else (QH n (fun v => qe n mo4 x0 x1 v.1 v.2) x0 x1 y1 y2)))))) else (some (Sum.inl y2)))
def JM (n : Nat) (x0 : Net) (x1 : Int) : Option (Net) :=
  ((qe n n x0 x1 0 x0.Said).bind fun o => match o with | .inl y3 => (JV n x0 y3) | .inr r => some r)
def zNw : Tab := ⟨17,[0,0,2,4,8,0,0,64,128,0,768,1056,2048,5136,16383,32767,49151],[0,0,2,4,8,0,0,64,128,0,768,1056,2048,4112,1,16384,40960],[0,0,2,6,14,0,0,64,192,0,960,2016,4064,8190,16383,32767,65535]⟩
noncomputable abbrev zIW (k : Nat) := Rg Tryz.f144 k
noncomputable abbrev zNf (k : Nat) := Rd Tryz.f144 k
theorem zCz : za (rg Tryz.f144 5) zNw = true := kr
def zNx : Tab := ⟨17,[0,0,2,4,8,0,0,64,128,0,768,1056,2048,5136,16383,32767,49151],[0,0,2,4,8,0,0,64,128,0,768,1056,2048,4112,1,16384,40960],[0,0,2,6,14,0,0,64,192,0,960,2016,4064,8190,16383,32767,65535]⟩
theorem zC0 : za (rg Tryz.f144 7) zNx = true := kr
theorem zI1 (n : Nat) (x0 : Net) (x1 : Int) (r : Net) (H : JM n x0 x1 = some r) : zH Tryz.prog 144 [.ptr (Net.row x0),.val false [.lit (.int .i64 x1)]] [] [(0,(Net.row r))] := by
 refine zH.of_body tOk Tryz.func144 rfl (c := (.seq (zIW 0) (.block 0 (.loop (.seq (.seq (zIW 1) (.cond (.tmp 11) .skip (.exit 0))) (.seq (.block 1 (.seq (.seq (zIW 3) (.cond (.tmp 27) (.exit 1) .skip)) (.seq (.seq (zIW 4) (.cond (.tmp 37) (zNf 5) .skip)) (.seq (zIW 6) (.cond (.tmp 63) (zNf 7) .skip))))) (zIW 2))))))) kr (Nat.le_of_ble_eq_true kr) 1 (rs := []) rfl [] .nil [] [] [(0,(Net.row r))] fun cx=>?_
 show Tr _ _ _ ⟨80,1,[sA 0 0 3 0,sI 1 x1],[(0,(Net.row x0))]⟩ _
 unfold JM at H
 refine gA 1 19 1 ?_
 obtain ⟨o4,eo4,Ho4⟩ := bs H
 clear H
 refine Tr.mid (ι := (List Say)) (fun v => ⟨80,1,[sA 0 0 3 0],[(0,[cL 11 x0.Bs zA.row,cL 4 x0.Ls Link.row,cL 7 v Say.row])]⟩) (fun v => JV n x0 v = some r) ?_ ?_
 ·refine tB<|Tr.loop (ι := Nat × (Int × (List Say))) (fun v => ⟨80,1,[sI 4 v.2.1,sA 0 0 3 0,sI 1 x1],[(0,[cL 11 x0.Bs zA.row,cL 4 x0.Ls Link.row,cL 7 v.2.2 Say.row])]⟩) (fun v => qe n v.1 x0 x1 v.2.1 v.2.2 = some o4) (fun v => v.1) (n,(0,x0.Said)) eo4 (St.sub_of [4,0,1] [0] kr) ?_
  rintro ⟨mo4,y1,y2⟩ H
  have H : qe n mo4 x0 x1 y1 y2 = some o4 := H
  obtain _ | mo4 := mo4
  ·exact nN H
  rw [qe] at H
  refine tS<|rA 5<|kO x0.Ls Link.row<|uA 1 2067 1 ?_
  obtain ⟨h1,H⟩ | ⟨h1,H⟩ := bC H
  ·refine nA h1<|Tr.exit<|aJ ?_
   obtain rfl := si H
   have H := Ho4
   dsimp only at H
   exact jA y2 H [0] [0]
  refine tA h1<|tK<|tS<|tB<|tS<|rA 4<|bE H fun r5 er5 H=> vB [.rd,.rd] [.box 0] (zCs n (⟨x0.Bs,x0.Ls,y2⟩ : Net) y1 r5 er5) (.inr (zk (zI zN qF) qG))<|lA 2<|sL 1048595 1 ⟨80,1,[sB 20 (!r5),sI 4 y1,sA 0 0 3 0,sI 1 x1],[(0,[cL 11 x0.Bs zA.row,cL 4 x0.Ls Link.row,cL 7 y2 Say.row])]⟩ ?_
  cases h2 : (!r5)
  ·have H := zF h2 H
   refine lA 4<|kO y2 Say.row<|uA 2 134217747 1 ?_
   obtain ⟨h3,H⟩ | ⟨h3,H⟩ := bC H
   ·refine nA h3<|tK<|tS<|Tr.mid (ι := (List Say)) (fun v => ⟨80,1,[sI 4 y1,sA 0 0 3 0,sI 1 x1],[(0,[cL 11 x0.Bs zA.row,cL 4 x0.Ls Link.row,cL 7 v Say.row])]⟩) (fun v => QH n (fun v => qe n mo4 x0 x1 v.1 v.2) x0 x1 y1 v = some o4) ?_ ?_
    ·refine rA 5<|bE H fun v10 ev10 H=> oA Link.row ev10<|lA 1<|dE (tI 3) (.box 0) [(0,0),(1,(y1.toNat))] 4 0 [.sl true 3 [[cL 11 x0.Bs zA.row,cL 4 x0.Ls Link.row,cL 7 y2 Say.row]]] (Link.row v10) (zy rfl (zO ev10).2)<|uA 2 137438953491 1 ?_
     obtain ⟨h5,H⟩ | ⟨h5,H⟩ := bC H
     ·exact nA h5<|tK<|jA y2 H [4,0,1] [0]
     refine tA h5<|bE H fun r11 er11 H=> gE H fun hg12 H=> Tr.draw mixed 17 kr ⟨80,1,[sI 4 y1,sA 0 0 3 0,sI 1 x1],[(0,[cL 11 x0.Bs zA.row,cL 4 x0.Ls Link.row,cL 7 (y2 ++ [(⟨y1,false,r11⟩ : Say)]) Say.row])]⟩ (fun cx=>?_) ?_
     ·exact mA zCz [(0,[]),(1,[]),(2,[]),(3,[]),(4,[13,16]),(5,[]),(6,[]),(7,[]),(8,[10,11,12,13,16]),(9,[])] 7 [⟨[10,11,12,13,16],53,45,46⟩,⟨[13,16],51,41,42⟩] fun cx=>mC zCz 10<|vB [.rd,.rd,.rd] [.box 0] (zCt n (⟨x0.Bs,x0.Ls,y2⟩ : Net) y1 false r11 er11) (.inr (zk (Vec.row_mine _) qG))<|fA<|mC zCz 11<|lA 1<|fA<|mC zCz 12<|lA 1<|fA<|mC zCz 13<|LAt.appMU tOk (t := 51) (ty := 51) (e := 127) (x := (.tmp 42)) (y := (.tmp 50)) (d := 51) (g := none) (tI 127) Say.row y2 [(⟨y1,false,r11⟩ : Say)] kr kr kr kr kr kr kr kr kr kr hg12<|fA<|mA zCz [(14,[]),(15,[])] 1 [⟨[10,11,12,13,16],53,45,46⟩,⟨[13,16],51,41,42⟩] fun cx=>mC zCz 16<|lA 1<|fA<|mE zCz [4,0,1] [0]
     exact jA (y2 ++ [(⟨y1,false,r11⟩ : Say)]) H [4,0,1] [0]
    rintro y6 H
    have H : (QH n (fun v => qe n mo4 x0 x1 v.1 v.2) x0 x1 y1 y6) = some o4 := H
    unfold QH at H
    refine rA 5<|bE H fun v7 ev7 H=> oA Link.row ev7<|lA 1<|dE (tI 3) (.box 0) [(0,0),(1,(y1.toNat))] 4 2 [.sl true 3 [[cL 11 x0.Bs zA.row,cL 4 x0.Ls Link.row,cL 7 y6 Say.row]]] (Link.row v7) (zy rfl (zO ev7).2)<|uA 2 0x8000000000000013 1 ?_
    obtain ⟨h4,H⟩ | ⟨h4,H⟩ := bC H
    ·exact nA h4<|tK<|eA 3 19 1<|jB mo4 ((wI (y1 + 1)),y6) H [4,0,1] [0]
    refine tA h4<|bE H fun r8 er8 H=> gE H fun hg9 H=> Tr.draw mixed 17 kr ⟨80,1,[sI 4 y1,sA 0 0 3 0,sI 1 x1],[(0,[cL 11 x0.Bs zA.row,cL 4 x0.Ls Link.row,cL 7 (y6 ++ [(⟨y1,true,r8⟩ : Say)]) Say.row])]⟩ (fun cx=>?_) ?_
    ·exact mA zC0 [(0,[]),(1,[]),(2,[]),(3,[]),(4,[13,16]),(5,[]),(6,[]),(7,[]),(8,[10,11,12,13,16]),(9,[])] 7 [⟨[10,11,12,13,16],53,71,72⟩,⟨[13,16],51,67,68⟩] fun cx=>mC zC0 10<|vB [.rd,.rd,.rd] [.box 0] (zCt n (⟨x0.Bs,x0.Ls,y6⟩ : Net) y1 true r8 er8) (.inr (zk (Vec.row_mine _) qG))<|fA<|mC zC0 11<|lA 1<|fA<|mC zC0 12<|lA 1<|fA<|mC zC0 13<|LAt.appMU tOk (t := 51) (ty := 51) (e := 127) (x := (.tmp 68)) (y := (.tmp 76)) (d := 77) (g := none) (tI 127) Say.row y6 [(⟨y1,true,r8⟩ : Say)] kr kr kr kr kr kr kr kr kr kr hg9<|fA<|mA zC0 [(14,[]),(15,[])] 1 [⟨[10,11,12,13,16],53,71,72⟩,⟨[13,16],51,67,68⟩] fun cx=>mC zC0 16<|lA 1<|fA<|mE zC0 [4,0,1] [0]
    exact eA 3 19 1<|jB mo4 ((wI (y1 + 1)),(y6 ++ [(⟨y1,true,r8⟩ : Say)])) H [4,0,1] [0]
   exact tA h3<|Tr.exit<|aJ<|eA 3 19 1<|jB mo4 ((wI (y1 + 1)),y2) H [4,0,1] [0]
  have H := zG h2 H
  exact uA 7 134217747 1<|tB_<|Tr.exit<|aJ<|eA 3 19 1<|jB mo4 ((wI (y1 + 1)),y2) H [4,0,1] [0]
 rintro y3 H
 have H : (JV n x0 y3) = some r := H
 unfold JV at H
 exact fY [] [(0,[cL 11 x0.Bs zA.row,cL 4 x0.Ls Link.row,cL 7 y3 Say.row])] H
def QW (n : Nat) (x0 : zA) (x1 : Int) (x2 : Vec) : Option (zA) :=
  ((QY n x0).bind fun r1 => ((Yl n x0 x1).bind fun r2 => (bif (!r2) then (some r1) else ((idx x0.Ps x1).bind fun v3 => (bif (!v3.Up) then (some r1) else ((zm n x2).bind fun r4 => (bif (!r4) then (some r1) else ((idx r1.Ps x1).bind fun v5 => ((idx (r1.Ps.set (x1.toNat) (⟨v5.Up,v5.Co,true,v5.Hd⟩ : Pt)) x1).bind fun v6 => ((q4 n (⟨r1.Id,r1.Name,((r1.Ps.set (x1.toNat) (⟨v5.Up,v5.Co,true,v5.Hd⟩ : Pt)).set (x1.toNat) (⟨v6.Up,v6.Co,v6.Has,x2⟩ : Pt)),r1.F,r1.V,r1.Tk,r1.Pa,r1.Wo,r1.Dr,r1.Ve⟩ : zA)).bind fun r7 => (some r7)))))))))))
theorem zGa (n : Nat) (x0 : zA) (x1 : Int) (x2 : Vec) (r : zA) (H : QW n x0 x1 x2 = some r) : zH Tryz.prog 18 [.val true (fR (zA.row x0)),.val false [.lit (.int .i64 x1)],.val true (fR (Vec.row x2))] [.val true (zA.row r)] [] := by
 refine cW Tryz.func18 (fun g d => sl [g 0,g 1,sl [g 2] (cn 27 (sl [g 3] .ret) .skip),g 4,g 5,g 6] .ret) [.cell 6 31] fun cx=>?_
 unfold QW at H
 refine gA 3 106 104<|rA 1<|bE H fun r1 er1 H=> vA [.rd] (zCI n x0 r1 er1)<|uA 2 234 232<|tS<|rA 2<|bE H fun r2 er2 H=> vA [.rd,.rd] (zFt n x0 x1 r2 er2)<|lA 2<|sL 16618 232 ⟨42,0,[sB 14 (!r2),sA 7 7 11 0,sA 6 6 11 0,sA 5 5 5 0,sA 3 3 11 0,sI 1 x1],[(7,(zA.row r1)),(6,[cI 0,cS (⟨#[]⟩ : ByteArray),cL 8 ([] : List Pt) Pt.row,cL 5 ([] : List zB) zB.row,cL 3 ([] : List zE) zE.row,cL 1 ([] : List Int) intRow,cI 0,cI 0,cI 0,cI 0,cI 0]),(5,(Vec.row x2)),(3,(fR (zA.row x0)))]⟩ ?_
 cases h1 : (!r2)
 ·have H := zF h1 H
  refine lA 3<|bE H fun v3 ev3 H=> iA Pt.row ev3<|lA 5<|sL 8388834 224 ⟨42,0,[sB 23 (!v3.Up),sA 7 7 11 0,sA 6 6 11 0,sA 5 5 5 0,sI 1 x1],[(7,(zA.row r1)),(6,[cI 0,cS (⟨#[]⟩ : ByteArray),cL 8 ([] : List Pt) Pt.row,cL 5 ([] : List zB) zB.row,cL 3 ([] : List zE) zE.row,cL 1 ([] : List Int) intRow,cI 0,cI 0,cI 0,cI 0,cI 0]),(5,(Vec.row x2))]⟩ ?_
  cases h2 : (!v3.Up)
  ·have H := zF h2 H
   refine lA 1<|bE H fun r4 er4 H=> vA [.rd] (zCH n x2 r4 er4)<|uA 2 134217954 224 ?_
   obtain ⟨h3,H⟩ | ⟨h3,H⟩ := bC H
   ·exact nA h3<|tK<|rA 3<|bE H fun v5 ev5 H=> oA Pt.row ev5<|lA 1<|LAt.storeB tOk (t := 4) (ty := 0) (ad := (.tmp 33)) (x := (.const (.bool true))) (g := none) (tI 4) false [cB true] 7 2 (x1.toNat) 8 2 8 r1.Ps Pt.row v5 (⟨v5.Up,v5.Co,true,v5.Hd⟩ : Pt) kr kr kr kr kr kr kr kr (zO ev5).2 kr kr kr kr<|dA 226 224<|rA 4<|bE H fun v6 ev6 H=> oA Pt.row ev6<|lA 1<|LAt.storeB tOk (t := 33) (ty := 0) (ad := (.tmp 39)) (x := (.tmp 37)) (g := none) (tI 33) true (Vec.row x2) 7 2 (x1.toNat) 8 3 8 (r1.Ps.set (x1.toNat) (⟨v5.Up,v5.Co,true,v5.Hd⟩ : Pt)) Pt.row v6 (⟨v6.Up,v6.Co,v6.Has,x2⟩ : Pt) kr kr kr kr kr kr kr kr (zO ev6).2 kr kr kr kr<|dA 192 192<|rA 1<|bE H fun r7 er7 H=> vA [.own] (zCj n (⟨r1.Id,r1.Name,((r1.Ps.set (x1.toNat) (⟨v5.Up,v5.Co,true,v5.Hd⟩ : Pt)).set (x1.toNat) (⟨v6.Up,v6.Co,v6.Has,x2⟩ : Pt)),r1.F,r1.V,r1.Tk,r1.Pa,r1.Wo,r1.Dr,r1.Ve⟩ : zA) r7 er7)<|uA 1 64 64<|te (fJ [(true,(zA.row r7))] H)
   exact tA h3<|gA 2 64 64<|te (fJ [(true,(zA.row r1))] H)
  have H := zG h2 H
  exact uA 4 134217954 224<|tB_<|gA 2 64 64<|te (fJ [(true,(zA.row r1))] H)
 have H := zG h1 H
 exact uA 13 134217954 224<|tB_<|gA 2 64 64<|te (fJ [(true,(zA.row r1))] H)
def Y7 (n : Nat) (x0 : Net) (x1 : Int) (x2 : Bool) (x3 : Vec) : Option (Net) :=
  ((idx x0.Ls x1).bind fun v1 => (bif x2 then ((idx x0.Bs v1.A).bind fun v4 => ((QW n v4 v1.P x3).bind fun r5 => (some (⟨(x0.Bs.set (v1.A.toNat) r5),x0.Ls,x0.Said⟩ : Net)))) else ((idx x0.Bs v1.B).bind fun v2 => ((QW n v2 v1.Q x3).bind fun r3 => (some (⟨(x0.Bs.set (v1.B.toNat) r3),x0.Ls,x0.Said⟩ : Net))))))
def zN2 : Tab := ⟨20,[0,1,2,4,0,16,0,64,128,256,0,1024,2560,4096,0,16384,0,106496,262143,524287],[0,1,2,4,0,16,0,64,128,256,0,1024,2560,4096,0,16384,0,106496,40,393216],[0,1,3,7,0,16,0,64,192,448,0,1024,4032,8128,0,16384,0,131008,262143,524287]⟩
noncomputable abbrev zMh (k : Nat) := Rg Tryz.f148 k
noncomputable abbrev zNh (k : Nat) := Rd Tryz.f148 k
theorem zC4 : za (rg Tryz.f148 3) zN2 = true := kr
def zN3 : Tab := ⟨20,[0,1,2,4,0,16,0,64,128,256,0,1024,2560,4096,0,16384,0,106496,262143,524287],[0,1,2,4,0,16,0,64,128,256,0,1024,2560,4096,0,16384,0,106496,40,393216],[0,1,3,7,0,16,0,64,192,448,0,1024,4032,8128,0,16384,0,131008,262143,524287]⟩
theorem zC5 : za (rg Tryz.f148 4) zN3 = true := kr
theorem zKS (n : Nat) (x0 : Net) (x1 : Int) (x2 : Bool) (x3 : Vec) (r : Net) (H : Y7 n x0 x1 x2 x3 = some r) : zH Tryz.prog 148 [.ptr (Net.row x0),.val false [.lit (.int .i64 x1)],.val false [.lit (.bool x2)],.val true (fR (Vec.row x3))] [] [(0,(Net.row r))] := by
 refine zH.of_body tOk Tryz.func148 rfl (c := (.seq (zMh 0) (.seq (zMh 1) (.seq (.seq (zMh 2) (.cond (.tmp 16) (.seq (zNh 3) .ret) .skip)) (zNh 4))))) kr (Nat.le_of_ble_eq_true kr) 1 (rs := []) rfl [] .nil [] [] [(0,(Net.row r))] fun cx=>?_
 show Tr _ _ _ ⟨55,1,[sA 0 0 3 0,sI 1 x1,sB 2 x2,sV 3 (Vec.row x3)],[(0,(Net.row x0))]⟩ _
 unfold Y7 at H
 refine gA 1 135 129<|rA 5<|bE H fun v1 ev1 H=> oA Link.row ev1<|dE (tI 78) (.box 0) [(0,0),(1,(x1.toNat))] 4 0 [.sl true 3 [(Net.row x0)]] (Link.row v1) (zy rfl (zO ev1).2)<|uA 2 389 385<|tS<|gA 1 65921 385 ?_
 cases h1 : x2
 ·have H := zF h1 H
  refine nB_<|tK<|bE H fun v2 ev2 H=> bE H fun r3 er3 H=> Tr.draw mixed 20 kr ⟨55,1,[sA 0 0 3 0],[(0,[cL 11 (x0.Bs.set (v1.B.toNat) r3) zA.row,cL 4 x0.Ls Link.row,cL 7 x0.Said Say.row])]⟩ (fun cx=>?_) ?_
  ·refine mA zC5 [(0,[]),(1,[]),(2,[]),(3,[19]),(4,[]),(5,[19]),(6,[]),(7,[]),(8,[]),(9,[17,19]),(10,[]),(11,[17,19])] 8 [⟨[17,19],3,46,47⟩,⟨[17,19],49,44,45⟩,⟨[19],3,40,41⟩,⟨[19],49,38,39⟩] fun cx=>oN zC5 12 zA.row ev2 fun cx=>mA zC5 [(14,[]),(15,[17,19]),(16,[17,19])] 4 [⟨[17,19],33,7,52⟩,⟨[17,19],3,50,51⟩,⟨[17,19],3,46,47⟩,⟨[17,19],49,44,45⟩,⟨[19],3,40,41⟩,⟨[19],49,38,39⟩] fun cx=>mC zC5 13<|dE (tI 31) (.box 0) [(0,0),(0,(v1.B.toNat))] 11 0 [.sl true 3 [(Net.row x0)]] (zA.row v2) (zy rfl (zO ev2).2)<|fA<|mC zC5 17<|LAt.callO tOk [.rd,.rd,.rd] (f := 18) (av := #[.tmp 49,.tmp 51,.tmp 52]) (ats := #[31,3,33]) (d := (some 53)) (ty := 31) (g := none) [(49,zA.row v2)] none kr kr kr [.box 0] (zGa n v2 v1.Q x3 r3 er3) (zCf (row := [.sl true 3 [(Net.row x0)]]) (q := [(0,0),(0,(v1.B.toNat))]) kr (zy rfl (zO ev2).2) zDw) kr zDv (.inr (And.intro (zk (zA.row_mine _) qG) zCg))<|fA<|oN zC5 18 zA.row ev2 fun cx=>sA_ 0x7cf3c000000081 385 ⟨55,1,[(54,.adr (.box 0) [(0,0),(0,(v1.B.toNat))] 11 0),sV 53 (zA.row r3),sV 52 (Vec.row x3),sI 51 v1.Q,sA 50 8 4 3,sI 47 v1.B,sA 46 8 4 2,sR 45 0 3 0 1 false,sA 44 0 3 0,sI 41 v1.B,sA 40 8 4 2,sR 39 0 3 0 1 false,sA 38 0 3 0,sA 7 7 5 0,sA 0 0 3 0],[(8,(Link.row v1)),(7,(Vec.row x3)),(0,(Net.row x0))]⟩<|mC zC5 19<|LAt.storeB tOk (t := 31) (ty := 0) (ad := (.tmp 54)) (x := (.tmp 53)) (g := none) (tI 31) true (zA.row r3) 0 0 (v1.B.toNat) 11 0 11 x0.Bs zA.row v2 r3 kr kr kr kr kr kr kr kr (zO ev2).2 kr kr kr kr ?_
   exact fA<|mE zC5 [0] [0]
  exact fY [] [(0,[cL 11 (x0.Bs.set (v1.B.toNat) r3) zA.row,cL 4 x0.Ls Link.row,cL 7 x0.Said Say.row])] H
 have H := zG h1 H
 refine tB_<|bE H fun v4 ev4 H=> bE H fun r5 er5 H=> Tr.draws mixed 20 kr ⟨55,1,[sA 0 0 3 0],[(0,[cL 11 (x0.Bs.set (v1.A.toNat) r5) zA.row,cL 4 x0.Ls Link.row,cL 7 x0.Said Say.row])]⟩ (fun cx=>?_) ?_
 ·refine mA zC4 [(0,[]),(1,[]),(2,[]),(3,[19]),(4,[]),(5,[19]),(6,[]),(7,[]),(8,[]),(9,[17,19]),(10,[]),(11,[17,19])] 8 [⟨[17,19],3,27,28⟩,⟨[17,19],49,25,26⟩,⟨[19],3,21,22⟩,⟨[19],49,19,20⟩] fun cx=>oN zC4 12 zA.row ev4 fun cx=>mA zC4 [(14,[]),(15,[17,19]),(16,[17,19])] 4 [⟨[17,19],33,7,33⟩,⟨[17,19],3,31,32⟩,⟨[17,19],3,27,28⟩,⟨[17,19],49,25,26⟩,⟨[19],3,21,22⟩,⟨[19],49,19,20⟩] fun cx=>mC zC4 13<|dE (tI 31) (.box 0) [(0,0),(0,(v1.A.toNat))] 11 0 [.sl true 3 [(Net.row x0)]] (zA.row v4) (zy rfl (zO ev4).2)<|fA<|mC zC4 17<|LAt.callO tOk [.rd,.rd,.rd] (f := 18) (av := #[.tmp 30,.tmp 32,.tmp 33]) (ats := #[31,3,33]) (d := (some 34)) (ty := 31) (g := none) [(30,zA.row v4)] none kr kr kr [.box 0] (zGa n v4 v1.P x3 r5 er5) (zCf (row := [.sl true 3 [(Net.row x0)]]) (q := [(0,0),(0,(v1.A.toNat))]) kr (zy rfl (zO ev4).2) zDw) kr zDv (.inr (And.intro (zk (zA.row_mine _) qG) zCg))<|fA<|oN zC4 18 zA.row ev4 fun cx=>sA_ 67083174017 385 ⟨55,1,[(35,.adr (.box 0) [(0,0),(0,(v1.A.toNat))] 11 0),sV 34 (zA.row r5),sV 33 (Vec.row x3),sI 32 v1.P,sA 31 8 4 1,sI 28 v1.A,sA 27 8 4 0,sR 26 0 3 0 1 false,sA 25 0 3 0,sI 22 v1.A,sA 21 8 4 0,sR 20 0 3 0 1 false,sA 19 0 3 0,sA 7 7 5 0,sA 0 0 3 0],[(8,(Link.row v1)),(7,(Vec.row x3)),(0,(Net.row x0))]⟩<|mC zC4 19<|LAt.storeB tOk (t := 31) (ty := 0) (ad := (.tmp 35)) (x := (.tmp 34)) (g := none) (tI 31) true (zA.row r5) 0 0 (v1.A.toNat) 11 0 11 x0.Bs zA.row v4 r5 kr kr kr kr kr kr kr kr (zO ev4).2 kr kr kr kr ?_
  exact fA<|mE zC4 [0] [0]
 exact te<|fY [] [(0,[cL 11 (x0.Bs.set (v1.A.toNat) r5) zA.row,cL 4 x0.Ls Link.row,cL 7 x0.Said Say.row])] H
def Y8 (n : Nat) (x0 : Net) (x1 : Event) : Option (Net) :=
  ((idx x0.Said x1.At).bind fun v1 => (bif (decide ((0 : Int) ≤ 0) && (decide ((0 : Int) ≤ x1.At) && decide ((x1.At : Int) ≤ (x0.Said.length : Int)))) then (bif (decide (([] : List Say).length + ((x0.Said.drop ((0 : Int)).toNat).take (((x1.At : Int)).toNat - ((0 : Int)).toNat)).length ≤ 268435456)) then (bif (decide ((0 : Int) ≤ (IntKind.wrap .i64 (x1.At + 1))) && (decide (((IntKind.wrap .i64 (x1.At + 1)) : Int) ≤ (x0.Said.length : Int)) && decide (((x0.Said.length : Int) : Int) ≤ (x0.Said.length : Int)))) then (bif (decide ((([] : List Say) ++ ((x0.Said.drop ((0 : Int)).toNat).take (((x1.At : Int)).toNat - ((0 : Int)).toNat))).length + ((x0.Said.drop (((IntKind.wrap .i64 (x1.At + 1)) : Int)).toNat).take ((((x0.Said.length : Int) : Int)).toNat - (((IntKind.wrap .i64 (x1.At + 1)) : Int)).toNat)).length ≤ 268435456)) then (bif (x1.Ki == 2) then ((qu n (⟨x0.Bs,x0.Ls,((([] : List Say) ++ ((x0.Said.drop ((0 : Int)).toNat).take (((x1.At : Int)).toNat - ((0 : Int)).toNat))) ++ ((x0.Said.drop (((IntKind.wrap .i64 (x1.At + 1)) : Int)).toNat).take ((((x0.Said.length : Int) : Int)).toNat - (((IntKind.wrap .i64 (x1.At + 1)) : Int)).toNat)))⟩ : Net) v1.Link).bind fun r6 => (bif r6 then ((Y7 n (⟨x0.Bs,x0.Ls,((([] : List Say) ++ ((x0.Said.drop ((0 : Int)).toNat).take (((x1.At : Int)).toNat - ((0 : Int)).toNat))) ++ ((x0.Said.drop (((IntKind.wrap .i64 (x1.At + 1)) : Int)).toNat).take ((((x0.Said.length : Int) : Int)).toNat - (((IntKind.wrap .i64 (x1.At + 1)) : Int)).toNat)))⟩ : Net) v1.Link v1.Back v1.V).bind fun r7 => (some r7)) else (some (⟨x0.Bs,x0.Ls,((([] : List Say) ++ ((x0.Said.drop ((0 : Int)).toNat).take (((x1.At : Int)).toNat - ((0 : Int)).toNat))) ++ ((x0.Said.drop (((IntKind.wrap .i64 (x1.At + 1)) : Int)).toNat).take ((((x0.Said.length : Int) : Int)).toNat - (((IntKind.wrap .i64 (x1.At + 1)) : Int)).toNat)))⟩ : Net)))) else (some (⟨x0.Bs,x0.Ls,((([] : List Say) ++ ((x0.Said.drop ((0 : Int)).toNat).take (((x1.At : Int)).toNat - ((0 : Int)).toNat))) ++ ((x0.Said.drop (((IntKind.wrap .i64 (x1.At + 1)) : Int)).toNat).take ((((x0.Said.length : Int) : Int)).toNat - (((IntKind.wrap .i64 (x1.At + 1)) : Int)).toNat)))⟩ : Net))) else none) else none) else none) else none))
def zNy : Tab := ⟨22,[0,0,0,4,8,16,0,64,160,258,0,1024,2048,4096,0,16384,32768,73728,131584,524287,1048575,1572863],[0,0,0,4,8,16,0,64,160,258,0,1024,2048,4096,0,16384,32768,73728,131584,1,524288,1310720],[0,0,0,4,12,28,0,64,252,510,0,1024,3072,7168,0,16384,49152,130048,262142,524287,1048575,2097151]⟩
noncomputable abbrev zNi (k : Nat) := Rg Tryz.f145 k
noncomputable abbrev zMf (k : Nat) := Rd Tryz.f145 k
theorem zo : za (rg Tryz.f145 2) zNy = true := kr
theorem zIQ (n : Nat) (x0 : Net) (x1 : Event) (v1 : Say) (hg2 : (decide ((0 : Int) ≤ 0) && (decide ((0 : Int) ≤ x1.At) && decide ((x1.At : Int) ≤ (x0.Said.length : Int)))) = true) (hg3 : (decide (([] : List Say).length + ((x0.Said.drop ((0 : Int)).toNat).take (((x1.At : Int)).toNat - ((0 : Int)).toNat)).length ≤ 268435456)) = true) (hg4 : (decide ((0 : Int) ≤ (wI (x1.At + 1))) && (decide (((wI (x1.At + 1)) : Int) ≤ (x0.Said.length : Int)) && decide (((x0.Said.length : Int) : Int) ≤ (x0.Said.length : Int)))) = true) (hg5 : (decide ((([] : List Say) ++ ((x0.Said.drop ((0 : Int)).toNat).take (((x1.At : Int)).toNat - ((0 : Int)).toNat))).length + ((x0.Said.drop (((wI (x1.At + 1)) : Int)).toNat).take ((((x0.Said.length : Int) : Int)).toNat - (((wI (x1.At + 1)) : Int)).toNat)).length ≤ 268435456)) = true) (cx : Cx) : AT Tryz.prog cx (rg Tryz.f145 2) [] 22 [] ⟨53,1,[sA 4 4 7 0,sA 3 3 2 0,sA 0 0 3 0],[(0,[cL 11 x0.Bs zA.row,cL 4 x0.Ls Link.row,cF 7 x0.Said Say.row]),(4,(Say.row v1)),(3,(Event.row x1))]⟩ (fun s => s = ⟨53,1,[sA 4 4 7 0,sA 3 3 2 0,sA 0 0 3 0],[(0,[cL 11 x0.Bs zA.row,cL 4 x0.Ls Link.row,cL 7 ((([] : List Say) ++ ((x0.Said.drop ((0 : Int)).toNat).take (((x1.At : Int)).toNat - ((0 : Int)).toNat))) ++ ((x0.Said.drop (((wI (x1.At + 1)) : Int)).toNat).take ((((x0.Said.length : Int) : Int)).toNat - (((wI (x1.At + 1)) : Int)).toNat))) Say.row]),(4,(Say.row v1)),(3,(Event.row x1))]⟩) := by
 refine mA zo [(0,[]),(2,[]),(3,[]),(4,[]),(5,[8,9,18,21]),(6,[]),(7,[8,9,18,21]),(10,[]),(11,[]),(12,[]),(13,[17,18,21]),(14,[]),(15,[17,18,21]),(16,[])] 8 [⟨[17,18,21],3,27,28⟩,⟨[17,18,21],51,25,26⟩,⟨[8,9,18,21],3,19,20⟩,⟨[8,9,18,21],51,17,18⟩] fun cx=>mB3 tOk zo 1 8 17 kr (And.intro kr ?_) (And.intro kr ?_) (And.intro kr ?_)
 ·refine lA 1<|fA<|mB2 tOk zo 8 17 kr (And.intro kr ?_) (And.intro kr ?_)
  ·refine LAt.cutG tOk (t := 51) (ty := 51) (e := 127) (x := (.tmp 18)) (lo := none) (hi := (some (.tmp 20))) (d := 21) (g := none) (tI 127) Say.row x0.Said ⟨(.box 0),[(0,0)],2,false,7,(CV.frzEs (x0.Said.map Say.row))⟩ 0 x1.At kr kr kr kr kr kr rfl kr rfl kr kr hg2<|fA<|mB2 tOk zo 9 17 kr (And.intro kr ?_) (And.intro kr ?_)
   ·exact pD Say.row hg3<|fA<|mC zo 17<|LAt.cutG tOk (t := 51) (ty := 51) (e := 127) (x := (.tmp 26)) (lo := (some (.tmp 29))) (hi := none) (d := 30) (g := none) (tI 127) Say.row x0.Said ⟨(.box 0),[(0,0)],2,false,7,(CV.frzEs (x0.Said.map Say.row))⟩ (wI (x1.At + 1)) (x0.Said.length : Int) kr kr kr kr kr kr rfl kr rfl kr kr hg4<|fA<|mC zo 18<|pD Say.row hg5<|fA<|mA zo [(19,[]),(20,[])] 1 [⟨[17,18,21],3,27,28⟩,⟨[17,18,21],51,25,26⟩,⟨[8,9,18,21],3,19,20⟩,⟨[8,9,18,21],51,17,18⟩] fun cx=>mC zo 21<|lA 1<|fA<|mE zo [4,3,0] [0,4,3]
   ·exact LAt.cutG tOk (t := 51) (ty := 51) (e := 127) (x := (.tmp 26)) (lo := (some (.tmp 29))) (hi := none) (d := 30) (g := none) (tI 127) Say.row x0.Said ⟨(.box 0),[(0,0)],2,false,7,(CV.frzEs (x0.Said.map Say.row))⟩ (wI (x1.At + 1)) (x0.Said.length : Int) kr kr kr kr kr kr rfl kr rfl kr kr hg4<|fA<|mC zo 9<|pD Say.row hg3<|fA<|mC zo 18<|pD Say.row hg5<|fA<|mA zo [(19,[]),(20,[])] 1 [⟨[17,18,21],3,27,28⟩,⟨[17,18,21],51,25,26⟩,⟨[8,9,18,21],3,19,20⟩,⟨[8,9,18,21],51,17,18⟩] fun cx=>mC zo 21<|lA 1<|fA<|mE zo [4,3,0] [0,4,3]
  ·exact LAt.cutG tOk (t := 51) (ty := 51) (e := 127) (x := (.tmp 26)) (lo := (some (.tmp 29))) (hi := none) (d := 30) (g := none) (tI 127) Say.row x0.Said ⟨(.box 0),[(0,0)],2,false,7,(CV.frzEs (x0.Said.map Say.row))⟩ (wI (x1.At + 1)) (x0.Said.length : Int) kr kr kr kr kr kr rfl kr rfl kr kr hg4<|fA<|mC zo 8<|LAt.cutG tOk (t := 51) (ty := 51) (e := 127) (x := (.tmp 18)) (lo := none) (hi := (some (.tmp 20))) (d := 21) (g := none) (tI 127) Say.row x0.Said ⟨(.box 0),[(0,0)],2,false,7,(CV.frzEs (x0.Said.map Say.row))⟩ 0 x1.At kr kr kr kr kr kr rfl kr rfl kr kr hg2<|fA<|mC zo 9<|pD Say.row hg3<|fA<|mC zo 18<|pD Say.row hg5<|fA<|mA zo [(19,[]),(20,[])] 1 [⟨[17,18,21],3,27,28⟩,⟨[17,18,21],51,25,26⟩,⟨[8,9,18,21],3,19,20⟩,⟨[8,9,18,21],51,17,18⟩] fun cx=>mC zo 21<|lA 1<|fA<|mE zo [4,3,0] [0,4,3]
 ·refine LAt.cutG tOk (t := 51) (ty := 51) (e := 127) (x := (.tmp 18)) (lo := none) (hi := (some (.tmp 20))) (d := 21) (g := none) (tI 127) Say.row x0.Said ⟨(.box 0),[(0,0)],2,false,7,(CV.frzEs (x0.Said.map Say.row))⟩ 0 x1.At kr kr kr kr kr kr rfl kr rfl kr kr hg2<|fA<|mB2 tOk zo 1 17 kr (And.intro kr ?_) (And.intro kr ?_)
  ·refine lA 1<|fA<|mB2 tOk zo 9 17 kr (And.intro kr ?_) (And.intro kr ?_)
   ·exact pD Say.row hg3<|fA<|mC zo 17<|LAt.cutG tOk (t := 51) (ty := 51) (e := 127) (x := (.tmp 26)) (lo := (some (.tmp 29))) (hi := none) (d := 30) (g := none) (tI 127) Say.row x0.Said ⟨(.box 0),[(0,0)],2,false,7,(CV.frzEs (x0.Said.map Say.row))⟩ (wI (x1.At + 1)) (x0.Said.length : Int) kr kr kr kr kr kr rfl kr rfl kr kr hg4<|fA<|mC zo 18<|pD Say.row hg5<|fA<|mA zo [(19,[]),(20,[])] 1 [⟨[17,18,21],3,27,28⟩,⟨[17,18,21],51,25,26⟩,⟨[8,9,18,21],3,19,20⟩,⟨[8,9,18,21],51,17,18⟩] fun cx=>mC zo 21<|lA 1<|fA<|mE zo [4,3,0] [0,4,3]
   ·exact LAt.cutG tOk (t := 51) (ty := 51) (e := 127) (x := (.tmp 26)) (lo := (some (.tmp 29))) (hi := none) (d := 30) (g := none) (tI 127) Say.row x0.Said ⟨(.box 0),[(0,0)],2,false,7,(CV.frzEs (x0.Said.map Say.row))⟩ (wI (x1.At + 1)) (x0.Said.length : Int) kr kr kr kr kr kr rfl kr rfl kr kr hg4<|fA<|mC zo 9<|pD Say.row hg3<|fA<|mC zo 18<|pD Say.row hg5<|fA<|mA zo [(19,[]),(20,[])] 1 [⟨[17,18,21],3,27,28⟩,⟨[17,18,21],51,25,26⟩,⟨[8,9,18,21],3,19,20⟩,⟨[8,9,18,21],51,17,18⟩] fun cx=>mC zo 21<|lA 1<|fA<|mE zo [4,3,0] [0,4,3]
  ·exact LAt.cutG tOk (t := 51) (ty := 51) (e := 127) (x := (.tmp 26)) (lo := (some (.tmp 29))) (hi := none) (d := 30) (g := none) (tI 127) Say.row x0.Said ⟨(.box 0),[(0,0)],2,false,7,(CV.frzEs (x0.Said.map Say.row))⟩ (wI (x1.At + 1)) (x0.Said.length : Int) kr kr kr kr kr kr rfl kr rfl kr kr hg4<|fA<|mC zo 1<|lA 1<|fA<|mC zo 9<|pD Say.row hg3<|fA<|mC zo 18<|pD Say.row hg5<|fA<|mA zo [(19,[]),(20,[])] 1 [⟨[17,18,21],3,27,28⟩,⟨[17,18,21],51,25,26⟩,⟨[8,9,18,21],3,19,20⟩,⟨[8,9,18,21],51,17,18⟩] fun cx=>mC zo 21<|lA 1<|fA<|mE zo [4,3,0] [0,4,3]
 ·refine LAt.cutG tOk (t := 51) (ty := 51) (e := 127) (x := (.tmp 26)) (lo := (some (.tmp 29))) (hi := none) (d := 30) (g := none) (tI 127) Say.row x0.Said ⟨(.box 0),[(0,0)],2,false,7,(CV.frzEs (x0.Said.map Say.row))⟩ (wI (x1.At + 1)) (x0.Said.length : Int) kr kr kr kr kr kr rfl kr rfl kr kr hg4<|fA<|mB2 tOk zo 1 8 kr (And.intro kr ?_) (And.intro kr ?_)
  ·exact lA 1<|fA<|mC zo 8<|LAt.cutG tOk (t := 51) (ty := 51) (e := 127) (x := (.tmp 18)) (lo := none) (hi := (some (.tmp 20))) (d := 21) (g := none) (tI 127) Say.row x0.Said ⟨(.box 0),[(0,0)],2,false,7,(CV.frzEs (x0.Said.map Say.row))⟩ 0 x1.At kr kr kr kr kr kr rfl kr rfl kr kr hg2<|fA<|mC zo 9<|pD Say.row hg3<|fA<|mC zo 18<|pD Say.row hg5<|fA<|mA zo [(19,[]),(20,[])] 1 [⟨[17,18,21],3,27,28⟩,⟨[17,18,21],51,25,26⟩,⟨[8,9,18,21],3,19,20⟩,⟨[8,9,18,21],51,17,18⟩] fun cx=>mC zo 21<|lA 1<|fA<|mE zo [4,3,0] [0,4,3]
  ·exact LAt.cutG tOk (t := 51) (ty := 51) (e := 127) (x := (.tmp 18)) (lo := none) (hi := (some (.tmp 20))) (d := 21) (g := none) (tI 127) Say.row x0.Said ⟨(.box 0),[(0,0)],2,false,7,(CV.frzEs (x0.Said.map Say.row))⟩ 0 x1.At kr kr kr kr kr kr rfl kr rfl kr kr hg2<|fA<|mC zo 1<|lA 1<|fA<|mC zo 9<|pD Say.row hg3<|fA<|mC zo 18<|pD Say.row hg5<|fA<|mA zo [(19,[]),(20,[])] 1 [⟨[17,18,21],3,27,28⟩,⟨[17,18,21],51,25,26⟩,⟨[8,9,18,21],3,19,20⟩,⟨[8,9,18,21],51,17,18⟩] fun cx=>mC zo 21<|lA 1<|fA<|mE zo [4,3,0] [0,4,3]
theorem zKU (n : Nat) (x0 : Net) (x1 : Event) (r : Net) (H : Y8 n x0 x1 = some r) : zH Tryz.prog 145 [.ptr (Net.row x0),.val true (fR (Event.row x1))] [] [(0,(Net.row r))] := by
 refine zH.of_body tOk Tryz.func145 rfl (c := (.seq (zNi 0) (.seq (zMf 1) (.seq (zMf 2) (.seq (zMf 3) (.cond (.tmp 44) (zNi 4) .skip)))))) kr (Nat.le_of_ble_eq_true kr) 1 (rs := []) rfl [] .nil [] [] [(0,(Net.row r))] fun cx=>?_
 show Tr _ _ _ ⟨53,1,[sA 0 0 3 0,sV 1 (Event.row x1)],[(0,(Net.row x0))]⟩ _
 unfold Y8 at H
 refine gA 1 9 9<|bE H fun v1 ev1 H=> Tr.draws mixed 10 kr ⟨53,1,[sA 4 4 7 0,sA 3 3 2 0,sA 0 0 3 0],[(4,(Say.row v1)),(3,(Event.row x1)),(0,(Net.row x0))]⟩ (fun cx=>?_) ?_
 ·refine aA [(0,[]),(1,[]),(2,[]),(3,[9]),(4,[]),(5,[9])] 4 [⟨[9],3,9,10⟩,⟨[9],51,7,8⟩] fun cx=>aO tOk 6 51 0 8 10 11 none ⟨(.box 0),[(0,0)],2,true,7,(x0.Said.map Say.row)⟩ x1.At (x1.At.toNat) (Say.row v1) _ kr kr kr kr kr kr rfl kr (zAG ev1) rfl rfl (fun cx=>?_)
  refine AT.big2 tOk 7 8 kr (And.intro kr ?_) (And.intro kr ?_)
  ·exact dE (tI 127) (.box 0) [(0,0),(2,(x1.At.toNat))] 7 0 [.sl true 3 [(Net.row x0)]] (Say.row v1) (zy rfl (zO ev1).2)<|fA<|bA 8<|lA 1<|fA<|sA_ 6041 25 ⟨53,1,[sA 4 4 7 0,sV 12 (Say.row v1),sI 10 x1.At,sA 9 3 2 1,sR 8 0 3 2 1 false,sA 7 0 3 2,sA 3 3 2 0,sA 0 0 3 0],[(4,[cI 0,cB false,cI 0,cI 0,cI 0,cI 0,cI 0]),(3,(Event.row x1)),(0,(Net.row x0))]⟩<|bA 9<|lA 1<|fA<|eE [4,3,0] [4,3,0]
  ·exact lA 1<|fA<|bA 7<|dE (tI 127) (.box 0) [(0,0),(2,(x1.At.toNat))] 7 0 [.sl true 3 [(Net.row x0)]] (Say.row v1) (zy rfl (zO ev1).2)<|fA<|sA_ 6041 25 ⟨53,1,[sV 12 (Say.row v1),sA 4 4 7 0,sI 10 x1.At,sA 9 3 2 1,sR 8 0 3 2 1 false,sA 7 0 3 2,sA 3 3 2 0,sA 0 0 3 0],[(4,[cI 0,cB false,cI 0,cI 0,cI 0,cI 0,cI 0]),(3,(Event.row x1)),(0,(Net.row x0))]⟩<|bA 9<|lA 1<|fA<|eE [4,3,0] [4,3,0]
 refine Tr.frzP 0 2 1<|gE H fun hg2 H=> gE H fun hg3 H=> gE H fun hg4 H=> gE H fun hg5 H=> sT ⟨53,1,[sA 4 4 7 0,sA 3 3 2 0,sA 0 0 3 0],[(0,[cL 11 x0.Bs zA.row,cL 4 x0.Ls Link.row,cF 7 x0.Said Say.row]),(4,(Say.row v1)),(3,(Event.row x1))]⟩<|Tr.draws mixed 22 kr ⟨53,1,[sA 4 4 7 0,sA 3 3 2 0,sA 0 0 3 0],[(0,[cL 11 x0.Bs zA.row,cL 4 x0.Ls Link.row,cL 7 ((([] : List Say) ++ ((x0.Said.drop ((0 : Int)).toNat).take (((x1.At : Int)).toNat - ((0 : Int)).toNat))) ++ ((x0.Said.drop (((wI (x1.At + 1)) : Int)).toNat).take ((((x0.Said.length : Int) : Int)).toNat - (((wI (x1.At + 1)) : Int)).toNat))) Say.row]),(4,(Say.row v1)),(3,(Event.row x1))]⟩ (zIQ n x0 x1 v1 hg2 hg3 hg4 hg5)<|tS<|sT ⟨53,1,[sA 4 4 7 0,sA 3 3 2 0,sA 0 0 3 0],[(0,[cL 11 x0.Bs zA.row,cL 4 x0.Ls Link.row,cL 7 ((([] : List Say) ++ ((x0.Said.drop ((0 : Int)).toNat).take (((x1.At : Int)).toNat - ((0 : Int)).toNat))) ++ ((x0.Said.drop (((wI (x1.At + 1)) : Int)).toNat).take ((((x0.Said.length : Int) : Int)).toNat - (((wI (x1.At + 1)) : Int)).toNat))) Say.row]),(4,(Say.row v1)),(3,(Event.row x1))]⟩ ?_
 cases h1 : (x1.Ki == 2)
 ·have H := zF h1 H
  refine Tr.draw mixed 11 kr ⟨53,1,[sB 44 false,sA 4 4 7 0,sA 0 0 3 0],[(0,[cL 11 x0.Bs zA.row,cL 4 x0.Ls Link.row,cL 7 ((([] : List Say) ++ ((x0.Said.drop ((0 : Int)).toNat).take (((x1.At : Int)).toNat - ((0 : Int)).toNat))) ++ ((x0.Said.drop (((wI (x1.At + 1)) : Int)).toNat).take ((((x0.Said.length : Int) : Int)).toNat - (((wI (x1.At + 1)) : Int)).toNat))) Say.row]),(4,(Say.row v1))]⟩ (fun cx=>?_) ?_
  ·refine aA [(0,[]),(1,[]),(2,[]),(3,[])] 7 [⟨[],3,34,35⟩] fun cx=>sA_ 188978561041 25 ⟨53,1,[sB 37 (x1.Ki == 2),sI 35 x1.Ki,sA 34 3 2 0,sA 4 4 7 0,sA 0 0 3 0],[(0,[cL 11 x0.Bs zA.row,cL 4 x0.Ls Link.row,cL 7 ((([] : List Say) ++ ((x0.Said.drop ((0 : Int)).toNat).take (((x1.At : Int)).toNat - ((0 : Int)).toNat))) ++ ((x0.Said.drop (((wI (x1.At + 1)) : Int)).toNat).take ((((x0.Said.length : Int) : Int)).toNat - (((wI (x1.At + 1)) : Int)).toNat))) Say.row]),(4,(Say.row v1)),(3,(Event.row x1))]⟩ ?_
   rw [h1]
   exact aA [(4,[]),(5,[]),(6,[]),(7,[]),(8,[]),(9,[]),(10,[])] 0 [⟨[],3,34,35⟩] fun cx=>eE [44,4,0] [0,4]
  exact nB_<|tK<|fY [] [(0,[cL 11 x0.Bs zA.row,cL 4 x0.Ls Link.row,cL 7 ((([] : List Say) ++ ((x0.Said.drop ((0 : Int)).toNat).take (((x1.At : Int)).toNat - ((0 : Int)).toNat))) ++ ((x0.Said.drop (((wI (x1.At + 1)) : Int)).toNat).take ((((x0.Said.length : Int) : Int)).toNat - (((wI (x1.At + 1)) : Int)).toNat))) Say.row])] H
 have H := zG h1 H
 refine bE H fun r6 er6 H=> Tr.draw mixed 11 kr ⟨53,1,[sB 44 r6,sA 4 4 7 0,sA 0 0 3 0],[(0,[cL 11 x0.Bs zA.row,cL 4 x0.Ls Link.row,cL 7 ((([] : List Say) ++ ((x0.Said.drop ((0 : Int)).toNat).take (((x1.At : Int)).toNat - ((0 : Int)).toNat))) ++ ((x0.Said.drop (((wI (x1.At + 1)) : Int)).toNat).take ((((x0.Said.length : Int) : Int)).toNat - (((wI (x1.At + 1)) : Int)).toNat))) Say.row]),(4,(Say.row v1))]⟩ (fun cx=>?_) ?_
 ·refine aA [(0,[]),(1,[9]),(2,[]),(3,[])] 7 [⟨[9],3,34,35⟩] fun cx=>sA_ 188978561041 25 ⟨53,1,[sB 37 (x1.Ki == 2),sI 35 x1.Ki,sA 34 3 2 0,sA 4 4 7 0,sA 0 0 3 0],[(0,[cL 11 x0.Bs zA.row,cL 4 x0.Ls Link.row,cL 7 ((([] : List Say) ++ ((x0.Said.drop ((0 : Int)).toNat).take (((x1.At : Int)).toNat - ((0 : Int)).toNat))) ++ ((x0.Said.drop (((wI (x1.At + 1)) : Int)).toNat).take ((((x0.Said.length : Int) : Int)).toNat - (((wI (x1.At + 1)) : Int)).toNat))) Say.row]),(4,(Say.row v1)),(3,(Event.row x1))]⟩ ?_
  rw [h1]
  exact aA [(4,[]),(5,[]),(6,[9]),(7,[]),(8,[9])] 2 [⟨[9],3,41,42⟩,⟨[9],53,39,40⟩,⟨[9],3,34,35⟩] fun cx=>bA 9<|vB [.rd,.rd] [.box 0] (zCs n (⟨x0.Bs,x0.Ls,((([] : List Say) ++ ((x0.Said.drop ((0 : Int)).toNat).take (((x1.At : Int)).toNat - ((0 : Int)).toNat))) ++ ((x0.Said.drop (((wI (x1.At + 1)) : Int)).toNat).take ((((x0.Said.length : Int) : Int)).toNat - (((wI (x1.At + 1)) : Int)).toNat)))⟩ : Net) v1.Link r6 er6) (.inr (zk (zI zN qF) qG))<|fA<|aA [(10,[])] 0 [⟨[9],3,41,42⟩,⟨[9],53,39,40⟩,⟨[9],3,34,35⟩] fun cx=>eE [44,4,0] [0,4]
 cases h2 : r6
 ·have H := zF h2 H
  exact nB_<|tK<|fY [] [(0,[cL 11 x0.Bs zA.row,cL 4 x0.Ls Link.row,cL 7 ((([] : List Say) ++ ((x0.Said.drop ((0 : Int)).toNat).take (((x1.At : Int)).toNat - ((0 : Int)).toNat))) ++ ((x0.Said.drop (((wI (x1.At + 1)) : Int)).toNat).take ((((x0.Said.length : Int) : Int)).toNat - (((wI (x1.At + 1)) : Int)).toNat))) Say.row])] H
 have H := zG h2 H
 exact tB_<|Tr.at<|lA 7<|bE H fun r7 er7 H=> vL [.lend,.rd,.rd,.rd] (zKS n (⟨x0.Bs,x0.Ls,((([] : List Say) ++ ((x0.Said.drop ((0 : Int)).toNat).take (((x1.At : Int)).toNat - ((0 : Int)).toNat))) ++ ((x0.Said.drop (((wI (x1.At + 1)) : Int)).toNat).take ((((x0.Said.length : Int) : Int)).toNat - (((wI (x1.At + 1)) : Int)).toNat)))⟩ : Net) v1.Link v1.Back v1.V r7 er7)<|dA 1 1<|fY [] [(0,(Net.row r7))] H
def zAF (n : Nat) (x0 : Net) (x1 : Int) (x2 : Bool) : Option (Net) :=
  ((qu n x0 x1).bind fun r1 => (bif (r1 == x2) then (some x0) else ((idx x0.Ls x1).bind fun v2 => ((idx x0.Bs v2.A).bind fun v3 => ((QX n v3 v2.P x2).bind fun r4 => ((idx (x0.Bs.set (v2.A.toNat) r4) v2.B).bind fun v5 => ((QX n v5 v2.Q x2).bind fun r6 => (some (⟨((x0.Bs.set (v2.A.toNat) r4).set (v2.B.toNat) r6),x0.Ls,x0.Said⟩ : Net)))))))))
def zNz : Tab := ⟨20,[0,1,2,4,0,16,0,64,128,256,0,1024,2560,4096,0,16384,0,106496,262143,524287],[0,1,2,4,0,16,0,64,128,256,0,1024,2560,4096,0,16384,0,106496,40,393216],[0,1,3,7,0,16,0,64,192,448,0,1024,4032,8128,0,16384,0,131008,262143,524287]⟩
noncomputable abbrev zNj (k : Nat) := Rg Tryz.f146 k
noncomputable abbrev zNg (k : Nat) := Rd Tryz.f146 k
theorem zC1 : za (rg Tryz.f146 2) zNz = true := kr
def zN0 : Tab := ⟨20,[0,1,2,4,0,16,0,64,128,256,0,1024,2560,4096,0,16384,0,106496,262143,524287],[0,1,2,4,0,16,0,64,128,256,0,1024,2560,4096,0,16384,0,106496,40,393216],[0,1,3,7,0,16,0,64,192,448,0,1024,4032,8128,0,16384,0,131008,262143,524287]⟩
theorem zC2 : za (rg Tryz.f146 3) zN0 = true := kr
theorem zKT (n : Nat) (x0 : Net) (x1 : Int) (x2 : Bool) (r : Net) (H : zAF n x0 x1 x2 = some r) : zH Tryz.prog 146 [.ptr (Net.row x0),.val false [.lit (.int .i64 x1)],.val false [.lit (.bool x2)]] [] [(0,(Net.row r))] := by
 refine zH.of_body tOk Tryz.func146 rfl (c := (.seq (.seq (zNj 0) (.cond (.tmp 13) .ret .skip)) (.seq (zNj 1) (.seq (zNg 2) (zNg 3))))) kr (Nat.le_of_ble_eq_true kr) 1 (rs := []) rfl [] .nil [] [] [(0,(Net.row r))] fun cx=>?_
 show Tr _ _ _ ⟨59,1,[sA 0 0 3 0,sI 1 x1,sB 2 x2],[(0,(Net.row x0))]⟩ _
 unfold zAF at H
 refine tS<|rA 4<|bE H fun r1 er1 H=> vB [.rd,.rd] [.box 0] (zCs n x0 x1 r1 er1) (.inr (zk (zI zN qF) qG))<|uA 2 8199 1 ?_
 obtain ⟨h1,H⟩ | ⟨h1,H⟩ := bC H
 ·refine nA h1<|tK<|rA 5<|bE H fun v2 ev2 H=> oA Link.row ev2<|dE (tI 78) (.box 0) [(0,0),(1,(x1.toNat))] 4 0 [.sl true 3 [(Net.row x0)]] (Link.row v2) (zy rfl (zO ev2).2)<|uA 2 69 65<|bE H fun v3 ev3 H=> bE H fun r4 er4 H=> Tr.draws mixed 20 kr ⟨59,1,[sA 6 6 4 0,sA 0 0 3 0,sB 2 x2],[(0,[cL 11 (x0.Bs.set (v2.A.toNat) r4) zA.row,cL 4 x0.Ls Link.row,cL 7 x0.Said Say.row]),(6,(Link.row v2))]⟩ (fun cx=>?_) ?_
  ·refine mA zC1 [(0,[]),(1,[]),(2,[]),(3,[19]),(4,[]),(5,[19]),(6,[]),(7,[]),(8,[]),(9,[17,19]),(10,[]),(11,[17,19])] 8 [⟨[17,19],3,31,32⟩,⟨[17,19],49,29,30⟩,⟨[19],3,25,26⟩,⟨[19],49,23,24⟩] fun cx=>oN zC1 12 zA.row ev3 fun cx=>mA zC1 [(14,[]),(15,[17,19]),(16,[])] 4 [⟨[17,19],3,35,36⟩,⟨[17,19],3,31,32⟩,⟨[17,19],49,29,30⟩,⟨[19],3,25,26⟩,⟨[19],49,23,24⟩] fun cx=>mC zC1 13<|dE (tI 31) (.box 0) [(0,0),(0,(v2.A.toNat))] 11 0 [.sl true 3 [(Net.row x0)]] (zA.row v3) (zy rfl (zO ev3).2)<|fA<|mC zC1 17<|LAt.callO tOk [.rd,.rd,.rd] (f := 20) (av := #[.tmp 34,.tmp 36,.tmp 37]) (ats := #[31,3,4]) (d := (some 38)) (ty := 31) (g := none) [(34,zA.row v3)] none kr kr kr [.box 0] (zEE n v3 v2.P x2 r4 er4) (zCf (row := [.sl true 3 [(Net.row x0)]]) (q := [(0,0),(0,(v2.A.toNat))]) kr (zy rfl (zO ev3).2) zDw) kr zDv (.inr (And.intro (zk (zA.row_mine _) qG) zCg))<|fA<|oN zC1 18 zA.row ev3 fun cx=>sA_ 935891828805 65 ⟨59,1,[(39,.adr (.box 0) [(0,0),(0,(v2.A.toNat))] 11 0),sV 38 (zA.row r4),sI 36 v2.P,sA 35 6 4 1,sI 32 v2.A,sA 31 6 4 0,sR 30 0 3 0 1 false,sA 29 0 3 0,sI 26 v2.A,sA 25 6 4 0,sR 24 0 3 0 1 false,sA 23 0 3 0,sA 6 6 4 0,sA 0 0 3 0,sB 2 x2],[(6,(Link.row v2)),(0,(Net.row x0))]⟩<|mC zC1 19<|LAt.storeB tOk (t := 31) (ty := 0) (ad := (.tmp 39)) (x := (.tmp 38)) (g := none) (tI 31) true (zA.row r4) 0 0 (v2.A.toNat) 11 0 11 x0.Bs zA.row v3 r4 kr kr kr kr kr kr kr kr (zO ev3).2 kr kr kr kr ?_
   exact fA<|mE zC1 [6,0,2] [0,6]
  refine bE H fun v5 ev5 H=> bE H fun r6 er6 H=> Tr.draw mixed 20 kr ⟨59,1,[sA 0 0 3 0],[(0,[cL 11 ((x0.Bs.set (v2.A.toNat) r4).set (v2.B.toNat) r6) zA.row,cL 4 x0.Ls Link.row,cL 7 x0.Said Say.row])]⟩ (fun cx=>?_) ?_
  ·refine mA zC2 [(0,[]),(1,[]),(2,[]),(3,[19]),(4,[]),(5,[19]),(6,[]),(7,[]),(8,[]),(9,[17,19]),(10,[]),(11,[17,19])] 8 [⟨[17,19],3,50,51⟩,⟨[17,19],49,48,49⟩,⟨[19],3,44,45⟩,⟨[19],49,42,43⟩] fun cx=>oN zC2 12 zA.row ev5 fun cx=>mA zC2 [(14,[]),(15,[17,19]),(16,[])] 4 [⟨[17,19],3,54,55⟩,⟨[17,19],3,50,51⟩,⟨[17,19],49,48,49⟩,⟨[19],3,44,45⟩,⟨[19],49,42,43⟩] fun cx=>mC zC2 13<|dE (tI 31) (.box 0) [(0,0),(0,(v2.B.toNat))] 11 0 [.sl true 3 [[cL 11 (x0.Bs.set (v2.A.toNat) r4) zA.row,cL 4 x0.Ls Link.row,cL 7 x0.Said Say.row]]] (zA.row v5) (zy rfl (zO ev5).2)<|fA<|mC zC2 17<|LAt.callO tOk [.rd,.rd,.rd] (f := 20) (av := #[.tmp 53,.tmp 55,.tmp 56]) (ats := #[31,3,4]) (d := (some 57)) (ty := 31) (g := none) [(53,zA.row v5)] none kr kr kr [.box 0] (zEE n v5 v2.Q x2 r6 er6) (zCf (row := [.sl true 3 [[cL 11 (x0.Bs.set (v2.A.toNat) r4) zA.row,cL 4 x0.Ls Link.row,cL 7 x0.Said Say.row]]]) (q := [(0,0),(0,(v2.B.toNat))]) kr (zy rfl (zO ev5).2) zDw) kr zDv (.inr (And.intro (zk (zA.row_mine _) qG) zCg))<|fA<|oN zC2 18 zA.row ev5 fun cx=>sA_ 0x6cf3c0000000001 65 ⟨59,1,[(58,.adr (.box 0) [(0,0),(0,(v2.B.toNat))] 11 0),sV 57 (zA.row r6),sI 55 v2.Q,sA 54 6 4 3,sI 51 v2.B,sA 50 6 4 2,sR 49 0 3 0 1 false,sA 48 0 3 0,sI 45 v2.B,sA 44 6 4 2,sR 43 0 3 0 1 false,sA 42 0 3 0,sA 0 0 3 0],[(0,[cL 11 (x0.Bs.set (v2.A.toNat) r4) zA.row,cL 4 x0.Ls Link.row,cL 7 x0.Said Say.row]),(6,(Link.row v2))]⟩ ?_
   exact mC zC2 19<|LAt.storeB tOk (t := 31) (ty := 0) (ad := (.tmp 58)) (x := (.tmp 57)) (g := none) (tI 31) true (zA.row r6) 0 0 (v2.B.toNat) 11 0 11 (x0.Bs.set (v2.A.toNat) r4) zA.row v5 r6 kr kr kr kr kr kr kr kr (zO ev5).2 kr kr kr kr<|fA<|mE zC2 [0] [0]
  exact fY [] [(0,[cL 11 ((x0.Bs.set (v2.A.toNat) r4).set (v2.B.toNat) r6) zA.row,cL 4 x0.Ls Link.row,cL 7 x0.Said Say.row])] H
 exact tA h1<|te<|fY [] [(0,(Net.row x0))] H
def YN (n : Nat) (r1 : Net) (x0 : Net) (x1 : Event) (y5 : Bool) : Option (Net × Bool) :=
  (bif y5 then ((zP n x1.At 0 (IntKind.wrap .i64 ((x0.Ls.length : Int) - 1))).bind fun r6 => (bif (!r6) then (some (r1,false)) else ((zAF n r1 x1.At (x1.Ki == 5)).bind fun r7 => (some (r7,true))))) else (some (r1,false)))
def YM (n : Nat) (r1 : Net) (x0 : Net) (x1 : Event) (y4 : Bool) : Option (Net × Bool) :=
  (bif y4 then ((zP n x1.At 0 (IntKind.wrap .i64 ((x0.Said.length : Int) - 1))).bind fun r8 => (bif (!r8) then (some (r1,false)) else ((Y8 n r1 x1).bind fun r9 => (some (r9,true))))) else (bif (x1.Ki == 4) then (YN n r1 x0 x1 true) else (YN n r1 x0 x1 (x1.Ki == 5))))
def ZZ (n : Nat) (r1 : Net) (x0 : Net) (x1 : Event) (y3 : Bool) : Option (Net × Bool) :=
  (bif y3 then ((zP n x1.At 0 (IntKind.wrap .i64 ((x0.Bs.length : Int) - 1))).bind fun r10 => (bif (!r10) then (some (r1,false)) else (bif (x1.Ki == 6) then ((idx x0.Bs x1.At).bind fun v12 => ((zA8 n v12).bind fun r13 => ((idx r1.Bs x1.At).bind fun v14 => (some ((⟨(r1.Bs.set (x1.At.toNat) r13),r1.Ls,r1.Said⟩ : Net),true))))) else ((JM n r1 x1.At).bind fun r11 => (some (r11,true)))))) else (bif (x1.Ki == 2) then (YM n r1 x0 x1 true) else (YM n r1 x0 x1 (x1.Ki == 3))))
def zA7 (n : Nat) (x0 : Net) (x1 : Event) : Option (Net × Bool) :=
  ((zAD n x0).bind fun r1 => ((Zv n x0).bind fun r2 => (bif (!r2) then (some (r1,false)) else (bif (x1.Ki == 1) then (ZZ n r1 x0 x1 true) else (ZZ n r1 x0 x1 (x1.Ki == 6))))))
def zOD : Tab := ⟨13,[0,1,0,4,0,16,0,64,160,256,512,2047,4095],[0,1,0,4,0,16,0,64,160,256,512,10,3072],[0,1,0,4,0,16,0,64,240,496,1008,2047,4095]⟩
theorem zDz : za (rg Tryz.f67 10) zOD = true := kr
theorem zMa (n : Nat) (x0 : Net) (x1 : Event) (r : Net × Bool) (H : zA7 n x0 x1 = some r) : zH Tryz.prog 67 [.val true (fR (Net.row x0)),.val true (fR (Event.row x1))] [.val true (Net.row r.1),.val false [.lit (.bool r.2)]] [] := by
 refine cW Tryz.func67 (fun g d => sl [g 0,g 1,sl [g 2] (cn 11 (sl [g 3] .ret) .skip),sl [g 4] (.block 0 (sl [sl [g 5] (cn 15 .skip (g 6))] (cn 15 (sl [sl [g 7] (cn 25 (sl [g 8] .ret) .skip),sl [g 9] (cn 29 (d 10) (g 11)),g 12] .ret) (sl [sl [g 13] (cn 46 .skip (g 14))] (cn 46 (sl [sl [g 15] (cn 56 (sl [g 16] .ret) .skip),g 17,g 18] .ret) (sl [sl [g 19] (cn 61 .skip (g 20))] (cn 61 (sl [sl [g 21] (cn 71 (sl [g 22] .ret) .skip),g 23,g 24] .ret) .skip))))))),g 25] .ret) [.cell 4 53,.tmp 5] fun cx=>?_
 unfold zA7 at H
 refine gA 4 28 28<|rA 1<|bE H fun r1 er1 H=> vA [.rd] (zKQ n x0 r1 er1)<|uA 2 92 92<|tS<|rA 1<|bE H fun r2 er2 H=> vA [.rd] (zIK n x0 r2 er2)<|uA 1 2140 92 ?_
 obtain ⟨h1,H⟩ | ⟨h1,H⟩ := bC H
 ·refine nA h1<|tK<|tS<|gA 2 16476 92<|tB<|tS<|Tr.mid (ι := Bool) (fun v => ⟨81,0,[sB 15 v,sI 14 x1.Ki,sA 6 6 3 0,sA 4 4 3 0,sA 3 3 2 0,sA 2 2 3 0],[(6,(Net.row r1)),(4,[cL 11 ([] : List zA) zA.row,cL 4 ([] : List Link) Link.row,cL 7 ([] : List Say) Say.row]),(3,(Event.row x1)),(2,(fR (Net.row x0)))]⟩) (fun v => ZZ n r1 x0 x1 v = some r) ?_ ?_
  ·refine gA 2 49244 92<|sT ⟨81,0,[sB 15 (x1.Ki == 1),sI 14 x1.Ki,sA 6 6 3 0,sA 4 4 3 0,sA 3 3 2 0,sA 2 2 3 0],[(6,(Net.row r1)),(4,[cL 11 ([] : List zA) zA.row,cL 4 ([] : List Link) Link.row,cL 7 ([] : List Say) Say.row]),(3,(Event.row x1)),(2,(fR (Net.row x0)))]⟩ ?_
   cases h11 : (x1.Ki == 1)
   ·have H := zF h11 H
    exact nB_<|eA 2 49244 92<|jA (x1.Ki == 6) H [15,14,6,4,3,2] [6,4,3,2]
   have H := zG h11 H
   exact tB_<|tK<|jA true H [15,14,6,4,3,2] [6,4,3,2]
  rintro y3 H
  have H : (ZZ n r1 x0 x1 y3) = some r := H
  unfold ZZ at H
  cases h2 : y3
  ·have H := zF h2 H
   refine nB_<|tS<|Tr.mid (ι := Bool) (fun v => ⟨81,0,[sB 46 v,sI 14 x1.Ki,sA 6 6 3 0,sA 4 4 3 0,sA 3 3 2 0,sA 2 2 3 0],[(6,(Net.row r1)),(4,[cL 11 ([] : List zA) zA.row,cL 4 ([] : List Link) Link.row,cL 7 ([] : List Say) Say.row]),(3,(Event.row x1)),(2,(fR (Net.row x0)))]⟩) (fun v => YM n r1 x0 x1 v = some r) ?_ ?_
   ·refine gA 2 70368744194140 92<|sT ⟨81,0,[sB 46 (x1.Ki == 2),sI 14 x1.Ki,sA 6 6 3 0,sA 4 4 3 0,sA 3 3 2 0,sA 2 2 3 0],[(6,(Net.row r1)),(4,[cL 11 ([] : List zA) zA.row,cL 4 ([] : List Link) Link.row,cL 7 ([] : List Say) Say.row]),(3,(Event.row x1)),(2,(fR (Net.row x0)))]⟩ ?_
    cases h8 : (x1.Ki == 2)
    ·have H := zF h8 H
     exact nB_<|eA 2 70368744194140 92<|jA (x1.Ki == 3) H [46,14,6,4,3,2] [6,4,3,2]
    have H := zG h8 H
    exact tB_<|tK<|jA true H [46,14,6,4,3,2] [6,4,3,2]
   rintro y4 H
   have H : (YM n r1 x0 x1 y4) = some r := H
   unfold YM at H
   cases h3 : y4
   ·have H := zF h3 H
    refine nB_<|tS<|Tr.mid (ι := Bool) (fun v => ⟨81,0,[sB 61 v,sA 6 6 3 0,sA 4 4 3 0,sA 3 3 2 0,sA 2 2 3 0],[(6,(Net.row r1)),(4,[cL 11 ([] : List zA) zA.row,cL 4 ([] : List Link) Link.row,cL 7 ([] : List Say) Say.row]),(3,(Event.row x1)),(2,(fR (Net.row x0)))]⟩) (fun v => YN n r1 x0 x1 v = some r) ?_ ?_
    ·refine gA 2 0x200000000000405c 92<|sT ⟨81,0,[sB 61 (x1.Ki == 4),sI 14 x1.Ki,sA 6 6 3 0,sA 4 4 3 0,sA 3 3 2 0,sA 2 2 3 0],[(6,(Net.row r1)),(4,[cL 11 ([] : List zA) zA.row,cL 4 ([] : List Link) Link.row,cL 7 ([] : List Say) Say.row]),(3,(Event.row x1)),(2,(fR (Net.row x0)))]⟩ ?_
     cases h6 : (x1.Ki == 4)
     ·have H := zF h6 H
      exact nB_<|eA 2 0x200000000000005c 92<|jA (x1.Ki == 5) H [61,6,4,3,2] [6,4,3,2]
     have H := zG h6 H
     exact tB_<|tK<|jA true H [61,6,4,3,2] [6,4,3,2]
    rintro y5 H
    have H : (YN n r1 x0 x1 y5) = some r := H
    unfold YN at H
    cases h4 : y5
    ·have H := zF h4 H
     exact nB_<|tK<|gA 3 48 16<|te (fJ [(true,(Net.row r1)),(false,[cB false])] H)
    have H := zG h4 H
    refine tB_<|tS<|rA 4<|kF x0.Ls Link.row<|lA 1<|bE H fun r6 er6 H=> vA [.rd,.rd,.rd] (zQ n x1.At 0 (wI ((x0.Ls.length : Int) - 1)) r6 er6)<|uA 1 0x800000000000000058 88 ?_
    obtain ⟨h5,H⟩ | ⟨h5,H⟩ := bC H
    ·exact nA h5<|tK<|rA 5<|bE H fun r7 er7 H=> vL [.lend,.rd,.rd] (zKT n r1 x1.At (x1.Ki == 5) r7 er7)<|dA 80 80<|gA 3 48 16<|te (fJ [(true,(Net.row r7)),(false,[cB true])] H)
    exact tA h5<|gA 3 48 16<|te (fJ [(true,(Net.row r1)),(false,[cB false])] H)
   have H := zG h3 H
   refine tB_<|tS<|rA 4<|kF x0.Said Say.row<|lA 1<|bE H fun r8 er8 H=> vA [.rd,.rd,.rd] (zQ n x1.At 0 (wI ((x0.Said.length : Int) - 1)) r8 er8)<|uA 1 72057594037928024 88 ?_
   obtain ⟨h7,H⟩ | ⟨h7,H⟩ := bC H
   ·exact nA h7<|tK<|rA 1<|bE H fun r9 er9 H=> vL [.lend,.rd] (zKU n r1 x1 r9 er9)<|dA 80 80<|gA 3 48 16<|te (fJ [(true,(Net.row r9)),(false,[cB true])] H)
   exact tA h7<|gA 3 48 16<|te (fJ [(true,(Net.row r1)),(false,[cB false])] H)
  have H := zG h2 H
  refine tB_<|tS<|rA 4<|kF x0.Bs zA.row<|lA 1<|bE H fun r10 er10 H=> vA [.rd,.rd,.rd] (zQ n x1.At 0 (wI ((x0.Bs.length : Int) - 1)) r10 er10)<|uA 1 33554524 92 ?_
  obtain ⟨h9,H⟩ | ⟨h9,H⟩ := bC H
  ·refine nA h9<|tK<|tS<|gA 3 536871004 92 ?_
   obtain ⟨h10,H⟩ | ⟨h10,H⟩ := bC H
   ·exact nA h10<|Tr.at<|lA 2<|bE H fun r11 er11 H=> vL [.lend,.rd] (zI1 n r1 x1.At r11 er11)<|dA 80 80<|gA 3 48 16<|te (fJ [(true,(Net.row r11)),(false,[cB true])] H)
   refine tA h10<|bE H fun v12 ev12 H=> bE H fun r13 er13 H=> bE H fun v14 ev14 H=> Tr.draw mixed 13 kr ⟨81,0,[sA 6 6 3 0,sA 4 4 3 0],[(6,[cL 11 (r1.Bs.set (x1.At.toNat) r13) zA.row,cL 4 r1.Ls Link.row,cL 7 r1.Said Say.row]),(4,[cL 11 ([] : List zA) zA.row,cL 4 ([] : List Link) Link.row,cL 7 ([] : List Say) Say.row])]⟩ (fun cx=>?_) ?_
   ·exact mA zDz [(0,[]),(1,[12]),(2,[]),(3,[12]),(4,[]),(5,[10,12]),(6,[]),(7,[10,12])] 5 [⟨[10,12],3,36,37⟩,⟨[10,12],49,34,35⟩,⟨[12],3,32,33⟩,⟨[12],49,30,31⟩] fun cx=>iN zDz 8 zA.row ev12 fun cx=>mA zDz [(9,[])] 3 [⟨[10,12],3,36,37⟩,⟨[10,12],49,34,35⟩,⟨[12],3,32,33⟩,⟨[12],49,30,31⟩] fun cx=>mC zDz 10<|vA [.rd] (zMb n v12 r13 er13)<|fA<|oN zDz 11 zA.row ev14 fun cx=>mC zDz 12<|LAt.storeB tOk (t := 31) (ty := 0) (ad := (.tmp 41)) (x := (.tmp 40)) (g := none) (tI 31) true (zA.row r13) 6 0 (x1.At.toNat) 11 0 11 r1.Bs zA.row v14 r13 kr kr kr kr kr kr kr kr (zO ev14).2 kr kr kr kr<|fA<|mE zDz [6,4] [6,4]
   exact gA 3 48 16<|te (fJ [(true,[cL 11 (r1.Bs.set (x1.At.toNat) r13) zA.row,cL 4 r1.Ls Link.row,cL 7 r1.Said Say.row]),(false,[cB true])] H)
  exact tA h9<|gA 3 48 16<|te (fJ [(true,(Net.row r1)),(false,[cB false])] H)
 exact tA h1<|gA 3 48 16<|te (fJ [(true,(Net.row r1)),(false,[cB false])] H)
def zAS (n : Nat) (y23 : (List Int)) (y24 : Int) (y25 : Int) (y26 : (List zA)) (y27 : (List Link)) (y28 : (List Say)) : Option (Net × Src) :=
  (some ((⟨y26,y27,y28⟩ : Net),(⟨y23,y24,y25⟩ : Src)))
def QM (n : Nat) : Nat → Int → (List Int) → Int → Int → (List zA) → (List Link) → (List Say) → Option (((List Int) × Int × Int × (List zA) × (List Link) × (List Say)) ⊕ (Net × Src))
  | 0,_,_,_,_,_,_,_ => none
  | mo29 + 1,y16,y17,y18,y19,y20,y21,y22 => (bif (decide (y16 > 0)) then ((Ym n (⟨y17,y18,y19⟩ : Src) (⟨y20,y21,y22⟩ : Net)).bind fun r30 => ((zA7 n (⟨y20,y21,y22⟩ : Net) r30.1).bind fun r31 => (QM n mo29 (IntKind.wrap .i64 (y16 - 1)) r30.2.b r30.2.i r30.2.h r31.1.Bs r31.1.Ls r31.1.Said))) else (some (Sum.inl (y17,y18,y19,y20,y21,y22))))
def JJ (n : Nat) (r5 : Net) (x1 : Int) (y11 : (List zA)) (y12 : (List Int)) (y13 : Int) (y14 : Int) : Option (Net × Src) :=
  ((zp n (⟨y12,y13,y14⟩ : Src) (IntKind.wrap .i64 (x1 + 1))).bind fun r15 => ((QM n n r15.1 r15.2.b r15.2.i r15.2.h y11 r5.Ls r5.Said).bind fun o => match o with | .inl (y23,y24,y25,y26,y27,y28) => (zAS n y23 y24 y25 y26 y27 y28) | .inr r => some r))
def JK (n : Nat) (k : (Int × (List zA) × (List Int) × Int × Int → Option (((List zA) × (List Int) × Int × Int) ⊕ (Net × Src)))) (y6 : Int) (y38 : (List zA)) (y39 : (List Int)) (y40 : Int) (y41 : Int) : Option (((List zA) × (List Int) × Int × Int) ⊕ (Net × Src)) :=
  (k ((IntKind.wrap .i64 (y6 + 1)),y38,y39,y40,y41))
def QN (n : Nat) : Nat → Int → Int → (List zA) → (List Int) → Int → Int → Option (((List zA) × (List Int) × Int × Int) ⊕ (Net × Src))
  | 0,_,_,_,_,_,_ => none
  | mo42 + 1,y6,y33,y34,y35,y36,y37 => ((idx y34 y6).bind fun v43 => (bif (decide (y33 < (v43.Ps.length : Int))) then ((Z3 n (⟨y35,y36,y37⟩ : Src) [1,1,2,5,20]).bind fun r44 => ((idx v43.Ps y33).bind fun v45 => (QN n mo42 y6 (IntKind.wrap .i64 (y33 + 1)) (y34.set (y6.toNat) (⟨v43.Id,v43.Name,(v43.Ps.set (y33.toNat) (⟨v45.Up,r44.1,v45.Has,v45.Hd⟩ : Pt)),v43.F,v43.V,v43.Tk,v43.Pa,v43.Wo,v43.Dr,v43.Ve⟩ : zA)) r44.2.b r44.2.i r44.2.h))) else (some (Sum.inl (y34,y35,y36,y37)))))
def ZQ (n : Nat) : Nat → Int → (List zA) → (List Int) → Int → Int → Option (((List zA) × (List Int) × Int × Int) ⊕ (Net × Src))
  | 0,_,_,_,_,_ => none
  | mo32 + 1,y6,y7,y8,y9,y10 => (bif (decide (y6 < (y7.length : Int))) then ((QN n n y6 0 y7 y8 y9 y10).bind fun o => match o with | .inl (y38,y39,y40,y41) => (JK n (fun v => ZQ n mo32 v.1 v.2.1 v.2.2.1 v.2.2.2.1 v.2.2.2.2) y6 y38 y39 y40 y41) | .inr r => some (Sum.inr r)) else (some (Sum.inl (y7,y8,y9,y10))))
def zAE (n : Nat) (x0 : Src) (x1 : Int) : Option (Net × Src) :=
  ((zp n x0 6).bind fun r1 => ((zp n r1.2 4).bind fun r2 => ((zAq n r2.2 (IntKind.wrap .i64 (1 + r1.1))).bind fun r3 => ((Jo n r3.2 (IntKind.wrap .i64 (1 + r1.1)) (IntKind.wrap .i64 (2 + r2.1))).bind fun r4 => ((zAo n r3.1 (IntKind.wrap .i64 (2 + r2.1)) r4.1).bind fun r5 => ((ZQ n n 0 r5.Bs r4.2.b r4.2.i r4.2.h).bind fun o => match o with | .inl (y11,y12,y13,y14) => (JJ n r5 x1 y11 y12 y13 y14) | .inr r => some r))))))
def zNJ : Tab := ⟨13,[0,1,0,6,8,16,0,0,0,384,1023,2047,3071],[0,1,0,6,8,16,0,0,0,384,96,1024,2560],[0,1,0,7,15,31,0,0,0,384,1023,2047,4095]⟩
noncomputable abbrev zBy (k : Nat) := Rg Tryz.f108 k
noncomputable abbrev zNe (k : Nat) := Rd Tryz.f108 k
theorem Za : za (rg Tryz.f108 10) zNJ = true := kr
theorem zKR (n : Nat) (x0 : Src) (x1 : Int) (r : Net × Src) (H : zAE n x0 x1 = some r) : zH Tryz.prog 108 [.ptr (fR (Src.row x0)),.val false [.lit (.int .i64 x1)]] [.val true (Net.row r.1)] [(0,(fR (Src.row r.2)))] := by
 refine zH.of_body tOk Tryz.func108 rfl (c := (.seq (zBy 0) (.seq (zBy 1) (.seq (zBy 2) (.seq (zBy 3) (.seq (.seq (zBy 4) (.block 0 (.loop (.seq (.seq (zBy 5) (.cond (.tmp 30) .skip (.exit 0))) (.seq (.block 1 (.seq (zBy 7) (.block 2 (.loop (.seq (.seq (zBy 8) (.cond (.tmp 41) .skip (.exit 2))) (.seq (.block 3 (zNe 10)) (zBy 9))))))) (zBy 6)))))) (.seq (.seq (zBy 11) (.block 4 (.loop (.seq (.seq (zBy 12) (.cond (.tmp 61) .skip (.exit 4))) (.seq (.block 5 (zNe 14)) (zBy 13)))))) (.seq (zBy 15) .ret)))))))) kr (Nat.le_of_ble_eq_true kr) 1 (rs := [.cell 4 53]) rfl [] .nil [(true,(Net.row r.1))] [] [(0,(fR (Src.row r.2)))] fun cx=>?_
 show Tr _ _ _ ⟨73,1,[sA 0 0 3 0,sI 1 x1],[(0,(fR (Src.row x0)))]⟩ _
 unfold zAE at H
 refine gA 1 19 17<|rA 1<|bE H fun r1 er1 H=> vL [.lend,.rd] (qv n x0 6 r1 er1)<|uA 2 51 17<|rA 1<|bE H fun r2 er2 H=> vL [.lend,.rd] (qv n r1.2 4 r2 er2)<|uA 2 115 17<|rA 2<|bE H fun r3 er3 H=> vL [.lend,.rd] (zKy n r2.2 (wI (1 + r1.1)) r3 er3)<|lA 4<|bE H fun r4 er4 H=> vL [.lend,.rd,.rd] (zJa n r3.2 (wI (1 + r1.1)) (wI (2 + r2.1)) r4 er4)<|bE H fun r5 er5 H=> vA [.rd,.rd,.rd] (zKv n r3.1 (wI (2 + r2.1)) r4.1 r5 er5)<|uA 2 147 145<|tS<|gA 1 403 145 ?_
 obtain ⟨o32,eo32,Ho32⟩ := bs H
 clear H
 refine Tr.mid (ι := (List zA) × (List Int) × Int × Int) (fun v => ⟨73,1,[sA 7 7 3 0,sA 4 4 3 0,sA 0 0 3 0,sI 1 x1],[(7,[cL 11 v.1 zA.row,cL 4 r5.Ls Link.row,cL 7 r5.Said Say.row]),(0,[cF 1 v.2.1 zg,cI v.2.2.1,cI v.2.2.2]),(4,[cL 11 ([] : List zA) zA.row,cL 4 ([] : List Link) Link.row,cL 7 ([] : List Say) Say.row])]⟩) (fun v => JJ n r5 x1 v.1 v.2.1 v.2.2.1 v.2.2.2 = some r) ?_ ?_
 ·refine tB<|Tr.loop (ι := Nat × (Int × (List zA) × (List Int) × Int × Int)) (fun v => ⟨73,1,[sI 8 v.2.1,sA 7 7 3 0,sA 4 4 3 0,sA 0 0 3 0,sI 1 x1],[(7,[cL 11 v.2.2.1 zA.row,cL 4 r5.Ls Link.row,cL 7 r5.Said Say.row]),(0,[cF 1 v.2.2.2.1 zg,cI v.2.2.2.2.1,cI v.2.2.2.2.2]),(4,[cL 11 ([] : List zA) zA.row,cL 4 ([] : List Link) Link.row,cL 7 ([] : List Say) Say.row])]⟩) (fun v => ZQ n v.1 v.2.1 v.2.2.1 v.2.2.2.1 v.2.2.2.2.1 v.2.2.2.2.2 = some o32) (fun v => v.1) (n,(0,r5.Bs,r4.2.b,r4.2.i,r4.2.h)) eo32 (St.sub_of [8,7,4,0,1] [7,0,4] kr) ?_
  rintro ⟨mo32,y6,y7,y8,y9,y10⟩ H
  have H : ZQ n mo32 y6 y7 y8 y9 y10 = some o32 := H
  obtain _ | mo32 := mo32
  ·exact nN H
  rw [ZQ] at H
  refine tS<|rA 3<|kO y7 zA.row<|uA 1 1073742227 145 ?_
  obtain ⟨h2,H⟩ | ⟨h2,H⟩ := bC H
  ·refine nA h2<|Tr.exit<|aJ ?_
   obtain rfl := si H
   have H := Ho32
   dsimp only at H
   exact jA (y7,y8,y9,y10) H [7,4,0,1] [7,0,4]
  refine tA h2<|tK<|tS<|tB<|gA 1 915 145 ?_
  obtain ⟨o42,eo42,Ho42⟩ := bs H
  clear H
  refine Tr.mid (ι := (List zA) × (List Int) × Int × Int) (fun v => ⟨73,1,[sI 8 y6,sA 7 7 3 0,sA 4 4 3 0,sA 0 0 3 0,sI 1 x1],[(7,[cL 11 v.1 zA.row,cL 4 r5.Ls Link.row,cL 7 r5.Said Say.row]),(0,[cF 1 v.2.1 zg,cI v.2.2.1,cI v.2.2.2]),(4,[cL 11 ([] : List zA) zA.row,cL 4 ([] : List Link) Link.row,cL 7 ([] : List Say) Say.row])]⟩) (fun v => JK n (fun v => ZQ n mo32 v.1 v.2.1 v.2.2.1 v.2.2.2.1 v.2.2.2.2) y6 v.1 v.2.1 v.2.2.1 v.2.2.2 = some o32) ?_ ?_
  ·refine tB<|Tr.loop (ι := Nat × (Int × (List zA) × (List Int) × Int × Int)) (fun v => ⟨73,1,[sI 9 v.2.1,sI 8 y6,sA 7 7 3 0,sA 4 4 3 0,sA 0 0 3 0,sI 1 x1],[(7,[cL 11 v.2.2.1 zA.row,cL 4 r5.Ls Link.row,cL 7 r5.Said Say.row]),(0,[cF 1 v.2.2.2.1 zg,cI v.2.2.2.2.1,cI v.2.2.2.2.2]),(4,[cL 11 ([] : List zA) zA.row,cL 4 ([] : List Link) Link.row,cL 7 ([] : List Say) Say.row])]⟩) (fun v => QN n v.1 y6 v.2.1 v.2.2.1 v.2.2.2.1 v.2.2.2.2.1 v.2.2.2.2.2 = some o42) (fun v => v.1) (n,(0,y7,y8,y9,y10)) eo42 (St.sub_of [9,8,7,4,0,1] [7,0,4] kr) ?_
   rintro ⟨mo42,y33,y34,y35,y36,y37⟩ H
   have H : QN n mo42 y6 y33 y34 y35 y36 y37 = some o42 := H
   obtain _ | mo42 := mo42
   ·exact nN H
   rw [QN] at H
   refine tS<|rA 4<|bE H fun v43 ev43 H=> oA zA.row ev43<|lA 1<|dE (tI 24) (.box 7) [(0,0),(0,(y6.toNat))] 11 2 [.sl true 3 [[cL 11 y34 zA.row,cL 4 r5.Ls Link.row,cL 7 r5.Said Say.row]]] (zA.row v43) (zy rfl (zO ev43).2)<|lL tOk 24 3 100 39 40 none ⟨(.box 7),[(0,0),(0,(y6.toNat))],2,true,8,(v43.Ps.map Pt.row)⟩ (v43.Ps).length _ kr kr kr kr (zII (row := [.sl true 3 [[cL 11 y34 zA.row,cL 4 r5.Ls Link.row,cL 7 r5.Said Say.row]]]) (e := zA.row v43) kr kr (zy rfl (zO ev43).2) rfl rfl) (zGo _ _) rfl<|uA 1 2199023256467 145 ?_
   obtain ⟨h3,H⟩ | ⟨h3,H⟩ := bC H
   ·refine nA h3<|Tr.exit<|aJ ?_
    obtain rfl := si H
    have H := Ho42
    dsimp only at H
    exact jA (y34,y35,y36,y37) H [8,7,4,0,1] [7,0,4]
   refine tA h3<|tK<|tS<|tB<|bE H fun r44 er44 H=> bE H fun v45 ev45 H=> Tr.draw mixed 13 kr ⟨73,1,[sI 9 y33,sI 8 y6,sA 7 7 3 0,sA 4 4 3 0,sA 0 0 3 0,sI 1 x1],[(7,[cL 11 (y34.set (y6.toNat) (⟨v43.Id,v43.Name,(v43.Ps.set (y33.toNat) (⟨v45.Up,r44.1,v45.Has,v45.Hd⟩ : Pt)),v43.F,v43.V,v43.Tk,v43.Pa,v43.Wo,v43.Dr,v43.Ve⟩ : zA)) zA.row,cL 4 r5.Ls Link.row,cL 7 r5.Said Say.row]),(0,(fR (Src.row r44.2))),(4,[cL 11 ([] : List zA) zA.row,cL 4 ([] : List Link) Link.row,cL 7 ([] : List Say) Say.row])]⟩ (fun cx=>?_) ?_
   ·refine mA Za [(0,[]),(1,[12]),(2,[])] 10 [⟨[12],49,44,45⟩] fun cx=>oN Za 3 zA.row ev43 fun cx=>mA Za [(4,[]),(6,[]),(7,[])] 6 [⟨[12],49,44,45⟩] fun cx=>mB2 tOk Za 5 8 kr (And.intro kr ?_) (And.intro kr ?_)
    ·refine dE (tI 24) (.box 7) [(0,0),(0,(y6.toNat))] 11 2 [.sl true 3 [[cL 11 y34 zA.row,cL 4 r5.Ls Link.row,cL 7 r5.Said Say.row]]] (zA.row v43) (zy rfl (zO ev43).2)<|fA<|mC Za 8<|lA 1<|fA<|mC Za 9<|vL [.lend,.rd] (zBB n (⟨y35,y36,y37⟩ : Src) [1,1,2,5,20] r44 er44)<|fA<|mC Za 10<|LAt.indexD tOk (t := 24) (ty := 0) (et := 100) (x := (.tmp 49)) (y := (.tmp 50)) (d := 54) (g := none) (tI 100) ⟨(.box 7),[(0,0),(0,(y6.toNat))],2,true,8,(v43.Ps.map Pt.row)⟩ .i64 y33 (y33.toNat) (Pt.row v45) kr kr kr kr kr kr kr (zII (row := [.sl true 3 [[cL 11 y34 zA.row,cL 4 r5.Ls Link.row,cL 7 r5.Said Say.row]]]) (e := zA.row v43) kr kr (zy rfl (zO ev43).2) rfl rfl) rfl kr (zAG ev45) rfl<|fA<|mA Za [(11,[])] 1 [⟨[12],49,44,45⟩] fun cx=>sA_ 0xa0300000000393 145 ⟨73,1,[(55,.adr (.box 7) [(0,0),(0,(y6.toNat)),(2,(y33.toNat))] 8 1),sI 53 r44.1,sR 45 7 3 0 1 false,sA 44 7 3 0,sI 9 y33,sI 8 y6,sA 7 7 3 0,sA 4 4 3 0,sA 0 0 3 0,sI 1 x1],[(0,(fR (Src.row r44.2))),(7,[cL 11 y34 zA.row,cL 4 r5.Ls Link.row,cL 7 r5.Said Say.row]),(4,[cL 11 ([] : List zA) zA.row,cL 4 ([] : List Link) Link.row,cL 7 ([] : List Say) Say.row])]⟩<|mC Za 12<|LAt.storeK tOk (t := 3) (ty := 0) (ad := (.tmp 55)) (x := (.tmp 53)) (g := none) (tI 3) false [cI r44.1] (.box 7) [(0,0),(0,(y6.toNat)),(2,(y33.toNat))] [(0,(y6.toNat)),(2,(y33.toNat))] 8 1 [.sl true 3 [[cL 11 y34 zA.row,cL 4 r5.Ls Link.row,cL 7 r5.Said Say.row]]] (Pt.row v45) [cL 11 y34 zA.row,cL 4 r5.Ls Link.row,cL 7 r5.Said Say.row] [cL 11 (y34.set (y6.toNat) (⟨v43.Id,v43.Name,(v43.Ps.set (y33.toNat) (⟨v45.Up,r44.1,v45.Has,v45.Hd⟩ : Pt)),v43.F,v43.V,v43.Tk,v43.Pa,v43.Wo,v43.Dr,v43.Ve⟩ : zA)) zA.row,cL 4 r5.Ls Link.row,cL 7 r5.Said Say.row] kr kr kr kr kr kr (zJy rfl (zO ev43).2 rfl (zO ev45).2) rfl (by intro h; cases h) kr kr rfl (zLi (new := (⟨v43.Id,v43.Name,(v43.Ps.set (y33.toNat) (⟨v45.Up,r44.1,v45.Has,v45.Hd⟩ : Pt)),v43.F,v43.V,v43.Tk,v43.Pa,v43.Wo,v43.Dr,v43.Ve⟩ : zA)) (new2 := (⟨v45.Up,r44.1,v45.Has,v45.Hd⟩ : Pt)) rfl (zO ev43).2 rfl (zO ev45).2 kr kr) kr ?_
     exact fA<|mE Za [9,8,7,4,0,1] [7,0,4]
    ·refine lA 1<|fA<|mB2 tOk Za 5 9 kr (And.intro kr ?_) (And.intro kr ?_)
     ·refine dE (tI 24) (.box 7) [(0,0),(0,(y6.toNat))] 11 2 [.sl true 3 [[cL 11 y34 zA.row,cL 4 r5.Ls Link.row,cL 7 r5.Said Say.row]]] (zA.row v43) (zy rfl (zO ev43).2)<|fA<|mC Za 9<|vL [.lend,.rd] (zBB n (⟨y35,y36,y37⟩ : Src) [1,1,2,5,20] r44 er44)<|fA<|mC Za 10<|LAt.indexD tOk (t := 24) (ty := 0) (et := 100) (x := (.tmp 49)) (y := (.tmp 50)) (d := 54) (g := none) (tI 100) ⟨(.box 7),[(0,0),(0,(y6.toNat))],2,true,8,(v43.Ps.map Pt.row)⟩ .i64 y33 (y33.toNat) (Pt.row v45) kr kr kr kr kr kr kr (zII (row := [.sl true 3 [[cL 11 y34 zA.row,cL 4 r5.Ls Link.row,cL 7 r5.Said Say.row]]]) (e := zA.row v43) kr kr (zy rfl (zO ev43).2) rfl rfl) rfl kr (zAG ev45) rfl<|fA<|mA Za [(11,[])] 1 [⟨[12],49,44,45⟩] fun cx=>sA_ 0xa0300000000393 145 ⟨73,1,[(55,.adr (.box 7) [(0,0),(0,(y6.toNat)),(2,(y33.toNat))] 8 1),sI 53 r44.1,sR 45 7 3 0 1 false,sA 44 7 3 0,sI 9 y33,sI 8 y6,sA 7 7 3 0,sA 4 4 3 0,sA 0 0 3 0,sI 1 x1],[(0,(fR (Src.row r44.2))),(7,[cL 11 y34 zA.row,cL 4 r5.Ls Link.row,cL 7 r5.Said Say.row]),(4,[cL 11 ([] : List zA) zA.row,cL 4 ([] : List Link) Link.row,cL 7 ([] : List Say) Say.row])]⟩<|mC Za 12<|LAt.storeK tOk (t := 3) (ty := 0) (ad := (.tmp 55)) (x := (.tmp 53)) (g := none) (tI 3) false [cI r44.1] (.box 7) [(0,0),(0,(y6.toNat)),(2,(y33.toNat))] [(0,(y6.toNat)),(2,(y33.toNat))] 8 1 [.sl true 3 [[cL 11 y34 zA.row,cL 4 r5.Ls Link.row,cL 7 r5.Said Say.row]]] (Pt.row v45) [cL 11 y34 zA.row,cL 4 r5.Ls Link.row,cL 7 r5.Said Say.row] [cL 11 (y34.set (y6.toNat) (⟨v43.Id,v43.Name,(v43.Ps.set (y33.toNat) (⟨v45.Up,r44.1,v45.Has,v45.Hd⟩ : Pt)),v43.F,v43.V,v43.Tk,v43.Pa,v43.Wo,v43.Dr,v43.Ve⟩ : zA)) zA.row,cL 4 r5.Ls Link.row,cL 7 r5.Said Say.row] kr kr kr kr kr kr (zJy rfl (zO ev43).2 rfl (zO ev45).2) rfl (by intro h; cases h) kr kr rfl (zLi (new := (⟨v43.Id,v43.Name,(v43.Ps.set (y33.toNat) (⟨v45.Up,r44.1,v45.Has,v45.Hd⟩ : Pt)),v43.F,v43.V,v43.Tk,v43.Pa,v43.Wo,v43.Dr,v43.Ve⟩ : zA)) (new2 := (⟨v45.Up,r44.1,v45.Has,v45.Hd⟩ : Pt)) rfl (zO ev43).2 rfl (zO ev45).2 kr kr) kr ?_
      exact fA<|mE Za [9,8,7,4,0,1] [7,0,4]
     ·refine vL [.lend,.rd] (zBB n (⟨y35,y36,y37⟩ : Src) [1,1,2,5,20] r44 er44)<|fA<|mC Za 5<|dE (tI 24) (.box 7) [(0,0),(0,(y6.toNat))] 11 2 [.sl true 3 [[cL 11 y34 zA.row,cL 4 r5.Ls Link.row,cL 7 r5.Said Say.row]]] (zA.row v43) (zy rfl (zO ev43).2)<|fA<|mC Za 10<|LAt.indexD tOk (t := 24) (ty := 0) (et := 100) (x := (.tmp 49)) (y := (.tmp 50)) (d := 54) (g := none) (tI 100) ⟨(.box 7),[(0,0),(0,(y6.toNat))],2,true,8,(v43.Ps.map Pt.row)⟩ .i64 y33 (y33.toNat) (Pt.row v45) kr kr kr kr kr kr kr (zII (row := [.sl true 3 [[cL 11 y34 zA.row,cL 4 r5.Ls Link.row,cL 7 r5.Said Say.row]]]) (e := zA.row v43) kr kr (zy rfl (zO ev43).2) rfl rfl) rfl kr (zAG ev45) rfl<|fA<|mA Za [(11,[])] 1 [⟨[12],49,44,45⟩] fun cx=>sA_ 0xa0300000000393 145 ⟨73,1,[(55,.adr (.box 7) [(0,0),(0,(y6.toNat)),(2,(y33.toNat))] 8 1),sI 53 r44.1,sR 45 7 3 0 1 false,sA 44 7 3 0,sI 9 y33,sI 8 y6,sA 7 7 3 0,sA 4 4 3 0,sA 0 0 3 0,sI 1 x1],[(0,(fR (Src.row r44.2))),(7,[cL 11 y34 zA.row,cL 4 r5.Ls Link.row,cL 7 r5.Said Say.row]),(4,[cL 11 ([] : List zA) zA.row,cL 4 ([] : List Link) Link.row,cL 7 ([] : List Say) Say.row])]⟩<|mC Za 12<|LAt.storeK tOk (t := 3) (ty := 0) (ad := (.tmp 55)) (x := (.tmp 53)) (g := none) (tI 3) false [cI r44.1] (.box 7) [(0,0),(0,(y6.toNat)),(2,(y33.toNat))] [(0,(y6.toNat)),(2,(y33.toNat))] 8 1 [.sl true 3 [[cL 11 y34 zA.row,cL 4 r5.Ls Link.row,cL 7 r5.Said Say.row]]] (Pt.row v45) [cL 11 y34 zA.row,cL 4 r5.Ls Link.row,cL 7 r5.Said Say.row] [cL 11 (y34.set (y6.toNat) (⟨v43.Id,v43.Name,(v43.Ps.set (y33.toNat) (⟨v45.Up,r44.1,v45.Has,v45.Hd⟩ : Pt)),v43.F,v43.V,v43.Tk,v43.Pa,v43.Wo,v43.Dr,v43.Ve⟩ : zA)) zA.row,cL 4 r5.Ls Link.row,cL 7 r5.Said Say.row] kr kr kr kr kr kr (zJy rfl (zO ev43).2 rfl (zO ev45).2) rfl (by intro h; cases h) kr kr rfl (zLi (new := (⟨v43.Id,v43.Name,(v43.Ps.set (y33.toNat) (⟨v45.Up,r44.1,v45.Has,v45.Hd⟩ : Pt)),v43.F,v43.V,v43.Tk,v43.Pa,v43.Wo,v43.Dr,v43.Ve⟩ : zA)) (new2 := (⟨v45.Up,r44.1,v45.Has,v45.Hd⟩ : Pt)) rfl (zO ev43).2 rfl (zO ev45).2 kr kr) kr ?_
      exact fA<|mE Za [9,8,7,4,0,1] [7,0,4]
   exact eA 3 915 145<|jB mo42 ((wI (y33 + 1)),(y34.set (y6.toNat) (⟨v43.Id,v43.Name,(v43.Ps.set (y33.toNat) (⟨v45.Up,r44.1,v45.Has,v45.Hd⟩ : Pt)),v43.F,v43.V,v43.Tk,v43.Pa,v43.Wo,v43.Dr,v43.Ve⟩ : zA)),r44.2.b,r44.2.i,r44.2.h) H [9,8,7,4,0,1] [7,0,4]
  rintro ⟨y38,y39,y40,y41⟩ H
  have H : (JK n (fun v => ZQ n mo32 v.1 v.2.1 v.2.2.1 v.2.2.2.1 v.2.2.2.2) y6 y38 y39 y40 y41) = some o32 := H
  unfold JK at H
  exact eA 3 403 145<|jB mo32 ((wI (y6 + 1)),y38,y39,y40,y41) H [8,7,4,0,1] [7,0,4]
 rintro ⟨y11,y12,y13,y14⟩ H
 have H : (JJ n r5 x1 y11 y12 y13 y14) = some r := H
 unfold JJ at H
 refine tS<|rA 3<|bE H fun r15 er15 H=> vL [.lend,.rd] (qv n (⟨y12,y13,y14⟩ : Src) (wI (x1 + 1)) r15 er15)<|uA 1 1169 145 ?_
 obtain ⟨o29,eo29,Ho29⟩ := bs H
 clear H
 refine Tr.mid (ι := (List Int) × Int × Int × (List zA) × (List Link) × (List Say)) (fun v => ⟨73,1,[sA 7 7 3 0,sA 4 4 3 0,sA 0 0 3 0],[(0,[cF 1 v.1 zg,cI v.2.1,cI v.2.2.1]),(7,[cL 11 v.2.2.2.1 zA.row,cL 4 v.2.2.2.2.1 Link.row,cL 7 v.2.2.2.2.2 Say.row]),(4,[cL 11 ([] : List zA) zA.row,cL 4 ([] : List Link) Link.row,cL 7 ([] : List Say) Say.row])]⟩) (fun v => zAS n v.1 v.2.1 v.2.2.1 v.2.2.2.1 v.2.2.2.2.1 v.2.2.2.2.2 = some r) ?_ ?_
 ·refine tB<|Tr.loop (ι := Nat × (Int × (List Int) × Int × Int × (List zA) × (List Link) × (List Say))) (fun v => ⟨73,1,[sI 10 v.2.1,sA 7 7 3 0,sA 4 4 3 0,sA 0 0 3 0],[(0,[cF 1 v.2.2.1 zg,cI v.2.2.2.1,cI v.2.2.2.2.1]),(7,[cL 11 v.2.2.2.2.2.1 zA.row,cL 4 v.2.2.2.2.2.2.1 Link.row,cL 7 v.2.2.2.2.2.2.2 Say.row]),(4,[cL 11 ([] : List zA) zA.row,cL 4 ([] : List Link) Link.row,cL 7 ([] : List Say) Say.row])]⟩) (fun v => QM n v.1 v.2.1 v.2.2.1 v.2.2.2.1 v.2.2.2.2.1 v.2.2.2.2.2.1 v.2.2.2.2.2.2.1 v.2.2.2.2.2.2.2 = some o29) (fun v => v.1) (n,(r15.1,r15.2.b,r15.2.i,r15.2.h,y11,r5.Ls,r5.Said)) eo29 (St.sub_of [10,7,4,0] [0,7,4] kr) ?_
  rintro ⟨mo29,y16,y17,y18,y19,y20,y21,y22⟩ H
  have H : QM n mo29 y16 y17 y18 y19 y20 y21 y22 = some o29 := H
  obtain _ | mo29 := mo29
  ·exact nN H
  rw [QM] at H
  refine tS<|gA 2 0x2000000000000491 145 ?_
  obtain ⟨h1,H⟩ | ⟨h1,H⟩ := bC H
  ·refine nA h1<|Tr.exit<|aJ ?_
   obtain rfl := si H
   have H := Ho29
   dsimp only at H
   exact jA (y17,y18,y19,y20,y21,y22) H [7,4,0] [0,7,4]
  refine tA h1<|tK<|tS<|tB<|Tr.frzB 7<|bE H fun r30 er30 H=> bE H fun r31 er31 H=> Tr.draw mixed 9 kr ⟨73,1,[sI 10 y16,sA 7 7 3 0,sA 4 4 3 0,sA 0 0 3 0],[(7,(Net.row r31.1)),(0,(fR (Src.row r30.2))),(4,[cL 11 ([] : List zA) zA.row,cL 4 ([] : List Link) Link.row,cL 7 ([] : List Say) Say.row])]⟩ (fun cx=>?_) ?_
  ·refine aA [(0,[4,8]),(1,[]),(2,[3,4,8])] 6 [⟨[3,4,8],53,7,67⟩,⟨[4,8],53,7,65⟩] fun cx=>bA 3<|vL [.lend,.rd] (zJb n (⟨y17,y18,y19⟩ : Src) (⟨y20,y21,y22⟩ : Net) r30 er30)<|fA<|bA 4<|vA [.rd,.rd] (zMa n (⟨y20,y21,y22⟩ : Net) r30.1 r31 er31)<|fA<|AT.movT tOk 5 (ty := 87) (t := 69) (d := 64) (g := none) [(true,(Net.row r31.1)),(false,[cB r31.2])] _ kr kr kr (.inl rfl) kr kr kr kr rfl (fun cx=>?_)
   exact aA [(6,[]),(7,[])] 1 [⟨[3,4,8],53,7,67⟩,⟨[4,8],53,7,65⟩] fun cx=>bA 8<|lA 1<|fA<|eE [10,7,4,0] [7,0,4]
  exact eA 3 1169 145<|jB mo29 ((wI (y16 - 1)),r30.2.b,r30.2.i,r30.2.h,r31.1.Bs,r31.1.Ls,r31.1.Said) H [10,7,4,0] [0,7,4]
 rintro ⟨y23,y24,y25,y26,y27,y28⟩ H
 have H : (zAS n y23 y24 y25 y26 y27 y28) = some r := H
 unfold zAS at H
 exact gA 2 17 17<|te<|fY [(true,[cL 11 y26 zA.row,cL 4 y27 Link.row,cL 7 y28 Say.row])] [(0,[cF 1 y23 zg,cI y24,cI y25])] H
def JU (n : Nat) (y7 : (List Event)) (y8 : (List Int)) (y9 : Int) (y10 : Int) : Option ((List Event) × Src) :=
  (some (y7,(⟨y8,y9,y10⟩ : Src)))
def Zh (n : Nat) : Nat → Int → (List Event) → (List Int) → Int → Int → Option (((List Event) × (List Int) × Int × Int) ⊕ ((List Event) × Src))
  | 0,_,_,_,_,_ => none
  | mo11 + 1,y2,y3,y4,y5,y6 => (bif (decide (y2 > 0)) then ((Z3 n (⟨y4,y5,y6⟩ : Src) [1,1,1,2,2,2,2,3,4,5,6]).bind fun r12 => ((zp n r12.2 4).bind fun r13 => (bif (decide (y3.length + [(⟨r12.1,r13.1⟩ : Event)].length ≤ 268435456)) then (Zh n mo11 (IntKind.wrap .i64 (y2 - 1)) (y3 ++ [(⟨r12.1,r13.1⟩ : Event)]) r13.2.b r13.2.i r13.2.h) else none))) else (some (Sum.inl (y3,y4,y5,y6))))
def JL (n : Nat) (x0 : Src) (x1 : Int) : Option ((List Event) × Src) :=
  ((zp n x0 x1).bind fun r1 => ((Zh n n r1.1 ([] : List Event) r1.2.b r1.2.i r1.2.h).bind fun o => match o with | .inl (y7,y8,y9,y10) => (JU n y7 y8 y9 y10) | .inr r => some r))
noncomputable abbrev zHQ (k : Nat) := Rg Tryz.f110 k
theorem zI0 (n : Nat) (x0 : Src) (x1 : Int) (r : (List Event) × Src) (H : JL n x0 x1 = some r) : zH Tryz.prog 110 [.ptr (fR (Src.row x0)),.val false [.lit (.int .i64 x1)]] [.val false [.sl true 2 (r.1.map Event.row)]] [(0,(fR (Src.row r.2)))] := by
 refine zH.of_body tOk Tryz.func110 rfl (c := (.seq (zHQ 0) (.seq (zHQ 1) (.seq (.seq (zHQ 2) (.block 0 (.loop (.seq (.seq (zHQ 3) (.cond (.tmp 12) .skip (.exit 0))) (.seq (.block 1 (zHQ 5)) (zHQ 4)))))) (.seq (zHQ 6) .ret))))) kr (Nat.le_of_ble_eq_true kr) 1 (rs := [.tmp 4]) rfl [] .nil [(false,[.sl true 2 (r.1.map Event.row)])] [] [(0,(fR (Src.row r.2)))] fun cx=>?_
 show Tr _ _ _ ⟨25,1,[sA 0 0 3 0,sI 1 x1],[(0,(fR (Src.row x0)))]⟩ _
 unfold JL at H
 refine gA 1 3 1<|rA 1<|LAt.moveU (T := lk tab) (ty := 54) (x := (.tmp 7)) (d := 5) (g := none) false [cL 2 ([] : List Event) Event.row] kr kr kr kr kr<|dA 35 1<|tS<|rA 2<|bE H fun r1 er1 H=> vL [.lend,.rd] (qv n x0 x1 r1 er1)<|uA 1 97 1 ?_
 obtain ⟨o11,eo11,Ho11⟩ := bs H
 clear H
 refine Tr.mid (ι := (List Event) × (List Int) × Int × Int) (fun v => ⟨25,1,[sC 5 (cL 2 v.1 Event.row),sA 0 0 3 0],[(0,[cF 1 v.2.1 zg,cI v.2.2.1,cI v.2.2.2])]⟩) (fun v => JU n v.1 v.2.1 v.2.2.1 v.2.2.2 = some r) ?_ ?_
 ·refine tB<|Tr.loop (ι := Nat × (Int × (List Event) × (List Int) × Int × Int)) (fun v => ⟨25,1,[sI 6 v.2.1,sC 5 (cL 2 v.2.2.1 Event.row),sA 0 0 3 0],[(0,[cF 1 v.2.2.2.1 zg,cI v.2.2.2.2.1,cI v.2.2.2.2.2])]⟩) (fun v => Zh n v.1 v.2.1 v.2.2.1 v.2.2.2.1 v.2.2.2.2.1 v.2.2.2.2.2 = some o11) (fun v => v.1) (n,(r1.1,([] : List Event),r1.2.b,r1.2.i,r1.2.h)) eo11 (St.sub_of [6,5,0] [0] kr) ?_
  rintro ⟨mo11,y2,y3,y4,y5,y6⟩ H
  have H : Zh n mo11 y2 y3 y4 y5 y6 = some o11 := H
  obtain _ | mo11 := mo11
  ·exact nN H
  rw [Zh] at H
  refine tS<|gA 2 4193 1 ?_
  obtain ⟨h1,H⟩ | ⟨h1,H⟩ := bC H
  ·refine nA h1<|Tr.exit<|aJ ?_
   obtain rfl := si H
   have H := Ho11
   dsimp only at H
   exact jA (y3,y4,y5,y6) H [5,0] [0]
  exact tA h1<|tK<|tS<|tB<|Tr.at<|lA 3<|bE H fun r12 er12 H=> vL [.lend,.rd] (zBB n (⟨y4,y5,y6⟩ : Src) [1,1,1,2,2,2,2,3,4,5,6] r12 er12)<|lA 1<|bE H fun r13 er13 H=> vL [.lend,.rd] (qv n r12.2 4 r13 er13)<|lA 2<|gE H fun hg14 H=> LAt.appMU tOk (t := 54) (ty := 54) (e := 84) (x := (.tmp 15)) (y := (.tmp 22)) (d := 23) (g := none) (tI 84) Event.row y3 [(⟨r12.1,r13.1⟩ : Event)] kr kr kr kr kr kr kr kr kr kr hg14<|LAt.moveU (T := lk tab) (ty := 54) (x := (.tmp 23)) (d := 5) (g := none) false [cL 2 (y3 ++ [(⟨r12.1,r13.1⟩ : Event)]) Event.row] kr kr kr kr kr<|dA 97 1<|eA 3 97 1<|jB mo11 ((wI (y2 - 1)),(y3 ++ [(⟨r12.1,r13.1⟩ : Event)]),r13.2.b,r13.2.i,r13.2.h) H [6,5,0] [0]
 rintro ⟨y7,y8,y9,y10⟩ H
 have H : (JU n y7 y8 y9 y10) = some r := H
 unfold JU at H
 exact gA 2 49 1<|te<|fY [(false,[cL 2 y7 Event.row])] [(0,[cF 1 y8 zg,cI y9,cI y10])] H
def zAB (n : Nat) (x0 : (List Int)) : Option (Net × (List Event)) :=
  ((zBR n x0).bind fun r1 => ((zAr n x0 20).bind fun r2 => ((zAE n r1 (IntKind.wrap .i64 (6 + r2))).bind fun r3 => ((JL n r3.2 10).bind fun r4 => (some (r3.1,r4.1))))))
theorem zKO (n : Nat) (x0 : (List Int)) (r : Net × (List Event)) (H : zAB n x0 = some r) : zH Tryz.prog 27 [.val false [.sl false 1 (CV.frzEs (x0.map zg))]] [.val true (Net.row r.1),.val false [.sl true 2 (r.2.map Event.row)]] [] := by
 refine cW Tryz.func27 (fun g d => sl [g 0,g 1,g 2] .ret) [.cell 2 53,.tmp 3] fun cx=>?_
 unfold zAB at H
 exact gA 2 5 4<|rA 1<|bE H fun r1 er1 H=> vA [.rd] (zLx n x0 r1 er1)<|uA 1 21 68<|rA 2<|bE H fun r2 er2 H=> vA [.rd,.rd] (zKz n x0 20 r2 er2)<|lA 1<|bE H fun r3 er3 H=> vL [.lend,.rd] (zKR n r1 (wI (6 + r2)) r3 er3)<|lA 1<|bE H fun r4 er4 H=> vL [.lend,.rd] (zI0 n r3.2 10 r4 er4)<|lA 1<|LAt.moveU (T := lk tab) (ty := 54) (x := (.tmp 13)) (d := 3) (g := none) false [cL 2 r4.1 Event.row] kr kr kr kr kr<|dA 12 4<|te (fJ [(true,(Net.row r3.1)),(false,[cL 2 r4.1 Event.row])] H)
def zBr (n : Nat) (x0 : (List Int)) (x1 : Int) : Option (Int) :=
  (bif (decide (x1 < (x0.length : Int))) then ((idx x0 x1).bind fun v2 => (some (IntKind.wrap .i64 v2))) else (bif (decide ((256 : Int) ≠ 0)) then (some (Int.tmod (IntKind.wrap .i64 ((IntKind.wrap .i64 (x1 * 31)) + (IntKind.wrap .i64 ((x0.length : Int) * 7)))) 256)) else none))
theorem zLG (n : Nat) (x0 : (List Int)) (x1 : Int) (r : Int) (H : zBr n x0 x1 = some r) : zH Tryz.prog 29 [.val false [.sl false 1 (CV.frzEs (x0.map zg))],.val false [.lit (.int .i64 x1)]] [.val false [.lit (.int .i64 r)]] [] := by
 refine cW Tryz.func29 (fun g d => sl [g 0,sl [g 1] (cn 8 (sl [g 2] .ret) .skip),g 3] .ret) [.tmp 4] fun cx=>?_
 unfold zBr at H
 refine gA 1 3 0<|tS<|rA 2<|kF x0 zg<|uA 1 259 0 ?_
 obtain ⟨h1,H⟩ | ⟨h1,H⟩ := bC H
 ·exact nA h1<|tK<|rA 3<|kF x0 zg<|lA 2<|gE H fun hg1 H=> LAt.binC tOk (op := .rem) (t := 3) (ty := 3) (ty' := 3) (x := (.tmp 19)) (y := (.const (.int .i64 256))) (d := 20) (g := none) (.int .i64 (wI ((wI (x1 * 31)) + (wI ((x0.length : Int) * 7))))) (.int .i64 256) (.int .i64 (Int.tmod (wI ((wI (x1 * 31)) + (wI ((x0.length : Int) * 7)))) 256)) _ kr kr kr kr kr (φ := (IntKind.i64 = IntKind.i64 ∧ (256 : Int) ≠ 0)) kr (⟨rfl,of_decide_eq_true hg1⟩) rfl<|uA 1 16 0<|te (fJ [(false,[cI (Int.tmod (wI ((wI (x1 * 31)) + (wI ((x0.length : Int) * 7)))) 256)])] H)
 exact tA h1<|rA 2<|bE H fun v2 ev2 H=> iA zg ev2<|uA 3 16 0<|te (fJ [(false,[cI (wI v2)])] H)
def zBe (n : Nat) (x0 : (List zB)) : Option ((List zB)) :=
  (bif (decide (([] : List zB).length + x0.length ≤ 268435456)) then (some (([] : List zB) ++ x0)) else none)
theorem zJ1 (n : Nat) (x0 : (List zB)) (r : (List zB)) (H : zBe n x0 = some r) : zH Tryz.prog 159 [.val false [.sl false 5 (CV.frzEs (x0.map zB.row))]] [.val false [.sl true 5 (r.map zB.row)]] [] := by
 refine cW Tryz.func159 (fun g d => sl [g 0,g 1] .ret) [.tmp 2] fun cx=>?_
 unfold zBe at H
 exact gA 1 1 0<|rA 1<|gE H fun hg1 H=> LAt.appCU tOk (t := 25) (ty := 25) (e := 103) (x := (.const (.slice none 0 0))) (y := (.tmp 3)) (d := 4) (g := none) (tI 103) zB.row ([] : List zB) x0 ⟨(.slot 3),[],0,false,5,(CV.frzEs (x0.map zB.row))⟩ kr kr kr kr kr kr kr kr kr kr kr (.inr rfl) (fun _ => rfl) (fun _ => rfl) hg1<|LAt.moveU (T := lk tab) (ty := 25) (x := (.tmp 4)) (d := 2) (g := none) false [cL 5 (([] : List zB) ++ x0) zB.row] kr kr kr kr kr<|dA 4 0<|te (fJ [(false,[cL 5 (([] : List zB) ++ x0) zB.row])] H)
def YF (n : Nat) (x0 : (List Int)) : Option ((List Int)) :=
  (bif (decide (([] : List Int).length + x0.length ≤ 268435456)) then (some (([] : List Int) ++ x0)) else none)
theorem zBf (n : Nat) (x0 : (List Int)) (r : (List Int)) (H : YF n x0 = some r) : zH Tryz.prog 117 [.val false [.sl false 1 (CV.frzEs (x0.map intRow))]] [.val false [.sl true 1 (r.map intRow)]] [] := by
 refine cW Tryz.func117 (fun g d => sl [g 0,g 1] .ret) [.tmp 2] fun cx=>?_
 unfold YF at H
 exact gA 1 1 0<|rA 1<|gE H fun hg1 H=> LAt.appCU tOk (t := 27) (ty := 27) (e := 3) (x := (.const (.slice none 0 0))) (y := (.tmp 3)) (d := 4) (g := none) (tI 3) intRow ([] : List Int) x0 ⟨(.slot 3),[],0,false,1,(CV.frzEs (x0.map intRow))⟩ kr kr kr kr kr kr kr kr kr kr kr (.inr rfl) (fun _ => rfl) (fun _ => rfl) hg1<|LAt.moveU (T := lk tab) (ty := 27) (x := (.tmp 4)) (d := 2) (g := none) false [cL 1 (([] : List Int) ++ x0) intRow] kr kr kr kr kr<|dA 4 0<|te (fJ [(false,[cL 1 (([] : List Int) ++ x0) intRow])] H)
def Jf (n : Nat) (x0 : zJ) : Option (zJ) :=
  (bif (decide (([] : List zE).length + x0.Rows.length ≤ 268435456)) then ((YF n x0.Pv).bind fun r2 => (some (⟨(([] : List zE) ++ x0.Rows),r2⟩ : zJ))) else none)
theorem zJT (n : Nat) (x0 : zJ) (r : zJ) (H : Jf n x0 = some r) : zH Tryz.prog 160 [.val true (fR (zJ.row x0))] [.val true (zJ.row r)] [] := by
 refine cW Tryz.func160 (fun g d => sl [g 0,d 1] .ret) [.cell 2 29] fun cx=>?_
 unfold Jf at H
 refine gA 2 6 6<|gE H fun hg1 H=> bE H fun r2 er2 H=> Tr.draws mixed 8 kr ⟨10,0,[sA 2 2 2 0],[(2,[cL 3 (([] : List zE) ++ x0.Rows) zE.row,cL 1 r2 intRow])]⟩ (fun cx=>?_) ?_
 ·exact aA [(0,[]),(1,[2,5,6,7]),(3,[]),(4,[5,6,7])] 4 [⟨[5,6,7],27,6,7⟩,⟨[2,5,6,7],26,3,4⟩] fun cx=>bA 2<|LAt.appCU tOk (t := 26) (ty := 26) (e := 113) (x := (.const (.slice none 0 0))) (y := (.tmp 4)) (d := 5) (g := none) (tI 113) zE.row ([] : List zE) x0.Rows ⟨(.box 1),[(0,0)],0,false,3,(CV.frzEs (x0.Rows.map zE.row))⟩ kr kr kr kr kr kr kr kr kr kr kr (.inr rfl) (fun _ => rfl) (fun _ => rfl) hg1<|fA<|bA 5<|vA [.rd] (zBf n x0.Pv r2 er2)<|fA<|bA 6<|lA 1<|fA<|bA 7<|lA 1<|fA<|eE [2] [2]
 exact te (fJ [(true,[cL 3 (([] : List zE) ++ x0.Rows) zE.row,cL 1 r2 intRow])] H)
def ZT (n : Nat) (x0 : zA) : Option (zA) :=
  (bif (decide (([] : List Pt).length + x0.Ps.length ≤ 268435456)) then ((zBe n x0.F).bind fun r2 => ((Jf n x0.V).bind fun r3 => (some (⟨x0.Id,x0.Name,(([] : List Pt) ++ x0.Ps),r2,r3,x0.Tk,x0.Pa,x0.Wo,x0.Dr,x0.Ve⟩ : zA)))) else none)
theorem zEX (n : Nat) (x0 : zA) (r : zA) (H : ZT n x0 = some r) : zH Tryz.prog 86 [.val true (fR (zA.row x0))] [.val true (zA.row r)] [] := by
 refine cW Tryz.func86 (fun g d => sl [g 0,g 1,d 2,g 3] .ret) [.cell 2 31] fun cx=>?_
 unfold ZT at H
 refine gA 2 6 6<|rA 2<|gE H fun hg1 H=> LAt.appCU tOk (t := 24) (ty := 24) (e := 100) (x := (.const (.slice none 0 0))) (y := (.tmp 4)) (d := 5) (g := none) (tI 100) Pt.row ([] : List Pt) x0.Ps ⟨(.slot 4),[],0,false,8,(CV.frzEs (x0.Ps.map Pt.row))⟩ kr kr kr kr kr kr kr kr kr kr kr (.inr rfl) (fun _ => rfl) (fun _ => rfl) hg1<|uA 2 6 6<|bE H fun r2 er2 H=> bE H fun r3 er3 H=> Tr.draws mixed 10 kr ⟨16,0,[sA 2 2 11 0,sA 1 1 11 0],[(1,[cI x0.Id,cS x0.Name,cL 8 (([] : List Pt) ++ x0.Ps) Pt.row,cL 5 r2 zB.row,cL 3 r3.Rows zE.row,cL 1 r3.Pv intRow,cI x0.Tk,cI x0.Pa,cI x0.Wo,cI x0.Dr,cI x0.Ve]),(2,[cI 0,cS (⟨#[]⟩ : ByteArray),cL 8 ([] : List Pt) Pt.row,cL 5 ([] : List zB) zB.row,cL 3 ([] : List zE) zE.row,cL 1 ([] : List Int) intRow,cI 0,cI 0,cI 0,cI 0,cI 0])]⟩ (fun cx=>?_) ?_
 ·exact aA [(0,[]),(1,[2,5,7,9]),(3,[]),(4,[5,7,9])] 6 [⟨[5,7,9],29,10,11⟩,⟨[2,5,7,9],25,7,8⟩] fun cx=>bA 2<|vA [.rd] (zJ1 n x0.F r2 er2)<|fA<|aA [(6,[])] 4 [⟨[5,7,9],29,10,11⟩,⟨[2,5,7,9],25,7,8⟩] fun cx=>bA 5<|vA [.rd] (zJT n x0.V r3 er3)<|fA<|bA 7<|LAt.storeO tOk (t := 25) (ty := 0) (ad := (.tmp 13)) (x := (.tmp 9)) (g := none) (tI 25) false [cL 5 r2 zB.row] 1 3 [cI x0.Id,cS x0.Name,cL 8 (([] : List Pt) ++ x0.Ps) Pt.row,cF 5 x0.F zB.row,cF 3 x0.V.Rows zE.row,cF 1 x0.V.Pv intRow,cI x0.Tk,cI x0.Pa,cI x0.Wo,cI x0.Dr,cI x0.Ve] kr kr kr kr kr kr kr kr<|fA<|aA [(8,[])] 1 [⟨[5,7,9],29,10,11⟩,⟨[2,5,7,9],25,7,8⟩] fun cx=>bA 9<|lA 1<|fA<|eE [2,1] [1,2]
 exact gA 2 4 4<|te (fJ [(true,[cI x0.Id,cS x0.Name,cL 8 (([] : List Pt) ++ x0.Ps) Pt.row,cL 5 r2 zB.row,cL 3 r3.Rows zE.row,cL 1 r3.Pv intRow,cI x0.Tk,cI x0.Pa,cI x0.Wo,cI x0.Dr,cI x0.Ve])] H)
def zAM (n : Nat) (x0 : Net) (y5 : (List zA)) : Option (Net) :=
  (some (⟨y5,(([] : List Link) ++ x0.Ls),(([] : List Say) ++ x0.Said)⟩ : Net))
def QK (n : Nat) : Nat → Net → Int → (List zA) → Option (((List zA)) ⊕ (Net))
  | 0,_,_,_ => none
  | mo6 + 1,x0,y3,y4 => (bif (decide (y3 < (x0.Bs.length : Int))) then ((idx x0.Bs y3).bind fun v7 => ((ZT n v7).bind fun r8 => (bif (decide (y4.length + [r8].length ≤ 268435456)) then (QK n mo6 x0 (IntKind.wrap .i64 (y3 + 1)) (y4 ++ [r8])) else none))) else (some (Sum.inl y4)))
def YZ (n : Nat) (x0 : Net) : Option (Net) :=
  (bif (decide (([] : List Link).length + x0.Ls.length ≤ 268435456)) then (bif (decide (([] : List Say).length + x0.Said.length ≤ 268435456)) then ((QK n n x0 0 ([] : List zA)).bind fun o => match o with | .inl y5 => (zAM n x0 y5) | .inr r => some r) else none) else none)
theorem zGH (n : Nat) (x0 : Net) (r : Net) (H : YZ n x0 = some r) : zH Tryz.prog 111 [.val true (fR (Net.row x0))] [.val true (Net.row r)] [] := by
 refine cW Tryz.func111 (fun g d => sl [g 0,d 1,sl [g 2] (.block 0 (.loop (sl [g 3,cn 17 .skip (.exit 0),.block 1 (sl [g 4] (d 5))] (g 6)))),g 7] .ret) [.cell 2 53] fun cx=>?_
 unfold YZ at H
 refine gA 2 6 6<|gE H fun hg1 H=> gE H fun hg2 H=> Tr.draws mixed 9 kr ⟨29,0,[sA 3 3 3 0,sA 2 2 3 0,sA 1 1 3 0],[(3,[cL 11 ([] : List zA) zA.row,cL 4 (([] : List Link) ++ x0.Ls) Link.row,cL 7 (([] : List Say) ++ x0.Said) Say.row]),(2,[cL 11 ([] : List zA) zA.row,cL 4 ([] : List Link) Link.row,cL 7 ([] : List Say) Say.row]),(1,(fR (Net.row x0)))]⟩ (fun cx=>?_) ?_
 ·refine aA [(0,[]),(1,[2,5,6,8]),(3,[]),(4,[5,6,8])] 5 [⟨[5,6,8],51,9,10⟩,⟨[2,5,6,8],50,6,7⟩] fun cx=>AT.big2 tOk 2 7 kr (And.intro kr ?_) (And.intro kr ?_)
  ·refine LAt.appCU tOk (t := 50) (ty := 50) (e := 78) (x := (.const (.slice none 0 0))) (y := (.tmp 7)) (d := 8) (g := none) (tI 78) Link.row ([] : List Link) x0.Ls ⟨(.box 1),[(0,0)],1,false,4,(CV.frzEs (x0.Ls.map Link.row))⟩ kr kr kr kr kr kr kr kr kr kr kr (.inr rfl) (fun _ => rfl) (fun _ => rfl) hg1<|fA<|AT.big2 tOk 5 7 kr (And.intro kr ?_) (And.intro kr ?_)
   ·refine LAt.appCU tOk (t := 51) (ty := 51) (e := 127) (x := (.const (.slice none 0 0))) (y := (.tmp 10)) (d := 11) (g := none) (tI 127) Say.row ([] : List Say) x0.Said ⟨(.box 1),[(0,0)],2,false,7,(CV.frzEs (x0.Said.map Say.row))⟩ kr kr kr kr kr kr kr kr kr kr kr (.inr rfl) (fun _ => rfl) (fun _ => rfl) hg2<|fA<|AT.big2 tOk 6 7 kr (And.intro kr ?_) (And.intro kr ?_)
    ·exact lA 1<|fA<|bA 7<|lA 1<|fA<|bA 8<|lA 1<|fA<|eE [3,2,1] [3,2,1]
    ·exact lA 1<|fA<|bA 6<|lA 1<|fA<|bA 8<|lA 1<|fA<|eE [3,2,1] [3,2,1]
   ·exact lA 1<|fA<|bA 5<|LAt.appCU tOk (t := 51) (ty := 51) (e := 127) (x := (.const (.slice none 0 0))) (y := (.tmp 10)) (d := 11) (g := none) (tI 127) Say.row ([] : List Say) x0.Said ⟨(.box 1),[(0,0)],2,false,7,(CV.frzEs (x0.Said.map Say.row))⟩ kr kr kr kr kr kr kr kr kr kr kr (.inr rfl) (fun _ => rfl) (fun _ => rfl) hg2<|fA<|bA 6<|lA 1<|fA<|bA 8<|lA 1<|fA<|eE [3,2,1] [3,2,1]
  ·exact lA 1<|fA<|bA 2<|LAt.appCU tOk (t := 50) (ty := 50) (e := 78) (x := (.const (.slice none 0 0))) (y := (.tmp 7)) (d := 8) (g := none) (tI 78) Link.row ([] : List Link) x0.Ls ⟨(.box 1),[(0,0)],1,false,4,(CV.frzEs (x0.Ls.map Link.row))⟩ kr kr kr kr kr kr kr kr kr kr kr (.inr rfl) (fun _ => rfl) (fun _ => rfl) hg1<|fA<|bA 5<|LAt.appCU tOk (t := 51) (ty := 51) (e := 127) (x := (.const (.slice none 0 0))) (y := (.tmp 10)) (d := 11) (g := none) (tI 127) Say.row ([] : List Say) x0.Said ⟨(.box 1),[(0,0)],2,false,7,(CV.frzEs (x0.Said.map Say.row))⟩ kr kr kr kr kr kr kr kr kr kr kr (.inr rfl) (fun _ => rfl) (fun _ => rfl) hg2<|fA<|bA 6<|lA 1<|fA<|bA 8<|lA 1<|fA<|eE [3,2,1] [3,2,1]
 refine tS<|rA 2<|kF x0.Bs zA.row<|uA 1 114700 12 ?_
 obtain ⟨o6,eo6,Ho6⟩ := bs H
 clear H
 refine Tr.mid (ι := (List zA)) (fun v => ⟨29,0,[sA 3 3 3 0,sA 2 2 3 0],[(3,[cL 11 v zA.row,cL 4 (([] : List Link) ++ x0.Ls) Link.row,cL 7 (([] : List Say) ++ x0.Said) Say.row]),(2,[cL 11 ([] : List zA) zA.row,cL 4 ([] : List Link) Link.row,cL 7 ([] : List Say) Say.row])]⟩) (fun v => zAM n x0 v = some r) ?_ ?_
 ·refine tB<|Tr.loop (ι := Nat × (Int × (List zA))) (fun v => ⟨29,0,[sI 16 v.2.1,sI 15 (x0.Bs.length : Int),sC 14 (cF 11 x0.Bs zA.row),sA 3 3 3 0,sA 2 2 3 0],[(3,[cL 11 v.2.2 zA.row,cL 4 (([] : List Link) ++ x0.Ls) Link.row,cL 7 (([] : List Say) ++ x0.Said) Say.row]),(2,[cL 11 ([] : List zA) zA.row,cL 4 ([] : List Link) Link.row,cL 7 ([] : List Say) Say.row])]⟩) (fun v => QK n v.1 x0 v.2.1 v.2.2 = some o6) (fun v => v.1) (n,(0,([] : List zA))) eo6 (St.sub_of [16,15,14,3,2] [3,2] kr) ?_
  rintro ⟨mo6,y3,y4⟩ H
  have H : QK n mo6 x0 y3 y4 = some o6 := H
  obtain _ | mo6 := mo6
  ·exact nN H
  rw [QK] at H
  refine gA 1 245772 12<|tS ?_
  obtain ⟨h1,H⟩ | ⟨h1,H⟩ := bC H
  ·refine nA h1<|Tr.exit<|aJ ?_
   obtain rfl := si H
   have H := Ho6
   dsimp only at H
   exact jA y4 H [3,2] [3,2]
  refine tA h1<|tK<|tS<|tB<|tR<|bE H fun v7 ev7 H=> iA zA.row ev7<|uA 3 114732 44<|bE H fun r8 er8 H=> gE H fun hg9 H=> Tr.draw mixed 8 kr ⟨29,0,[sI 16 y3,sI 15 (x0.Bs.length : Int),sC 14 (cF 11 x0.Bs zA.row),sA 3 3 3 0,sA 2 2 3 0],[(3,[cL 11 (y4 ++ [r8]) zA.row,cL 4 (([] : List Link) ++ x0.Ls) Link.row,cL 7 (([] : List Say) ++ x0.Said) Say.row]),(2,[cL 11 ([] : List zA) zA.row,cL 4 ([] : List Link) Link.row,cL 7 ([] : List Say) Say.row])]⟩ (fun cx=>?_) ?_
  ·exact aA [(0,[]),(1,[5,7]),(2,[3,4,5,7])] 5 [⟨[3,4,5,7],31,5,22⟩,⟨[5,7],49,20,21⟩] fun cx=>bA 3<|vA [.rd] (zEX n v7 r8 er8)<|fA<|bA 4<|lA 1<|fA<|bA 5<|LAt.appMU tOk (t := 49) (ty := 49) (e := 31) (x := (.tmp 21)) (y := (.tmp 24)) (d := 25) (g := none) (tI 31) zA.row y4 [r8] kr kr kr kr kr kr kr kr kr kr hg9<|fA<|aA [(6,[])] 1 [⟨[3,4,5,7],31,5,22⟩,⟨[5,7],49,20,21⟩] fun cx=>bA 7<|lA 1<|fA<|eE [16,15,14,3,2] [3,2]
  exact eA 2 114700 12<|jB mo6 ((wI (y3 + 1)),(y4 ++ [r8])) H [16,15,14,3,2] [3,2]
 rintro y5 H
 have H : (zAM n x0 y5) = some r := H
 unfold zAM at H
 exact gA 2 4 4<|te (fJ [(true,[cL 11 y5 zA.row,cL 4 (([] : List Link) ++ x0.Ls) Link.row,cL 7 (([] : List Say) ++ x0.Said) Say.row])] H)
def zu (n : Nat) (x0 : Int) (x1 : Int) (x2 : Int) : Option (Bool) :=
  (bif (decide (x0 ≥ x1)) then (some (decide (x0 ≤ x2))) else (some false))
theorem qC (n : Nat) (x0 : Int) (x1 : Int) (x2 : Int) (r : Bool) (H : zu n x0 x1 x2 = some r) : zH Tryz.prog 82 [.val false [.lit (.int .i64 x0)],.val false [.lit (.int .i64 x1)],.val false [.lit (.int .i64 x2)]] [.val false [.lit (.bool r)]] [] := by
 refine cW Tryz.func82 (fun g d => sl [g 0,g 1] .ret) [.tmp 6] fun cx=>?_
 unfold zu at H
 refine gA 1 7 0<|rA 4<|sL 1029 0 ⟨15,0,[sB 10 (decide (x0 ≥ x1)),sI 0 x0,sI 2 x2],[]⟩ ?_
 cases h1 : (decide (x0 ≥ x1))
 ·have H := zF h1 H
  exact uA 5 64 0<|te (fF H)
 have H := zG h1 H
 exact uA 5 64 0<|te (fJ [(false,[cB (decide (x0 ≤ x2))])] H)
def Yi (n : Nat) (x0 : Vec) : Option (Bool) :=
  ((zu n x0.Root 1 99).bind fun r1 => (bif r1 then ((zu n x0.Co 0 100000).bind fun r2 => (bif r2 then ((zu n x0.Hops 0 10).bind fun r3 => (bif r3 then ((zu n x0.Bridge 1 99).bind fun r4 => (bif r4 then ((zu n x0.Port 0 7).bind fun r5 => (some r5)) else (some false))) else (some false))) else (some false))) else (some false)))
theorem zB8 (n : Nat) (x0 : Vec) (r : Bool) (H : Yi n x0 = some r) : zH Tryz.prog 88 [.val true (fR (Vec.row x0))] [.val false [.lit (.bool r)]] [] := by
 refine cW Tryz.func88 (fun g d => sl [g 0,g 1] .ret) [.tmp 2] fun cx=>?_
 unfold Yi at H
 refine gA 2 2 2<|rA 2<|bE H fun r1 er1 H=> vA [.rd,.rd,.rd] (qC n x0.Root 1 99 r1 er1)<|lA 1<|sL 66 2 ⟨26,0,[sB 6 r1,sA 1 1 5 0],[(1,(Vec.row x0))]⟩ ?_
 cases h1 : r1
 ·have H := zF h1 H
  exact uA 20 4 0<|te (fF H)
 have H := zG h1 H
 refine lA 2<|bE H fun r2 er2 H=> vA [.rd,.rd,.rd] (qC n x0.Co 0 100000 r2 er2)<|lA 2<|sL 2050 2 ⟨26,0,[sB 11 r2,sA 1 1 5 0],[(1,(Vec.row x0))]⟩ ?_
 cases h2 : r2
 ·have H := zF h2 H
  exact uA 15 4 0<|te (fF H)
 have H := zG h2 H
 refine lA 2<|bE H fun r3 er3 H=> vA [.rd,.rd,.rd] (qC n x0.Hops 0 10 r3 er3)<|lA 2<|sL 65538 2 ⟨26,0,[sB 16 r3,sA 1 1 5 0],[(1,(Vec.row x0))]⟩ ?_
 cases h3 : r3
 ·have H := zF h3 H
  exact uA 10 4 0<|te (fF H)
 have H := zG h3 H
 refine lA 2<|bE H fun r4 er4 H=> vA [.rd,.rd,.rd] (qC n x0.Bridge 1 99 r4 er4)<|lA 2<|sL 2097154 2 ⟨26,0,[sB 21 r4,sA 1 1 5 0],[(1,(Vec.row x0))]⟩ ?_
 cases h4 : r4
 ·have H := zF h4 H
  exact uA 5 4 0<|te (fF H)
 have H := zG h4 H
 exact lA 2<|bE H fun r5 er5 H=> vA [.rd,.rd,.rd] (qC n x0.Port 0 7 r5 er5)<|uA 2 4 0<|te (fJ [(false,[cB r5])] H)
def zB5 (n : Nat) (x0 : Pt) : Option (Bool) :=
  ((zu n x0.Co 1 1000).bind fun r1 => (bif (!r1) then (some false) else (bif x0.Has then (bif (!x0.Up) then (some false) else ((Yi n x0.Hd).bind fun r2 => (some r2))) else (some ((x0.Hd.Root == 0) && ((x0.Hd.Co == 0) && ((x0.Hd.Hops == 0) && ((x0.Hd.Bridge == 0) && ((x0.Hd.Port == 0) && true)))))))))
theorem zMM (n : Nat) (x0 : Pt) (r : Bool) (H : zB5 n x0 = some r) : zH Tryz.prog 97 [.val true (fR (Pt.row x0))] [.val false [.lit (.bool r)]] [] := by
 refine cW Tryz.func97 (fun g d => sl [g 0,sl [g 1] (cn 15 (sl [g 2] .ret) .skip),sl [g 3] (cn 17 (sl [g 4] .ret) .skip),g 5] .ret) [.tmp 2] fun cx=>?_
 unfold zB5 at H
 refine gA 2 2 2<|tS<|rA 2<|bE H fun r1 er1 H=> vA [.rd,.rd,.rd] (qC n x0.Co 1 1000 r1 er1)<|lA 2<|sL 130 2 ⟨25,0,[sB 7 (!r1),sA 1 1 8 0],[(1,(Pt.row x0))]⟩ ?_
 cases h1 : (!r1)
 ·have H := zF h1 H
  refine lA 3<|sL 1154 2 ⟨25,0,[sB 10 x0.Has,sB 7 false,sA 1 1 8 0],[(1,(Pt.row x0))]⟩ ?_
  cases h2 : x0.Has
  ·have H := zF h2 H
   refine uA 5 32770 2<|nB_<|tK<|tS<|gA 2 131074 2<|sT ⟨25,0,[sB 17 x0.Has,sA 1 1 8 0],[(1,(Pt.row x0))]⟩ ?_
   rw [h2]
   exact nB_<|tK<|rA 3<|LAt.eqSG false (t := 33) (ty := 33) (ty' := 4) (x := (.tmp 22)) (y := (.tmp 23)) (d := 24) (g := none) ((x0.Hd.Root == 0) && ((x0.Hd.Co == 0) && ((x0.Hd.Hops == 0) && ((x0.Hd.Bridge == 0) && ((x0.Hd.Port == 0) && true))))) _ kr kr kr kr rfl<|uA 1 4 0<|te (fJ [(false,[cB ((x0.Hd.Root == 0) && ((x0.Hd.Co == 0) && ((x0.Hd.Hops == 0) && ((x0.Hd.Bridge == 0) && ((x0.Hd.Port == 0) && true)))))])] H)
  have H := zG h2 H
  refine uA 5 32770 2 ?_
  obtain ⟨h3,H⟩ | ⟨h3,H⟩ := bC H
  ·refine nA h3<|tK<|tS<|gA 2 131074 2<|sT ⟨25,0,[sB 17 x0.Has,sA 1 1 8 0],[(1,(Pt.row x0))]⟩ ?_
   rw [h2]
   exact tB_<|rA 2<|bE H fun r2 er2 H=> vA [.rd] (zB8 n x0.Hd r2 er2)<|uA 1 4 0<|te (fJ [(false,[cB r2])] H)
  exact tA h3<|gA 1 4 0<|te (fF H)
 have H := zG h1 H
 exact uA 8 32770 2<|tB_<|gA 1 4 0<|te (fF H)
def zCA (n : Nat) (x0 : zB) : Option (Bool) :=
  ((zu n x0.Tag 1 99).bind fun r1 => (bif r1 then ((zu n x0.Mac 1 9999).bind fun r2 => (bif r2 then ((zu n x0.Port 0 7).bind fun r3 => (bif r3 then ((zu n x0.Age 0 4).bind fun r4 => (bif r4 then (bif (!x0.Sc) then (some true) else (some (x0.Age == 0))) else (some false))) else (some false))) else (some false))) else (some false)))
theorem zEr (n : Nat) (x0 : zB) (r : Bool) (H : zCA n x0 = some r) : zH Tryz.prog 167 [.val true (fR (zB.row x0))] [.val false [.lit (.bool r)]] [] := by
 refine cW Tryz.func167 (fun g d => sl [g 0,g 1] .ret) [.tmp 2] fun cx=>?_
 unfold zCA at H
 refine gA 2 2 2<|rA 2<|bE H fun r1 er1 H=> vA [.rd,.rd,.rd] (qC n x0.Tag 1 99 r1 er1)<|lA 1<|sL 66 2 ⟨31,0,[sB 6 r1,sA 1 1 5 0],[(1,(zB.row x0))]⟩ ?_
 cases h1 : r1
 ·have H := zF h1 H
  exact uA 25 4 0<|te (fF H)
 have H := zG h1 H
 refine lA 2<|bE H fun r2 er2 H=> vA [.rd,.rd,.rd] (qC n x0.Mac 1 9999 r2 er2)<|lA 2<|sL 2050 2 ⟨31,0,[sB 11 r2,sA 1 1 5 0],[(1,(zB.row x0))]⟩ ?_
 cases h2 : r2
 ·have H := zF h2 H
  exact uA 20 4 0<|te (fF H)
 have H := zG h2 H
 refine lA 2<|bE H fun r3 er3 H=> vA [.rd,.rd,.rd] (qC n x0.Port 0 7 r3 er3)<|lA 2<|sL 65538 2 ⟨31,0,[sB 16 r3,sA 1 1 5 0],[(1,(zB.row x0))]⟩ ?_
 cases h3 : r3
 ·have H := zF h3 H
  exact uA 15 4 0<|te (fF H)
 have H := zG h3 H
 refine lA 2<|bE H fun r4 er4 H=> vA [.rd,.rd,.rd] (qC n x0.Age 0 4 r4 er4)<|lA 2<|sL 2097154 2 ⟨31,0,[sB 21 r4,sA 1 1 5 0],[(1,(zB.row x0))]⟩ ?_
 cases h4 : r4
 ·have H := zF h4 H
  exact uA 10 4 0<|te (fF H)
 have H := zG h4 H
 refine lA 4<|sL 35651586 2 ⟨31,0,[sB 25 (!x0.Sc),sB 21 true,sA 1 1 5 0],[(1,(zB.row x0))]⟩ ?_
 cases h5 : (!x0.Sc)
 ·have H := zF h5 H
  exact uA 6 4 0<|te (fJ [(false,[cB (x0.Age == 0)])] H)
 have H := zG h5 H
 exact uA 6 4 0<|te (fT H)
def zAf (n : Nat) (x0 : zB) (x1 : Int) (x2 : Int) : Option (Bool) :=
  (bif (decide (x0.Tag > x1)) then (some true) else (bif (x0.Tag == x1) then (some (decide (x0.Mac > x2))) else (some false)))
theorem zKf (n : Nat) (x0 : zB) (x1 : Int) (x2 : Int) (r : Bool) (H : zAf n x0 x1 x2 = some r) : zH Tryz.prog 168 [.val true (fR (zB.row x0)),.val false [.lit (.int .i64 x1)],.val false [.lit (.int .i64 x2)]] [.val false [.lit (.bool r)]] [] := by
 refine cW Tryz.func168 (fun g d => sl [g 0,g 1] .ret) [.tmp 6] fun cx=>?_
 unfold zAf at H
 refine gA 2 14 8<|rA 5<|sL 2062 8 ⟨23,0,[sB 11 (decide (x0.Tag > x1)),sA 3 3 5 0,sI 1 x1,sI 2 x2],[(3,(zB.row x0))]⟩ ?_
 cases h1 : (decide (x0.Tag > x1))
 ·have H := zF h1 H
  refine lA 5<|sL 67596 8 ⟨23,0,[sB 16 (x0.Tag == x1),sB 11 false,sA 3 3 5 0,sI 2 x2],[(3,(zB.row x0))]⟩ ?_
  cases h2 : (x0.Tag == x1)
  ·have H := zF h2 H
   exact uA 7 64 0<|te (fF H)
  have H := zG h2 H
  exact uA 7 64 0<|te (fJ [(false,[cB (decide (x0.Mac > x2))])] H)
 have H := zG h1 H
 exact uA 12 64 0<|te (fT H)
def zBX (n : Nat) (x0 : (List zB)) : Option (Bool) :=
  (some (decide ((x0.length : Int) ≤ 12)))
def QT (n : Nat) : Nat → (List zB) → Int → Option ((Unit) ⊕ (Bool))
  | 0,_,_ => none
  | mo2 + 1,x0,y1 => (bif (decide (y1 < (x0.length : Int))) then ((idx x0 y1).bind fun v3 => ((zCA n v3).bind fun r4 => (bif (!r4) then (some (Sum.inr false)) else (bif (decide (y1 > 0)) then ((idx x0 (IntKind.wrap .i64 (y1 - 1))).bind fun v5 => ((idx x0 (IntKind.wrap .i64 (y1 - 1))).bind fun v6 => ((zAf n v3 v5.Tag v6.Mac).bind fun r7 => (bif (!r7) then (some (Sum.inr false)) else (QT n mo2 x0 (IntKind.wrap .i64 (y1 + 1))))))) else (QT n mo2 x0 (IntKind.wrap .i64 (y1 + 1))))))) else (some (Sum.inl ())))
def zBM (n : Nat) (x0 : (List zB)) : Option (Bool) :=
  ((QT n n x0 0).bind fun o => match o with | .inl _ => (zBX n x0) | .inr r => some r)
def zOZ : Tab := ⟨24,[0,1,2,6,8,24,40,64,64,64,576,1344,2112,4160,64,64,32832,81984,131136,262208,532672,1048640,2097224,4194312],[0,1,2,4,8,24,40,64,64,64,576,1344,2112,4160,64,64,32832,81984,131136,262208,532672,1048640,2097224,4194312],[0,1,3,7,15,31,63,127,127,127,639,1919,3967,8063,127,127,32895,114815,245887,508031,1048575,2097151,4194303,8388607]⟩
theorem Qs : za (rg Tryz.f98 4) zOZ = true := kr
theorem zLb (n : Nat) (x0 : (List zB)) (r : Bool) (H : zBM n x0 = some r) : zH Tryz.prog 98 [.val false [.sl false 5 (CV.frzEs (x0.map zB.row))]] [.val false [.lit (.bool r)]] [] := by
 refine cW Tryz.func98 (fun g d => sl [g 0,sl [g 1] (.block 0 (.loop (sl [g 2,cn 8 .skip (.exit 0),.block 1 (sl [g 3,d 4] (cn 35 (sl [g 5] .ret) .skip))] (g 6)))),g 7] .ret) [.tmp 2] fun cx=>?_
 unfold zBM at H
 refine gA 1 1 0<|tS<|rA 1<|kF x0 zB.row<|uA 1 225 0 ?_
 obtain ⟨o2,eo2,Ho2⟩ := bs H
 clear H
 refine Tr.mid (ι := Unit) (fun v => ⟨40,0,[sC 0 (cF 5 x0 zB.row)],[]⟩) (fun v => zBX n x0 = some r) ?_ ?_
 ·refine tB<|Tr.loop (ι := Nat × (Int)) (fun v => ⟨40,0,[sI 7 v.2,sI 6 (x0.length : Int),sC 5 (cF 5 x0 zB.row),sC 0 (cF 5 x0 zB.row)],[]⟩) (fun v => QT n v.1 x0 v.2 = some o2) (fun v => v.1) (n,0) eo2 (St.sub_of [7,6,5,0] [] kr) ?_
  rintro ⟨mo2,y1⟩ H
  have H : QT n mo2 x0 y1 = some o2 := H
  obtain _ | mo2 := mo2
  ·exact nN H
  rw [QT] at H
  refine gA 1 481 0<|tS ?_
  obtain ⟨h1,H⟩ | ⟨h1,H⟩ := bC H
  ·refine nA h1<|Tr.exit<|aJ ?_
   obtain rfl := si H
   have H := Ho2
   dsimp only at H
   exact jA () H [0] []
  refine tA h1<|tK<|tS<|tB<|rA 1<|bE H fun v3 ev3 H=> iA zB.row ev3<|uA 4 249 16<|bE H fun r4 er4 H=> sT ⟨40,0,[sI 3 y1,sA 4 4 5 0,sI 7 y1,sI 6 (x0.length : Int),sC 5 (cF 5 x0 zB.row),sC 0 (cF 5 x0 zB.row)],[(4,(zB.row v3))]⟩ ?_
  cases h2 : (!r4)
  ·have H := zF h2 H
   refine sT ⟨40,0,[sI 3 y1,sA 4 4 5 0,sI 7 y1,sI 6 (x0.length : Int),sC 5 (cF 5 x0 zB.row),sC 0 (cF 5 x0 zB.row)],[(4,(zB.row v3))]⟩ ?_
   cases h3 : (decide (y1 > 0))
   ·have H := zF h3 H
    refine Tr.draws mixed 24 kr ⟨40,0,[sB 35 false,sI 7 y1,sI 6 (x0.length : Int),sC 5 (cF 5 x0 zB.row),sC 0 (cF 5 x0 zB.row)],[]⟩ (fun cx=>?_) ?_
    ·refine mA Qs [(0,[1])] 23 [⟨[1],103,4,12⟩] fun cx=>mC Qs 1<|vA [.rd] (zEr n v3 r4 er4)<|fA<|mA Qs [(2,[]),(3,[])] 20 [⟨[1],103,4,12⟩] fun cx=>sA_ 37113 16 ⟨40,0,[sB 15 (!r4),sV 12 (zB.row v3),sI 3 y1,sA 4 4 5 0,sI 7 y1,sI 6 (x0.length : Int),sC 5 (cF 5 x0 zB.row),sC 0 (cF 5 x0 zB.row)],[(4,(zB.row v3))]⟩ ?_
     rw [h2]
     refine mA Qs [(4,[]),(5,[]),(6,[])] 17 [⟨[1],103,4,12⟩] fun cx=>sA_ 299257 16 ⟨40,0,[sB 18 (decide (y1 > 0)),sB 15 false,sV 12 (zB.row v3),sI 3 y1,sA 4 4 5 0,sI 7 y1,sI 6 (x0.length : Int),sC 5 (cF 5 x0 zB.row),sC 0 (cF 5 x0 zB.row)],[(4,(zB.row v3))]⟩ ?_
     rw [h3]
     exact mA Qs [(7,[]),(8,[]),(9,[]),(10,[]),(11,[]),(12,[]),(13,[]),(14,[]),(15,[]),(16,[]),(17,[]),(18,[]),(19,[]),(20,[]),(21,[]),(22,[]),(23,[])] 0 [⟨[1],103,4,12⟩] fun cx=>mE Qs [35,7,6,5,0] []
    exact nB_<|tK<|eA 2 225 0<|jB mo2 (wI (y1 + 1)) H [7,6,5,0] []
   have H := zG h3 H
   refine bE H fun v5 ev5 H=> bE H fun v6 ev6 H=> bE H fun r7 er7 H=> Tr.draws mixed 24 kr ⟨40,0,[sB 35 (!r7),sI 7 y1,sI 6 (x0.length : Int),sC 5 (cF 5 x0 zB.row),sC 0 (cF 5 x0 zB.row)],[]⟩ (fun cx=>?_) ?_
   ·refine mA Qs [(0,[1,20])] 23 [⟨[1,20],103,4,12⟩] fun cx=>mC Qs 1<|vA [.rd] (zEr n v3 r4 er4)<|fA<|mA Qs [(2,[]),(3,[])] 20 [⟨[1,20],103,4,12⟩] fun cx=>sA_ 37113 16 ⟨40,0,[sB 15 (!r4),sV 12 (zB.row v3),sI 3 y1,sA 4 4 5 0,sI 7 y1,sI 6 (x0.length : Int),sC 5 (cF 5 x0 zB.row),sC 0 (cF 5 x0 zB.row)],[(4,(zB.row v3))]⟩ ?_
    rw [h2]
    refine mA Qs [(4,[]),(5,[]),(6,[])] 17 [⟨[1,20],103,4,12⟩] fun cx=>sA_ 299257 16 ⟨40,0,[sB 18 (decide (y1 > 0)),sB 15 false,sV 12 (zB.row v3),sI 3 y1,sA 4 4 5 0,sI 7 y1,sI 6 (x0.length : Int),sC 5 (cF 5 x0 zB.row),sC 0 (cF 5 x0 zB.row)],[(4,(zB.row v3))]⟩ ?_
    rw [h3]
    exact mA Qs [(7,[20]),(8,[]),(9,[]),(10,[])] 13 [⟨[20],103,4,19⟩,⟨[1,20],103,4,12⟩] fun cx=>iN Qs 11 zB.row ev5 fun cx=>mA Qs [(12,[]),(13,[]),(14,[]),(15,[]),(16,[])] 7 [⟨[20],103,4,19⟩,⟨[1,20],103,4,12⟩] fun cx=>iN Qs 17 zB.row ev6 fun cx=>mA Qs [(18,[]),(19,[])] 4 [⟨[20],103,4,19⟩,⟨[1,20],103,4,12⟩] fun cx=>mC Qs 20<|vA [.rd,.rd,.rd] (zKf n v3 v5.Tag v6.Mac r7 er7)<|fA<|mA Qs [(21,[]),(22,[]),(23,[])] 0 [⟨[20],103,4,19⟩,⟨[1,20],103,4,12⟩] fun cx=>mE Qs [35,7,6,5,0] []
   refine sT ⟨40,0,[sB 35 (!r7),sI 7 y1,sI 6 (x0.length : Int),sC 5 (cF 5 x0 zB.row),sC 0 (cF 5 x0 zB.row)],[]⟩ ?_
   cases h4 : (!r7)
   ·have H := zF h4 H
    exact nB_<|tK<|eA 2 225 0<|jB mo2 (wI (y1 + 1)) H [7,6,5,0] []
   have H := zG h4 H
   refine tB_<|gA 1 4 0<|te ?_
   obtain rfl := si H
   have H := Ho2
   dsimp only at H
   exact fF H
  have H := zG h2 H
  refine Tr.draws mixed 24 kr ⟨40,0,[sB 35 true,sI 7 y1,sI 6 (x0.length : Int),sC 5 (cF 5 x0 zB.row),sC 0 (cF 5 x0 zB.row)],[]⟩ (fun cx=>?_) ?_
  ·refine mA Qs [(0,[1])] 23 [⟨[1],103,4,12⟩] fun cx=>mC Qs 1<|vA [.rd] (zEr n v3 r4 er4)<|fA<|mA Qs [(2,[]),(3,[])] 20 [⟨[1],103,4,12⟩] fun cx=>sA_ 37113 16 ⟨40,0,[sB 15 (!r4),sV 12 (zB.row v3),sI 3 y1,sA 4 4 5 0,sI 7 y1,sI 6 (x0.length : Int),sC 5 (cF 5 x0 zB.row),sC 0 (cF 5 x0 zB.row)],[(4,(zB.row v3))]⟩ ?_
   rw [h2]
   exact mA Qs [(4,[]),(5,[]),(6,[]),(7,[]),(8,[]),(9,[]),(10,[]),(11,[]),(12,[]),(13,[]),(14,[]),(15,[]),(16,[]),(17,[]),(18,[]),(19,[]),(20,[]),(21,[]),(22,[]),(23,[])] 0 [⟨[1],103,4,12⟩] fun cx=>mE Qs [35,7,6,5,0] []
  refine tB_<|gA 1 4 0<|te ?_
  obtain rfl := si H
  have H := Ho2
  dsimp only at H
  exact fF H
 rintro _ H
 have H : (zBX n x0) = some r := H
 unfold zBX at H
 exact rA 1<|kF x0 zB.row<|uA 2 4 0<|te (fJ [(false,[cB (decide ((x0.length : Int) ≤ 12))])] H)
def Qn (n : Nat) (x0 : Int) : Option (Int) :=
  (bif (decide ((0 : Int) ≤ x0)) then (some (IntKind.wrap .i64 ((IntKind.wrap .i64 (1 * 2 ^ min ((x0 : Int)).toNat (IntKind.bits .i64))) - 1))) else none)
theorem zBd (n : Nat) (x0 : Int) (r : Int) (H : Qn n x0 = some r) : zH Tryz.prog 158 [.val false [.lit (.int .i64 x0)]] [.val false [.lit (.int .i64 r)]] [] := by
 refine cW Tryz.func158 (fun g d => sl [g 0,g 1] .ret) [.tmp 2] fun cx=>?_
 unfold Qn at H
 exact gA 1 1 0<|rA 1<|gE H fun hg1 H=> LAt.binC tOk (op := .shl) (t := 3) (ty := 3) (ty' := 3) (x := (.const (.int .i64 1))) (y := (.tmp 3)) (d := 4) (g := none) (.int .i64 1) (.int .i64 x0) (.int .i64 (wI (1 * 2 ^ min ((x0 : Int)).toNat (IntKind.bits .i64)))) _ kr kr kr kr kr (φ := (0 : Int) ≤ x0) kr (of_decide_eq_true hg1) rfl<|uA 2 4 0<|te (fJ [(false,[cI (wI ((wI (1 * 2 ^ min ((x0 : Int)).toNat (IntKind.bits .i64))) - 1))])] H)
def zBa (n : Nat) : Option (Int) :=
  (some (-1))
def YY (n : Nat) : Nat → zJ → Int → Int → Option ((Unit) ⊕ (Int))
  | 0,_,_,_ => none
  | mo2 + 1,x0,x1,y1 => (bif (decide (y1 < (x0.Rows.length : Int))) then ((idx x0.Rows y1).bind fun v3 => (bif (v3.Id == x1) then (some (Sum.inr y1)) else (YY n mo2 x0 x1 (IntKind.wrap .i64 (y1 + 1))))) else (some (Sum.inl ())))
def zBO (n : Nat) (x0 : zJ) (x1 : Int) : Option (Int) :=
  ((YY n n x0 x1 0).bind fun o => match o with | .inl _ => (zBa n) | .inr r => some r)
theorem zLf (n : Nat) (x0 : zJ) (x1 : Int) (r : Int) (H : zBO n x0 x1 = some r) : zH Tryz.prog 169 [.val true (fR (zJ.row x0)),.val false [.lit (.int .i64 x1)]] [.val false [.lit (.int .i64 r)]] [] := by
 refine cW Tryz.func169 (fun g d => sl [g 0,sl [g 1] (.block 0 (.loop (sl [g 2,cn 11 .skip (.exit 0),.block 1 (sl [g 3,g 4] (cn 18 (sl [g 5] .ret) .skip))] (g 6)))),g 7] .ret) [.tmp 4] fun cx=>?_
 unfold zBO at H
 refine gA 2 6 4<|tS<|rA 2<|kF x0.Rows zE.row<|uA 1 1794 0 ?_
 obtain ⟨o2,eo2,Ho2⟩ := bs H
 clear H
 refine Tr.mid (ι := Unit) (fun v => ⟨21,0,[],[]⟩) (fun v => zBa n = some r) ?_ ?_
 ·refine tB<|Tr.loop (ι := Nat × (Int)) (fun v => ⟨21,0,[sI 10 v.2,sI 9 (x0.Rows.length : Int),sC 8 (cF 3 x0.Rows zE.row),sI 1 x1],[]⟩) (fun v => YY n v.1 x0 x1 v.2 = some o2) (fun v => v.1) (n,0) eo2 (St.sub_of [10,9,8,1] [] kr) ?_
  rintro ⟨mo2,y1⟩ H
  have H : YY n mo2 x0 x1 y1 = some o2 := H
  obtain _ | mo2 := mo2
  ·exact nN H
  rw [YY] at H
  refine gA 1 3842 0<|tS ?_
  obtain ⟨h1,H⟩ | ⟨h1,H⟩ := bC H
  ·refine nA h1<|Tr.exit<|aJ ?_
   obtain rfl := si H
   have H := Ho2
   dsimp only at H
   exact jA () H [] []
  refine tA h1<|tK<|tS<|tB<|rA 1<|bE H fun v3 ev3 H=> iA zE.row ev3<|uA 4 1890 64<|gA 4 263970 0 ?_
  obtain ⟨h2,H⟩ | ⟨h2,H⟩ := bC H
  ·exact nA h2<|tK<|eA 2 1794 0<|jB mo2 (wI (y1 + 1)) H [10,9,8,1] []
  refine tA h2<|gA 2 16 0<|te ?_
  obtain rfl := si H
  have H := Ho2
  dsimp only at H
  exact fJ [(false,[cI y1])] H
 rintro _ H
 have H : (zBa n) = some r := H
 unfold zBa at H
 exact gA 1 16 0<|te (fJ [(false,[cI (-1)])] H)
def zAz (n : Nat) : Option (Bool) :=
  (some true)
def Qm (n : Nat) : Nat → zJ → Int → Option ((Unit) ⊕ (Bool))
  | 0,_,_ => none
  | mo4 + 1,x0,y3 => (bif (decide (y3 < (x0.Pv.length : Int))) then ((idx x0.Pv y3).bind fun v5 => ((zBO n x0 v5).bind fun r6 => (bif (decide (r6 < 0)) then (some (Sum.inr false)) else (Qm n mo4 x0 (IntKind.wrap .i64 (y3 + 1)))))) else (some (Sum.inl ())))
def Je (n : Nat) (x0 : zJ) : Option (Bool) :=
  ((Qm n n x0 0).bind fun o => match o with | .inl _ => (zAz n) | .inr r => some r)
def Z9 (n : Nat) : Nat → zJ → Int → Int → Option ((Unit) ⊕ (Bool))
  | 0,_,_,_ => none
  | mo7 + 1,x0,x1,y2 => (bif (decide (y2 < (x0.Rows.length : Int))) then ((idx x0.Rows y2).bind fun v8 => ((zu n v8.Id 1 99).bind fun r9 => (bif (!r9) then (some (Sum.inr false)) else (bif (decide (y2 > 0)) then ((idx x0.Rows (IntKind.wrap .i64 (y2 - 1))).bind fun v12 => (bif (decide (v12.Id ≥ v8.Id)) then (some (Sum.inr false)) else ((Qn n x1).bind fun r13 => ((zu n v8.Members 0 r13).bind fun r14 => (bif (!r14) then (some (Sum.inr false)) else (bif ((IntKind.wrap .i64 (BitVec.ofInt (IntKind.bits .i64) v8.Bare &&& ~~~BitVec.ofInt (IntKind.bits .i64) v8.Members).toNat) != 0) then (some (Sum.inr false)) else (Z9 n mo7 x0 x1 (IntKind.wrap .i64 (y2 + 1))))))))) else ((Qn n x1).bind fun r10 => ((zu n v8.Members 0 r10).bind fun r11 => (bif (!r11) then (some (Sum.inr false)) else (bif ((IntKind.wrap .i64 (BitVec.ofInt (IntKind.bits .i64) v8.Bare &&& ~~~BitVec.ofInt (IntKind.bits .i64) v8.Members).toNat) != 0) then (some (Sum.inr false)) else (Z9 n mo7 x0 x1 (IntKind.wrap .i64 (y2 + 1))))))))))) else (some (Sum.inl ())))
def zAe (n : Nat) (x0 : zJ) (x1 : Int) : Option (Bool) :=
  ((zu n x1 1 6).bind fun r1 => (bif (!r1) then (some false) else (bif ((x0.Pv.length : Int) != x1) then (some false) else (bif (decide ((x0.Rows.length : Int) > 6)) then (some false) else ((Z9 n n x0 x1 0).bind fun o => match o with | .inl _ => (Je n x0) | .inr r => some r)))))
def zOa : Tab := ⟨36,[0,1,2,4,12,16,48,80,128,384,128,1152,2688,4224,8320,128,32896,82048,131216,262160,524416,1048576,3145728,1048576,9437184,22020096,34603008,68157440,167772160,268435456,805306368,268435456,2415919104,5637144576,8858370048,17448304640],[0,1,2,4,8,16,48,80,128,384,128,1152,2688,4224,8320,128,32896,82048,131216,262160,524288,1048576,3145728,1048576,9437184,22020096,34603008,68157440,134217728,268435456,805306368,268435456,2415919104,5637144576,8858370048,17448304640],[0,1,3,7,15,31,63,127,255,511,255,1279,4095,8191,16383,255,33023,131071,262143,524287,1048575,2097151,4194303,2097151,10485759,33554431,67108863,134217727,268435455,536870911,1073741823,536870911,2684354559,8589934591,17179869183,34359738367]⟩
theorem zr : za (rg Tryz.f99 6) zOa = true := kr
theorem zIh (n : Nat) (x1 : Int) (r13 : Int) (v8 : zE) (r14 : Bool) (y2 : Int) (x0 : zJ) (er13 : (Qn n x1) = some r13) (er14 : (zu n v8.Members 0 r13) = some r14) (h12 : (!r14) = false) (cx : Cx) : AT Tryz.prog cx (rg Tryz.f99 6) [⟨[24,25],3,48,49⟩,⟨[24,25],26,41,42⟩,⟨[2,24,25],3,33,34⟩] 15 [20,19,18,17,16,15,14,13,12,11,10,9,8,7,6,5,4,3,2,1,0] ⟨82,0,[sB 53 false,sI 49 v8.Id,sA 48 6 3 0,sR 42 2 2 0 1 false,sA 41 2 2 0,sI 34 v8.Id,sA 33 6 3 0,sA 6 6 3 0,sI 28 y2,sI 27 (x0.Rows.length : Int),sC 26 (cF 3 x0.Rows zE.row),sA 2 2 2 0,sI 1 x1],[(6,(zE.row v8)),(2,(fR (zJ.row x0)))]⟩ (fun s => s = ⟨82,0,[sB 68 ((wI (BitVec.ofInt (IntKind.bits .i64) v8.Bare &&& ~~~BitVec.ofInt (IntKind.bits .i64) v8.Members).toNat) != 0),sI 28 y2,sI 27 (x0.Rows.length : Int),sC 26 (cF 3 x0.Rows zE.row),sA 2 2 2 0,sI 1 x1],[(2,(fR (zJ.row x0)))]⟩) := by
 refine mA zr [(21,[]),(22,[25]),(23,[])] 12 [⟨[25],3,54,55⟩,⟨[24,25],3,48,49⟩,⟨[24,25],26,41,42⟩,⟨[2,24,25],3,33,34⟩] fun cx=>mC zr 24<|vA [.rd] (zBd n x1 r13 er13)<|fA<|mC zr 25<|vA [.rd,.rd,.rd] (qC n v8.Members 0 r13 r14 er14)<|fA<|mA zr [(26,[]),(27,[]),(28,[])] 7 [⟨[25],3,54,55⟩,⟨[24,25],3,48,49⟩,⟨[24,25],26,41,42⟩,⟨[2,24,25],3,33,34⟩] fun cx=>sA_ 0x20c306061c000046 68 ⟨82,0,[sB 61 (!r14),sI 55 v8.Members,sA 54 6 3 1,sI 49 v8.Id,sA 48 6 3 0,sR 42 2 2 0 1 false,sA 41 2 2 0,sI 34 v8.Id,sA 33 6 3 0,sA 6 6 3 0,sI 28 y2,sI 27 (x0.Rows.length : Int),sC 26 (cF 3 x0.Rows zE.row),sA 2 2 2 0,sI 1 x1],[(6,(zE.row v8)),(2,(fR (zJ.row x0)))]⟩ ?_
 rw [h12]
 exact mA zr [(29,[]),(30,[]),(31,[]),(32,[]),(33,[]),(34,[]),(35,[])] 0 [⟨[],3,64,65⟩,⟨[],3,62,63⟩,⟨[25],3,54,55⟩,⟨[24,25],3,48,49⟩,⟨[24,25],26,41,42⟩,⟨[2,24,25],3,33,34⟩] fun cx=>mE zr [68,28,27,26,2,1] [2]
theorem zIi (n : Nat) (x1 : Int) (r13 : Int) (v8 : zE) (r14 : Bool) (y2 : Int) (x0 : zJ) (er13 : (Qn n x1) = some r13) (er14 : (zu n v8.Members 0 r13) = some r14) (h12 : (!r14) = true) (cx : Cx) : AT Tryz.prog cx (rg Tryz.f99 6) [⟨[24,25],3,48,49⟩,⟨[24,25],26,41,42⟩,⟨[2,24,25],3,33,34⟩] 15 [20,19,18,17,16,15,14,13,12,11,10,9,8,7,6,5,4,3,2,1,0] ⟨82,0,[sB 53 false,sI 49 v8.Id,sA 48 6 3 0,sR 42 2 2 0 1 false,sA 41 2 2 0,sI 34 v8.Id,sA 33 6 3 0,sA 6 6 3 0,sI 28 y2,sI 27 (x0.Rows.length : Int),sC 26 (cF 3 x0.Rows zE.row),sA 2 2 2 0,sI 1 x1],[(6,(zE.row v8)),(2,(fR (zJ.row x0)))]⟩ (fun s => s = ⟨82,0,[sB 68 true,sI 28 y2,sI 27 (x0.Rows.length : Int),sC 26 (cF 3 x0.Rows zE.row),sA 2 2 2 0,sI 1 x1],[(2,(fR (zJ.row x0)))]⟩) := by
 refine mA zr [(21,[]),(22,[25]),(23,[])] 12 [⟨[25],3,54,55⟩,⟨[24,25],3,48,49⟩,⟨[24,25],26,41,42⟩,⟨[2,24,25],3,33,34⟩] fun cx=>mC zr 24<|vA [.rd] (zBd n x1 r13 er13)<|fA<|mC zr 25<|vA [.rd,.rd,.rd] (qC n v8.Members 0 r13 r14 er14)<|fA<|mA zr [(26,[]),(27,[]),(28,[])] 7 [⟨[25],3,54,55⟩,⟨[24,25],3,48,49⟩,⟨[24,25],26,41,42⟩,⟨[2,24,25],3,33,34⟩] fun cx=>sA_ 0x20c306061c000046 68 ⟨82,0,[sB 61 (!r14),sI 55 v8.Members,sA 54 6 3 1,sI 49 v8.Id,sA 48 6 3 0,sR 42 2 2 0 1 false,sA 41 2 2 0,sI 34 v8.Id,sA 33 6 3 0,sA 6 6 3 0,sI 28 y2,sI 27 (x0.Rows.length : Int),sC 26 (cF 3 x0.Rows zE.row),sA 2 2 2 0,sI 1 x1],[(6,(zE.row v8)),(2,(fR (zJ.row x0)))]⟩ ?_
 rw [h12]
 exact mA zr [(29,[]),(30,[]),(31,[]),(32,[]),(33,[]),(34,[]),(35,[])] 0 [⟨[25],3,54,55⟩,⟨[24,25],3,48,49⟩,⟨[24,25],26,41,42⟩,⟨[2,24,25],3,33,34⟩] fun cx=>mE zr [68,28,27,26,2,1] [2]
theorem zIj (n : Nat) (v8 : zE) (y2 : Int) (x0 : zJ) (x1 : Int) (cx : Cx) : AT Tryz.prog cx (rg Tryz.f99 6) [⟨[],3,48,49⟩,⟨[],26,41,42⟩,⟨[2],3,33,34⟩] 15 [20,19,18,17,16,15,14,13,12,11,10,9,8,7,6,5,4,3,2,1,0] ⟨82,0,[sB 53 true,sI 49 v8.Id,sA 48 6 3 0,sR 42 2 2 0 1 false,sA 41 2 2 0,sI 34 v8.Id,sA 33 6 3 0,sA 6 6 3 0,sI 28 y2,sI 27 (x0.Rows.length : Int),sC 26 (cF 3 x0.Rows zE.row),sA 2 2 2 0,sI 1 x1],[(6,(zE.row v8)),(2,(fR (zJ.row x0)))]⟩ (fun s => s = ⟨82,0,[sB 68 true,sI 28 y2,sI 27 (x0.Rows.length : Int),sC 26 (cF 3 x0.Rows zE.row),sA 2 2 2 0,sI 1 x1],[(2,(fR (zJ.row x0)))]⟩) := by
 exact mA zr [(21,[]),(22,[]),(23,[]),(24,[]),(25,[]),(26,[]),(27,[]),(28,[]),(29,[]),(30,[]),(31,[]),(32,[]),(33,[]),(34,[]),(35,[])] 0 [⟨[],3,48,49⟩,⟨[],26,41,42⟩,⟨[2],3,33,34⟩] fun cx=>mE zr [68,28,27,26,2,1] [2]
theorem zKe (n : Nat) (x0 : zJ) (x1 : Int) (r : Bool) (H : zAe n x0 x1 = some r) : zH Tryz.prog 99 [.val true (fR (zJ.row x0)),.val false [.lit (.int .i64 x1)]] [.val false [.lit (.bool r)]] [] := by
 refine cW Tryz.func99 (fun g d => sl [g 0,sl [g 1] (cn 24 (sl [g 2] .ret) .skip),sl [g 3] (.block 0 (.loop (sl [g 4,cn 29 .skip (.exit 0),.block 1 (sl [g 5,d 6] (cn 68 (sl [g 7] .ret) .skip))] (g 8)))),sl [g 9] (.block 2 (.loop (sl [g 10,cn 74 .skip (.exit 2),.block 3 (sl [g 11,g 12] (cn 80 (sl [g 13] .ret) .skip))] (g 14)))),g 15] .ret) [.tmp 4] fun cx=>?_
 unfold zAe at H
 refine gA 2 6 4<|tS<|rA 1<|bE H fun r1 er1 H=> vA [.rd,.rd,.rd] (qC n x1 1 6 r1 er1)<|lA 2<|sL 4102 4 ⟨82,0,[sB 12 (!r1),sA 2 2 2 0,sI 1 x1],[(2,(fR (zJ.row x0)))]⟩ ?_
 cases h1 : (!r1)
 ·have H := zF h1 H
  refine lA 2<|kF x0.Pv intRow<|lA 4<|sL 524294 4 ⟨82,0,[sB 19 ((x0.Pv.length : Int) != x1),sA 2 2 2 0,sI 1 x1],[(2,(fR (zJ.row x0)))]⟩ ?_
  cases h2 : ((x0.Pv.length : Int) != x1)
  ·have H := zF h2 H
   refine lA 2<|kF x0.Rows zE.row<|uA 2 16777222 4 ?_
   obtain ⟨h3,H⟩ | ⟨h3,H⟩ := bC H
   ·refine nA h3<|tK<|tS<|rA 2<|kF x0.Rows zE.row<|uA 1 469762054 4 ?_
    obtain ⟨o7,eo7,Ho7⟩ := bs H
    clear H
    refine Tr.mid (ι := Unit) (fun v => ⟨82,0,[sA 2 2 2 0],[(2,(fR (zJ.row x0)))]⟩) (fun v => Je n x0 = some r) ?_ ?_
    ·refine tB<|Tr.loop (ι := Nat × (Int)) (fun v => ⟨82,0,[sI 28 v.2,sI 27 (x0.Rows.length : Int),sC 26 (cF 3 x0.Rows zE.row),sA 2 2 2 0,sI 1 x1],[(2,(fR (zJ.row x0)))]⟩) (fun v => Z9 n v.1 x0 x1 v.2 = some o7) (fun v => v.1) (n,0) eo7 (St.sub_of [28,27,26,2,1] [2] kr) ?_
     rintro ⟨mo7,y2⟩ H
     have H : Z9 n mo7 x0 x1 y2 = some o7 := H
     obtain _ | mo7 := mo7
     ·exact nN H
     rw [Z9] at H
     refine gA 1 1006632966 4<|tS ?_
     obtain ⟨h6,H⟩ | ⟨h6,H⟩ := bC H
     ·refine nA h6<|Tr.exit<|aJ ?_
      obtain rfl := si H
      have H := Ho7
      dsimp only at H
      exact jA () H [2] [2]
     refine tA h6<|tK<|tS<|tB<|rA 1<|bE H fun v8 ev8 H=> iA zE.row ev8<|uA 4 469762150 68<|bE H fun r9 er9 H=> sT ⟨82,0,[sI 5 y2,sA 6 6 3 0,sI 28 y2,sI 27 (x0.Rows.length : Int),sC 26 (cF 3 x0.Rows zE.row),sA 2 2 2 0,sI 1 x1],[(6,(zE.row v8)),(2,(fR (zJ.row x0)))]⟩ ?_
     cases h7 : (!r9)
     ·have H := zF h7 H
      refine sT ⟨82,0,[sI 5 y2,sA 6 6 3 0,sI 28 y2,sI 27 (x0.Rows.length : Int),sC 26 (cF 3 x0.Rows zE.row),sA 2 2 2 0,sI 1 x1],[(6,(zE.row v8)),(2,(fR (zJ.row x0)))]⟩ ?_
      cases h8 : (decide (y2 > 0))
      ·have H := zF h8 H
       refine bE H fun r10 er10 H=> bE H fun r11 er11 H=> sT ⟨82,0,[sI 5 y2,sA 6 6 3 0,sI 28 y2,sI 27 (x0.Rows.length : Int),sC 26 (cF 3 x0.Rows zE.row),sA 2 2 2 0,sI 1 x1],[(6,(zE.row v8)),(2,(fR (zJ.row x0)))]⟩ ?_
       cases h9 : (!r11)
       ·have H := zF h9 H
        refine Tr.draws mixed 36 kr ⟨82,0,[sB 68 ((wI (BitVec.ofInt (IntKind.bits .i64) v8.Bare &&& ~~~BitVec.ofInt (IntKind.bits .i64) v8.Members).toNat) != 0),sI 28 y2,sI 27 (x0.Rows.length : Int),sC 26 (cF 3 x0.Rows zE.row),sA 2 2 2 0,sI 1 x1],[(2,(fR (zJ.row x0)))]⟩ (fun cx=>?_) ?_
        ·refine mA zr [(0,[]),(1,[2,24,25])] 34 [⟨[2,24,25],3,33,34⟩] fun cx=>mC zr 2<|vA [.rd,.rd,.rd] (qC n v8.Id 1 99 r9 er9)<|fA<|mA zr [(3,[]),(4,[])] 31 [⟨[2,24,25],3,33,34⟩] fun cx=>sA_ 163678519398 68 ⟨82,0,[sB 37 (!r9),sI 34 v8.Id,sA 33 6 3 0,sI 5 y2,sA 6 6 3 0,sI 28 y2,sI 27 (x0.Rows.length : Int),sC 26 (cF 3 x0.Rows zE.row),sA 2 2 2 0,sI 1 x1],[(6,(zE.row v8)),(2,(fR (zJ.row x0)))]⟩ ?_
         rw [h7]
         refine mA zr [(5,[]),(6,[]),(7,[])] 28 [⟨[2,24,25],3,33,34⟩] fun cx=>sA_ 1263190147174 68 ⟨82,0,[sB 40 (decide (y2 > 0)),sB 37 false,sI 34 v8.Id,sA 33 6 3 0,sI 5 y2,sA 6 6 3 0,sI 28 y2,sI 27 (x0.Rows.length : Int),sC 26 (cF 3 x0.Rows zE.row),sA 2 2 2 0,sI 1 x1],[(6,(zE.row v8)),(2,(fR (zJ.row x0)))]⟩ ?_
         rw [h8]
         refine mA zr [(8,[]),(9,[]),(10,[]),(11,[]),(12,[]),(13,[]),(14,[]),(15,[]),(16,[]),(17,[]),(18,[]),(19,[]),(20,[]),(21,[]),(22,[25]),(23,[])] 12 [⟨[25],3,54,55⟩,⟨[2,24,25],3,33,34⟩] fun cx=>mC zr 24<|vA [.rd] (zBd n x1 r10 er10)<|fA<|mC zr 25<|vA [.rd,.rd,.rd] (qC n v8.Members 0 r10 r11 er11)<|fA<|mA zr [(26,[]),(27,[]),(28,[])] 7 [⟨[25],3,54,55⟩,⟨[2,24,25],3,33,34⟩] fun cx=>sA_ 0x20c000061c000046 68 ⟨82,0,[sB 61 (!r11),sI 55 v8.Members,sA 54 6 3 1,sI 34 v8.Id,sA 33 6 3 0,sA 6 6 3 0,sI 28 y2,sI 27 (x0.Rows.length : Int),sC 26 (cF 3 x0.Rows zE.row),sA 2 2 2 0,sI 1 x1],[(6,(zE.row v8)),(2,(fR (zJ.row x0)))]⟩ ?_
         rw [h9]
         exact mA zr [(29,[]),(30,[]),(31,[]),(32,[]),(33,[]),(34,[]),(35,[])] 0 [⟨[],3,64,65⟩,⟨[],3,62,63⟩,⟨[25],3,54,55⟩,⟨[2,24,25],3,33,34⟩] fun cx=>mE zr [68,28,27,26,2,1] [2]
        refine sT ⟨82,0,[sB 68 ((wI (BitVec.ofInt (IntKind.bits .i64) v8.Bare &&& ~~~BitVec.ofInt (IntKind.bits .i64) v8.Members).toNat) != 0),sI 28 y2,sI 27 (x0.Rows.length : Int),sC 26 (cF 3 x0.Rows zE.row),sA 2 2 2 0,sI 1 x1],[(2,(fR (zJ.row x0)))]⟩ ?_
        cases h10 : ((wI (BitVec.ofInt (IntKind.bits .i64) v8.Bare &&& ~~~BitVec.ofInt (IntKind.bits .i64) v8.Members).toNat) != 0)
        ·have H := zF h10 H
         exact nB_<|tK<|eA 2 469762054 4<|jB mo7 (wI (y2 + 1)) H [28,27,26,2,1] [2]
        have H := zG h10 H
        refine tB_<|gA 1 16 0<|te ?_
        obtain rfl := si H
        have H := Ho7
        dsimp only at H
        exact fF H
       have H := zG h9 H
       refine Tr.draws mixed 36 kr ⟨82,0,[sB 68 true,sI 28 y2,sI 27 (x0.Rows.length : Int),sC 26 (cF 3 x0.Rows zE.row),sA 2 2 2 0,sI 1 x1],[(2,(fR (zJ.row x0)))]⟩ (fun cx=>?_) ?_
       ·refine mA zr [(0,[]),(1,[2,24,25])] 34 [⟨[2,24,25],3,33,34⟩] fun cx=>mC zr 2<|vA [.rd,.rd,.rd] (qC n v8.Id 1 99 r9 er9)<|fA<|mA zr [(3,[]),(4,[])] 31 [⟨[2,24,25],3,33,34⟩] fun cx=>sA_ 163678519398 68 ⟨82,0,[sB 37 (!r9),sI 34 v8.Id,sA 33 6 3 0,sI 5 y2,sA 6 6 3 0,sI 28 y2,sI 27 (x0.Rows.length : Int),sC 26 (cF 3 x0.Rows zE.row),sA 2 2 2 0,sI 1 x1],[(6,(zE.row v8)),(2,(fR (zJ.row x0)))]⟩ ?_
        rw [h7]
        refine mA zr [(5,[]),(6,[]),(7,[])] 28 [⟨[2,24,25],3,33,34⟩] fun cx=>sA_ 1263190147174 68 ⟨82,0,[sB 40 (decide (y2 > 0)),sB 37 false,sI 34 v8.Id,sA 33 6 3 0,sI 5 y2,sA 6 6 3 0,sI 28 y2,sI 27 (x0.Rows.length : Int),sC 26 (cF 3 x0.Rows zE.row),sA 2 2 2 0,sI 1 x1],[(6,(zE.row v8)),(2,(fR (zJ.row x0)))]⟩ ?_
        rw [h8]
        refine mA zr [(8,[]),(9,[]),(10,[]),(11,[]),(12,[]),(13,[]),(14,[]),(15,[]),(16,[]),(17,[]),(18,[]),(19,[]),(20,[]),(21,[]),(22,[25]),(23,[])] 12 [⟨[25],3,54,55⟩,⟨[2,24,25],3,33,34⟩] fun cx=>mC zr 24<|vA [.rd] (zBd n x1 r10 er10)<|fA<|mC zr 25<|vA [.rd,.rd,.rd] (qC n v8.Members 0 r10 r11 er11)<|fA<|mA zr [(26,[]),(27,[]),(28,[])] 7 [⟨[25],3,54,55⟩,⟨[2,24,25],3,33,34⟩] fun cx=>sA_ 0x20c000061c000046 68 ⟨82,0,[sB 61 (!r11),sI 55 v8.Members,sA 54 6 3 1,sI 34 v8.Id,sA 33 6 3 0,sA 6 6 3 0,sI 28 y2,sI 27 (x0.Rows.length : Int),sC 26 (cF 3 x0.Rows zE.row),sA 2 2 2 0,sI 1 x1],[(6,(zE.row v8)),(2,(fR (zJ.row x0)))]⟩ ?_
        rw [h9]
        exact mA zr [(29,[]),(30,[]),(31,[]),(32,[]),(33,[]),(34,[]),(35,[])] 0 [⟨[25],3,54,55⟩,⟨[2,24,25],3,33,34⟩] fun cx=>mE zr [68,28,27,26,2,1] [2]
       refine tB_<|gA 1 16 0<|te ?_
       obtain rfl := si H
       have H := Ho7
       dsimp only at H
       exact fF H
      have H := zG h8 H
      refine bE H fun v12 ev12 H=> sT ⟨82,0,[sI 5 y2,sA 6 6 3 0,sI 28 y2,sI 27 (x0.Rows.length : Int),sC 26 (cF 3 x0.Rows zE.row),sA 2 2 2 0,sI 1 x1],[(6,(zE.row v8)),(2,(fR (zJ.row x0)))]⟩ ?_
      cases h11 : (decide (v12.Id ≥ v8.Id))
      ·have H := zF h11 H
       refine bE H fun r13 er13 H=> bE H fun r14 er14 H=> sT ⟨82,0,[sI 5 y2,sA 6 6 3 0,sI 28 y2,sI 27 (x0.Rows.length : Int),sC 26 (cF 3 x0.Rows zE.row),sA 2 2 2 0,sI 1 x1],[(6,(zE.row v8)),(2,(fR (zJ.row x0)))]⟩ ?_
       cases h12 : (!r14)
       ·have H := zF h12 H
        refine Tr.draws mixed 36 kr ⟨82,0,[sB 68 ((wI (BitVec.ofInt (IntKind.bits .i64) v8.Bare &&& ~~~BitVec.ofInt (IntKind.bits .i64) v8.Members).toNat) != 0),sI 28 y2,sI 27 (x0.Rows.length : Int),sC 26 (cF 3 x0.Rows zE.row),sA 2 2 2 0,sI 1 x1],[(2,(fR (zJ.row x0)))]⟩ (fun cx=>?_) ?_
        ·refine mA zr [(0,[]),(1,[2,24,25])] 34 [⟨[2,24,25],3,33,34⟩] fun cx=>mC zr 2<|vA [.rd,.rd,.rd] (qC n v8.Id 1 99 r9 er9)<|fA<|mA zr [(3,[]),(4,[])] 31 [⟨[2,24,25],3,33,34⟩] fun cx=>sA_ 163678519398 68 ⟨82,0,[sB 37 (!r9),sI 34 v8.Id,sA 33 6 3 0,sI 5 y2,sA 6 6 3 0,sI 28 y2,sI 27 (x0.Rows.length : Int),sC 26 (cF 3 x0.Rows zE.row),sA 2 2 2 0,sI 1 x1],[(6,(zE.row v8)),(2,(fR (zJ.row x0)))]⟩ ?_
         rw [h7]
         refine mA zr [(5,[]),(6,[]),(7,[])] 28 [⟨[2,24,25],3,33,34⟩] fun cx=>sA_ 1263190147174 68 ⟨82,0,[sB 40 (decide (y2 > 0)),sB 37 false,sI 34 v8.Id,sA 33 6 3 0,sI 5 y2,sA 6 6 3 0,sI 28 y2,sI 27 (x0.Rows.length : Int),sC 26 (cF 3 x0.Rows zE.row),sA 2 2 2 0,sI 1 x1],[(6,(zE.row v8)),(2,(fR (zJ.row x0)))]⟩ ?_
         rw [h8]
         refine mA zr [(8,[]),(9,[24,25]),(10,[]),(11,[])] 24 [⟨[24,25],26,41,42⟩,⟨[2,24,25],3,33,34⟩] fun cx=>iN zr 12 zE.row ev12 fun cx=>mA zr [(13,[]),(14,[]),(15,[]),(16,[24,25]),(17,[]),(18,[]),(19,[]),(20,[])] 15 [⟨[24,25],3,48,49⟩,⟨[24,25],26,41,42⟩,⟨[2,24,25],3,33,34⟩] fun cx=>sA_ 9858247494205510 68 ⟨82,0,[sB 53 (decide (v12.Id ≥ v8.Id)),sI 49 v8.Id,sA 48 6 3 0,sR 42 2 2 0 1 false,sA 41 2 2 0,sI 34 v8.Id,sA 33 6 3 0,sA 6 6 3 0,sI 28 y2,sI 27 (x0.Rows.length : Int),sC 26 (cF 3 x0.Rows zE.row),sA 2 2 2 0,sI 1 x1],[(6,(zE.row v8)),(2,(fR (zJ.row x0)))]⟩ ?_
         rw [h11]
         exact zIh n x1 r13 v8 r14 y2 x0 er13 er14 h12 cx
        refine sT ⟨82,0,[sB 68 ((wI (BitVec.ofInt (IntKind.bits .i64) v8.Bare &&& ~~~BitVec.ofInt (IntKind.bits .i64) v8.Members).toNat) != 0),sI 28 y2,sI 27 (x0.Rows.length : Int),sC 26 (cF 3 x0.Rows zE.row),sA 2 2 2 0,sI 1 x1],[(2,(fR (zJ.row x0)))]⟩ ?_
        cases h13 : ((wI (BitVec.ofInt (IntKind.bits .i64) v8.Bare &&& ~~~BitVec.ofInt (IntKind.bits .i64) v8.Members).toNat) != 0)
        ·have H := zF h13 H
         exact nB_<|tK<|eA 2 469762054 4<|jB mo7 (wI (y2 + 1)) H [28,27,26,2,1] [2]
        have H := zG h13 H
        refine tB_<|gA 1 16 0<|te ?_
        obtain rfl := si H
        have H := Ho7
        dsimp only at H
        exact fF H
       have H := zG h12 H
       refine Tr.draws mixed 36 kr ⟨82,0,[sB 68 true,sI 28 y2,sI 27 (x0.Rows.length : Int),sC 26 (cF 3 x0.Rows zE.row),sA 2 2 2 0,sI 1 x1],[(2,(fR (zJ.row x0)))]⟩ (fun cx=>?_) ?_
       ·refine mA zr [(0,[]),(1,[2,24,25])] 34 [⟨[2,24,25],3,33,34⟩] fun cx=>mC zr 2<|vA [.rd,.rd,.rd] (qC n v8.Id 1 99 r9 er9)<|fA<|mA zr [(3,[]),(4,[])] 31 [⟨[2,24,25],3,33,34⟩] fun cx=>sA_ 163678519398 68 ⟨82,0,[sB 37 (!r9),sI 34 v8.Id,sA 33 6 3 0,sI 5 y2,sA 6 6 3 0,sI 28 y2,sI 27 (x0.Rows.length : Int),sC 26 (cF 3 x0.Rows zE.row),sA 2 2 2 0,sI 1 x1],[(6,(zE.row v8)),(2,(fR (zJ.row x0)))]⟩ ?_
        rw [h7]
        refine mA zr [(5,[]),(6,[]),(7,[])] 28 [⟨[2,24,25],3,33,34⟩] fun cx=>sA_ 1263190147174 68 ⟨82,0,[sB 40 (decide (y2 > 0)),sB 37 false,sI 34 v8.Id,sA 33 6 3 0,sI 5 y2,sA 6 6 3 0,sI 28 y2,sI 27 (x0.Rows.length : Int),sC 26 (cF 3 x0.Rows zE.row),sA 2 2 2 0,sI 1 x1],[(6,(zE.row v8)),(2,(fR (zJ.row x0)))]⟩ ?_
        rw [h8]
        refine mA zr [(8,[]),(9,[24,25]),(10,[]),(11,[])] 24 [⟨[24,25],26,41,42⟩,⟨[2,24,25],3,33,34⟩] fun cx=>iN zr 12 zE.row ev12 fun cx=>mA zr [(13,[]),(14,[]),(15,[]),(16,[24,25]),(17,[]),(18,[]),(19,[]),(20,[])] 15 [⟨[24,25],3,48,49⟩,⟨[24,25],26,41,42⟩,⟨[2,24,25],3,33,34⟩] fun cx=>sA_ 9858247494205510 68 ⟨82,0,[sB 53 (decide (v12.Id ≥ v8.Id)),sI 49 v8.Id,sA 48 6 3 0,sR 42 2 2 0 1 false,sA 41 2 2 0,sI 34 v8.Id,sA 33 6 3 0,sA 6 6 3 0,sI 28 y2,sI 27 (x0.Rows.length : Int),sC 26 (cF 3 x0.Rows zE.row),sA 2 2 2 0,sI 1 x1],[(6,(zE.row v8)),(2,(fR (zJ.row x0)))]⟩ ?_
        rw [h11]
        exact zIi n x1 r13 v8 r14 y2 x0 er13 er14 h12 cx
       refine tB_<|gA 1 16 0<|te ?_
       obtain rfl := si H
       have H := Ho7
       dsimp only at H
       exact fF H
      have H := zG h11 H
      refine Tr.draws mixed 36 kr ⟨82,0,[sB 68 true,sI 28 y2,sI 27 (x0.Rows.length : Int),sC 26 (cF 3 x0.Rows zE.row),sA 2 2 2 0,sI 1 x1],[(2,(fR (zJ.row x0)))]⟩ (fun cx=>?_) ?_
      ·refine mA zr [(0,[]),(1,[2])] 34 [⟨[2],3,33,34⟩] fun cx=>mC zr 2<|vA [.rd,.rd,.rd] (qC n v8.Id 1 99 r9 er9)<|fA<|mA zr [(3,[]),(4,[])] 31 [⟨[2],3,33,34⟩] fun cx=>sA_ 163678519398 68 ⟨82,0,[sB 37 (!r9),sI 34 v8.Id,sA 33 6 3 0,sI 5 y2,sA 6 6 3 0,sI 28 y2,sI 27 (x0.Rows.length : Int),sC 26 (cF 3 x0.Rows zE.row),sA 2 2 2 0,sI 1 x1],[(6,(zE.row v8)),(2,(fR (zJ.row x0)))]⟩ ?_
       rw [h7]
       refine mA zr [(5,[]),(6,[]),(7,[])] 28 [⟨[2],3,33,34⟩] fun cx=>sA_ 1263190147174 68 ⟨82,0,[sB 40 (decide (y2 > 0)),sB 37 false,sI 34 v8.Id,sA 33 6 3 0,sI 5 y2,sA 6 6 3 0,sI 28 y2,sI 27 (x0.Rows.length : Int),sC 26 (cF 3 x0.Rows zE.row),sA 2 2 2 0,sI 1 x1],[(6,(zE.row v8)),(2,(fR (zJ.row x0)))]⟩ ?_
       rw [h8]
       refine mA zr [(8,[]),(9,[]),(10,[]),(11,[])] 24 [⟨[],26,41,42⟩,⟨[2],3,33,34⟩] fun cx=>iN zr 12 zE.row ev12 fun cx=>mA zr [(13,[]),(14,[]),(15,[]),(16,[]),(17,[]),(18,[]),(19,[]),(20,[])] 15 [⟨[],3,48,49⟩,⟨[],26,41,42⟩,⟨[2],3,33,34⟩] fun cx=>sA_ 9858247494205510 68 ⟨82,0,[sB 53 (decide (v12.Id ≥ v8.Id)),sI 49 v8.Id,sA 48 6 3 0,sR 42 2 2 0 1 false,sA 41 2 2 0,sI 34 v8.Id,sA 33 6 3 0,sA 6 6 3 0,sI 28 y2,sI 27 (x0.Rows.length : Int),sC 26 (cF 3 x0.Rows zE.row),sA 2 2 2 0,sI 1 x1],[(6,(zE.row v8)),(2,(fR (zJ.row x0)))]⟩ ?_
       rw [h11]
       exact zIj n v8 y2 x0 x1 cx
      refine tB_<|gA 1 16 0<|te ?_
      obtain rfl := si H
      have H := Ho7
      dsimp only at H
      exact fF H
     have H := zG h7 H
     refine Tr.draws mixed 36 kr ⟨82,0,[sB 68 true,sI 28 y2,sI 27 (x0.Rows.length : Int),sC 26 (cF 3 x0.Rows zE.row),sA 2 2 2 0,sI 1 x1],[(2,(fR (zJ.row x0)))]⟩ (fun cx=>?_) ?_
     ·refine mA zr [(0,[]),(1,[2])] 34 [⟨[2],3,33,34⟩] fun cx=>mC zr 2<|vA [.rd,.rd,.rd] (qC n v8.Id 1 99 r9 er9)<|fA<|mA zr [(3,[]),(4,[])] 31 [⟨[2],3,33,34⟩] fun cx=>sA_ 163678519398 68 ⟨82,0,[sB 37 (!r9),sI 34 v8.Id,sA 33 6 3 0,sI 5 y2,sA 6 6 3 0,sI 28 y2,sI 27 (x0.Rows.length : Int),sC 26 (cF 3 x0.Rows zE.row),sA 2 2 2 0,sI 1 x1],[(6,(zE.row v8)),(2,(fR (zJ.row x0)))]⟩ ?_
      rw [h7]
      exact mA zr [(5,[]),(6,[]),(7,[]),(8,[]),(9,[]),(10,[]),(11,[]),(12,[]),(13,[]),(14,[]),(15,[]),(16,[]),(17,[]),(18,[]),(19,[]),(20,[]),(21,[]),(22,[]),(23,[]),(24,[]),(25,[]),(26,[]),(27,[]),(28,[]),(29,[]),(30,[]),(31,[]),(32,[]),(33,[]),(34,[]),(35,[])] 0 [⟨[2],3,33,34⟩] fun cx=>mE zr [68,28,27,26,2,1] [2]
     refine tB_<|gA 1 16 0<|te ?_
     obtain rfl := si H
     have H := Ho7
     dsimp only at H
     exact fF H
    rintro _ H
    have H : (Je n x0) = some r := H
    unfold Je at H
    refine tS<|rA 2<|kF x0.Pv intRow<|uA 1 0x3800000000000000004 4 ?_
    obtain ⟨o4,eo4,Ho4⟩ := bs H
    clear H
    refine Tr.mid (ι := Unit) (fun v => ⟨82,0,[],[]⟩) (fun v => zAz n = some r) ?_ ?_
    ·refine tB<|Tr.loop (ι := Nat × (Int)) (fun v => ⟨82,0,[sI 73 v.2,sI 72 (x0.Pv.length : Int),sC 71 (cF 1 x0.Pv intRow),sA 2 2 2 0],[(2,(fR (zJ.row x0)))]⟩) (fun v => Qm n v.1 x0 v.2 = some o4) (fun v => v.1) (n,0) eo4 (St.sub_of [73,72,71,2] [2] kr) ?_
     rintro ⟨mo4,y3⟩ H
     have H : Qm n mo4 x0 y3 = some o4 := H
     obtain _ | mo4 := mo4
     ·exact nN H
     rw [Qm] at H
     refine gA 1 0x7800000000000000004 4<|tS ?_
     obtain ⟨h4,H⟩ | ⟨h4,H⟩ := bC H
     ·refine nA h4<|Tr.exit<|aJ ?_
      obtain rfl := si H
      have H := Ho4
      dsimp only at H
      exact jA () H [] []
     refine tA h4<|tK<|tS<|tB<|tR<|bE H fun v5 ev5 H=> iA intRow ev5<|uA 2 0x3800000000000000104 4<|rA 2<|bE H fun r6 er6 H=> vA [.rd,.rd] (zLf n x0 v5 r6 er6)<|uA 1 0x103800000000000000004 4 ?_
     obtain ⟨h5,H⟩ | ⟨h5,H⟩ := bC H
     ·exact nA h5<|tK<|eA 2 0x3800000000000000004 4<|jB mo4 (wI (y3 + 1)) H [73,72,71,2] [2]
     refine tA h5<|gA 1 16 0<|te ?_
     obtain rfl := si H
     have H := Ho4
     dsimp only at H
     exact fF H
    rintro _ H
    have H : (zAz n) = some r := H
    unfold zAz at H
    exact gA 1 16 0<|te (fT H)
   exact tA h3<|gA 1 16 0<|te (fF H)
  have H := zG h2 H
  exact uA 5 16777222 4<|tB_<|gA 1 16 0<|te (fF H)
 have H := zG h1 H
 exact uA 12 16777222 4<|tB_<|gA 1 16 0<|te (fF H)
def Q7 (n : Nat) (x0 : Int) : Option (Bool) :=
  ((zu n x0 0 1000000).bind fun r1 => (some r1))
theorem zAh (n : Nat) (x0 : Int) (r : Bool) (H : Q7 n x0 = some r) : zH Tryz.prog 100 [.val false [.lit (.int .i64 x0)]] [.val false [.lit (.bool r)]] [] := by
 refine cW Tryz.func100 (fun g d => sl [g 0,g 1] .ret) [.tmp 2] fun cx=>?_
 unfold Q7 at H
 exact gA 1 1 0<|rA 1<|bE H fun r1 er1 H=> vA [.rd,.rd,.rd] (qC n x0 0 1000000 r1 er1)<|uA 1 4 0<|te (fJ [(false,[cB r1])] H)
def Yr (n : Nat) (x0 : zA) : Option (Bool) :=
  ((zu n x0.Id 1 99).bind fun r2 => (bif (!r2) then (some false) else (bif (decide ((x0.Name.size : Int) > 10)) then (some false) else ((zu n (x0.Ps.length : Int) 1 6).bind fun r3 => (bif (!r3) then (some false) else ((zBM n x0.F).bind fun r4 => (bif (!r4) then (some false) else ((zAe n x0.V (x0.Ps.length : Int)).bind fun r5 => (bif (!r5) then (some false) else ((Q7 n x0.Tk).bind fun r6 => (bif r6 then ((Q7 n x0.Pa).bind fun r7 => (bif r7 then ((Q7 n x0.Wo).bind fun r8 => (bif r8 then ((Q7 n x0.Dr).bind fun r9 => (bif r9 then ((Q7 n x0.Ve).bind fun r10 => (some r10)) else (some false))) else (some false))) else (some false))) else (some false))))))))))))
def Qb (n : Nat) : Nat → zA → Int → Option ((Unit) ⊕ (Bool))
  | 0,_,_ => none
  | mo11 + 1,x0,y1 => (bif (decide (y1 < (x0.Ps.length : Int))) then ((idx x0.Ps y1).bind fun v12 => ((zB5 n v12).bind fun r13 => (bif (!r13) then (some (Sum.inr false)) else (Qb n mo11 x0 (IntKind.wrap .i64 (y1 + 1)))))) else (some (Sum.inl ())))
def Qk (n : Nat) (x0 : zA) : Option (Bool) :=
  ((Qb n n x0 0).bind fun o => match o with | .inl _ => (Yr n x0) | .inr r => some r)
theorem zFp (n : Nat) (x0 : zA) (r : Bool) (H : Qk n x0 = some r) : zH Tryz.prog 23 [.val true (fR (zA.row x0))] [.val false [.lit (.bool r)]] [] := by
 refine cW Tryz.func23 (fun g d => sl [g 0,sl [g 1] (.block 0 (.loop (sl [g 2,cn 9 .skip (.exit 0),.block 1 (sl [g 3,g 4] (cn 14 (sl [g 5] .ret) .skip))] (g 6)))),sl [g 7] (cn 47 (sl [g 8] .ret) .skip),g 9] .ret) [.tmp 2] fun cx=>?_
 unfold Qk at H
 refine gA 2 2 2<|tS<|rA 2<|kF x0.Ps Pt.row<|uA 1 450 2 ?_
 obtain ⟨o11,eo11,Ho11⟩ := bs H
 clear H
 refine Tr.mid (ι := Unit) (fun v => ⟨71,0,[sA 1 1 11 0],[(1,(fR (zA.row x0)))]⟩) (fun v => Yr n x0 = some r) ?_ ?_
 ·refine tB<|Tr.loop (ι := Nat × (Int)) (fun v => ⟨71,0,[sI 8 v.2,sI 7 (x0.Ps.length : Int),sC 6 (cF 8 x0.Ps Pt.row),sA 1 1 11 0],[(1,(fR (zA.row x0)))]⟩) (fun v => Qb n v.1 x0 v.2 = some o11) (fun v => v.1) (n,0) eo11 (St.sub_of [8,7,6,1] [1] kr) ?_
  rintro ⟨mo11,y1⟩ H
  have H : Qb n mo11 x0 y1 = some o11 := H
  obtain _ | mo11 := mo11
  ·exact nN H
  rw [Qb] at H
  refine gA 1 962 2<|tS ?_
  obtain ⟨h10,H⟩ | ⟨h10,H⟩ := bC H
  ·refine nA h10<|Tr.exit<|aJ ?_
   obtain rfl := si H
   have H := Ho11
   dsimp only at H
   exact jA () H [1] [1]
  refine tA h10<|tK<|tS<|tB<|tR<|bE H fun v12 ev12 H=> iA Pt.row ev12<|uA 3 466 18<|rA 1<|bE H fun r13 er13 H=> vA [.rd] (zMM n v12 r13 er13)<|uA 1 16834 2 ?_
  obtain ⟨h11,H⟩ | ⟨h11,H⟩ := bC H
  ·exact nA h11<|tK<|eA 2 450 2<|jB mo11 (wI (y1 + 1)) H [8,7,6,1] [1]
  refine tA h11<|gA 1 4 0<|te ?_
  obtain rfl := si H
  have H := Ho11
  dsimp only at H
  exact fF H
 rintro _ H
 have H : (Yr n x0) = some r := H
 unfold Yr at H
 refine tS<|rA 2<|bE H fun r2 er2 H=> vA [.rd,.rd,.rd] (qC n x0.Id 1 99 r2 er2)<|lA 2<|sL 1048578 2 ⟨71,0,[sB 20 (!r2),sA 1 1 11 0],[(1,(fR (zA.row x0)))]⟩ ?_
 cases h1 : (!r2)
 ·have H := zF h1 H
  refine lA 6<|sL 67108866 2 ⟨71,0,[sB 26 (decide ((x0.Name.size : Int) > 10)),sA 1 1 11 0],[(1,(fR (zA.row x0)))]⟩ ?_
  cases h2 : (decide ((x0.Name.size : Int) > 10))
  ·have H := zF h2 H
   refine lA 2<|kF x0.Ps Pt.row<|bE H fun r3 er3 H=> vA [.rd,.rd,.rd] (qC n (x0.Ps.length : Int) 1 6 r3 er3)<|lA 3<|sL 8589934594 2 ⟨71,0,[sB 33 (!r3),sA 1 1 11 0],[(1,(fR (zA.row x0)))]⟩ ?_
   cases h3 : (!r3)
   ·have H := zF h3 H
    refine lA 2<|bE H fun r4 er4 H=> vA [.rd] (zLb n x0.F r4 er4)<|lA 3<|sL 549755813890 2 ⟨71,0,[sB 39 (!r4),sA 1 1 11 0],[(1,(fR (zA.row x0)))]⟩ ?_
    cases h4 : (!r4)
    ·have H := zF h4 H
     refine lA 4<|kF x0.Ps Pt.row<|bE H fun r5 er5 H=> vA [.rd,.rd] (zKe n x0.V (x0.Ps.length : Int) r5 er5)<|uA 2 0x800000000002 2 ?_
     obtain ⟨h5,H⟩ | ⟨h5,H⟩ := bC H
     ·refine nA h5<|tK<|rA 2<|bE H fun r6 er6 H=> vA [.rd] (zAh n x0.Tk r6 er6)<|lA 1<|sL 0x8000000000002 2 ⟨71,0,[sB 51 r6,sA 1 1 11 0],[(1,(fR (zA.row x0)))]⟩ ?_
      cases h6 : r6
      ·have H := zF h6 H
       exact uA 20 4 0<|te (fF H)
      have H := zG h6 H
      refine lA 2<|bE H fun r7 er7 H=> vA [.rd] (zAh n x0.Pa r7 er7)<|lA 2<|sL 72057594037927938 2 ⟨71,0,[sB 56 r7,sA 1 1 11 0],[(1,(fR (zA.row x0)))]⟩ ?_
      cases h7 : r7
      ·have H := zF h7 H
       exact uA 15 4 0<|te (fF H)
      have H := zG h7 H
      refine lA 2<|bE H fun r8 er8 H=> vA [.rd] (zAh n x0.Wo r8 er8)<|lA 2<|sL 0x2000000000000002 2 ⟨71,0,[sB 61 r8,sA 1 1 11 0],[(1,(fR (zA.row x0)))]⟩ ?_
      cases h8 : r8
      ·have H := zF h8 H
       exact uA 10 4 0<|te (fF H)
      have H := zG h8 H
      refine lA 2<|bE H fun r9 er9 H=> vA [.rd] (zAh n x0.Dr r9 er9)<|lA 2<|sL 0x40000000000000002 2 ⟨71,0,[sB 66 r9,sA 1 1 11 0],[(1,(fR (zA.row x0)))]⟩ ?_
      cases h9 : r9
      ·have H := zF h9 H
       exact uA 5 4 0<|te (fF H)
      have H := zG h9 H
      exact lA 2<|bE H fun r10 er10 H=> vA [.rd] (zAh n x0.Ve r10 er10)<|uA 2 4 0<|te (fJ [(false,[cB r10])] H)
     exact tA h5<|gA 1 4 0<|te (fF H)
    have H := zG h4 H
    exact uA 8 0x800000000002 2<|tB_<|gA 1 4 0<|te (fF H)
   have H := zG h3 H
   exact uA 14 0x800000000002 2<|tB_<|gA 1 4 0<|te (fF H)
  have H := zG h2 H
  exact uA 21 0x800000000002 2<|tB_<|gA 1 4 0<|te (fF H)
 have H := zG h1 H
 exact uA 27 0x800000000002 2<|tB_<|gA 1 4 0<|te (fF H)
def zB9 (n : Nat) : Option (Bool) :=
  (some false)
def Zr (n : Nat) : Nat → (List Link) → Int → Int → Int → Option ((Unit) ⊕ (Bool))
  | 0,_,_,_,_ => none
  | mo2 + 1,x0,x1,x2,y1 => (bif (decide (y1 < (x0.length : Int))) then ((idx x0 y1).bind fun v3 => (bif (v3.A == x1) then (bif (v3.P == x2) then (some (Sum.inr true)) else (bif (v3.B == x1) then (bif (v3.Q == x2) then (some (Sum.inr true)) else (Zr n mo2 x0 x1 x2 (IntKind.wrap .i64 (y1 + 1)))) else (Zr n mo2 x0 x1 x2 (IntKind.wrap .i64 (y1 + 1))))) else (bif (v3.B == x1) then (bif (v3.Q == x2) then (some (Sum.inr true)) else (Zr n mo2 x0 x1 x2 (IntKind.wrap .i64 (y1 + 1)))) else (Zr n mo2 x0 x1 x2 (IntKind.wrap .i64 (y1 + 1)))))) else (some (Sum.inl ())))
def J1 (n : Nat) (x0 : (List Link)) (x1 : Int) (x2 : Int) : Option (Bool) :=
  ((Zr n n x0 x1 x2 0).bind fun o => match o with | .inl _ => (zB9 n) | .inr r => some r)
theorem zEY (n : Nat) (x0 : (List Link)) (x1 : Int) (x2 : Int) (r : Bool) (H : J1 n x0 x1 x2 = some r) : zH Tryz.prog 123 [.val false [.sl false 4 (CV.frzEs (x0.map Link.row))],.val false [.lit (.int .i64 x1)],.val false [.lit (.int .i64 x2)]] [.val false [.lit (.bool r)]] [] := by
 refine cW Tryz.func123 (fun g d => sl [g 0,sl [g 1] (.block 0 (.loop (sl [g 2,cn 12 .skip (.exit 0),.block 1 (sl [g 3,g 4] (cn 36 (sl [g 5] .ret) .skip))] (g 6)))),g 7] .ret) [.tmp 6] fun cx=>?_
 unfold J1 at H
 refine gA 1 7 0<|tS<|rA 1<|kF x0 Link.row<|uA 1 3590 0 ?_
 obtain ⟨o2,eo2,Ho2⟩ := bs H
 clear H
 refine Tr.mid (ι := Unit) (fun v => ⟨38,0,[],[]⟩) (fun v => zB9 n = some r) ?_ ?_
 ·refine tB<|Tr.loop (ι := Nat × (Int)) (fun v => ⟨38,0,[sI 11 v.2,sI 10 (x0.length : Int),sC 9 (cF 4 x0 Link.row),sI 1 x1,sI 2 x2],[]⟩) (fun v => Zr n v.1 x0 x1 x2 v.2 = some o2) (fun v => v.1) (n,0) eo2 (St.sub_of [11,10,9,1,2] [] kr) ?_
  rintro ⟨mo2,y1⟩ H
  have H : Zr n mo2 x0 x1 x2 y1 = some o2 := H
  obtain _ | mo2 := mo2
  ·exact nN H
  rw [Zr] at H
  refine gA 1 7686 0<|tS ?_
  obtain ⟨h1,H⟩ | ⟨h1,H⟩ := bC H
  ·refine nA h1<|Tr.exit<|aJ ?_
   obtain rfl := si H
   have H := Ho2
   dsimp only at H
   exact jA () H [] []
  refine tA h1<|tK<|tS<|tB<|tR<|bE H fun v3 ev3 H=> iA Link.row ev3<|uA 3 3846 256<|rA 5<|sL 528134 256 ⟨38,0,[sB 19 (v3.A == x1),sA 8 8 4 0,sI 11 y1,sI 10 (x0.length : Int),sC 9 (cF 4 x0 Link.row),sI 1 x1,sI 2 x2],[(8,(Link.row v3))]⟩ ?_
  cases h2 : (v3.A == x1)
  ·have H := zF h2 H
   refine lA 11<|sL 1107300102 256 ⟨38,0,[sB 30 (v3.B == x1),sB 25 false,sA 8 8 4 0,sI 11 y1,sI 10 (x0.length : Int),sC 9 (cF 4 x0 Link.row),sI 1 x1,sI 2 x2],[(8,(Link.row v3))]⟩ ?_
   cases h3 : (v3.B == x1)
   ·have H := zF h3 H
    exact uA 6 68719480326 0<|nB_<|tK<|eA 2 3590 0<|jB mo2 (wI (y1 + 1)) H [11,10,9,1,2] []
   have H := zG h3 H
   refine uA 6 68719480326 0 ?_
   obtain ⟨h4,H⟩ | ⟨h4,H⟩ := bC H
   ·exact nA h4<|tK<|eA 2 3590 0<|jB mo2 (wI (y1 + 1)) H [11,10,9,1,2] []
   refine tA h4<|gA 1 64 0<|te ?_
   obtain rfl := si H
   have H := Ho2
   dsimp only at H
   exact fT H
  have H := zG h2 H
  refine lA 6<|sL 33558278 256 ⟨38,0,[sB 25 (v3.P == x2),sA 8 8 4 0,sI 11 y1,sI 10 (x0.length : Int),sC 9 (cF 4 x0 Link.row),sI 1 x1,sI 2 x2],[(8,(Link.row v3))]⟩ ?_
  cases h5 : (v3.P == x2)
  ·have H := zF h5 H
   refine lA 5<|sL 1107300102 256 ⟨38,0,[sB 30 (v3.B == x1),sB 25 false,sA 8 8 4 0,sI 11 y1,sI 10 (x0.length : Int),sC 9 (cF 4 x0 Link.row),sI 1 x1,sI 2 x2],[(8,(Link.row v3))]⟩ ?_
   cases h6 : (v3.B == x1)
   ·have H := zF h6 H
    exact uA 6 68719480326 0<|nB_<|tK<|eA 2 3590 0<|jB mo2 (wI (y1 + 1)) H [11,10,9,1,2] []
   have H := zG h6 H
   refine uA 6 68719480326 0 ?_
   obtain ⟨h7,H⟩ | ⟨h7,H⟩ := bC H
   ·exact nA h7<|tK<|eA 2 3590 0<|jB mo2 (wI (y1 + 1)) H [11,10,9,1,2] []
   refine tA h7<|gA 1 64 0<|te ?_
   obtain rfl := si H
   have H := Ho2
   dsimp only at H
   exact fT H
  have H := zG h5 H
  refine uA 11 68719480326 0<|tB_<|gA 1 64 0<|te ?_
  obtain rfl := si H
  have H := Ho2
  dsimp only at H
  exact fT H
 rintro _ H
 have H : (zB9 n) = some r := H
 unfold zB9 at H
 exact gA 1 64 0<|te (fF H)
def ZM (n : Nat) (x0 : Net) (x1 : Int) (x2 : Int) : Option (Pt × Bool) :=
  ((zu n x1 0 (IntKind.wrap .i64 ((x0.Bs.length : Int) - 1))).bind fun r1 => (bif (!r1) then (some ((⟨false,0,false,(⟨0,0,0,0,0⟩ : Vec)⟩ : Pt),false)) else ((idx x0.Bs x1).bind fun v2 => ((zu n x2 0 (IntKind.wrap .i64 ((v2.Ps.length : Int) - 1))).bind fun r3 => (bif (!r3) then (some ((⟨false,0,false,(⟨0,0,0,0,0⟩ : Vec)⟩ : Pt),false)) else ((idx x0.Bs x1).bind fun v4 => ((idx v4.Ps x2).bind fun v5 => (some (v5,true)))))))))
theorem JO (n : Nat) (x0 : Net) (x1 : Int) (x2 : Int) (r : Pt × Bool) (H : ZM n x0 x1 x2 = some r) : zH Tryz.prog 127 [.val true (fR (Net.row x0)),.val false [.lit (.int .i64 x1)],.val false [.lit (.int .i64 x2)]] [.val true (Pt.row r.1),.val false [.lit (.bool r.2)]] [] := by
 refine cW Tryz.func127 (fun g d => sl [g 0,sl [g 1] (cn 27 (sl [g 2] .ret) .skip),g 3] .ret) [.cell 6 100,.tmp 7] fun cx=>?_
 unfold ZM at H
 refine gA 3 78 72<|tS<|rA 3<|kF x0.Bs zA.row<|lA 1<|bE H fun r1 er1 H=> vA [.rd,.rd,.rd] (qC n x1 0 (wI ((x0.Bs.length : Int) - 1)) r1 er1)<|lA 2<|sL 32846 72 ⟨38,0,[sB 15 (!r1),sA 6 6 8 0,sA 3 3 3 0,sI 1 x1,sI 2 x2],[(6,[cB false,cI 0,cB false,cI 0,cI 0,cI 0,cI 0,cI 0]),(3,(fR (Net.row x0)))]⟩ ?_
 cases h1 : (!r1)
 ·have H := zF h1 H
  refine lA 4<|bE H fun v2 ev2 H=> iA zA.row ev2<|lA 2<|kF v2.Ps Pt.row<|lA 1<|bE H fun r3 er3 H=> vA [.rd,.rd,.rd] (qC n x2 0 (wI ((v2.Ps.length : Int) - 1)) r3 er3)<|uA 2 134217806 72 ?_
  obtain ⟨h2,H⟩ | ⟨h2,H⟩ := bC H
  ·exact nA h2<|tK<|rA 3<|bE H fun v4 ev4 H=> iA zA.row ev4<|lA 3<|bE H fun v5 ev5 H=> iA Pt.row ev5<|uA 3 192 64<|te (fJ [(true,(Pt.row v5)),(false,[cB true])] H)
  exact tA h2<|gA 3 192 64<|te (fJ [(true,[cB false,cI 0,cB false,cI 0,cI 0,cI 0,cI 0,cI 0]),(false,[cB false])] H)
 have H := zG h1 H
 exact uA 12 134217806 72<|tB_<|gA 3 192 64<|te (fJ [(true,[cB false,cI 0,cB false,cI 0,cI 0,cI 0,cI 0,cI 0]),(false,[cB false])] H)
end Go.Proofs.YtajadnlejdpceaaGreat.Tw
