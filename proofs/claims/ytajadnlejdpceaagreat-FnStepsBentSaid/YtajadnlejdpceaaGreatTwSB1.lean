import Derived.Test.YtajadnlejdpceaaGreatProg
import Derived.Test.YtajadnlejdpceaaGreatTlRule
import Derived.Test.YtajadnlejdpceaaGreatTlU15
import Derived.Test.YtajadnlejdpceaaGreatTwSB0
import Derived.WalkKit
set_option linter.unusedVariables false
set_option linter.unusedSimpArgs false
set_option maxRecDepth 100000
set_option maxHeartbeats 1000000
namespace Go.Proofs.YtajadnlejdpceaaGreat.Tw
open Go Go.TL Go.Proofs
def Qj (n : Nat) (x0 : zA) (x1 : Int) (x2 : Bool) : Option (zA) :=
  ((Ql n x0).bind fun r1 => ((JN n x0 x1).bind fun r2 => (bif (!r2) then (some r1) else ((idx x0.Ps x1).bind fun v3 => ((idx r1.Ps x1).bind fun v4 => ((qz n (⟨r1.Id,r1.Name,(r1.Ps.set (x1.toNat) (⟨x2,v3.Co,false,(⟨0,0,0,0,0⟩ : Vec)⟩ : Pt)),r1.F,r1.V,r1.Tk,r1.Pa,r1.Wo,r1.Dr,r1.Ve⟩ : zA)).bind fun r5 => (some r5)))))))
def zQW : Tab := ⟨13,[0,1,0,0,0,16,0,96,128,256,520,2047,4095],[0,1,0,0,0,16,0,96,128,256,520,6,3072],[0,1,0,0,0,16,0,112,240,496,1016,2047,4095]⟩
theorem zGo : zc (rg Tryz.f20 4) zQW = true := kr
theorem zFc (n : Nat) (x0 : zA) (x1 : Int) (x2 : Bool) (r : zA) (H : Qj n x0 x1 x2 = some r) : zE Tryz.prog 20 [.val true (fR (zA.row x0)),.val false [.lit (.int .i64 x1)],.val false [.lit (.bool x2)]] [.val true (zA.row r)] [] := by
 refine cW Tryz.func20 (fun g d => sl [g 0,g 1,sl [g 2] (cn 13 (sl [g 3] .ret) .skip),d 4,g 5] .ret) [.cell 6 31] fun cx=>?_
 unfold Qj at H
 refine gA 2 78 72<|rA 1<|bE H fun r1 er1 H=> vA [.rd] (zDT n x0 r1 er1)<|uA 2 206 200<|tS<|rA 2<|bE H fun r2 er2 H=> vA [.rd,.rd] (zHR n x0 x1 r2 er2)<|uA 1 8398 200 ?_
 obtain ⟨h1,H⟩ | ⟨h1,H⟩ := bC H
 ·refine nA h1<|tK<|bE H fun v3 ev3 H=> bE H fun v4 ev4 H=> Tr.draws mixed 13 kr ⟨29,0,[sA 7 7 11 0,sA 6 6 11 0],[(7,[cI r1.Id,cS r1.Name,cL 8 (r1.Ps.set (x1.toNat) (⟨x2,v3.Co,false,(⟨0,0,0,0,0⟩ : Vec)⟩ : Pt)) Pt.row,cL 5 r1.F zB.row,cL 3 r1.V.Rows zC.row,cL 1 r1.V.Pv intRow,cI r1.Tk,cI r1.Pa,cI r1.Wo,cI r1.Dr,cI r1.Ve]),(6,[cI 0,cS (⟨#[]⟩ : ByteArray),cL 8 ([] : List Pt) Pt.row,cL 5 ([] : List zB) zB.row,cL 3 ([] : List zC) zC.row,cL 1 ([] : List Int) intRow,cI 0,cI 0,cI 0,cI 0,cI 0])]⟩ (fun cx=>?_) ?_
  ·exact mA zGo ([(0,[]),(1,[12])]++zl [2,3,4]++[(5,[10,12]),(6,[])]) 6 [⟨[10,12],24,19,20⟩,⟨[12],24,15,16⟩] fun cx=>iN zGo 7 Pt.row ev3 fun cx=>mA zGo [(8,[]),(9,[])] 3 [⟨[10,12],24,19,20⟩,⟨[12],24,15,16⟩] fun cx=>mC zGo 10<|lA 1<|fA<|oN zGo 11 Pt.row ev4 fun cx=>mC zGo 12<|LAt.storeB tOk (t := 100) (ty := 0) (ad := (.tmp 26)) (x := (.tmp 25)) (g := none) (tI 100) true [cB x2,cI v3.Co,cB false,cI 0,cI 0,cI 0,cI 0,cI 0] 7 2 (x1.toNat) 8 0 8 r1.Ps Pt.row v4 (⟨x2,v3.Co,false,(⟨0,0,0,0,0⟩ : Vec)⟩ : Pt) kr kr kr kr kr kr kr kr (zK ev4).2 kr kr kr kr<|fA<|mE zGo [7,6] [7,6]
  exact rA 1<|bE H fun r5 er5 H=> vA [.own] (zDx n (⟨r1.Id,r1.Name,(r1.Ps.set (x1.toNat) (⟨x2,v3.Co,false,(⟨0,0,0,0,0⟩ : Vec)⟩ : Pt)),r1.F,r1.V,r1.Tk,r1.Pa,r1.Wo,r1.Dr,r1.Ve⟩ : zA) r5 er5)<|uA 1 64 64<|te (fJ [(true,(zA.row r5))] H)
 exact tA h1<|gA 2 64 64<|te (fJ [(true,(zA.row r1))] H)
def zCB (n : Nat) (x2 : (List Link)) (y8 : (List zA)) : Option (Net) :=
  (some (⟨y8,(([] : List Link) ++ x2),([] : List Say)⟩ : Net))
def zAR (n : Nat) (k : (Int × (List zA) → Option (((List zA)) ⊕ (Net)))) (y6 : Int) (y12 : (List zA)) : Option (((List zA)) ⊕ (Net)) :=
  (k ((IntKind.wrap .i64 (y6 + 1)),y12))
def QN (n : Nat) : Nat → Int → Int → Int → (List zA) → Option (((List zA)) ⊕ (Net))
  | 0,_,_,_,_ => none
  | mo13 + 1,x1,y6,y10,y11 => (bif (decide (y10 < x1)) then ((idx y11 y6).bind fun v14 => ((Qj n v14 y10 true).bind fun r15 => (QN n mo13 x1 y6 (IntKind.wrap .i64 (y10 + 1)) (y11.set (y6.toNat) r15)))) else (some (Sum.inl y11)))
def Zq (n : Nat) : Nat → Int → Int → (List zA) → Option (((List zA)) ⊕ (Net))
  | 0,_,_,_ => none
  | mo9 + 1,x1,y6,y7 => (bif (decide (y6 < (y7.length : Int))) then ((QN n n x1 y6 0 y7).bind fun o => match o with | .inl y12 => (zAR n (fun v => Zq n mo9 x1 v.1 v.2) y6 y12) | .inr r => some (Sum.inr r)) else (some (Sum.inl y7)))
def zAQ (n : Nat) (x1 : Int) (x2 : (List Link)) (y4 : (List zA)) : Option (Net) :=
  ((QH n (⟨y4,(([] : List Link) ++ x2),([] : List Say)⟩ : Net)).bind fun r5 => (bif (!r5) then (some (⟨([] : List zA),([] : List Link),([] : List Say)⟩ : Net)) else ((Zq n n x1 0 y4).bind fun o => match o with | .inl y8 => (zCB n x2 y8) | .inr r => some r)))
def Zr (n : Nat) : Nat → (List Int) → Int → Int → (List zA) → Option (((List zA)) ⊕ (Net))
  | 0,_,_,_,_ => none
  | mo16 + 1,x0,x1,y2,y3 => (bif (decide (y2 < (x0.length : Int))) then ((idx x0 y2).bind fun v17 => ((qo n v17 x1).bind fun r18 => (bif (decide (y3.length + [r18].length ≤ 268435456)) then (Zr n mo16 x0 x1 (IntKind.wrap .i64 (y2 + 1)) (y3 ++ [r18])) else none))) else (some (Sum.inl y3)))
def zBn (n : Nat) (x0 : (List Int)) (x1 : Int) (x2 : (List Link)) : Option (Net) :=
  (bif (decide (([] : List Link).length + x2.length ≤ 268435456)) then ((Zr n n x0 x1 0 ([] : List zA)).bind fun o => match o with | .inl y4 => (zAQ n x1 x2 y4) | .inr r => some r) else none)
def zQY : Tab := ⟨12,[0,1,0,0,12,16,0,96,128,386,1023,2047],[0,1,0,0,12,16,0,96,128,258,0,1536],[0,1,0,0,12,28,0,124,252,511,1023,2047]⟩
theorem zFA : zc (rg Tryz.f46 5) zQY = true := kr
def zP9 : Tab := ⟨12,[0,1,0,0,8,0,48,64,0,384,1023,2047],[0,1,0,0,8,0,48,64,0,384,6,1536],[0,1,0,0,8,0,56,120,0,504,1023,2047]⟩
theorem zET : zc (rg Tryz.f46 14) zP9 = true := kr
theorem zMh (n : Nat) (x0 : (List Int)) (x1 : Int) (x2 : (List Link)) (r : Net) (H : zBn n x0 x1 x2 = some r) : zE Tryz.prog 46 [.val false [.sl false 1 (CV.frzEs (x0.map intRow))],.val false [.lit (.int .i64 x1)],.val false [.sl false 4 (CV.frzEs (x2.map Link.row))]] [.val true (Net.row r)] [] := by
 refine cW Tryz.func46 (fun g d => sl [g 0,g 1,sl [g 2] (.block 0 (.loop (sl [sl [g 3] (cn 18 .skip (.exit 0)),.block 1 (d 5)] (g 4)))),sl [g 6] (cn 34 (sl [g 7] .ret) .skip),sl [g 8] (.block 2 (.loop (sl [sl [g 9] (cn 40 .skip (.exit 2)),.block 3 (sl [g 11] (.block 4 (.loop (sl [sl [g 12] (cn 45 .skip (.exit 4)),.block 5 (d 14)] (g 13)))))] (g 10)))),g 15] .ret) [.cell 6 53] fun cx=>?_
 unfold zBn at H
 refine gA 1 71 64<|rA 2<|gE H fun hg1 H=> pD Link.row hg1<|uA 3 195 192<|tS<|gA 1 451 192 ?_
 obtain ⟨o16,eo16,Ho16⟩ := bs H
 clear H
 refine Tr.mid (ι := (List zA)) (fun v => ⟨60,0,[sA 7 7 3 0,sA 6 6 3 0,sI 1 x1],[(7,[cL 11 v zA.row,cL 4 (([] : List Link) ++ x2) Link.row,cL 7 ([] : List Say) Say.row]),(6,[cL 11 ([] : List zA) zA.row,cL 4 ([] : List Link) Link.row,cL 7 ([] : List Say) Say.row])]⟩) (fun v => zAQ n x1 x2 v = some r) ?_ ?_
 ·refine tB<|Tr.loop (ι := Nat × (Int × (List zA))) (fun v => ⟨60,0,[sI 8 v.2.1,sA 7 7 3 0,sA 6 6 3 0,sC 0 (cF 1 x0 intRow),sI 1 x1],[(7,[cL 11 v.2.2 zA.row,cL 4 (([] : List Link) ++ x2) Link.row,cL 7 ([] : List Say) Say.row]),(6,[cL 11 ([] : List zA) zA.row,cL 4 ([] : List Link) Link.row,cL 7 ([] : List Say) Say.row])]⟩) (fun v => Zr n v.1 x0 x1 v.2.1 v.2.2 = some o16) (fun v => v.1) (n,(0,([] : List zA))) eo16 (St.sub_of [8,7,6,0,1] [7,6] kr) ?_
  rintro ⟨_ | mo16,y2,y3⟩ H
  ·exact nN H
  have H : Zr n (mo16+1) x0 x1 y2 y3 = some o16 := H
  rw [Zr] at H
  refine tS<|rA 2<|kF x0 intRow<|uA 1 262595 192 ?_
  obtain ⟨h4,H⟩ | ⟨h4,H⟩ := bC H
  ·refine nA h4<|Tr.exit<|aJ ?_
   cases H
   exact jA y3 Ho16 [7,6,1] [7,6]
  refine tA h4<|tK<|tS<|tB<|bE H fun v17 ev17 H=> bE H fun r18 er18 H=> gE H fun hg19 H=> Tr.draw mixed 12 kr ⟨60,0,[sI 8 y2,sA 7 7 3 0,sA 6 6 3 0,sC 0 (cF 1 x0 intRow),sI 1 x1],[(7,[cL 11 (y3 ++ [r18]) zA.row,cL 4 (([] : List Link) ++ x2) Link.row,cL 7 ([] : List Say) Say.row]),(6,[cL 11 ([] : List zA) zA.row,cL 4 ([] : List Link) Link.row,cL 7 ([] : List Say) Say.row])]⟩ (fun cx=>?_) ?_
  ·exact mA zFA [(0,[]),(1,[9,11]),(2,[]),(3,[])] 8 [⟨[9,11],49,21,22⟩] fun cx=>iN zFA 4 intRow ev17 fun cx=>mA zFA [(5,[]),(6,[])] 5 [⟨[9,11],49,21,22⟩] fun cx=>mC zFA 7<|vA [.rd,.rd] (zGd n v17 x1 r18 er18)<|fA<|mC zFA 8<|lA 1<|fA<|mC zFA 9<|LAt.appMU tOk (t := 49) (ty := 49) (e := 31) (x := (.tmp 22)) (y := (.tmp 29)) (d := 30) (g := none) (tI 31) zA.row y3 [r18] kr kr kr kr kr kr kr kr kr kr hg19<|fA<|mA zFA [(10,[])] 1 [⟨[9,11],49,21,22⟩] fun cx=>mC zFA 11<|lA 1<|fA<|mE zFA [8,7,6,0,1] [7,6]
  exact eA 3 451 192<|jB mo16 ((wI (y2 + 1)),(y3 ++ [r18])) H [8,7,6,0,1] [7,6]
 rintro y4 H
 have H : (zAQ n x1 x2 y4) = some r := H
 unfold zAQ at H
 refine tS<|rA 1<|bE H fun r5 er5 H=> vB [.rd] [.box 7] (zHG n (⟨y4,(([] : List Link) ++ x2),([] : List Say)⟩ : Net) r5 er5) (.inr (zM (zJ zN zg) zT))<|uA 1 17179869378 192 ?_
 obtain ⟨h1,H⟩ | ⟨h1,H⟩ := bC H
 ·refine nA h1<|tK<|tS<|gA 1 706 192 ?_
  obtain ⟨o9,eo9,Ho9⟩ := bs H
  clear H
  refine Tr.mid (ι := (List zA)) (fun v => ⟨60,0,[sA 7 7 3 0,sA 6 6 3 0],[(7,[cL 11 v zA.row,cL 4 (([] : List Link) ++ x2) Link.row,cL 7 ([] : List Say) Say.row]),(6,[cL 11 ([] : List zA) zA.row,cL 4 ([] : List Link) Link.row,cL 7 ([] : List Say) Say.row])]⟩) (fun v => zCB n x2 v = some r) ?_ ?_
  ·refine tB<|Tr.loop (ι := Nat × (Int × (List zA))) (fun v => ⟨60,0,[sI 9 v.2.1,sA 7 7 3 0,sA 6 6 3 0,sI 1 x1],[(7,[cL 11 v.2.2 zA.row,cL 4 (([] : List Link) ++ x2) Link.row,cL 7 ([] : List Say) Say.row]),(6,[cL 11 ([] : List zA) zA.row,cL 4 ([] : List Link) Link.row,cL 7 ([] : List Say) Say.row])]⟩) (fun v => Zq n v.1 x1 v.2.1 v.2.2 = some o9) (fun v => v.1) (n,(0,y4)) eo9 (St.sub_of [9,7,6,1] [7,6] kr) ?_
   rintro ⟨_ | mo9,y6,y7⟩ H
   ·exact nN H
   have H : Zq n (mo9+1) x1 y6 y7 = some o9 := H
   rw [Zq] at H
   refine tS<|rA 3<|kO y7 zA.row<|uA 1 1099511628482 192 ?_
   obtain ⟨h2,H⟩ | ⟨h2,H⟩ := bC H
   ·refine nA h2<|Tr.exit<|aJ ?_
    cases H
    exact jA y7 Ho9 [7,6] [7,6]
   refine tA h2<|tK<|tS<|tB<|gA 1 1730 192 ?_
   obtain ⟨o13,eo13,Ho13⟩ := bs H
   clear H
   refine Tr.mid (ι := (List zA)) (fun v => ⟨60,0,[sI 9 y6,sA 7 7 3 0,sA 6 6 3 0,sI 1 x1],[(7,[cL 11 v zA.row,cL 4 (([] : List Link) ++ x2) Link.row,cL 7 ([] : List Say) Say.row]),(6,[cL 11 ([] : List zA) zA.row,cL 4 ([] : List Link) Link.row,cL 7 ([] : List Say) Say.row])]⟩) (fun v => zAR n (fun v => Zq n mo9 x1 v.1 v.2) y6 v = some o9) ?_ ?_
   ·refine tB<|Tr.loop (ι := Nat × (Int × (List zA))) (fun v => ⟨60,0,[sI 10 v.2.1,sI 9 y6,sA 7 7 3 0,sA 6 6 3 0,sI 1 x1],[(7,[cL 11 v.2.2 zA.row,cL 4 (([] : List Link) ++ x2) Link.row,cL 7 ([] : List Say) Say.row]),(6,[cL 11 ([] : List zA) zA.row,cL 4 ([] : List Link) Link.row,cL 7 ([] : List Say) Say.row])]⟩) (fun v => QN n v.1 x1 y6 v.2.1 v.2.2 = some o13) (fun v => v.1) (n,(0,y7)) eo13 (St.sub_of [10,9,7,6,1] [7,6] kr) ?_
    rintro ⟨_ | mo13,y10,y11⟩ H
    ·exact nN H
    have H : QN n (mo13+1) x1 y6 y10 y11 = some o13 := H
    rw [QN] at H
    refine tS<|gA 3 35184372090562 192 ?_
    obtain ⟨h3,H⟩ | ⟨h3,H⟩ := bC H
    ·refine nA h3<|Tr.exit<|aJ ?_
     cases H
     exact jA y11 Ho13 [9,7,6,1] [7,6]
    refine tA h3<|tK<|tS<|tB<|bE H fun v14 ev14 H=> bE H fun r15 er15 H=> Tr.draw mixed 12 kr ⟨60,0,[sI 10 y10,sI 9 y6,sA 7 7 3 0,sA 6 6 3 0,sI 1 x1],[(7,[cL 11 (y11.set (y6.toNat) r15) zA.row,cL 4 (([] : List Link) ++ x2) Link.row,cL 7 ([] : List Say) Say.row]),(6,[cL 11 ([] : List zA) zA.row,cL 4 ([] : List Link) Link.row,cL 7 ([] : List Say) Say.row])]⟩ (fun cx=>?_) ?_
    ·refine mA zET [(0,[]),(1,[11]),(2,[]),(3,[]),(4,[9,11]),(5,[])] 6 [⟨[9,11],49,51,52⟩,⟨[11],49,48,49⟩] fun cx=>oN zET 6 zA.row ev14 fun cx=>mA zET [(8,[])] 4 [⟨[9,11],49,51,52⟩,⟨[11],49,48,49⟩] fun cx=>mC zET 7<|dE (tI 31) (.box 7) [(0,0),(0,(y6.toNat))] 11 0 [.sl true 3 [[cL 11 y11 zA.row,cL 4 (([] : List Link) ++ x2) Link.row,cL 7 ([] : List Say) Say.row]]] (zA.row v14) (zQ rfl (zK ev14).2)<|fA<|mC zET 9<|LAt.callO tOk [.rd,.rd,.rd] (f := 20) (av := #[.tmp 55,.tmp 56,.const (.bool true)]) (ats := #[31,3,4]) (d := (some 57)) (ty := 31) (g := none) [(55,zA.row v14)] none kr kr kr [.box 7] (zFc n v14 y10 true r15 er15) (zBk (row := [.sl true 3 [[cL 11 y11 zA.row,cL 4 (([] : List Link) ++ x2) Link.row,cL 7 ([] : List Say) Say.row]]]) (q := [(0,0),(0,(y6.toNat))]) kr (zQ rfl (zK ev14).2) zC8) kr zC7 (.inr (And.intro (zM (zA.row_mine _) zT) zBl))<|fA<|oN zET 10 zA.row ev14 fun cx=>sA_ 0x61b0000000006c2 192 ⟨60,0,[(58,.adr (.box 7) [(0,0),(0,(y6.toNat))] 11 0),sV 57 (zA.row r15),sR 52 7 3 0 1 false,sA 51 7 3 0,sR 49 7 3 0 1 false,sA 48 7 3 0,sI 10 y10,sI 9 y6,sA 7 7 3 0,sA 6 6 3 0,sI 1 x1],[(7,[cL 11 y11 zA.row,cL 4 (([] : List Link) ++ x2) Link.row,cL 7 ([] : List Say) Say.row]),(6,[cL 11 ([] : List zA) zA.row,cL 4 ([] : List Link) Link.row,cL 7 ([] : List Say) Say.row])]⟩<|mC zET 11<|LAt.storeB tOk (t := 31) (ty := 0) (ad := (.tmp 58)) (x := (.tmp 57)) (g := none) (tI 31) true (zA.row r15) 7 0 (y6.toNat) 11 0 11 y11 zA.row v14 r15 kr kr kr kr kr kr kr kr (zK ev14).2 kr kr kr kr ?_
     exact fA<|mE zET [10,9,7,6,1] [7,6]
    exact eA 3 1730 192<|jB mo13 ((wI (y10 + 1)),(y11.set (y6.toNat) r15)) H [10,9,7,6,1] [7,6]
   rintro y12 H
   have H : (zAR n (fun v => Zq n mo9 x1 v.1 v.2) y6 y12) = some o9 := H
   unfold zAR at H
   exact eA 3 706 192<|jB mo9 ((wI (y6 + 1)),y12) H [9,7,6,1] [7,6]
  rintro y8 H
  have H : (zCB n x2 y8) = some r := H
  unfold zCB at H
  exact gA 2 64 64<|te (fJ [(true,[cL 11 y8 zA.row,cL 4 (([] : List Link) ++ x2) Link.row,cL 7 ([] : List Say) Say.row])] H)
 exact tA h1<|gA 2 64 64<|te (fJ [(true,[cL 11 ([] : List zA) zA.row,cL 4 ([] : List Link) Link.row,cL 7 ([] : List Say) Say.row])] H)
def zX (n : Nat) (x0 : Src) (x1 : (List Int)) : Option (Int × Src) :=
  ((zG n x0 (x1.length : Int)).bind fun r1 => ((idx x1 r1.1).bind fun v2 => (some (v2,r1.2))))
noncomputable abbrev G78 (k : Nat) := Rg Tryz.f78 k
theorem zj (n : Nat) (x0 : Src) (x1 : (List Int)) (r : Int × Src) (H : zX n x0 x1 = some r) : zE Tryz.prog 78 [.ptr (fR (Src.row x0)),.val false [.sl false 1 (CV.frzEs (x1.map intRow))]] [.val false [.lit (.int .i64 r.1)]] [(0,(fR (Src.row r.2)))] := by
 refine zE.of_body tOk Tryz.func78 rfl (c := (.seq (G78 0) (.seq (G78 1) .ret))) kr (Nat.le_of_ble_eq_true kr) 1 (rs := [.tmp 4]) rfl [] .nil [(false,[.lit (.int .i64 r.1)])] [] [(0,(fR (Src.row r.2)))] fun cx=>?_
 show Tr _ _ _ ⟨12,1,[sA 0 0 3 0,sC 1 (cF 1 x1 intRow)],[(0,(fR (Src.row x0)))]⟩ _
 unfold zX at H
 exact gA 1 3 1<|rA 3<|kF x1 intRow<|bE H fun r1 er1 H=> vL [.lend,.rd] (zL n x0 (x1.length : Int) r1 er1)<|bE H fun v2 ev2 H=> iA intRow ev2<|uA 2 17 1<|te<|fY [(false,[cI v2])] [(0,(fR (Src.row r1.2)))] H
def Qw (n : Nat) (r5 : Int × Src) (x1 : Net) (y6 : Bool) : Option (Event × Src) :=
  (bif y6 then (bif ((x1.Ls.length : Int) == 0) then (some ((⟨6,0⟩ : Event),r5.2)) else ((zG n r5.2 (x1.Ls.length : Int)).bind fun r8 => (some ((⟨r5.1,r8.1⟩ : Event),r8.2)))) else (bif ((x1.Bs.length : Int) == 0) then (some ((⟨r5.1,0⟩ : Event),r5.2)) else ((zG n r5.2 (x1.Bs.length : Int)).bind fun r7 => (some ((⟨r5.1,r7.1⟩ : Event),r7.2)))))
def Qv (n : Nat) (x1 : Net) (y1 : Bool) (y2 : (List Int)) (y3 : Int) (y4 : Int) : Option (Event × Src) :=
  (bif y1 then ((zX n (⟨y2,y3,y4⟩ : Src) [2,2,2,2,3]).bind fun r9 => ((zG n r9.2 (x1.Said.length : Int)).bind fun r10 => (some ((⟨r9.1,r10.1⟩ : Event),r10.2)))) else ((zX n (⟨y2,y3,y4⟩ : Src) [1,1,1,1,4,5,6]).bind fun r5 => (bif (r5.1 == 4) then (Qw n r5 x1 true) else (Qw n r5 x1 (r5.1 == 5)))))
def Ye (n : Nat) (x0 : Src) (x1 : Net) : Option (Event × Src) :=
  (bif (decide ((x1.Said.length : Int) > 0)) then ((QC n x0 2).bind fun r11 => (Qv n x1 r11.1 r11.2.b r11.2.i r11.2.h)) else (Qv n x1 false x0.b x0.i x0.h))
noncomputable abbrev zGI (k : Nat) := Rg Tryz.f139 k
noncomputable abbrev D139 (k : Nat) := Rd Tryz.f139 k
theorem zHS (n : Nat) (x0 : Src) (x1 : Net) (r : Event × Src) (H : Ye n x0 x1 = some r) : zE Tryz.prog 139 [.ptr (fR (Src.row x0)),.val true (fR (Net.row x1))] [.val true (Event.row r.1)] [(0,(fR (Src.row r.2)))] := by
 refine zE.of_body tOk Tryz.func139 rfl (c := (.seq (zGI 0) (.seq (.seq (zGI 1) (.cond (.tmp 13) (.seq (D139 2) .ret) .skip)) (.seq (zGI 3) (.seq (.seq (zGI 4) (.cond (.tmp 31) (.seq (.seq (zGI 5) (.cond (.tmp 35) (.seq (zGI 6) .ret) .skip)) (.seq (zGI 7) .ret)) .skip)) (.seq (.seq (zGI 8) (.cond (.tmp 47) (.seq (zGI 9) .ret) .skip)) (.seq (zGI 10) .ret))))))) kr (Nat.le_of_ble_eq_true kr) 1 (rs := [.cell 4 84]) rfl [] .nil [(true,(Event.row r.1))] [] [(0,(fR (Src.row r.2)))] fun cx=>?_
 show Tr _ _ _ ⟨57,1,[sA 0 0 3 0,sV 1 (fR (Net.row x1))],[(0,(fR (Src.row x0)))]⟩ _
 unfold Ye at H
 refine gA 2 25 25<|tS<|tS<|Tr.mid (ι := Bool × (List Int) × Int × Int) (fun v => ⟨57,1,[sB 13 v.1,sA 4 4 2 0,sA 3 3 3 0,sA 0 0 3 0],[(4,[cI 0,cI 0]),(3,(fR (Net.row x1))),(0,[cF 1 v.2.1 zZ,cI v.2.2.1,cI v.2.2.2])]⟩) (fun v => Qv n x1 v.1 v.2.1 v.2.2.1 v.2.2.2 = some r) ?_ ?_
 ·refine Tr.at<|lA 2<|kF x1.Said Say.row<|lA 2 ?_
  obtain ⟨h6,H⟩ | ⟨h6,H⟩ := bC H
  ·exact qL 1049 25 [10] h6<|uA 3 8217 25<|jA (false,x0.b,x0.i,x0.h) H [13,4,3,0] [4,3,0]
  exact qL 1049 25 [10] h6<|lA 1<|bE H fun r11 er11 H=> vL [.lend,.rd] (zCa n x0 2 r11 er11)<|uA 1 8217 25<|jA (r11.1,r11.2.b,r11.2.i,r11.2.h) H [13,4,3,0] [4,3,0]
 rintro ⟨y1,y2,y3,y4⟩ H
 have H : (Qv n x1 y1 y2 y3 y4) = some r := H
 unfold Qv at H
 cases h1 : y1
 ·have H := qe h1 H
  refine nB_<|tK<|rA 2<|bE H fun r5 er5 H=> vL [.lend,.rd] (zj n (⟨y2,y3,y4⟩ : Src) [1,1,1,1,4,5,6] r5 er5)<|uA 1 57 25<|tS<|tS<|Tr.mid (ι := Bool) (fun v => ⟨57,1,[sB 31 v,sI 5 r5.1,sA 4 4 2 0,sA 3 3 3 0,sA 0 0 3 0],[(0,(fR (Src.row r5.2))),(4,[cI 0,cI 0]),(3,(fR (Net.row x1)))]⟩) (fun v => Qw n r5 x1 v = some r) ?_ ?_
  ·refine Tr.at<|lA 3 ?_
   obtain ⟨h5,H⟩ | ⟨h5,H⟩ := bC H
   ·exact qL 268435513 25 [28] h5<|uA 3 2147483705 25<|jA (r5.1 == 5) H [31,5,4,3,0] [0,4,3]
   exact qL 268435513 25 [28] h5<|uA 3 2147483705 25<|jA true H [31,5,4,3,0] [0,4,3]
  rintro y6 H
  have H : (Qw n r5 x1 y6) = some r := H
  unfold Qw at H
  cases h2 : y6
  ·have H := qe h2 H
   refine nB_<|tK<|tS<|rA 2<|kF x1.Bs zA.row<|uA 1 0x800000000039 25 ?_
   obtain ⟨h3,H⟩ | ⟨h3,H⟩ := bC H
   ·exact nA h3<|tK<|rA 4<|kF x1.Bs zA.row<|bE H fun r7 er7 H=> vL [.lend,.rd] (zL n r5.2 (x1.Bs.length : Int) r7 er7)<|uA 2 17 17<|te<|fY [(true,[cI r5.1,cI r7.1])] [(0,(fR (Src.row r7.2)))] H
   exact tA h3<|gA 3 17 17<|te<|fY [(true,[cI r5.1,cI 0])] [(0,(fR (Src.row r5.2)))] H
  have H := qf h2 H
  refine tB_<|tS<|rA 2<|kF x1.Ls Link.row<|uA 1 34359738425 25 ?_
  obtain ⟨h4,H⟩ | ⟨h4,H⟩ := bC H
  ·exact nA h4<|tK<|rA 4<|kF x1.Ls Link.row<|bE H fun r8 er8 H=> vL [.lend,.rd] (zL n r5.2 (x1.Ls.length : Int) r8 er8)<|uA 2 17 17<|te<|fY [(true,[cI r5.1,cI r8.1])] [(0,(fR (Src.row r8.2)))] H
  exact tA h4<|gA 2 17 17<|te<|fY [(true,[cI 6,cI 0])] [(0,(fR (Src.row r5.2)))] H
 have H := qf h1 H
 refine tB_<|bE H fun r9 er9 H=> bE H fun r10 er10 H=> Tr.draws mixed 10 kr ⟨57,1,[sA 4 4 2 0,sA 0 0 3 0],[(4,[cI r9.1,cI r10.1]),(0,(fR (Src.row r10.2)))]⟩ (fun cx=>?_) ?_
 ·refine aA (zl [0,3,4]++[(5,[7,8,9])]) 6 [⟨[7,8,9],51,18,19⟩] fun cx=>aL tOk 6 51 3 127 19 20 none ⟨(.box 3),[(0,0)],2,false,7,(CV.frzEs (x1.Said.map Say.row))⟩ (x1.Said).length _ kr kr kr kr kr kr kr (zIM _ _) rfl (fun cx=>?_)
  exact bA 1<|lA 1<|fA<|bA 2<|vL [.lend,.rd] (zj n (⟨y2,y3,y4⟩ : Src) [2,2,2,2,3] r9 er9)<|fA<|bA 7<|vL [.lend,.rd] (zL n r9.2 (x1.Said.length : Int) r10 er10)<|fA<|bA 8<|lA 1<|fA<|bA 9<|lA 1<|fA<|eE [4,0] [4,0]
 exact te<|fY [(true,[cI r9.1,cI r10.1])] [(0,(fR (Src.row r10.2)))] H
def zBT (n : Nat) (x0 : Net) (y5 : (List zA)) : Option (Net) :=
  (some (⟨y5,(([] : List Link) ++ x0.Ls),(([] : List Say) ++ x0.Said)⟩ : Net))
def QY (n : Nat) : Nat → Net → Int → (List zA) → Option (((List zA)) ⊕ (Net))
  | 0,_,_,_ => none
  | mo6 + 1,x0,y3,y4 => (bif (decide (y3 < (x0.Bs.length : Int))) then ((idx x0.Bs y3).bind fun v7 => ((Ql n v7).bind fun r8 => (bif (decide (y4.length + [r8].length ≤ 268435456)) then (QY n mo6 x0 (IntKind.wrap .i64 (y3 + 1)) (y4 ++ [r8])) else none))) else (some (Sum.inl y4)))
def YU (n : Nat) (x0 : Net) : Option (Net) :=
  (bif (decide (([] : List Link).length + x0.Ls.length ≤ 268435456)) then (bif (decide (([] : List Say).length + x0.Said.length ≤ 268435456)) then ((QY n n x0 0 ([] : List zA)).bind fun o => match o with | .inl y5 => (zBT n x0 y5) | .inr r => some r) else none) else none)
def zPn : Tab := ⟨12,[0,1,0,4,0,24,32,64,128,386,1023,2047],[0,1,0,4,0,24,32,64,128,258,0,1536],[0,1,0,4,0,28,60,124,252,511,1023,2047]⟩
theorem zDB : zc (rg Tryz.f143 5) zPn = true := kr
theorem zJ9 (n : Nat) (x0 : Net) (hg1 : (decide (([] : List Link).length + x0.Ls.length ≤ 268435456)) = true) (hg2 : (decide (([] : List Say).length + x0.Said.length ≤ 268435456)) = true) (cx : Cx) : AT Tryz.prog cx (rg Tryz.f143 1) [] 11 [] ⟨33,0,[sA 2 2 3 0,sA 1 1 3 0],[(2,[cL 11 ([] : List zA) zA.row,cL 4 ([] : List Link) Link.row,cL 7 ([] : List Say) Say.row]),(1,(fR (Net.row x0)))]⟩ (fun s => s = ⟨33,0,[sA 3 3 3 0,sA 2 2 3 0,sA 1 1 3 0],[(3,[cL 11 ([] : List zA) zA.row,cL 4 (([] : List Link) ++ x0.Ls) Link.row,cL 7 (([] : List Say) ++ x0.Said) Say.row]),(2,[cL 11 ([] : List zA) zA.row,cL 4 ([] : List Link) Link.row,cL 7 ([] : List Say) Say.row]),(1,(fR (Net.row x0)))]⟩) := by
 refine aA [(1,[]),(2,[3,7,8,10]),(5,[]),(6,[7,8,10])] 7 [⟨[7,8,10],51,10,11⟩,⟨[3,7,8,10],50,6,7⟩] fun cx=>AT.big3 tOk 0 4 9 kr (And.intro kr ?_) (And.intro kr ?_) (And.intro kr ?_)
 ·refine lA 1<|fA<|AT.big3 tOk 3 4 9 kr (And.intro kr ?_) (And.intro kr ?_) (And.intro kr ?_)
  ·refine pD Link.row hg1<|fA<|AT.big2 tOk 4 9 kr (And.intro kr ?_) (And.intro kr ?_)
   ·refine lA 1<|fA<|AT.big2 tOk 7 9 kr (And.intro kr ?_) (And.intro kr ?_)
    ·refine pD Say.row hg2<|fA<|AT.big2 tOk 8 9 kr (And.intro kr ?_) (And.intro kr ?_)
     ·exact lA 1<|fA<|bA 9<|lA 1<|fA<|bA 10<|lA 1<|fA<|eE [3,2,1] [3,2,1]
     ·exact lA 1<|fA<|bA 8<|lA 1<|fA<|bA 10<|lA 1<|fA<|eE [3,2,1] [3,2,1]
    ·exact lA 1<|fA<|bA 7<|pD Say.row hg2<|fA<|bA 8<|lA 1<|fA<|bA 10<|lA 1<|fA<|eE [3,2,1] [3,2,1]
   ·exact lA 1<|fA<|bA 4<|lA 1<|fA<|bA 7<|pD Say.row hg2<|fA<|bA 8<|lA 1<|fA<|bA 10<|lA 1<|fA<|eE [3,2,1] [3,2,1]
  ·refine lA 1<|fA<|AT.big2 tOk 3 9 kr (And.intro kr ?_) (And.intro kr ?_)
   ·refine pD Link.row hg1<|fA<|AT.big2 tOk 7 9 kr (And.intro kr ?_) (And.intro kr ?_)
    ·refine pD Say.row hg2<|fA<|AT.big2 tOk 8 9 kr (And.intro kr ?_) (And.intro kr ?_)
     ·exact lA 1<|fA<|bA 9<|lA 1<|fA<|bA 10<|lA 1<|fA<|eE [3,2,1] [3,2,1]
     ·exact lA 1<|fA<|bA 8<|lA 1<|fA<|bA 10<|lA 1<|fA<|eE [3,2,1] [3,2,1]
    ·exact lA 1<|fA<|bA 7<|pD Say.row hg2<|fA<|bA 8<|lA 1<|fA<|bA 10<|lA 1<|fA<|eE [3,2,1] [3,2,1]
   ·exact lA 1<|fA<|bA 3<|pD Link.row hg1<|fA<|bA 7<|pD Say.row hg2<|fA<|bA 8<|lA 1<|fA<|bA 10<|lA 1<|fA<|eE [3,2,1] [3,2,1]
  ·refine lA 1<|fA<|AT.big2 tOk 3 4 kr (And.intro kr ?_) (And.intro kr ?_)
   ·exact pD Link.row hg1<|fA<|bA 4<|lA 1<|fA<|bA 7<|pD Say.row hg2<|fA<|bA 8<|lA 1<|fA<|bA 10<|lA 1<|fA<|eE [3,2,1] [3,2,1]
   ·exact lA 1<|fA<|bA 3<|pD Link.row hg1<|fA<|bA 7<|pD Say.row hg2<|fA<|bA 8<|lA 1<|fA<|bA 10<|lA 1<|fA<|eE [3,2,1] [3,2,1]
 ·refine lA 1<|fA<|AT.big2 tOk 0 9 kr (And.intro kr ?_) (And.intro kr ?_)
  ·refine lA 1<|fA<|AT.big2 tOk 3 9 kr (And.intro kr ?_) (And.intro kr ?_)
   ·refine pD Link.row hg1<|fA<|AT.big2 tOk 7 9 kr (And.intro kr ?_) (And.intro kr ?_)
    ·refine pD Say.row hg2<|fA<|AT.big2 tOk 8 9 kr (And.intro kr ?_) (And.intro kr ?_)
     ·exact lA 1<|fA<|bA 9<|lA 1<|fA<|bA 10<|lA 1<|fA<|eE [3,2,1] [3,2,1]
     ·exact lA 1<|fA<|bA 8<|lA 1<|fA<|bA 10<|lA 1<|fA<|eE [3,2,1] [3,2,1]
    ·exact lA 1<|fA<|bA 7<|pD Say.row hg2<|fA<|bA 8<|lA 1<|fA<|bA 10<|lA 1<|fA<|eE [3,2,1] [3,2,1]
   ·exact lA 1<|fA<|bA 3<|pD Link.row hg1<|fA<|bA 7<|pD Say.row hg2<|fA<|bA 8<|lA 1<|fA<|bA 10<|lA 1<|fA<|eE [3,2,1] [3,2,1]
  ·exact lA 1<|fA<|bA 0<|lA 1<|fA<|bA 3<|pD Link.row hg1<|fA<|bA 7<|pD Say.row hg2<|fA<|bA 8<|lA 1<|fA<|bA 10<|lA 1<|fA<|eE [3,2,1] [3,2,1]
 ·refine lA 1<|fA<|AT.big2 tOk 0 4 kr (And.intro kr ?_) (And.intro kr ?_)
  ·refine lA 1<|fA<|AT.big2 tOk 3 4 kr (And.intro kr ?_) (And.intro kr ?_)
   ·exact pD Link.row hg1<|fA<|bA 4<|lA 1<|fA<|bA 7<|pD Say.row hg2<|fA<|bA 8<|lA 1<|fA<|bA 10<|lA 1<|fA<|eE [3,2,1] [3,2,1]
   ·exact lA 1<|fA<|bA 3<|pD Link.row hg1<|fA<|bA 7<|pD Say.row hg2<|fA<|bA 8<|lA 1<|fA<|bA 10<|lA 1<|fA<|eE [3,2,1] [3,2,1]
  ·exact lA 1<|fA<|bA 0<|lA 1<|fA<|bA 3<|pD Link.row hg1<|fA<|bA 7<|pD Say.row hg2<|fA<|bA 8<|lA 1<|fA<|bA 10<|lA 1<|fA<|eE [3,2,1] [3,2,1]
theorem zDU (n : Nat) (x0 : Net) (r : Net) (H : YU n x0 = some r) : zE Tryz.prog 143 [.val true (fR (Net.row x0))] [.val true (Net.row r)] [] := by
 refine cW Tryz.func143 (fun g d => sl [g 0,d 1,sl [g 2] (.block 0 (.loop (sl [sl [g 3] (cn 18 .skip (.exit 0)),.block 1 (d 5)] (g 4)))),g 6] .ret) [.cell 2 53] fun cx=>?_
 unfold YU at H
 refine gA 2 6 6<|gE H fun hg1 H=> gE H fun hg2 H=> sT ⟨33,0,[sA 2 2 3 0,sA 1 1 3 0],[(2,[cL 11 ([] : List zA) zA.row,cL 4 ([] : List Link) Link.row,cL 7 ([] : List Say) Say.row]),(1,(fR (Net.row x0)))]⟩<|Tr.draws mixed 11 kr ⟨33,0,[sA 3 3 3 0,sA 2 2 3 0,sA 1 1 3 0],[(3,[cL 11 ([] : List zA) zA.row,cL 4 (([] : List Link) ++ x0.Ls) Link.row,cL 7 (([] : List Say) ++ x0.Said) Say.row]),(2,[cL 11 ([] : List zA) zA.row,cL 4 ([] : List Link) Link.row,cL 7 ([] : List Say) Say.row]),(1,(fR (Net.row x0)))]⟩ (zJ9 n x0 hg1 hg2)<|tS<|gA 1 30 14 ?_
 obtain ⟨o6,eo6,Ho6⟩ := bs H
 clear H
 refine Tr.mid (ι := (List zA)) (fun v => ⟨33,0,[sA 3 3 3 0,sA 2 2 3 0],[(3,[cL 11 v zA.row,cL 4 (([] : List Link) ++ x0.Ls) Link.row,cL 7 (([] : List Say) ++ x0.Said) Say.row]),(2,[cL 11 ([] : List zA) zA.row,cL 4 ([] : List Link) Link.row,cL 7 ([] : List Say) Say.row])]⟩) (fun v => zBT n x0 v = some r) ?_ ?_
 ·refine tB<|Tr.loop (ι := Nat × (Int × (List zA))) (fun v => ⟨33,0,[sI 4 v.2.1,sA 3 3 3 0,sA 2 2 3 0,sA 1 1 3 0],[(3,[cL 11 v.2.2 zA.row,cL 4 (([] : List Link) ++ x0.Ls) Link.row,cL 7 (([] : List Say) ++ x0.Said) Say.row]),(2,[cL 11 ([] : List zA) zA.row,cL 4 ([] : List Link) Link.row,cL 7 ([] : List Say) Say.row]),(1,(fR (Net.row x0)))]⟩) (fun v => QY n v.1 x0 v.2.1 v.2.2 = some o6) (fun v => v.1) (n,(0,([] : List zA))) eo6 (St.sub_of [4,3,2,1] [3,2,1] kr) ?_
  rintro ⟨_ | mo6,y3,y4⟩ H
  ·exact nN H
  have H : QY n (mo6+1) x0 y3 y4 = some o6 := H
  rw [QY] at H
  refine tS<|rA 3<|kF x0.Bs zA.row<|uA 1 262174 14 ?_
  obtain ⟨h1,H⟩ | ⟨h1,H⟩ := bC H
  ·refine nA h1<|Tr.exit<|aJ ?_
   cases H
   exact jA y4 Ho6 [3,2] [3,2]
  refine tA h1<|tK<|tS<|tB<|bE H fun v7 ev7 H=> bE H fun r8 er8 H=> gE H fun hg9 H=> Tr.draw mixed 12 kr ⟨33,0,[sI 4 y3,sA 3 3 3 0,sA 2 2 3 0,sA 1 1 3 0],[(3,[cL 11 (y4 ++ [r8]) zA.row,cL 4 (([] : List Link) ++ x0.Ls) Link.row,cL 7 (([] : List Say) ++ x0.Said) Say.row]),(2,[cL 11 ([] : List zA) zA.row,cL 4 ([] : List Link) Link.row,cL 7 ([] : List Say) Say.row]),(1,(fR (Net.row x0)))]⟩ (fun cx=>?_) ?_
  ·exact mA zDB [(0,[]),(1,[9,11]),(2,[]),(3,[7,8,9,11]),(4,[])] 7 [⟨[7,8,9,11],49,23,24⟩,⟨[9,11],49,21,22⟩] fun cx=>iN zDB 5 zA.row ev7 fun cx=>mA zDB [(6,[])] 5 [⟨[7,8,9,11],49,23,24⟩,⟨[9,11],49,21,22⟩] fun cx=>mC zDB 7<|vA [.rd] (zDT n v7 r8 er8)<|fA<|mC zDB 8<|lA 1<|fA<|mC zDB 9<|LAt.appMU tOk (t := 49) (ty := 49) (e := 31) (x := (.tmp 22)) (y := (.tmp 29)) (d := 30) (g := none) (tI 31) zA.row y4 [r8] kr kr kr kr kr kr kr kr kr kr hg9<|fA<|mA zDB [(10,[])] 1 [⟨[7,8,9,11],49,23,24⟩,⟨[9,11],49,21,22⟩] fun cx=>mC zDB 11<|lA 1<|fA<|mE zDB [4,3,2,1] [3,2,1]
  exact eA 3 30 14<|jB mo6 ((wI (y3 + 1)),(y4 ++ [r8])) H [4,3,2,1] [3,2,1]
 rintro y5 H
 have H : (zBT n x0 y5) = some r := H
 unfold zBT at H
 exact gA 2 4 4<|te (fJ [(true,[cL 11 y5 zA.row,cL 4 (([] : List Link) ++ x0.Ls) Link.row,cL 7 (([] : List Say) ++ x0.Said) Say.row])] H)
def zB9 (n : Nat) (y3 : (List zB)) : Option ((List zB)) :=
  (some y3)
def qy (n : Nat) : Nat → (List zB) → Int → (List zB) → Option (((List zB)) ⊕ ((List zB)))
  | 0,_,_,_ => none
  | mo4 + 1,x0,y1,y2 => (bif (decide (y1 < (x0.length : Int))) then ((idx x0 y1).bind fun v5 => (bif v5.Sc then (bif (decide (y2.length + [v5].length ≤ 268435456)) then (qy n mo4 x0 (IntKind.wrap .i64 (y1 + 1)) (y2 ++ [v5])) else none) else (bif (decide (v5.Age < 4)) then (bif (decide (y2.length + [(⟨v5.Tag,v5.Mac,v5.Port,(IntKind.wrap .i64 (v5.Age + 1)),v5.Sc⟩ : zB)].length ≤ 268435456)) then (qy n mo4 x0 (IntKind.wrap .i64 (y1 + 1)) (y2 ++ [(⟨v5.Tag,v5.Mac,v5.Port,(IntKind.wrap .i64 (v5.Age + 1)),false⟩ : zB)])) else none) else (qy n mo4 x0 (IntKind.wrap .i64 (y1 + 1)) y2)))) else (some (Sum.inl y2)))
def Yo (n : Nat) (x0 : (List zB)) : Option ((List zB)) :=
  ((qy n n x0 0 ([] : List zB)).bind fun o => match o with | .inl y3 => (zB9 n y3) | .inr r => some r)
theorem zIr (n : Nat) (x0 : (List zB)) (r : (List zB)) (H : Yo n x0 = some r) : zE Tryz.prog 96 [.val false [.sl false 5 (CV.frzEs (x0.map zB.row))]] [.val false [.sl true 5 (r.map zB.row)]] [] := by
 refine cW Tryz.func96 (fun g d => sl [g 0,g 1,sl [g 2] (.block 0 (.loop (sl [sl [g 3] (cn 10 .skip (.exit 0)),.block 1 (sl [g 5,sl [g 6] (cn 18 (sl [g 7] (.exit 1)) .skip),g 8] (cn 25 (sl [g 9] (g 10)) .skip))] (g 4)))),g 11] .ret) [.tmp 2] fun cx=>?_
 unfold Yo at H
 refine gA 1 1 0<|rA 1<|LAt.moveU (T := lk tab) (ty := 25) (x := (.tmp 6)) (d := 3) (g := none) false [cL 5 ([] : List zB) zB.row] kr kr kr kr kr<|dA 9 0<|tS<|gA 1 25 0 ?_
 obtain ⟨o4,eo4,Ho4⟩ := bs H
 clear H
 refine Tr.mid (ι := (List zB)) (fun v => ⟨35,0,[sC 3 (cL 5 v zB.row)],[]⟩) (fun v => zB9 n v = some r) ?_ ?_
 ·refine tB<|Tr.loop (ι := Nat × (Int × (List zB))) (fun v => ⟨35,0,[sI 4 v.2.1,sC 3 (cL 5 v.2.2 zB.row),sC 0 (cF 5 x0 zB.row)],[]⟩) (fun v => qy n v.1 x0 v.2.1 v.2.2 = some o4) (fun v => v.1) (n,(0,([] : List zB))) eo4 (St.sub_of [4,3,0] [] kr) ?_
  rintro ⟨_ | mo4,y1,y2⟩ H
  ·exact nN H
  have H : qy n (mo4+1) x0 y1 y2 = some o4 := H
  rw [qy] at H
  refine tS<|rA 2<|kF x0 zB.row<|uA 1 1049 0 ?_
  obtain ⟨h1,H⟩ | ⟨h1,H⟩ := bC H
  ·refine nA h1<|Tr.exit<|aJ ?_
   cases H
   exact jA y2 Ho4 [3] []
  refine tA h1<|tK<|tS<|tB<|rA 2<|bE H fun v5 ev5 H=> iA zB.row ev5<|uA 3 57 32<|tS<|gA 2 262201 32 ?_
  obtain ⟨h2,H⟩ | ⟨h2,H⟩ := bC H
  ·refine qT [18] h2<|nB_<|tK<|gA 3 33554489 32 ?_
   obtain ⟨h3,H⟩ | ⟨h3,H⟩ := bC H
   ·exact nA h3<|tK<|eA 3 25 0<|jB mo4 ((wI (y1 + 1)),y2) H [4,3,0] []
   refine tA h3<|gA 5 57 32<|Tr.at<|lA 3<|gE H fun hg6 H=> LAt.appMU tOk (t := 25) (ty := 25) (e := 103) (x := (.tmp 30)) (y := (.tmp 32)) (d := 33) (g := none) (tI 103) zB.row y2 [(⟨v5.Tag,v5.Mac,v5.Port,(wI (v5.Age + 1)),v5.Sc⟩ : zB)] kr kr kr kr kr kr kr kr kr kr hg6<|LAt.moveU (T := lk tab) (ty := 25) (x := (.tmp 33)) (d := 3) (g := none) false [cL 5 (y2 ++ [(⟨v5.Tag,v5.Mac,v5.Port,(wI (v5.Age + 1)),v5.Sc⟩ : zB)]) zB.row] kr kr kr kr kr<|dA 25 0<|eA 3 25 0<|sC' 25 0 ⟨35,0,[sI 4 (wI (y1 + 1)),sC 3 (cL 5 (y2 ++ [(⟨v5.Tag,v5.Mac,v5.Port,(wI (v5.Age + 1)),v5.Sc⟩ : zB)]) zB.row),sC 0 (cF 5 x0 zB.row)],[]⟩ ?_
   rw [h2]
   exact jB mo4 ((wI (y1 + 1)),(y2 ++ [(⟨v5.Tag,v5.Mac,v5.Port,(wI (v5.Age + 1)),false⟩ : zB)])) H [4,3,0] []
  exact qT [18] h2<|tB_<|rA 3<|gE H fun hg7 H=> LAt.appMU tOk (t := 25) (ty := 25) (e := 103) (x := (.tmp 19)) (y := (.tmp 21)) (d := 22) (g := none) (tI 103) zB.row y2 [v5] kr kr kr kr kr kr kr kr kr kr hg7<|LAt.moveU (T := lk tab) (ty := 25) (x := (.tmp 22)) (d := 3) (g := none) false [cL 5 (y2 ++ [v5]) zB.row] kr kr kr kr kr<|dA 25 0<|Tr.exit<|aJ<|eA 3 25 0<|jB mo4 ((wI (y1 + 1)),(y2 ++ [v5])) H [4,3,0] []
 rintro y3 H
 have H : (zB9 n y3) = some r := H
 unfold zB9 at H
 exact gA 2 12 0<|te (fJ [(false,[cL 5 y3 zB.row])] H)
def zCD (n : Nat) (x0 : zA) : Option (zA) :=
  ((Ql n x0).bind fun r1 => ((zU n x0).bind fun r2 => (bif (!r2) then (some r1) else ((JZ n x0.Tk).bind fun r3 => ((Yo n x0.F).bind fun r4 => ((qz n (⟨r1.Id,r1.Name,r1.Ps,r4,r1.V,r3,r1.Pa,r1.Wo,r1.Dr,r1.Ve⟩ : zA)).bind fun r5 => (some r5)))))))
theorem zOG (n : Nat) (x0 : zA) (r : zA) (H : zCD n x0 = some r) : zE Tryz.prog 22 [.val true (fR (zA.row x0))] [.val true (zA.row r)] [] := by
 refine cW Tryz.func22 (fun g d => sl [g 0,g 1,sl [g 2] (cn 8 (sl [g 3] .ret) .skip),g 4,g 5,g 6] .ret) [.cell 2 31] fun cx=>?_
 unfold zCD at H
 refine gA 2 6 6<|rA 1<|bE H fun r1 er1 H=> vA [.rd] (zDT n x0 r1 er1)<|uA 2 14 14<|tS<|rA 1<|bE H fun r2 er2 H=> vA [.rd] (zEt n x0 r2 er2)<|uA 1 270 14 ?_
 obtain ⟨h1,H⟩ | ⟨h1,H⟩ := bC H
 ·exact nA h1<|tK<|rA 2<|bE H fun r3 er3 H=> vA [.rd] (zIs n x0.Tk r3 er3)<|uA 2 14 14<|rA 2<|bE H fun r4 er4 H=> vA [.rd] (zIr n x0.F r4 er4)<|uA 2 12 12<|rA 1<|bE H fun r5 er5 H=> vA [.own] (zDx n (⟨r1.Id,r1.Name,r1.Ps,r4,r1.V,r3,r1.Pa,r1.Wo,r1.Dr,r1.Ve⟩ : zA) r5 er5)<|uA 1 4 4<|te (fJ [(true,(zA.row r5))] H)
 exact tA h1<|gA 2 4 4<|te (fJ [(true,(zA.row r1))] H)
def JI (n : Nat) (x0 : Net) (x1 : Int) (x2 : Int) : Option (Bool) :=
  ((zR n x1 0 (IntKind.wrap .i64 ((x0.Bs.length : Int) - 1))).bind fun r1 => (bif r1 then ((idx x0.Bs x1).bind fun v2 => ((zR n x2 0 (IntKind.wrap .i64 ((v2.Ps.length : Int) - 1))).bind fun r3 => (bif r3 then ((idx x0.Bs x1).bind fun v4 => ((idx v4.Ps x2).bind fun v5 => (some v5.Up))) else (some false)))) else (some false)))
theorem zKB (n : Nat) (x0 : Net) (x1 : Int) (x2 : Int) (r : Bool) (H : JI n x0 x1 x2 = some r) : zE Tryz.prog 128 [.val true (fR (Net.row x0)),.val false [.lit (.int .i64 x1)],.val false [.lit (.int .i64 x2)]] [.val false [.lit (.bool r)]] [] := by
 refine cW Tryz.func128 (fun g d => sl [g 0,g 1] .ret) [.tmp 6] fun cx=>?_
 unfold JI at H
 refine gA 2 14 8<|rA 3<|kF x0.Bs zA.row<|lA 1<|bE H fun r1 er1 H=> vA [.rd,.rd,.rd] (zS n x1 0 (wI ((x0.Bs.length : Int) - 1)) r1 er1)<|lA 1 ?_
 obtain ⟨h1,H⟩ | ⟨h1,H⟩ := bC H
 ·exact qL 8206 8 [13] h1<|uA 24 64 0<|te (fF H)
 refine qL 8206 8 [13] h1<|lA 4<|bE H fun v2 ev2 H=> iA zA.row ev2<|lA 2<|kF v2.Ps Pt.row<|lA 1<|bE H fun r3 er3 H=> vA [.rd,.rd,.rd] (zS n x2 0 (wI ((v2.Ps.length : Int) - 1)) r3 er3)<|lA 2 ?_
 obtain ⟨h2,H⟩ | ⟨h2,H⟩ := bC H
 ·exact qL 33554446 8 [25] h2<|uA 12 64 0<|te (fF H)
 exact qL 33554446 8 [25] h2<|lA 3<|bE H fun v4 ev4 H=> iA zA.row ev4<|lA 3<|bE H fun v5 ev5 H=> iA Pt.row ev5<|uA 4 64 0<|te (fJ [(false,[cB v5.Up])] H)
def ZW (n : Nat) (x0 : Net) (x1 : Int) : Option (Bool) :=
  ((zR n x1 0 (IntKind.wrap .i64 ((x0.Ls.length : Int) - 1))).bind fun r1 => (bif (!r1) then (some false) else ((idx x0.Ls x1).bind fun v2 => ((JI n x0 v2.A v2.P).bind fun r3 => (bif r3 then ((JI n x0 v2.B v2.Q).bind fun r4 => (some r4)) else (some false))))))
theorem zD6 (n : Nat) (x0 : Net) (x1 : Int) (r : Bool) (H : ZW n x0 x1 = some r) : zE Tryz.prog 50 [.val true (fR (Net.row x0)),.val false [.lit (.int .i64 x1)]] [.val false [.lit (.bool r)]] [] := by
 refine cW Tryz.func50 (fun g d => sl [g 0,sl [g 1] (cn 12 (sl [g 2] .ret) .skip),g 3,g 4] .ret) [.tmp 4] fun cx=>?_
 unfold ZW at H
 refine gA 2 6 4<|tS<|rA 3<|kF x0.Ls Link.row<|lA 1<|bE H fun r1 er1 H=> vA [.rd,.rd,.rd] (zS n x1 0 (wI ((x0.Ls.length : Int) - 1)) r1 er1)<|uA 1 4102 4 ?_
 obtain ⟨h1,H⟩ | ⟨h1,H⟩ := bC H
 ·refine nA h1<|tK<|rA 3<|bE H fun v2 ev2 H=> iA Link.row ev2<|uA 3 36 36<|rA 5<|bE H fun r3 er3 H=> vA [.rd,.rd,.rd] (zKB n x0 v2.A v2.P r3 er3)<|lA 1 ?_
  obtain ⟨h2,H⟩ | ⟨h2,H⟩ := bC H
  ·exact qL 16777252 36 [24] h2<|uA 8 16 0<|te (fF H)
  exact qL 16777252 36 [24] h2<|lA 5<|bE H fun r4 er4 H=> vA [.rd,.rd,.rd] (zKB n x0 v2.B v2.Q r4 er4)<|uA 2 16 0<|te (fJ [(false,[cB r4])] H)
 exact tA h1<|gA 1 16 0<|te (fF H)
def YI (n : Nat) (x0 : Net) (x1 : Int) (x2 : Bool) : Option (Vec) :=
  ((idx x0.Ls x1).bind fun v1 => (bif x2 then ((idx x0.Bs v1.B).bind fun v5 => ((idx x0.Bs v1.B).bind fun v6 => ((qi n v5.Id v6.Ps v1.Q).bind fun r7 => (some r7)))) else ((idx x0.Bs v1.A).bind fun v2 => ((idx x0.Bs v1.A).bind fun v3 => ((qi n v2.Id v3.Ps v1.P).bind fun r4 => (some r4))))))
def zPw : Tab := ⟨18,[0,1,0,4,10,16,32,0,128,0,512,1280,2048,4096,0,16384,41024,131071],[0,1,0,4,10,16,32,0,128,0,512,1280,2048,4096,0,16384,41024,65536],[0,1,0,4,15,31,63,0,128,0,512,1920,3968,8064,0,16384,65535,131071]⟩
theorem zEP : zc (rg Tryz.f149 3) zPw = true := kr
def zPx : Tab := ⟨18,[0,1,0,4,10,16,32,0,128,0,512,1280,2048,4096,0,16384,41024,131071],[0,1,0,4,10,16,32,0,128,0,512,1280,2048,4096,0,16384,41024,65536],[0,1,0,4,15,31,63,0,128,0,512,1920,3968,8064,0,16384,65535,131071]⟩
theorem zEQ : zc (rg Tryz.f149 4) zPx = true := kr
theorem zD8 (n : Nat) (x0 : Net) (x1 : Int) (x2 : Bool) (r : Vec) (H : YI n x0 x1 x2 = some r) : zE Tryz.prog 149 [.val true (fR (Net.row x0)),.val false [.lit (.int .i64 x1)],.val false [.lit (.bool x2)]] [.val true (Vec.row r)] [] := by
 refine cW Tryz.func149 (fun g d => sl [g 0,g 1,sl [g 2] (cn 13 (sl [d 3] .ret) .skip),d 4] .ret) [.cell 6 33] fun cx=>?_
 unfold YI at H
 refine gA 2 78 72<|rA 3<|bE H fun v1 ev1 H=> iA Link.row ev1<|uA 3 204 200<|tS<|gA 1 8392 200 ?_
 cases h1 : x2
 ·have H := qe h1 H
  refine nB_<|tK<|bE H fun v2 ev2 H=> bE H fun v3 ev3 H=> bE H fun r4 er4 H=> Tr.draws mixed 18 kr ⟨48,0,[sA 6 6 5 0],[(6,(Vec.row r4))]⟩ (fun cx=>?_) ?_
  ·exact mA zEQ [(0,[]),(1,[16,17]),(2,[]),(3,[16,17])] 14 [⟨[16,17],3,33,34⟩,⟨[16,17],49,31,32⟩] fun cx=>iN zEQ 4 zA.row ev2 fun cx=>mA zEQ (zl [5,6,7]++[(8,[16,17]),(9,[]),(10,[16,17])]) 7 [⟨[16,17],3,40,41⟩,⟨[16,17],49,38,39⟩,⟨[16,17],3,33,34⟩,⟨[16,17],49,31,32⟩] fun cx=>iN zEQ 11 zA.row ev3 fun cx=>mA zEQ (zl [12,13,14]++[(15,[16,17])]) 2 [⟨[16,17],3,45,46⟩,⟨[16,17],3,40,41⟩,⟨[16,17],49,38,39⟩,⟨[16,17],3,33,34⟩,⟨[16,17],49,31,32⟩] fun cx=>mC zEQ 16<|vA [.rd,.rd,.rd] (zGQ n v2.Id v3.Ps v1.P r4 er4)<|fA<|mC zEQ 17<|lA 1<|fA<|mE zEQ [6] [6]
  exact te (fJ [(true,(Vec.row r4))] H)
 have H := qf h1 H
 refine tB_<|bE H fun v5 ev5 H=> bE H fun v6 ev6 H=> bE H fun r7 er7 H=> Tr.draws mixed 18 kr ⟨48,0,[sA 6 6 5 0],[(6,(Vec.row r7))]⟩ (fun cx=>?_) ?_
 ·exact mA zEP [(0,[]),(1,[16,17]),(2,[]),(3,[16,17])] 14 [⟨[16,17],3,16,17⟩,⟨[16,17],49,14,15⟩] fun cx=>iN zEP 4 zA.row ev5 fun cx=>mA zEP (zl [5,6,7]++[(8,[16,17]),(9,[]),(10,[16,17])]) 7 [⟨[16,17],3,23,24⟩,⟨[16,17],49,21,22⟩,⟨[16,17],3,16,17⟩,⟨[16,17],49,14,15⟩] fun cx=>iN zEP 11 zA.row ev6 fun cx=>mA zEP (zl [12,13,14]++[(15,[16,17])]) 2 [⟨[16,17],3,28,29⟩,⟨[16,17],3,23,24⟩,⟨[16,17],49,21,22⟩,⟨[16,17],3,16,17⟩,⟨[16,17],49,14,15⟩] fun cx=>mC zEP 16<|vA [.rd,.rd,.rd] (zGQ n v5.Id v6.Ps v1.Q r7 er7)<|fA<|mC zEP 17<|lA 1<|fA<|mE zEP [6] [6]
 exact te (fJ [(true,(Vec.row r7))] H)
def zAF (n : Nat) (x0 : Net) (y3 : (List Say)) : Option (Net) :=
  (some (⟨x0.Bs,x0.Ls,y3⟩ : Net))
def QS (n : Nat) (k : (Int × (List Say) → Option (((List Say)) ⊕ (Net)))) (x0 : Net) (x1 : Int) (y1 : Int) (y6 : (List Say)) : Option (((List Say)) ⊕ (Net)) :=
  ((idx x0.Ls y1).bind fun v7 => (bif (v7.B == x1) then ((YI n (⟨x0.Bs,x0.Ls,y6⟩ : Net) y1 true).bind fun r8 => (bif (decide (y6.length + [(⟨y1,true,r8⟩ : Say)].length ≤ 268435456)) then (k ((IntKind.wrap .i64 (y1 + 1)),(y6 ++ [(⟨y1,true,r8⟩ : Say)]))) else none)) else (k ((IntKind.wrap .i64 (y1 + 1)),y6))))
def qW (n : Nat) : Nat → Net → Int → Int → (List Say) → Option (((List Say)) ⊕ (Net))
  | 0,_,_,_,_ => none
  | mo4 + 1,x0,x1,y1,y2 => (bif (decide (y1 < (x0.Ls.length : Int))) then ((ZW n (⟨x0.Bs,x0.Ls,y2⟩ : Net) y1).bind fun r5 => (bif (!r5) then (qW n mo4 x0 x1 (IntKind.wrap .i64 (y1 + 1)) y2) else (bif (decide ((y2.length : Int) ≥ 40)) then (qW n mo4 x0 x1 (IntKind.wrap .i64 (y1 + 1)) y2) else ((idx x0.Ls y1).bind fun v10 => (bif (v10.A == x1) then ((YI n (⟨x0.Bs,x0.Ls,y2⟩ : Net) y1 false).bind fun r11 => (bif (decide (y2.length + [(⟨y1,false,r11⟩ : Say)].length ≤ 268435456)) then (QS n (fun v => qW n mo4 x0 x1 v.1 v.2) x0 x1 y1 (y2 ++ [(⟨y1,false,r11⟩ : Say)])) else none)) else (QS n (fun v => qW n mo4 x0 x1 v.1 v.2) x0 x1 y1 y2)))))) else (some (Sum.inl y2)))
def J5 (n : Nat) (x0 : Net) (x1 : Int) : Option (Net) :=
  ((qW n n x0 x1 0 x0.Said).bind fun o => match o with | .inl y3 => (zAF n x0 y3) | .inr r => some r)
def zPo : Tab := ⟨17,[0,0,2,4,8,0,0,64,128,0,768,1056,2048,5136,16383,32767,49151],[0,0,2,4,8,0,0,64,128,0,768,1056,2048,4112,1,16384,40960],[0,0,2,6,14,0,0,64,192,0,960,2016,4064,8190,16383,32767,65535]⟩
noncomputable abbrev zKM (k : Nat) := Rg Tryz.f144 k
noncomputable abbrev zPQ (k : Nat) := Rd Tryz.f144 k
theorem zEI : zc (rg Tryz.f144 5) zPo = true := kr
def zPp : Tab := ⟨17,[0,0,2,4,8,0,0,64,128,0,768,1056,2048,5136,16383,32767,49151],[0,0,2,4,8,0,0,64,128,0,768,1056,2048,4112,1,16384,40960],[0,0,2,6,14,0,0,64,192,0,960,2016,4064,8190,16383,32767,65535]⟩
theorem zEJ : zc (rg Tryz.f144 7) zPp = true := kr
theorem zKr (n : Nat) (x0 : Net) (x1 : Int) (r : Net) (H : J5 n x0 x1 = some r) : zE Tryz.prog 144 [.ptr (Net.row x0),.val false [.lit (.int .i64 x1)]] [] [(0,(Net.row r))] := by
 refine zE.of_body tOk Tryz.func144 rfl (c := (.seq (zKM 0) (.block 0 (.loop (.seq (.seq (zKM 1) (.cond (.tmp 11) .skip (.exit 0))) (.seq (.block 1 (.seq (.seq (zKM 3) (.cond (.tmp 27) (.exit 1) .skip)) (.seq (.seq (zKM 4) (.cond (.tmp 37) (zPQ 5) .skip)) (.seq (zKM 6) (.cond (.tmp 63) (zPQ 7) .skip))))) (zKM 2))))))) kr (Nat.le_of_ble_eq_true kr) 1 (rs := []) rfl [] .nil [] [] [(0,(Net.row r))] fun cx=>?_
 show Tr _ _ _ ⟨80,1,[sA 0 0 3 0,sI 1 x1],[(0,(Net.row x0))]⟩ _
 unfold J5 at H
 refine gA 1 19 1 ?_
 obtain ⟨o4,eo4,Ho4⟩ := bs H
 clear H
 refine Tr.mid (ι := (List Say)) (fun v => ⟨80,1,[sA 0 0 3 0],[(0,[cL 11 x0.Bs zA.row,cL 4 x0.Ls Link.row,cL 7 v Say.row])]⟩) (fun v => zAF n x0 v = some r) ?_ ?_
 ·refine tB<|Tr.loop (ι := Nat × (Int × (List Say))) (fun v => ⟨80,1,[sI 4 v.2.1,sA 0 0 3 0,sI 1 x1],[(0,[cL 11 x0.Bs zA.row,cL 4 x0.Ls Link.row,cL 7 v.2.2 Say.row])]⟩) (fun v => qW n v.1 x0 x1 v.2.1 v.2.2 = some o4) (fun v => v.1) (n,(0,x0.Said)) eo4 (St.sub_of [4,0,1] [0] kr) ?_
  rintro ⟨_ | mo4,y1,y2⟩ H
  ·exact nN H
  have H : qW n (mo4+1) x0 x1 y1 y2 = some o4 := H
  rw [qW] at H
  refine tS<|rA 5<|kO x0.Ls Link.row<|uA 1 2067 1 ?_
  obtain ⟨h1,H⟩ | ⟨h1,H⟩ := bC H
  ·refine nA h1<|Tr.exit<|aJ ?_
   cases H
   exact jA y2 Ho4 [0] [0]
  refine tA h1<|tK<|tS<|tB<|tS<|rA 4<|bE H fun r5 er5 H=> vB [.rd,.rd] [.box 0] (zD6 n (⟨x0.Bs,x0.Ls,y2⟩ : Net) y1 r5 er5) (.inr (zM (zJ zN zg) zT))<|lA 2 ?_
  obtain ⟨h2,H⟩ | ⟨h2,H⟩ := bC H
  ·refine qL 1048595 1 [20] h2<|lA 4<|kO y2 Say.row<|uA 2 134217747 1 ?_
   obtain ⟨h3,H⟩ | ⟨h3,H⟩ := bC H
   ·refine nA h3<|tK<|tS<|Tr.mid (ι := (List Say)) (fun v => ⟨80,1,[sI 4 y1,sA 0 0 3 0,sI 1 x1],[(0,[cL 11 x0.Bs zA.row,cL 4 x0.Ls Link.row,cL 7 v Say.row])]⟩) (fun v => QS n (fun v => qW n mo4 x0 x1 v.1 v.2) x0 x1 y1 v = some o4) ?_ ?_
    ·refine rA 5<|bE H fun v10 ev10 H=> oA Link.row ev10<|lA 1<|dE (tI 3) (.box 0) [(0,0),(1,(y1.toNat))] 4 0 [.sl true 3 [[cL 11 x0.Bs zA.row,cL 4 x0.Ls Link.row,cL 7 y2 Say.row]]] (Link.row v10) (zQ rfl (zK ev10).2)<|uA 2 137438953491 1 ?_
     obtain ⟨h5,H⟩ | ⟨h5,H⟩ := bC H
     ·exact nA h5<|tK<|jA y2 H [4,0,1] [0]
     refine tA h5<|bE H fun r11 er11 H=> gE H fun hg12 H=> Tr.draw mixed 17 kr ⟨80,1,[sI 4 y1,sA 0 0 3 0,sI 1 x1],[(0,[cL 11 x0.Bs zA.row,cL 4 x0.Ls Link.row,cL 7 (y2 ++ [(⟨y1,false,r11⟩ : Say)]) Say.row])]⟩ (fun cx=>?_) ?_
     ·exact mA zEI (zl [0,1,2,3]++[(4,[13,16])]++zl [5,6,7]++[(8,[10,11,12,13,16]),(9,[])]) 7 [⟨[10,11,12,13,16],53,45,46⟩,⟨[13,16],51,41,42⟩] fun cx=>mC zEI 10<|vB [.rd,.rd,.rd] [.box 0] (zD8 n (⟨x0.Bs,x0.Ls,y2⟩ : Net) y1 false r11 er11) (.inr (zM (Vec.row_mine _) zT))<|fA<|mC zEI 11<|lA 1<|fA<|mC zEI 12<|lA 1<|fA<|mC zEI 13<|LAt.appMU tOk (t := 51) (ty := 51) (e := 127) (x := (.tmp 42)) (y := (.tmp 50)) (d := 51) (g := none) (tI 127) Say.row y2 [(⟨y1,false,r11⟩ : Say)] kr kr kr kr kr kr kr kr kr kr hg12<|fA<|mA zEI [(14,[]),(15,[])] 1 [⟨[10,11,12,13,16],53,45,46⟩,⟨[13,16],51,41,42⟩] fun cx=>mC zEI 16<|lA 1<|fA<|mE zEI [4,0,1] [0]
     exact jA (y2 ++ [(⟨y1,false,r11⟩ : Say)]) H [4,0,1] [0]
    rintro y6 H
    have H : (QS n (fun v => qW n mo4 x0 x1 v.1 v.2) x0 x1 y1 y6) = some o4 := H
    unfold QS at H
    refine rA 5<|bE H fun v7 ev7 H=> oA Link.row ev7<|lA 1<|dE (tI 3) (.box 0) [(0,0),(1,(y1.toNat))] 4 2 [.sl true 3 [[cL 11 x0.Bs zA.row,cL 4 x0.Ls Link.row,cL 7 y6 Say.row]]] (Link.row v7) (zQ rfl (zK ev7).2)<|uA 2 0x8000000000000013 1 ?_
    obtain ⟨h4,H⟩ | ⟨h4,H⟩ := bC H
    ·exact nA h4<|tK<|eA 3 19 1<|jB mo4 ((wI (y1 + 1)),y6) H [4,0,1] [0]
    refine tA h4<|bE H fun r8 er8 H=> gE H fun hg9 H=> Tr.draw mixed 17 kr ⟨80,1,[sI 4 y1,sA 0 0 3 0,sI 1 x1],[(0,[cL 11 x0.Bs zA.row,cL 4 x0.Ls Link.row,cL 7 (y6 ++ [(⟨y1,true,r8⟩ : Say)]) Say.row])]⟩ (fun cx=>?_) ?_
    ·exact mA zEJ (zl [0,1,2,3]++[(4,[13,16])]++zl [5,6,7]++[(8,[10,11,12,13,16]),(9,[])]) 7 [⟨[10,11,12,13,16],53,71,72⟩,⟨[13,16],51,67,68⟩] fun cx=>mC zEJ 10<|vB [.rd,.rd,.rd] [.box 0] (zD8 n (⟨x0.Bs,x0.Ls,y6⟩ : Net) y1 true r8 er8) (.inr (zM (Vec.row_mine _) zT))<|fA<|mC zEJ 11<|lA 1<|fA<|mC zEJ 12<|lA 1<|fA<|mC zEJ 13<|LAt.appMU tOk (t := 51) (ty := 51) (e := 127) (x := (.tmp 68)) (y := (.tmp 76)) (d := 77) (g := none) (tI 127) Say.row y6 [(⟨y1,true,r8⟩ : Say)] kr kr kr kr kr kr kr kr kr kr hg9<|fA<|mA zEJ [(14,[]),(15,[])] 1 [⟨[10,11,12,13,16],53,71,72⟩,⟨[13,16],51,67,68⟩] fun cx=>mC zEJ 16<|lA 1<|fA<|mE zEJ [4,0,1] [0]
    exact eA 3 19 1<|jB mo4 ((wI (y1 + 1)),(y6 ++ [(⟨y1,true,r8⟩ : Say)])) H [4,0,1] [0]
   exact tA h3<|Tr.exit<|aJ<|eA 3 19 1<|jB mo4 ((wI (y1 + 1)),y2) H [4,0,1] [0]
  exact qL 1048595 1 [20] h2<|uA 7 134217747 1<|tB_<|Tr.exit<|aJ<|eA 3 19 1<|jB mo4 ((wI (y1 + 1)),y2) H [4,0,1] [0]
 rintro y3 H
 have H : (zAF n x0 y3) = some r := H
 unfold zAF at H
 exact fY [] [(0,[cL 11 x0.Bs zA.row,cL 4 x0.Ls Link.row,cL 7 y3 Say.row])] H
def ZU (n : Nat) (x0 : zA) (x1 : Int) (x2 : Vec) : Option (zA) :=
  ((Ql n x0).bind fun r1 => ((JN n x0 x1).bind fun r2 => (bif (!r2) then (some r1) else ((idx x0.Ps x1).bind fun v3 => (bif (!v3.Up) then (some r1) else ((zo n x2).bind fun r4 => (bif (!r4) then (some r1) else ((idx r1.Ps x1).bind fun v5 => ((idx (r1.Ps.set (x1.toNat) (⟨v5.Up,v5.Co,true,v5.Hd⟩ : Pt)) x1).bind fun v6 => ((qz n (⟨r1.Id,r1.Name,((r1.Ps.set (x1.toNat) (⟨v5.Up,v5.Co,true,v5.Hd⟩ : Pt)).set (x1.toNat) (⟨v6.Up,v6.Co,v6.Has,x2⟩ : Pt)),r1.F,r1.V,r1.Tk,r1.Pa,r1.Wo,r1.Dr,r1.Ve⟩ : zA)).bind fun r7 => (some r7)))))))))))
theorem zH6 (n : Nat) (x0 : zA) (x1 : Int) (x2 : Vec) (r : zA) (H : ZU n x0 x1 x2 = some r) : zE Tryz.prog 18 [.val true (fR (zA.row x0)),.val false [.lit (.int .i64 x1)],.val true (fR (Vec.row x2))] [.val true (zA.row r)] [] := by
 refine cW Tryz.func18 (fun g d => sl [g 0,g 1,sl [g 2] (cn 27 (sl [g 3] .ret) .skip),g 4,g 5,g 6] .ret) [.cell 6 31] fun cx=>?_
 unfold ZU at H
 refine gA 3 106 104<|rA 1<|bE H fun r1 er1 H=> vA [.rd] (zDT n x0 r1 er1)<|uA 2 234 232<|tS<|rA 2<|bE H fun r2 er2 H=> vA [.rd,.rd] (zHR n x0 x1 r2 er2)<|lA 2 ?_
 obtain ⟨h1,H⟩ | ⟨h1,H⟩ := bC H
 ·refine qL 16618 232 [14] h1<|lA 3<|bE H fun v3 ev3 H=> iA Pt.row ev3<|lA 5 ?_
  obtain ⟨h2,H⟩ | ⟨h2,H⟩ := bC H
  ·refine qL 8388834 224 [23] h2<|lA 1<|bE H fun r4 er4 H=> vA [.rd] (zDS n x2 r4 er4)<|uA 2 134217954 224 ?_
   obtain ⟨h3,H⟩ | ⟨h3,H⟩ := bC H
   ·exact nA h3<|tK<|rA 3<|bE H fun v5 ev5 H=> oA Pt.row ev5<|lA 1<|LAt.storeB tOk (t := 4) (ty := 0) (ad := (.tmp 33)) (x := (.const (.bool true))) (g := none) (tI 4) false [cB true] 7 2 (x1.toNat) 8 2 8 r1.Ps Pt.row v5 (⟨v5.Up,v5.Co,true,v5.Hd⟩ : Pt) kr kr kr kr kr kr kr kr (zK ev5).2 kr kr kr kr<|dA 226 224<|rA 4<|bE H fun v6 ev6 H=> oA Pt.row ev6<|lA 1<|LAt.storeB tOk (t := 33) (ty := 0) (ad := (.tmp 39)) (x := (.tmp 37)) (g := none) (tI 33) true (Vec.row x2) 7 2 (x1.toNat) 8 3 8 (r1.Ps.set (x1.toNat) (⟨v5.Up,v5.Co,true,v5.Hd⟩ : Pt)) Pt.row v6 (⟨v6.Up,v6.Co,v6.Has,x2⟩ : Pt) kr kr kr kr kr kr kr kr (zK ev6).2 kr kr kr kr<|dA 192 192<|rA 1<|bE H fun r7 er7 H=> vA [.own] (zDx n (⟨r1.Id,r1.Name,((r1.Ps.set (x1.toNat) (⟨v5.Up,v5.Co,true,v5.Hd⟩ : Pt)).set (x1.toNat) (⟨v6.Up,v6.Co,v6.Has,x2⟩ : Pt)),r1.F,r1.V,r1.Tk,r1.Pa,r1.Wo,r1.Dr,r1.Ve⟩ : zA) r7 er7)<|uA 1 64 64<|te (fJ [(true,(zA.row r7))] H)
   exact tA h3<|gA 2 64 64<|te (fJ [(true,(zA.row r1))] H)
  exact qL 8388834 224 [23] h2<|uA 4 134217954 224<|tB_<|gA 2 64 64<|te (fJ [(true,(zA.row r1))] H)
 exact qL 16618 232 [14] h1<|uA 13 134217954 224<|tB_<|gA 2 64 64<|te (fJ [(true,(zA.row r1))] H)
def Qm (n : Nat) (x0 : Net) (x1 : Int) (x2 : Bool) (x3 : Vec) : Option (Net) :=
  ((idx x0.Ls x1).bind fun v1 => (bif x2 then ((idx x0.Bs v1.A).bind fun v4 => ((ZU n v4 v1.P x3).bind fun r5 => (some (⟨(x0.Bs.set (v1.A.toNat) r5),x0.Ls,x0.Said⟩ : Net)))) else ((idx x0.Bs v1.B).bind fun v2 => ((ZU n v2 v1.Q x3).bind fun r3 => (some (⟨(x0.Bs.set (v1.B.toNat) r3),x0.Ls,x0.Said⟩ : Net))))))
def zPu : Tab := ⟨20,[0,1,2,4,0,16,0,64,128,256,0,1024,2560,4096,0,16384,0,106496,262143,524287],[0,1,2,4,0,16,0,64,128,256,0,1024,2560,4096,0,16384,0,106496,40,393216],[0,1,3,7,0,16,0,64,192,448,0,1024,4032,8128,0,16384,0,131008,262143,524287]⟩
noncomputable abbrev zOO (k : Nat) := Rg Tryz.f148 k
noncomputable abbrev zPS (k : Nat) := Rd Tryz.f148 k
theorem zEN : zc (rg Tryz.f148 3) zPu = true := kr
def zPv : Tab := ⟨20,[0,1,2,4,0,16,0,64,128,256,0,1024,2560,4096,0,16384,0,106496,262143,524287],[0,1,2,4,0,16,0,64,128,256,0,1024,2560,4096,0,16384,0,106496,40,393216],[0,1,3,7,0,16,0,64,192,448,0,1024,4032,8128,0,16384,0,131008,262143,524287]⟩
theorem zEO : zc (rg Tryz.f148 4) zPv = true := kr
theorem zFk (n : Nat) (x0 : Net) (x1 : Int) (x2 : Bool) (x3 : Vec) (r : Net) (H : Qm n x0 x1 x2 x3 = some r) : zE Tryz.prog 148 [.ptr (Net.row x0),.val false [.lit (.int .i64 x1)],.val false [.lit (.bool x2)],.val true (fR (Vec.row x3))] [] [(0,(Net.row r))] := by
 refine zE.of_body tOk Tryz.func148 rfl (c := (.seq (zOO 0) (.seq (zOO 1) (.seq (.seq (zOO 2) (.cond (.tmp 16) (.seq (zPS 3) .ret) .skip)) (zPS 4))))) kr (Nat.le_of_ble_eq_true kr) 1 (rs := []) rfl [] .nil [] [] [(0,(Net.row r))] fun cx=>?_
 show Tr _ _ _ ⟨55,1,[sA 0 0 3 0,sI 1 x1,sB 2 x2,sV 3 (Vec.row x3)],[(0,(Net.row x0))]⟩ _
 unfold Qm at H
 refine gA 1 135 129<|rA 5<|bE H fun v1 ev1 H=> oA Link.row ev1<|dE (tI 78) (.box 0) [(0,0),(1,(x1.toNat))] 4 0 [.sl true 3 [(Net.row x0)]] (Link.row v1) (zQ rfl (zK ev1).2)<|uA 2 389 385<|tS<|gA 1 65921 385 ?_
 cases h1 : x2
 ·have H := qe h1 H
  refine nB_<|tK<|bE H fun v2 ev2 H=> bE H fun r3 er3 H=> Tr.draw mixed 20 kr ⟨55,1,[sA 0 0 3 0],[(0,[cL 11 (x0.Bs.set (v1.B.toNat) r3) zA.row,cL 4 x0.Ls Link.row,cL 7 x0.Said Say.row])]⟩ (fun cx=>?_) ?_
  ·refine mA zEO (zl [0,1,2]++[(3,[19]),(4,[]),(5,[19])]++zl [6,7,8]++[(9,[17,19]),(10,[]),(11,[17,19])]) 8 [⟨[17,19],3,46,47⟩,⟨[17,19],49,44,45⟩,⟨[19],3,40,41⟩,⟨[19],49,38,39⟩] fun cx=>oN zEO 12 zA.row ev2 fun cx=>mA zEO [(14,[]),(15,[17,19]),(16,[17,19])] 4 [⟨[17,19],33,7,52⟩,⟨[17,19],3,50,51⟩,⟨[17,19],3,46,47⟩,⟨[17,19],49,44,45⟩,⟨[19],3,40,41⟩,⟨[19],49,38,39⟩] fun cx=>mC zEO 13<|dE (tI 31) (.box 0) [(0,0),(0,(v1.B.toNat))] 11 0 [.sl true 3 [(Net.row x0)]] (zA.row v2) (zQ rfl (zK ev2).2)<|fA<|mC zEO 17<|LAt.callO tOk [.rd,.rd,.rd] (f := 18) (av := #[.tmp 49,.tmp 51,.tmp 52]) (ats := #[31,3,33]) (d := (some 53)) (ty := 31) (g := none) [(49,zA.row v2)] none kr kr kr [.box 0] (zH6 n v2 v1.Q x3 r3 er3) (zBk (row := [.sl true 3 [(Net.row x0)]]) (q := [(0,0),(0,(v1.B.toNat))]) kr (zQ rfl (zK ev2).2) zC8) kr zC7 (.inr (And.intro (zM (zA.row_mine _) zT) zBl))<|fA<|oN zEO 18 zA.row ev2 fun cx=>sA_ 0x7cf3c000000081 385 ⟨55,1,[(54,.adr (.box 0) [(0,0),(0,(v1.B.toNat))] 11 0),sV 53 (zA.row r3),sV 52 (Vec.row x3),sI 51 v1.Q,sA 50 8 4 3,sI 47 v1.B,sA 46 8 4 2,sR 45 0 3 0 1 false,sA 44 0 3 0,sI 41 v1.B,sA 40 8 4 2,sR 39 0 3 0 1 false,sA 38 0 3 0,sA 7 7 5 0,sA 0 0 3 0],[(8,(Link.row v1)),(7,(Vec.row x3)),(0,(Net.row x0))]⟩<|mC zEO 19<|LAt.storeB tOk (t := 31) (ty := 0) (ad := (.tmp 54)) (x := (.tmp 53)) (g := none) (tI 31) true (zA.row r3) 0 0 (v1.B.toNat) 11 0 11 x0.Bs zA.row v2 r3 kr kr kr kr kr kr kr kr (zK ev2).2 kr kr kr kr ?_
   exact fA<|mE zEO [0] [0]
  exact fY [] [(0,[cL 11 (x0.Bs.set (v1.B.toNat) r3) zA.row,cL 4 x0.Ls Link.row,cL 7 x0.Said Say.row])] H
 have H := qf h1 H
 refine tB_<|bE H fun v4 ev4 H=> bE H fun r5 er5 H=> Tr.draws mixed 20 kr ⟨55,1,[sA 0 0 3 0],[(0,[cL 11 (x0.Bs.set (v1.A.toNat) r5) zA.row,cL 4 x0.Ls Link.row,cL 7 x0.Said Say.row])]⟩ (fun cx=>?_) ?_
 ·refine mA zEN (zl [0,1,2]++[(3,[19]),(4,[]),(5,[19])]++zl [6,7,8]++[(9,[17,19]),(10,[]),(11,[17,19])]) 8 [⟨[17,19],3,27,28⟩,⟨[17,19],49,25,26⟩,⟨[19],3,21,22⟩,⟨[19],49,19,20⟩] fun cx=>oN zEN 12 zA.row ev4 fun cx=>mA zEN [(14,[]),(15,[17,19]),(16,[17,19])] 4 [⟨[17,19],33,7,33⟩,⟨[17,19],3,31,32⟩,⟨[17,19],3,27,28⟩,⟨[17,19],49,25,26⟩,⟨[19],3,21,22⟩,⟨[19],49,19,20⟩] fun cx=>mC zEN 13<|dE (tI 31) (.box 0) [(0,0),(0,(v1.A.toNat))] 11 0 [.sl true 3 [(Net.row x0)]] (zA.row v4) (zQ rfl (zK ev4).2)<|fA<|mC zEN 17<|LAt.callO tOk [.rd,.rd,.rd] (f := 18) (av := #[.tmp 30,.tmp 32,.tmp 33]) (ats := #[31,3,33]) (d := (some 34)) (ty := 31) (g := none) [(30,zA.row v4)] none kr kr kr [.box 0] (zH6 n v4 v1.P x3 r5 er5) (zBk (row := [.sl true 3 [(Net.row x0)]]) (q := [(0,0),(0,(v1.A.toNat))]) kr (zQ rfl (zK ev4).2) zC8) kr zC7 (.inr (And.intro (zM (zA.row_mine _) zT) zBl))<|fA<|oN zEN 18 zA.row ev4 fun cx=>sA_ 67083174017 385 ⟨55,1,[(35,.adr (.box 0) [(0,0),(0,(v1.A.toNat))] 11 0),sV 34 (zA.row r5),sV 33 (Vec.row x3),sI 32 v1.P,sA 31 8 4 1,sI 28 v1.A,sA 27 8 4 0,sR 26 0 3 0 1 false,sA 25 0 3 0,sI 22 v1.A,sA 21 8 4 0,sR 20 0 3 0 1 false,sA 19 0 3 0,sA 7 7 5 0,sA 0 0 3 0],[(8,(Link.row v1)),(7,(Vec.row x3)),(0,(Net.row x0))]⟩<|mC zEN 19<|LAt.storeB tOk (t := 31) (ty := 0) (ad := (.tmp 35)) (x := (.tmp 34)) (g := none) (tI 31) true (zA.row r5) 0 0 (v1.A.toNat) 11 0 11 x0.Bs zA.row v4 r5 kr kr kr kr kr kr kr kr (zK ev4).2 kr kr kr kr ?_
  exact fA<|mE zEN [0] [0]
 exact te<|fY [] [(0,[cL 11 (x0.Bs.set (v1.A.toNat) r5) zA.row,cL 4 x0.Ls Link.row,cL 7 x0.Said Say.row])] H
def Jn (n : Nat) (x0 : Net) (x1 : Event) : Option (Net) :=
  ((idx x0.Said x1.At).bind fun v1 => (bif (decide ((0 : Int) ≤ 0) && (decide ((0 : Int) ≤ x1.At) && decide ((x1.At : Int) ≤ (x0.Said.length : Int)))) then (bif (decide (([] : List Say).length + ((x0.Said.drop ((0 : Int)).toNat).take (((x1.At : Int)).toNat - ((0 : Int)).toNat)).length ≤ 268435456)) then (bif (decide ((0 : Int) ≤ (IntKind.wrap .i64 (x1.At + 1))) && (decide (((IntKind.wrap .i64 (x1.At + 1)) : Int) ≤ (x0.Said.length : Int)) && decide (((x0.Said.length : Int) : Int) ≤ (x0.Said.length : Int)))) then (bif (decide ((([] : List Say) ++ ((x0.Said.drop ((0 : Int)).toNat).take (((x1.At : Int)).toNat - ((0 : Int)).toNat))).length + ((x0.Said.drop (((IntKind.wrap .i64 (x1.At + 1)) : Int)).toNat).take ((((x0.Said.length : Int) : Int)).toNat - (((IntKind.wrap .i64 (x1.At + 1)) : Int)).toNat)).length ≤ 268435456)) then (bif (x1.Ki == 2) then ((ZW n (⟨x0.Bs,x0.Ls,((([] : List Say) ++ ((x0.Said.drop ((0 : Int)).toNat).take (((x1.At : Int)).toNat - ((0 : Int)).toNat))) ++ ((x0.Said.drop (((IntKind.wrap .i64 (x1.At + 1)) : Int)).toNat).take ((((x0.Said.length : Int) : Int)).toNat - (((IntKind.wrap .i64 (x1.At + 1)) : Int)).toNat)))⟩ : Net) v1.Link).bind fun r6 => (bif r6 then ((Qm n (⟨x0.Bs,x0.Ls,((([] : List Say) ++ ((x0.Said.drop ((0 : Int)).toNat).take (((x1.At : Int)).toNat - ((0 : Int)).toNat))) ++ ((x0.Said.drop (((IntKind.wrap .i64 (x1.At + 1)) : Int)).toNat).take ((((x0.Said.length : Int) : Int)).toNat - (((IntKind.wrap .i64 (x1.At + 1)) : Int)).toNat)))⟩ : Net) v1.Link v1.Back v1.V).bind fun r7 => (some r7)) else (some (⟨x0.Bs,x0.Ls,((([] : List Say) ++ ((x0.Said.drop ((0 : Int)).toNat).take (((x1.At : Int)).toNat - ((0 : Int)).toNat))) ++ ((x0.Said.drop (((IntKind.wrap .i64 (x1.At + 1)) : Int)).toNat).take ((((x0.Said.length : Int) : Int)).toNat - (((IntKind.wrap .i64 (x1.At + 1)) : Int)).toNat)))⟩ : Net)))) else (some (⟨x0.Bs,x0.Ls,((([] : List Say) ++ ((x0.Said.drop ((0 : Int)).toNat).take (((x1.At : Int)).toNat - ((0 : Int)).toNat))) ++ ((x0.Said.drop (((IntKind.wrap .i64 (x1.At + 1)) : Int)).toNat).take ((((x0.Said.length : Int) : Int)).toNat - (((IntKind.wrap .i64 (x1.At + 1)) : Int)).toNat)))⟩ : Net))) else none) else none) else none) else none))
def zPq : Tab := ⟨22,[0,0,0,4,8,16,0,64,160,258,0,1024,2048,4096,0,16384,32768,73728,131584,524287,1048575,1572863],[0,0,0,4,8,16,0,64,160,258,0,1024,2048,4096,0,16384,32768,73728,131584,1,524288,1310720],[0,0,0,4,12,28,0,64,252,510,0,1024,3072,7168,0,16384,49152,130048,262142,524287,1048575,2097151]⟩
noncomputable abbrev zPW (k : Nat) := Rg Tryz.f145 k
noncomputable abbrev zOL (k : Nat) := Rd Tryz.f145 k
theorem zw : zc (rg Tryz.f145 2) zPq = true := kr
theorem zKC (n : Nat) (x0 : Net) (x1 : Event) (v1 : Say) (hg2 : (decide ((0 : Int) ≤ 0) && (decide ((0 : Int) ≤ x1.At) && decide ((x1.At : Int) ≤ (x0.Said.length : Int)))) = true) (hg3 : (decide (([] : List Say).length + ((x0.Said.drop ((0 : Int)).toNat).take (((x1.At : Int)).toNat - ((0 : Int)).toNat)).length ≤ 268435456)) = true) (hg4 : (decide ((0 : Int) ≤ (wI (x1.At + 1))) && (decide (((wI (x1.At + 1)) : Int) ≤ (x0.Said.length : Int)) && decide (((x0.Said.length : Int) : Int) ≤ (x0.Said.length : Int)))) = true) (hg5 : (decide ((([] : List Say) ++ ((x0.Said.drop ((0 : Int)).toNat).take (((x1.At : Int)).toNat - ((0 : Int)).toNat))).length + ((x0.Said.drop (((wI (x1.At + 1)) : Int)).toNat).take ((((x0.Said.length : Int) : Int)).toNat - (((wI (x1.At + 1)) : Int)).toNat)).length ≤ 268435456)) = true) (cx : Cx) : AT Tryz.prog cx (rg Tryz.f145 2) [] 22 [] ⟨53,1,[sA 4 4 7 0,sA 3 3 2 0,sA 0 0 3 0],[(0,[cL 11 x0.Bs zA.row,cL 4 x0.Ls Link.row,cF 7 x0.Said Say.row]),(4,(Say.row v1)),(3,(Event.row x1))]⟩ (fun s => s = ⟨53,1,[sA 4 4 7 0,sA 3 3 2 0,sA 0 0 3 0],[(0,[cL 11 x0.Bs zA.row,cL 4 x0.Ls Link.row,cL 7 ((([] : List Say) ++ ((x0.Said.drop ((0 : Int)).toNat).take (((x1.At : Int)).toNat - ((0 : Int)).toNat))) ++ ((x0.Said.drop (((wI (x1.At + 1)) : Int)).toNat).take ((((x0.Said.length : Int) : Int)).toNat - (((wI (x1.At + 1)) : Int)).toNat))) Say.row]),(4,(Say.row v1)),(3,(Event.row x1))]⟩) := by
 refine mA zw (zl [0,2,3,4]++[(5,[8,9,18,21]),(6,[]),(7,[8,9,18,21])]++zl [10,11,12]++[(13,[17,18,21]),(14,[]),(15,[17,18,21]),(16,[])]) 8 [⟨[17,18,21],3,27,28⟩,⟨[17,18,21],51,25,26⟩,⟨[8,9,18,21],3,19,20⟩,⟨[8,9,18,21],51,17,18⟩] fun cx=>mB3 tOk zw 1 8 17 kr (And.intro kr ?_) (And.intro kr ?_) (And.intro kr ?_)
 ·refine lA 1<|fA<|mB2 tOk zw 8 17 kr (And.intro kr ?_) (And.intro kr ?_)
  ·refine LAt.cutG tOk (t := 51) (ty := 51) (e := 127) (x := (.tmp 18)) (lo := none) (hi := (some (.tmp 20))) (d := 21) (g := none) (tI 127) Say.row x0.Said ⟨(.box 0),[(0,0)],2,false,7,(CV.frzEs (x0.Said.map Say.row))⟩ 0 x1.At kr kr kr kr kr kr rfl kr rfl kr kr hg2<|fA<|mB2 tOk zw 9 17 kr (And.intro kr ?_) (And.intro kr ?_)
   ·exact pD Say.row hg3<|fA<|mC zw 17<|LAt.cutG tOk (t := 51) (ty := 51) (e := 127) (x := (.tmp 26)) (lo := (some (.tmp 29))) (hi := none) (d := 30) (g := none) (tI 127) Say.row x0.Said ⟨(.box 0),[(0,0)],2,false,7,(CV.frzEs (x0.Said.map Say.row))⟩ (wI (x1.At + 1)) (x0.Said.length : Int) kr kr kr kr kr kr rfl kr rfl kr kr hg4<|fA<|mC zw 18<|pD Say.row hg5<|fA<|mA zw [(19,[]),(20,[])] 1 [⟨[17,18,21],3,27,28⟩,⟨[17,18,21],51,25,26⟩,⟨[8,9,18,21],3,19,20⟩,⟨[8,9,18,21],51,17,18⟩] fun cx=>mC zw 21<|lA 1<|fA<|mE zw [4,3,0] [0,4,3]
   ·exact LAt.cutG tOk (t := 51) (ty := 51) (e := 127) (x := (.tmp 26)) (lo := (some (.tmp 29))) (hi := none) (d := 30) (g := none) (tI 127) Say.row x0.Said ⟨(.box 0),[(0,0)],2,false,7,(CV.frzEs (x0.Said.map Say.row))⟩ (wI (x1.At + 1)) (x0.Said.length : Int) kr kr kr kr kr kr rfl kr rfl kr kr hg4<|fA<|mC zw 9<|pD Say.row hg3<|fA<|mC zw 18<|pD Say.row hg5<|fA<|mA zw [(19,[]),(20,[])] 1 [⟨[17,18,21],3,27,28⟩,⟨[17,18,21],51,25,26⟩,⟨[8,9,18,21],3,19,20⟩,⟨[8,9,18,21],51,17,18⟩] fun cx=>mC zw 21<|lA 1<|fA<|mE zw [4,3,0] [0,4,3]
  ·exact LAt.cutG tOk (t := 51) (ty := 51) (e := 127) (x := (.tmp 26)) (lo := (some (.tmp 29))) (hi := none) (d := 30) (g := none) (tI 127) Say.row x0.Said ⟨(.box 0),[(0,0)],2,false,7,(CV.frzEs (x0.Said.map Say.row))⟩ (wI (x1.At + 1)) (x0.Said.length : Int) kr kr kr kr kr kr rfl kr rfl kr kr hg4<|fA<|mC zw 8<|LAt.cutG tOk (t := 51) (ty := 51) (e := 127) (x := (.tmp 18)) (lo := none) (hi := (some (.tmp 20))) (d := 21) (g := none) (tI 127) Say.row x0.Said ⟨(.box 0),[(0,0)],2,false,7,(CV.frzEs (x0.Said.map Say.row))⟩ 0 x1.At kr kr kr kr kr kr rfl kr rfl kr kr hg2<|fA<|mC zw 9<|pD Say.row hg3<|fA<|mC zw 18<|pD Say.row hg5<|fA<|mA zw [(19,[]),(20,[])] 1 [⟨[17,18,21],3,27,28⟩,⟨[17,18,21],51,25,26⟩,⟨[8,9,18,21],3,19,20⟩,⟨[8,9,18,21],51,17,18⟩] fun cx=>mC zw 21<|lA 1<|fA<|mE zw [4,3,0] [0,4,3]
 ·refine LAt.cutG tOk (t := 51) (ty := 51) (e := 127) (x := (.tmp 18)) (lo := none) (hi := (some (.tmp 20))) (d := 21) (g := none) (tI 127) Say.row x0.Said ⟨(.box 0),[(0,0)],2,false,7,(CV.frzEs (x0.Said.map Say.row))⟩ 0 x1.At kr kr kr kr kr kr rfl kr rfl kr kr hg2<|fA<|mB2 tOk zw 1 17 kr (And.intro kr ?_) (And.intro kr ?_)
  ·refine lA 1<|fA<|mB2 tOk zw 9 17 kr (And.intro kr ?_) (And.intro kr ?_)
   ·exact pD Say.row hg3<|fA<|mC zw 17<|LAt.cutG tOk (t := 51) (ty := 51) (e := 127) (x := (.tmp 26)) (lo := (some (.tmp 29))) (hi := none) (d := 30) (g := none) (tI 127) Say.row x0.Said ⟨(.box 0),[(0,0)],2,false,7,(CV.frzEs (x0.Said.map Say.row))⟩ (wI (x1.At + 1)) (x0.Said.length : Int) kr kr kr kr kr kr rfl kr rfl kr kr hg4<|fA<|mC zw 18<|pD Say.row hg5<|fA<|mA zw [(19,[]),(20,[])] 1 [⟨[17,18,21],3,27,28⟩,⟨[17,18,21],51,25,26⟩,⟨[8,9,18,21],3,19,20⟩,⟨[8,9,18,21],51,17,18⟩] fun cx=>mC zw 21<|lA 1<|fA<|mE zw [4,3,0] [0,4,3]
   ·exact LAt.cutG tOk (t := 51) (ty := 51) (e := 127) (x := (.tmp 26)) (lo := (some (.tmp 29))) (hi := none) (d := 30) (g := none) (tI 127) Say.row x0.Said ⟨(.box 0),[(0,0)],2,false,7,(CV.frzEs (x0.Said.map Say.row))⟩ (wI (x1.At + 1)) (x0.Said.length : Int) kr kr kr kr kr kr rfl kr rfl kr kr hg4<|fA<|mC zw 9<|pD Say.row hg3<|fA<|mC zw 18<|pD Say.row hg5<|fA<|mA zw [(19,[]),(20,[])] 1 [⟨[17,18,21],3,27,28⟩,⟨[17,18,21],51,25,26⟩,⟨[8,9,18,21],3,19,20⟩,⟨[8,9,18,21],51,17,18⟩] fun cx=>mC zw 21<|lA 1<|fA<|mE zw [4,3,0] [0,4,3]
  ·exact LAt.cutG tOk (t := 51) (ty := 51) (e := 127) (x := (.tmp 26)) (lo := (some (.tmp 29))) (hi := none) (d := 30) (g := none) (tI 127) Say.row x0.Said ⟨(.box 0),[(0,0)],2,false,7,(CV.frzEs (x0.Said.map Say.row))⟩ (wI (x1.At + 1)) (x0.Said.length : Int) kr kr kr kr kr kr rfl kr rfl kr kr hg4<|fA<|mC zw 1<|lA 1<|fA<|mC zw 9<|pD Say.row hg3<|fA<|mC zw 18<|pD Say.row hg5<|fA<|mA zw [(19,[]),(20,[])] 1 [⟨[17,18,21],3,27,28⟩,⟨[17,18,21],51,25,26⟩,⟨[8,9,18,21],3,19,20⟩,⟨[8,9,18,21],51,17,18⟩] fun cx=>mC zw 21<|lA 1<|fA<|mE zw [4,3,0] [0,4,3]
 ·refine LAt.cutG tOk (t := 51) (ty := 51) (e := 127) (x := (.tmp 26)) (lo := (some (.tmp 29))) (hi := none) (d := 30) (g := none) (tI 127) Say.row x0.Said ⟨(.box 0),[(0,0)],2,false,7,(CV.frzEs (x0.Said.map Say.row))⟩ (wI (x1.At + 1)) (x0.Said.length : Int) kr kr kr kr kr kr rfl kr rfl kr kr hg4<|fA<|mB2 tOk zw 1 8 kr (And.intro kr ?_) (And.intro kr ?_)
  ·exact lA 1<|fA<|mC zw 8<|LAt.cutG tOk (t := 51) (ty := 51) (e := 127) (x := (.tmp 18)) (lo := none) (hi := (some (.tmp 20))) (d := 21) (g := none) (tI 127) Say.row x0.Said ⟨(.box 0),[(0,0)],2,false,7,(CV.frzEs (x0.Said.map Say.row))⟩ 0 x1.At kr kr kr kr kr kr rfl kr rfl kr kr hg2<|fA<|mC zw 9<|pD Say.row hg3<|fA<|mC zw 18<|pD Say.row hg5<|fA<|mA zw [(19,[]),(20,[])] 1 [⟨[17,18,21],3,27,28⟩,⟨[17,18,21],51,25,26⟩,⟨[8,9,18,21],3,19,20⟩,⟨[8,9,18,21],51,17,18⟩] fun cx=>mC zw 21<|lA 1<|fA<|mE zw [4,3,0] [0,4,3]
  ·exact LAt.cutG tOk (t := 51) (ty := 51) (e := 127) (x := (.tmp 18)) (lo := none) (hi := (some (.tmp 20))) (d := 21) (g := none) (tI 127) Say.row x0.Said ⟨(.box 0),[(0,0)],2,false,7,(CV.frzEs (x0.Said.map Say.row))⟩ 0 x1.At kr kr kr kr kr kr rfl kr rfl kr kr hg2<|fA<|mC zw 1<|lA 1<|fA<|mC zw 9<|pD Say.row hg3<|fA<|mC zw 18<|pD Say.row hg5<|fA<|mA zw [(19,[]),(20,[])] 1 [⟨[17,18,21],3,27,28⟩,⟨[17,18,21],51,25,26⟩,⟨[8,9,18,21],3,19,20⟩,⟨[8,9,18,21],51,17,18⟩] fun cx=>mC zw 21<|lA 1<|fA<|mE zw [4,3,0] [0,4,3]
theorem zMQ (n : Nat) (x0 : Net) (x1 : Event) (r : Net) (H : Jn n x0 x1 = some r) : zE Tryz.prog 145 [.ptr (Net.row x0),.val true (fR (Event.row x1))] [] [(0,(Net.row r))] := by
 refine zE.of_body tOk Tryz.func145 rfl (c := (.seq (zPW 0) (.seq (zOL 1) (.seq (zOL 2) (.seq (zOL 3) (.cond (.tmp 44) (zPW 4) .skip)))))) kr (Nat.le_of_ble_eq_true kr) 1 (rs := []) rfl [] .nil [] [] [(0,(Net.row r))] fun cx=>?_
 show Tr _ _ _ ⟨53,1,[sA 0 0 3 0,sV 1 (Event.row x1)],[(0,(Net.row x0))]⟩ _
 unfold Jn at H
 refine gA 1 9 9<|bE H fun v1 ev1 H=> Tr.draws mixed 10 kr ⟨53,1,[sA 4 4 7 0,sA 3 3 2 0,sA 0 0 3 0],[(4,(Say.row v1)),(3,(Event.row x1)),(0,(Net.row x0))]⟩ (fun cx=>?_) ?_
 ·refine aA (zl [0,1,2]++[(3,[9]),(4,[]),(5,[9])]) 4 [⟨[9],3,9,10⟩,⟨[9],51,7,8⟩] fun cx=>aO tOk 6 51 0 8 10 11 none ⟨(.box 0),[(0,0)],2,true,7,(x0.Said.map Say.row)⟩ x1.At (x1.At.toNat) (Say.row v1) _ kr kr kr kr kr kr rfl kr (Qz ev1) rfl rfl (fun cx=>?_)
  refine AT.big2 tOk 7 8 kr (And.intro kr ?_) (And.intro kr ?_)
  ·exact dE (tI 127) (.box 0) [(0,0),(2,(x1.At.toNat))] 7 0 [.sl true 3 [(Net.row x0)]] (Say.row v1) (zQ rfl (zK ev1).2)<|fA<|bA 8<|lA 1<|fA<|sA_ 6041 25 ⟨53,1,[sA 4 4 7 0,sV 12 (Say.row v1),sI 10 x1.At,sA 9 3 2 1,sR 8 0 3 2 1 false,sA 7 0 3 2,sA 3 3 2 0,sA 0 0 3 0],[(4,[cI 0,cB false,cI 0,cI 0,cI 0,cI 0,cI 0]),(3,(Event.row x1)),(0,(Net.row x0))]⟩<|bA 9<|lA 1<|fA<|eE [4,3,0] [4,3,0]
  ·exact lA 1<|fA<|bA 7<|dE (tI 127) (.box 0) [(0,0),(2,(x1.At.toNat))] 7 0 [.sl true 3 [(Net.row x0)]] (Say.row v1) (zQ rfl (zK ev1).2)<|fA<|sA_ 6041 25 ⟨53,1,[sV 12 (Say.row v1),sA 4 4 7 0,sI 10 x1.At,sA 9 3 2 1,sR 8 0 3 2 1 false,sA 7 0 3 2,sA 3 3 2 0,sA 0 0 3 0],[(4,[cI 0,cB false,cI 0,cI 0,cI 0,cI 0,cI 0]),(3,(Event.row x1)),(0,(Net.row x0))]⟩<|bA 9<|lA 1<|fA<|eE [4,3,0] [4,3,0]
 refine Tr.frzP 0 2 1<|gE H fun hg2 H=> gE H fun hg3 H=> gE H fun hg4 H=> gE H fun hg5 H=> sT ⟨53,1,[sA 4 4 7 0,sA 3 3 2 0,sA 0 0 3 0],[(0,[cL 11 x0.Bs zA.row,cL 4 x0.Ls Link.row,cF 7 x0.Said Say.row]),(4,(Say.row v1)),(3,(Event.row x1))]⟩<|Tr.draws mixed 22 kr ⟨53,1,[sA 4 4 7 0,sA 3 3 2 0,sA 0 0 3 0],[(0,[cL 11 x0.Bs zA.row,cL 4 x0.Ls Link.row,cL 7 ((([] : List Say) ++ ((x0.Said.drop ((0 : Int)).toNat).take (((x1.At : Int)).toNat - ((0 : Int)).toNat))) ++ ((x0.Said.drop (((wI (x1.At + 1)) : Int)).toNat).take ((((x0.Said.length : Int) : Int)).toNat - (((wI (x1.At + 1)) : Int)).toNat))) Say.row]),(4,(Say.row v1)),(3,(Event.row x1))]⟩ (zKC n x0 x1 v1 hg2 hg3 hg4 hg5)<|tS<|sT ⟨53,1,[sA 4 4 7 0,sA 3 3 2 0,sA 0 0 3 0],[(0,[cL 11 x0.Bs zA.row,cL 4 x0.Ls Link.row,cL 7 ((([] : List Say) ++ ((x0.Said.drop ((0 : Int)).toNat).take (((x1.At : Int)).toNat - ((0 : Int)).toNat))) ++ ((x0.Said.drop (((wI (x1.At + 1)) : Int)).toNat).take ((((x0.Said.length : Int) : Int)).toNat - (((wI (x1.At + 1)) : Int)).toNat))) Say.row]),(4,(Say.row v1)),(3,(Event.row x1))]⟩ ?_
 cases h1 : (x1.Ki == 2)
 ·have H := qe h1 H
  refine Tr.draw mixed 11 kr ⟨53,1,[sB 44 false,sA 4 4 7 0,sA 0 0 3 0],[(0,[cL 11 x0.Bs zA.row,cL 4 x0.Ls Link.row,cL 7 ((([] : List Say) ++ ((x0.Said.drop ((0 : Int)).toNat).take (((x1.At : Int)).toNat - ((0 : Int)).toNat))) ++ ((x0.Said.drop (((wI (x1.At + 1)) : Int)).toNat).take ((((x0.Said.length : Int) : Int)).toNat - (((wI (x1.At + 1)) : Int)).toNat))) Say.row]),(4,(Say.row v1))]⟩ (fun cx=>?_) ?_
  ·exact aA (zl [0,1,2,3]) 7 [⟨[],3,34,35⟩] fun cx=>qA 188978561041 25 [37] h1<|aA (zl [4,5,6,7,8,9,10]) 0 [⟨[],3,34,35⟩] fun cx=>eE [44,4,0] [0,4]
  exact nB_<|tK<|fY [] [(0,[cL 11 x0.Bs zA.row,cL 4 x0.Ls Link.row,cL 7 ((([] : List Say) ++ ((x0.Said.drop ((0 : Int)).toNat).take (((x1.At : Int)).toNat - ((0 : Int)).toNat))) ++ ((x0.Said.drop (((wI (x1.At + 1)) : Int)).toNat).take ((((x0.Said.length : Int) : Int)).toNat - (((wI (x1.At + 1)) : Int)).toNat))) Say.row])] H
 have H := qf h1 H
 refine bE H fun r6 er6 H=> Tr.draw mixed 11 kr ⟨53,1,[sB 44 r6,sA 4 4 7 0,sA 0 0 3 0],[(0,[cL 11 x0.Bs zA.row,cL 4 x0.Ls Link.row,cL 7 ((([] : List Say) ++ ((x0.Said.drop ((0 : Int)).toNat).take (((x1.At : Int)).toNat - ((0 : Int)).toNat))) ++ ((x0.Said.drop (((wI (x1.At + 1)) : Int)).toNat).take ((((x0.Said.length : Int) : Int)).toNat - (((wI (x1.At + 1)) : Int)).toNat))) Say.row]),(4,(Say.row v1))]⟩ (fun cx=>?_) ?_
 ·exact aA [(0,[]),(1,[9]),(2,[]),(3,[])] 7 [⟨[9],3,34,35⟩] fun cx=>qA 188978561041 25 [37] h1<|aA [(4,[]),(5,[]),(6,[9]),(7,[]),(8,[9])] 2 [⟨[9],3,41,42⟩,⟨[9],53,39,40⟩,⟨[9],3,34,35⟩] fun cx=>bA 9<|vB [.rd,.rd] [.box 0] (zD6 n (⟨x0.Bs,x0.Ls,((([] : List Say) ++ ((x0.Said.drop ((0 : Int)).toNat).take (((x1.At : Int)).toNat - ((0 : Int)).toNat))) ++ ((x0.Said.drop (((wI (x1.At + 1)) : Int)).toNat).take ((((x0.Said.length : Int) : Int)).toNat - (((wI (x1.At + 1)) : Int)).toNat)))⟩ : Net) v1.Link r6 er6) (.inr (zM (zJ zN zg) zT))<|fA<|aA [(10,[])] 0 [⟨[9],3,41,42⟩,⟨[9],53,39,40⟩,⟨[9],3,34,35⟩] fun cx=>eE [44,4,0] [0,4]
 cases h2 : r6
 ·have H := qe h2 H
  exact nB_<|tK<|fY [] [(0,[cL 11 x0.Bs zA.row,cL 4 x0.Ls Link.row,cL 7 ((([] : List Say) ++ ((x0.Said.drop ((0 : Int)).toNat).take (((x1.At : Int)).toNat - ((0 : Int)).toNat))) ++ ((x0.Said.drop (((wI (x1.At + 1)) : Int)).toNat).take ((((x0.Said.length : Int) : Int)).toNat - (((wI (x1.At + 1)) : Int)).toNat))) Say.row])] H
 have H := qf h2 H
 exact tB_<|Tr.at<|lA 7<|bE H fun r7 er7 H=> vL [.lend,.rd,.rd,.rd] (zFk n (⟨x0.Bs,x0.Ls,((([] : List Say) ++ ((x0.Said.drop ((0 : Int)).toNat).take (((x1.At : Int)).toNat - ((0 : Int)).toNat))) ++ ((x0.Said.drop (((wI (x1.At + 1)) : Int)).toNat).take ((((x0.Said.length : Int) : Int)).toNat - (((wI (x1.At + 1)) : Int)).toNat)))⟩ : Net) v1.Link v1.Back v1.V r7 er7)<|dA 1 1<|fY [] [(0,(Net.row r7))] H
def zA2 (n : Nat) (x0 : Net) (x1 : Int) (x2 : Bool) : Option (Net) :=
  ((ZW n x0 x1).bind fun r1 => (bif (r1 == x2) then (some x0) else ((idx x0.Ls x1).bind fun v2 => ((idx x0.Bs v2.A).bind fun v3 => ((Qj n v3 v2.P x2).bind fun r4 => ((idx (x0.Bs.set (v2.A.toNat) r4) v2.B).bind fun v5 => ((Qj n v5 v2.Q x2).bind fun r6 => (some (⟨((x0.Bs.set (v2.A.toNat) r4).set (v2.B.toNat) r6),x0.Ls,x0.Said⟩ : Net)))))))))
def zPr : Tab := ⟨20,[0,1,2,4,0,16,0,64,128,256,0,1024,2560,4096,0,16384,0,106496,262143,524287],[0,1,2,4,0,16,0,64,128,256,0,1024,2560,4096,0,16384,0,106496,40,393216],[0,1,3,7,0,16,0,64,192,448,0,1024,4032,8128,0,16384,0,131008,262143,524287]⟩
noncomputable abbrev zPX (k : Nat) := Rg Tryz.f146 k
noncomputable abbrev zPR (k : Nat) := Rd Tryz.f146 k
theorem zEK : zc (rg Tryz.f146 2) zPr = true := kr
def zPs : Tab := ⟨20,[0,1,2,4,0,16,0,64,128,256,0,1024,2560,4096,0,16384,0,106496,262143,524287],[0,1,2,4,0,16,0,64,128,256,0,1024,2560,4096,0,16384,0,106496,40,393216],[0,1,3,7,0,16,0,64,192,448,0,1024,4032,8128,0,16384,0,131008,262143,524287]⟩
theorem zEL : zc (rg Tryz.f146 3) zPs = true := kr
theorem zMP (n : Nat) (x0 : Net) (x1 : Int) (x2 : Bool) (r : Net) (H : zA2 n x0 x1 x2 = some r) : zE Tryz.prog 146 [.ptr (Net.row x0),.val false [.lit (.int .i64 x1)],.val false [.lit (.bool x2)]] [] [(0,(Net.row r))] := by
 refine zE.of_body tOk Tryz.func146 rfl (c := (.seq (.seq (zPX 0) (.cond (.tmp 13) .ret .skip)) (.seq (zPX 1) (.seq (zPR 2) (zPR 3))))) kr (Nat.le_of_ble_eq_true kr) 1 (rs := []) rfl [] .nil [] [] [(0,(Net.row r))] fun cx=>?_
 show Tr _ _ _ ⟨59,1,[sA 0 0 3 0,sI 1 x1,sB 2 x2],[(0,(Net.row x0))]⟩ _
 unfold zA2 at H
 refine tS<|rA 4<|bE H fun r1 er1 H=> vB [.rd,.rd] [.box 0] (zD6 n x0 x1 r1 er1) (.inr (zM (zJ zN zg) zT))<|uA 2 8199 1 ?_
 obtain ⟨h1,H⟩ | ⟨h1,H⟩ := bC H
 ·refine nA h1<|tK<|rA 5<|bE H fun v2 ev2 H=> oA Link.row ev2<|dE (tI 78) (.box 0) [(0,0),(1,(x1.toNat))] 4 0 [.sl true 3 [(Net.row x0)]] (Link.row v2) (zQ rfl (zK ev2).2)<|uA 2 69 65<|bE H fun v3 ev3 H=> bE H fun r4 er4 H=> Tr.draws mixed 20 kr ⟨59,1,[sA 6 6 4 0,sA 0 0 3 0,sB 2 x2],[(0,[cL 11 (x0.Bs.set (v2.A.toNat) r4) zA.row,cL 4 x0.Ls Link.row,cL 7 x0.Said Say.row]),(6,(Link.row v2))]⟩ (fun cx=>?_) ?_
  ·refine mA zEK (zl [0,1,2]++[(3,[19]),(4,[]),(5,[19])]++zl [6,7,8]++[(9,[17,19]),(10,[]),(11,[17,19])]) 8 [⟨[17,19],3,31,32⟩,⟨[17,19],49,29,30⟩,⟨[19],3,25,26⟩,⟨[19],49,23,24⟩] fun cx=>oN zEK 12 zA.row ev3 fun cx=>mA zEK [(14,[]),(15,[17,19]),(16,[])] 4 [⟨[17,19],3,35,36⟩,⟨[17,19],3,31,32⟩,⟨[17,19],49,29,30⟩,⟨[19],3,25,26⟩,⟨[19],49,23,24⟩] fun cx=>mC zEK 13<|dE (tI 31) (.box 0) [(0,0),(0,(v2.A.toNat))] 11 0 [.sl true 3 [(Net.row x0)]] (zA.row v3) (zQ rfl (zK ev3).2)<|fA<|mC zEK 17<|LAt.callO tOk [.rd,.rd,.rd] (f := 20) (av := #[.tmp 34,.tmp 36,.tmp 37]) (ats := #[31,3,4]) (d := (some 38)) (ty := 31) (g := none) [(34,zA.row v3)] none kr kr kr [.box 0] (zFc n v3 v2.P x2 r4 er4) (zBk (row := [.sl true 3 [(Net.row x0)]]) (q := [(0,0),(0,(v2.A.toNat))]) kr (zQ rfl (zK ev3).2) zC8) kr zC7 (.inr (And.intro (zM (zA.row_mine _) zT) zBl))<|fA<|oN zEK 18 zA.row ev3 fun cx=>sA_ 935891828805 65 ⟨59,1,[(39,.adr (.box 0) [(0,0),(0,(v2.A.toNat))] 11 0),sV 38 (zA.row r4),sI 36 v2.P,sA 35 6 4 1,sI 32 v2.A,sA 31 6 4 0,sR 30 0 3 0 1 false,sA 29 0 3 0,sI 26 v2.A,sA 25 6 4 0,sR 24 0 3 0 1 false,sA 23 0 3 0,sA 6 6 4 0,sA 0 0 3 0,sB 2 x2],[(6,(Link.row v2)),(0,(Net.row x0))]⟩<|mC zEK 19<|LAt.storeB tOk (t := 31) (ty := 0) (ad := (.tmp 39)) (x := (.tmp 38)) (g := none) (tI 31) true (zA.row r4) 0 0 (v2.A.toNat) 11 0 11 x0.Bs zA.row v3 r4 kr kr kr kr kr kr kr kr (zK ev3).2 kr kr kr kr ?_
   exact fA<|mE zEK [6,0,2] [0,6]
  refine bE H fun v5 ev5 H=> bE H fun r6 er6 H=> Tr.draw mixed 20 kr ⟨59,1,[sA 0 0 3 0],[(0,[cL 11 ((x0.Bs.set (v2.A.toNat) r4).set (v2.B.toNat) r6) zA.row,cL 4 x0.Ls Link.row,cL 7 x0.Said Say.row])]⟩ (fun cx=>?_) ?_
  ·refine mA zEL (zl [0,1,2]++[(3,[19]),(4,[]),(5,[19])]++zl [6,7,8]++[(9,[17,19]),(10,[]),(11,[17,19])]) 8 [⟨[17,19],3,50,51⟩,⟨[17,19],49,48,49⟩,⟨[19],3,44,45⟩,⟨[19],49,42,43⟩] fun cx=>oN zEL 12 zA.row ev5 fun cx=>mA zEL [(14,[]),(15,[17,19]),(16,[])] 4 [⟨[17,19],3,54,55⟩,⟨[17,19],3,50,51⟩,⟨[17,19],49,48,49⟩,⟨[19],3,44,45⟩,⟨[19],49,42,43⟩] fun cx=>mC zEL 13<|dE (tI 31) (.box 0) [(0,0),(0,(v2.B.toNat))] 11 0 [.sl true 3 [[cL 11 (x0.Bs.set (v2.A.toNat) r4) zA.row,cL 4 x0.Ls Link.row,cL 7 x0.Said Say.row]]] (zA.row v5) (zQ rfl (zK ev5).2)<|fA<|mC zEL 17<|LAt.callO tOk [.rd,.rd,.rd] (f := 20) (av := #[.tmp 53,.tmp 55,.tmp 56]) (ats := #[31,3,4]) (d := (some 57)) (ty := 31) (g := none) [(53,zA.row v5)] none kr kr kr [.box 0] (zFc n v5 v2.Q x2 r6 er6) (zBk (row := [.sl true 3 [[cL 11 (x0.Bs.set (v2.A.toNat) r4) zA.row,cL 4 x0.Ls Link.row,cL 7 x0.Said Say.row]]]) (q := [(0,0),(0,(v2.B.toNat))]) kr (zQ rfl (zK ev5).2) zC8) kr zC7 (.inr (And.intro (zM (zA.row_mine _) zT) zBl))<|fA<|oN zEL 18 zA.row ev5 fun cx=>sA_ 0x6cf3c0000000001 65 ⟨59,1,[(58,.adr (.box 0) [(0,0),(0,(v2.B.toNat))] 11 0),sV 57 (zA.row r6),sI 55 v2.Q,sA 54 6 4 3,sI 51 v2.B,sA 50 6 4 2,sR 49 0 3 0 1 false,sA 48 0 3 0,sI 45 v2.B,sA 44 6 4 2,sR 43 0 3 0 1 false,sA 42 0 3 0,sA 0 0 3 0],[(0,[cL 11 (x0.Bs.set (v2.A.toNat) r4) zA.row,cL 4 x0.Ls Link.row,cL 7 x0.Said Say.row]),(6,(Link.row v2))]⟩ ?_
   exact mC zEL 19<|LAt.storeB tOk (t := 31) (ty := 0) (ad := (.tmp 58)) (x := (.tmp 57)) (g := none) (tI 31) true (zA.row r6) 0 0 (v2.B.toNat) 11 0 11 (x0.Bs.set (v2.A.toNat) r4) zA.row v5 r6 kr kr kr kr kr kr kr kr (zK ev5).2 kr kr kr kr<|fA<|mE zEL [0] [0]
  exact fY [] [(0,[cL 11 ((x0.Bs.set (v2.A.toNat) r4).set (v2.B.toNat) r6) zA.row,cL 4 x0.Ls Link.row,cL 7 x0.Said Say.row])] H
 exact tA h1<|te<|fY [] [(0,(Net.row x0))] H
def Yq (n : Nat) (r1 : Net) (x0 : Net) (x1 : Event) (y5 : Bool) : Option (Net × Bool) :=
  (bif y5 then ((zR n x1.At 0 (IntKind.wrap .i64 ((x0.Ls.length : Int) - 1))).bind fun r6 => (bif (!r6) then (some (r1,false)) else ((zA2 n r1 x1.At (x1.Ki == 5)).bind fun r7 => (some (r7,true))))) else (some (r1,false)))
def Yp (n : Nat) (r1 : Net) (x0 : Net) (x1 : Event) (y4 : Bool) : Option (Net × Bool) :=
  (bif y4 then ((zR n x1.At 0 (IntKind.wrap .i64 ((x0.Said.length : Int) - 1))).bind fun r8 => (bif (!r8) then (some (r1,false)) else ((Jn n r1 x1).bind fun r9 => (some (r9,true))))) else (bif (x1.Ki == 4) then (Yq n r1 x0 x1 true) else (Yq n r1 x0 x1 (x1.Ki == 5))))
def Zl (n : Nat) (r1 : Net) (x0 : Net) (x1 : Event) (y3 : Bool) : Option (Net × Bool) :=
  (bif y3 then ((zR n x1.At 0 (IntKind.wrap .i64 ((x0.Bs.length : Int) - 1))).bind fun r10 => (bif (!r10) then (some (r1,false)) else (bif (x1.Ki == 6) then ((idx x0.Bs x1.At).bind fun v12 => ((zCD n v12).bind fun r13 => ((idx r1.Bs x1.At).bind fun v14 => (some ((⟨(r1.Bs.set (x1.At.toNat) r13),r1.Ls,r1.Said⟩ : Net),true))))) else ((J5 n r1 x1.At).bind fun r11 => (some (r11,true)))))) else (bif (x1.Ki == 2) then (Yp n r1 x0 x1 true) else (Yp n r1 x0 x1 (x1.Ki == 3))))
def YE (n : Nat) (x0 : Net) (x1 : Event) : Option (Net × Bool) :=
  ((YU n x0).bind fun r1 => ((QH n x0).bind fun r2 => (bif (!r2) then (some (r1,false)) else (bif (x1.Ki == 1) then (Zl n r1 x0 x1 true) else (Zl n r1 x0 x1 (x1.Ki == 6))))))
def zQC : Tab := ⟨13,[0,1,0,4,0,16,0,64,160,256,512,2047,4095],[0,1,0,4,0,16,0,64,160,256,512,10,3072],[0,1,0,4,0,16,0,64,240,496,1008,2047,4095]⟩
theorem zFR : zc (rg Tryz.f67 10) zQC = true := kr
theorem zH8 (n : Nat) (x0 : Net) (x1 : Event) (r : Net × Bool) (H : YE n x0 x1 = some r) : zE Tryz.prog 67 [.val true (fR (Net.row x0)),.val true (fR (Event.row x1))] [.val true (Net.row r.1),.val false [.lit (.bool r.2)]] [] := by
 refine cW Tryz.func67 (fun g d => sl [g 0,g 1,sl [g 2] (cn 11 (sl [g 3] .ret) .skip),sl [g 4] (.block 0 (sl [sl [g 5] (cn 15 .skip (g 6))] (cn 15 (sl [sl [g 7] (cn 25 (sl [g 8] .ret) .skip),sl [g 9] (cn 29 (d 10) (g 11)),g 12] .ret) (sl [sl [g 13] (cn 46 .skip (g 14))] (cn 46 (sl [sl [g 15] (cn 56 (sl [g 16] .ret) .skip),g 17,g 18] .ret) (sl [sl [g 19] (cn 61 .skip (g 20))] (cn 61 (sl [sl [g 21] (cn 71 (sl [g 22] .ret) .skip),g 23,g 24] .ret) .skip))))))),g 25] .ret) [.cell 4 53,.tmp 5] fun cx=>?_
 unfold YE at H
 refine gA 4 28 28<|rA 1<|bE H fun r1 er1 H=> vA [.rd] (zDU n x0 r1 er1)<|uA 2 92 92<|tS<|rA 1<|bE H fun r2 er2 H=> vA [.rd] (zHG n x0 r2 er2)<|uA 1 2140 92 ?_
 obtain ⟨h1,H⟩ | ⟨h1,H⟩ := bC H
 ·refine nA h1<|tK<|tS<|gA 2 16476 92<|tB<|tS<|Tr.mid (ι := Bool) (fun v => ⟨81,0,[sB 15 v,sI 14 x1.Ki,sA 6 6 3 0,sA 4 4 3 0,sA 3 3 2 0,sA 2 2 3 0],[(6,(Net.row r1)),(4,[cL 11 ([] : List zA) zA.row,cL 4 ([] : List Link) Link.row,cL 7 ([] : List Say) Say.row]),(3,(Event.row x1)),(2,(fR (Net.row x0)))]⟩) (fun v => Zl n r1 x0 x1 v = some r) ?_ ?_
  ·refine gA 2 49244 92 ?_
   obtain ⟨h11,H⟩ | ⟨h11,H⟩ := bC H
   ·exact qT [15] h11<|nB_<|eA 2 49244 92<|jA (x1.Ki == 6) H [15,14,6,4,3,2] [6,4,3,2]
   exact qT [15] h11<|tB_<|tK<|jA true H [15,14,6,4,3,2] [6,4,3,2]
  rintro y3 H
  have H : (Zl n r1 x0 x1 y3) = some r := H
  unfold Zl at H
  cases h2 : y3
  ·have H := qe h2 H
   refine nB_<|tS<|Tr.mid (ι := Bool) (fun v => ⟨81,0,[sB 46 v,sI 14 x1.Ki,sA 6 6 3 0,sA 4 4 3 0,sA 3 3 2 0,sA 2 2 3 0],[(6,(Net.row r1)),(4,[cL 11 ([] : List zA) zA.row,cL 4 ([] : List Link) Link.row,cL 7 ([] : List Say) Say.row]),(3,(Event.row x1)),(2,(fR (Net.row x0)))]⟩) (fun v => Yp n r1 x0 x1 v = some r) ?_ ?_
   ·refine gA 2 70368744194140 92 ?_
    obtain ⟨h8,H⟩ | ⟨h8,H⟩ := bC H
    ·exact qT [46] h8<|nB_<|eA 2 70368744194140 92<|jA (x1.Ki == 3) H [46,14,6,4,3,2] [6,4,3,2]
    exact qT [46] h8<|tB_<|tK<|jA true H [46,14,6,4,3,2] [6,4,3,2]
   rintro y4 H
   have H : (Yp n r1 x0 x1 y4) = some r := H
   unfold Yp at H
   cases h3 : y4
   ·have H := qe h3 H
    refine nB_<|tS<|Tr.mid (ι := Bool) (fun v => ⟨81,0,[sB 61 v,sA 6 6 3 0,sA 4 4 3 0,sA 3 3 2 0,sA 2 2 3 0],[(6,(Net.row r1)),(4,[cL 11 ([] : List zA) zA.row,cL 4 ([] : List Link) Link.row,cL 7 ([] : List Say) Say.row]),(3,(Event.row x1)),(2,(fR (Net.row x0)))]⟩) (fun v => Yq n r1 x0 x1 v = some r) ?_ ?_
    ·refine gA 2 0x200000000000405c 92 ?_
     obtain ⟨h6,H⟩ | ⟨h6,H⟩ := bC H
     ·exact qT [61] h6<|nB_<|eA 2 0x200000000000005c 92<|jA (x1.Ki == 5) H [61,6,4,3,2] [6,4,3,2]
     exact qT [61] h6<|tB_<|tK<|jA true H [61,6,4,3,2] [6,4,3,2]
    rintro y5 H
    have H : (Yq n r1 x0 x1 y5) = some r := H
    unfold Yq at H
    cases h4 : y5
    ·have H := qe h4 H
     exact nB_<|tK<|gA 3 48 16<|te (fJ [(true,(Net.row r1)),(false,[cB false])] H)
    have H := qf h4 H
    refine tB_<|tS<|rA 4<|kF x0.Ls Link.row<|lA 1<|bE H fun r6 er6 H=> vA [.rd,.rd,.rd] (zS n x1.At 0 (wI ((x0.Ls.length : Int) - 1)) r6 er6)<|uA 1 0x800000000000000058 88 ?_
    obtain ⟨h5,H⟩ | ⟨h5,H⟩ := bC H
    ·exact nA h5<|tK<|rA 5<|bE H fun r7 er7 H=> vL [.lend,.rd,.rd] (zMP n r1 x1.At (x1.Ki == 5) r7 er7)<|dA 80 80<|gA 3 48 16<|te (fJ [(true,(Net.row r7)),(false,[cB true])] H)
    exact tA h5<|gA 3 48 16<|te (fJ [(true,(Net.row r1)),(false,[cB false])] H)
   have H := qf h3 H
   refine tB_<|tS<|rA 4<|kF x0.Said Say.row<|lA 1<|bE H fun r8 er8 H=> vA [.rd,.rd,.rd] (zS n x1.At 0 (wI ((x0.Said.length : Int) - 1)) r8 er8)<|uA 1 72057594037928024 88 ?_
   obtain ⟨h7,H⟩ | ⟨h7,H⟩ := bC H
   ·exact nA h7<|tK<|rA 1<|bE H fun r9 er9 H=> vL [.lend,.rd] (zMQ n r1 x1 r9 er9)<|dA 80 80<|gA 3 48 16<|te (fJ [(true,(Net.row r9)),(false,[cB true])] H)
   exact tA h7<|gA 3 48 16<|te (fJ [(true,(Net.row r1)),(false,[cB false])] H)
  have H := qf h2 H
  refine tB_<|tS<|rA 4<|kF x0.Bs zA.row<|lA 1<|bE H fun r10 er10 H=> vA [.rd,.rd,.rd] (zS n x1.At 0 (wI ((x0.Bs.length : Int) - 1)) r10 er10)<|uA 1 33554524 92 ?_
  obtain ⟨h9,H⟩ | ⟨h9,H⟩ := bC H
  ·refine nA h9<|tK<|tS<|gA 3 536871004 92 ?_
   obtain ⟨h10,H⟩ | ⟨h10,H⟩ := bC H
   ·exact nA h10<|Tr.at<|lA 2<|bE H fun r11 er11 H=> vL [.lend,.rd] (zKr n r1 x1.At r11 er11)<|dA 80 80<|gA 3 48 16<|te (fJ [(true,(Net.row r11)),(false,[cB true])] H)
   refine tA h10<|bE H fun v12 ev12 H=> bE H fun r13 er13 H=> bE H fun v14 ev14 H=> Tr.draw mixed 13 kr ⟨81,0,[sA 6 6 3 0,sA 4 4 3 0],[(6,[cL 11 (r1.Bs.set (x1.At.toNat) r13) zA.row,cL 4 r1.Ls Link.row,cL 7 r1.Said Say.row]),(4,[cL 11 ([] : List zA) zA.row,cL 4 ([] : List Link) Link.row,cL 7 ([] : List Say) Say.row])]⟩ (fun cx=>?_) ?_
   ·exact mA zFR [(0,[]),(1,[12]),(2,[]),(3,[12]),(4,[]),(5,[10,12]),(6,[]),(7,[10,12])] 5 [⟨[10,12],3,36,37⟩,⟨[10,12],49,34,35⟩,⟨[12],3,32,33⟩,⟨[12],49,30,31⟩] fun cx=>iN zFR 8 zA.row ev12 fun cx=>mA zFR [(9,[])] 3 [⟨[10,12],3,36,37⟩,⟨[10,12],49,34,35⟩,⟨[12],3,32,33⟩,⟨[12],49,30,31⟩] fun cx=>mC zFR 10<|vA [.rd] (zOG n v12 r13 er13)<|fA<|oN zFR 11 zA.row ev14 fun cx=>mC zFR 12<|LAt.storeB tOk (t := 31) (ty := 0) (ad := (.tmp 41)) (x := (.tmp 40)) (g := none) (tI 31) true (zA.row r13) 6 0 (x1.At.toNat) 11 0 11 r1.Bs zA.row v14 r13 kr kr kr kr kr kr kr kr (zK ev14).2 kr kr kr kr<|fA<|mE zFR [6,4] [6,4]
   exact gA 3 48 16<|te (fJ [(true,[cL 11 (r1.Bs.set (x1.At.toNat) r13) zA.row,cL 4 r1.Ls Link.row,cL 7 r1.Said Say.row]),(false,[cB true])] H)
  exact tA h9<|gA 3 48 16<|te (fJ [(true,(Net.row r1)),(false,[cB false])] H)
 exact tA h1<|gA 3 48 16<|te (fJ [(true,(Net.row r1)),(false,[cB false])] H)
def zBU (n : Nat) (y23 : (List Int)) (y24 : Int) (y25 : Int) (y26 : (List zA)) (y27 : (List Link)) (y28 : (List Say)) : Option (Net × Src) :=
  (some ((⟨y26,y27,y28⟩ : Net),(⟨y23,y24,y25⟩ : Src)))
def QZ (n : Nat) : Nat → Int → (List Int) → Int → Int → (List zA) → (List Link) → (List Say) → Option (((List Int) × Int × Int × (List zA) × (List Link) × (List Say)) ⊕ (Net × Src))
  | 0,_,_,_,_,_,_,_ => none
  | mo29 + 1,y16,y17,y18,y19,y20,y21,y22 => (bif (decide (y16 > 0)) then ((Ye n (⟨y17,y18,y19⟩ : Src) (⟨y20,y21,y22⟩ : Net)).bind fun r30 => ((YE n (⟨y20,y21,y22⟩ : Net) r30.1).bind fun r31 => (QZ n mo29 (IntKind.wrap .i64 (y16 - 1)) r30.2.b r30.2.i r30.2.h r31.1.Bs r31.1.Ls r31.1.Said))) else (some (Sum.inl (y17,y18,y19,y20,y21,y22))))
def J2 (n : Nat) (r5 : Net) (x1 : Int) (y11 : (List zA)) (y12 : (List Int)) (y13 : Int) (y14 : Int) : Option (Net × Src) :=
  ((zG n (⟨y12,y13,y14⟩ : Src) (IntKind.wrap .i64 (x1 + 1))).bind fun r15 => ((QZ n n r15.1 r15.2.b r15.2.i r15.2.h y11 r5.Ls r5.Said).bind fun o => match o with | .inl (y23,y24,y25,y26,y27,y28) => (zBU n y23 y24 y25 y26 y27 y28) | .inr r => some r))
def J3 (n : Nat) (k : (Int × (List zA) × (List Int) × Int × Int → Option (((List zA) × (List Int) × Int × Int) ⊕ (Net × Src)))) (y6 : Int) (y38 : (List zA)) (y39 : (List Int)) (y40 : Int) (y41 : Int) : Option (((List zA) × (List Int) × Int × Int) ⊕ (Net × Src)) :=
  (k ((IntKind.wrap .i64 (y6 + 1)),y38,y39,y40,y41))
def Qa (n : Nat) : Nat → Int → Int → (List zA) → (List Int) → Int → Int → Option (((List zA) × (List Int) × Int × Int) ⊕ (Net × Src))
  | 0,_,_,_,_,_,_ => none
  | mo42 + 1,y6,y33,y34,y35,y36,y37 => ((idx y34 y6).bind fun v43 => (bif (decide (y33 < (v43.Ps.length : Int))) then ((zX n (⟨y35,y36,y37⟩ : Src) [1,1,2,5,20]).bind fun r44 => ((idx v43.Ps y33).bind fun v45 => (Qa n mo42 y6 (IntKind.wrap .i64 (y33 + 1)) (y34.set (y6.toNat) (⟨v43.Id,v43.Name,(v43.Ps.set (y33.toNat) (⟨v45.Up,r44.1,v45.Has,v45.Hd⟩ : Pt)),v43.F,v43.V,v43.Tk,v43.Pa,v43.Wo,v43.Dr,v43.Ve⟩ : zA)) r44.2.b r44.2.i r44.2.h))) else (some (Sum.inl (y34,y35,y36,y37)))))
def ZZ (n : Nat) : Nat → Int → (List zA) → (List Int) → Int → Int → Option (((List zA) × (List Int) × Int × Int) ⊕ (Net × Src))
  | 0,_,_,_,_,_ => none
  | mo32 + 1,y6,y7,y8,y9,y10 => (bif (decide (y6 < (y7.length : Int))) then ((Qa n n y6 0 y7 y8 y9 y10).bind fun o => match o with | .inl (y38,y39,y40,y41) => (J3 n (fun v => ZZ n mo32 v.1 v.2.1 v.2.2.1 v.2.2.2.1 v.2.2.2.2) y6 y38 y39 y40 y41) | .inr r => some (Sum.inr r)) else (some (Sum.inl (y7,y8,y9,y10))))
def zA1 (n : Nat) (x0 : Src) (x1 : Int) : Option (Net × Src) :=
  ((zG n x0 6).bind fun r1 => ((zG n r1.2 4).bind fun r2 => ((zBt n r2.2 (IntKind.wrap .i64 (1 + r1.1))).bind fun r3 => ((zAV n r3.2 (IntKind.wrap .i64 (1 + r1.1)) (IntKind.wrap .i64 (2 + r2.1))).bind fun r4 => ((zBn n r3.1 (IntKind.wrap .i64 (2 + r2.1)) r4.1).bind fun r5 => ((ZZ n n 0 r5.Bs r4.2.b r4.2.i r4.2.h).bind fun o => match o with | .inl (y11,y12,y13,y14) => (J2 n r5 x1 y11 y12 y13 y14) | .inr r => some r))))))
def zO0 : Tab := ⟨13,[0,1,0,6,8,16,0,0,0,384,1023,2047,3071],[0,1,0,6,8,16,0,0,0,384,96,1024,2560],[0,1,0,7,15,31,0,0,0,384,1023,2047,4095]⟩
noncomputable abbrev zC9 (k : Nat) := Rg Tryz.f108 k
noncomputable abbrev zPN (k : Nat) := Rd Tryz.f108 k
theorem Zo : zc (rg Tryz.f108 10) zO0 = true := kr
theorem zMO (n : Nat) (x0 : Src) (x1 : Int) (r : Net × Src) (H : zA1 n x0 x1 = some r) : zE Tryz.prog 108 [.ptr (fR (Src.row x0)),.val false [.lit (.int .i64 x1)]] [.val true (Net.row r.1)] [(0,(fR (Src.row r.2)))] := by
 refine zE.of_body tOk Tryz.func108 rfl (c := (.seq (zC9 0) (.seq (zC9 1) (.seq (zC9 2) (.seq (zC9 3) (.seq (.seq (zC9 4) (.block 0 (.loop (.seq (.seq (zC9 5) (.cond (.tmp 30) .skip (.exit 0))) (.seq (.block 1 (.seq (zC9 7) (.block 2 (.loop (.seq (.seq (zC9 8) (.cond (.tmp 41) .skip (.exit 2))) (.seq (.block 3 (zPN 10)) (zC9 9))))))) (zC9 6)))))) (.seq (.seq (zC9 11) (.block 4 (.loop (.seq (.seq (zC9 12) (.cond (.tmp 61) .skip (.exit 4))) (.seq (.block 5 (zPN 14)) (zC9 13)))))) (.seq (zC9 15) .ret)))))))) kr (Nat.le_of_ble_eq_true kr) 1 (rs := [.cell 4 53]) rfl [] .nil [(true,(Net.row r.1))] [] [(0,(fR (Src.row r.2)))] fun cx=>?_
 show Tr _ _ _ ⟨73,1,[sA 0 0 3 0,sI 1 x1],[(0,(fR (Src.row x0)))]⟩ _
 unfold zA1 at H
 refine gA 1 19 17<|rA 1<|bE H fun r1 er1 H=> vL [.lend,.rd] (zL n x0 6 r1 er1)<|uA 2 51 17<|rA 1<|bE H fun r2 er2 H=> vL [.lend,.rd] (zL n r1.2 4 r2 er2)<|uA 2 115 17<|rA 2<|bE H fun r3 er3 H=> vL [.lend,.rd] (zMn n r2.2 (wI (1 + r1.1)) r3 er3)<|lA 4<|bE H fun r4 er4 H=> vL [.lend,.rd,.rd] (zLZ n r3.2 (wI (1 + r1.1)) (wI (2 + r2.1)) r4 er4)<|bE H fun r5 er5 H=> vA [.rd,.rd,.rd] (zMh n r3.1 (wI (2 + r2.1)) r4.1 r5 er5)<|uA 2 147 145<|tS<|gA 1 403 145 ?_
 obtain ⟨o32,eo32,Ho32⟩ := bs H
 clear H
 refine Tr.mid (ι := (List zA) × (List Int) × Int × Int) (fun v => ⟨73,1,[sA 7 7 3 0,sA 4 4 3 0,sA 0 0 3 0,sI 1 x1],[(7,[cL 11 v.1 zA.row,cL 4 r5.Ls Link.row,cL 7 r5.Said Say.row]),(0,[cF 1 v.2.1 zZ,cI v.2.2.1,cI v.2.2.2]),(4,[cL 11 ([] : List zA) zA.row,cL 4 ([] : List Link) Link.row,cL 7 ([] : List Say) Say.row])]⟩) (fun v => J2 n r5 x1 v.1 v.2.1 v.2.2.1 v.2.2.2 = some r) ?_ ?_
 ·refine tB<|Tr.loop (ι := Nat × (Int × (List zA) × (List Int) × Int × Int)) (fun v => ⟨73,1,[sI 8 v.2.1,sA 7 7 3 0,sA 4 4 3 0,sA 0 0 3 0,sI 1 x1],[(7,[cL 11 v.2.2.1 zA.row,cL 4 r5.Ls Link.row,cL 7 r5.Said Say.row]),(0,[cF 1 v.2.2.2.1 zZ,cI v.2.2.2.2.1,cI v.2.2.2.2.2]),(4,[cL 11 ([] : List zA) zA.row,cL 4 ([] : List Link) Link.row,cL 7 ([] : List Say) Say.row])]⟩) (fun v => ZZ n v.1 v.2.1 v.2.2.1 v.2.2.2.1 v.2.2.2.2.1 v.2.2.2.2.2 = some o32) (fun v => v.1) (n,(0,r5.Bs,r4.2.b,r4.2.i,r4.2.h)) eo32 (St.sub_of [8,7,4,0,1] [7,0,4] kr) ?_
  rintro ⟨_ | mo32,y6,y7,y8,y9,y10⟩ H
  ·exact nN H
  have H : ZZ n (mo32+1) y6 y7 y8 y9 y10 = some o32 := H
  rw [ZZ] at H
  refine tS<|rA 3<|kO y7 zA.row<|uA 1 1073742227 145 ?_
  obtain ⟨h2,H⟩ | ⟨h2,H⟩ := bC H
  ·refine nA h2<|Tr.exit<|aJ ?_
   cases H
   exact jA (y7,y8,y9,y10) Ho32 [7,4,0,1] [7,0,4]
  refine tA h2<|tK<|tS<|tB<|gA 1 915 145 ?_
  obtain ⟨o42,eo42,Ho42⟩ := bs H
  clear H
  refine Tr.mid (ι := (List zA) × (List Int) × Int × Int) (fun v => ⟨73,1,[sI 8 y6,sA 7 7 3 0,sA 4 4 3 0,sA 0 0 3 0,sI 1 x1],[(7,[cL 11 v.1 zA.row,cL 4 r5.Ls Link.row,cL 7 r5.Said Say.row]),(0,[cF 1 v.2.1 zZ,cI v.2.2.1,cI v.2.2.2]),(4,[cL 11 ([] : List zA) zA.row,cL 4 ([] : List Link) Link.row,cL 7 ([] : List Say) Say.row])]⟩) (fun v => J3 n (fun v => ZZ n mo32 v.1 v.2.1 v.2.2.1 v.2.2.2.1 v.2.2.2.2) y6 v.1 v.2.1 v.2.2.1 v.2.2.2 = some o32) ?_ ?_
  ·refine tB<|Tr.loop (ι := Nat × (Int × (List zA) × (List Int) × Int × Int)) (fun v => ⟨73,1,[sI 9 v.2.1,sI 8 y6,sA 7 7 3 0,sA 4 4 3 0,sA 0 0 3 0,sI 1 x1],[(7,[cL 11 v.2.2.1 zA.row,cL 4 r5.Ls Link.row,cL 7 r5.Said Say.row]),(0,[cF 1 v.2.2.2.1 zZ,cI v.2.2.2.2.1,cI v.2.2.2.2.2]),(4,[cL 11 ([] : List zA) zA.row,cL 4 ([] : List Link) Link.row,cL 7 ([] : List Say) Say.row])]⟩) (fun v => Qa n v.1 y6 v.2.1 v.2.2.1 v.2.2.2.1 v.2.2.2.2.1 v.2.2.2.2.2 = some o42) (fun v => v.1) (n,(0,y7,y8,y9,y10)) eo42 (St.sub_of [9,8,7,4,0,1] [7,0,4] kr) ?_
   rintro ⟨_ | mo42,y33,y34,y35,y36,y37⟩ H
   ·exact nN H
   have H : Qa n (mo42+1) y6 y33 y34 y35 y36 y37 = some o42 := H
   rw [Qa] at H
   refine tS<|rA 4<|bE H fun v43 ev43 H=> oA zA.row ev43<|lA 1<|dE (tI 24) (.box 7) [(0,0),(0,(y6.toNat))] 11 2 [.sl true 3 [[cL 11 y34 zA.row,cL 4 r5.Ls Link.row,cL 7 r5.Said Say.row]]] (zA.row v43) (zQ rfl (zK ev43).2)<|lL tOk 24 3 100 39 40 none ⟨(.box 7),[(0,0),(0,(y6.toNat))],2,true,8,(v43.Ps.map Pt.row)⟩ (v43.Ps).length _ kr kr kr kr (zBm (row := [.sl true 3 [[cL 11 y34 zA.row,cL 4 r5.Ls Link.row,cL 7 r5.Said Say.row]]]) (e := zA.row v43) kr kr (zQ rfl (zK ev43).2) rfl rfl) (zM4 _ _) rfl<|uA 1 2199023256467 145 ?_
   obtain ⟨h3,H⟩ | ⟨h3,H⟩ := bC H
   ·refine nA h3<|Tr.exit<|aJ ?_
    cases H
    exact jA (y34,y35,y36,y37) Ho42 [8,7,4,0,1] [7,0,4]
   refine tA h3<|tK<|tS<|tB<|bE H fun r44 er44 H=> bE H fun v45 ev45 H=> Tr.draw mixed 13 kr ⟨73,1,[sI 9 y33,sI 8 y6,sA 7 7 3 0,sA 4 4 3 0,sA 0 0 3 0,sI 1 x1],[(7,[cL 11 (y34.set (y6.toNat) (⟨v43.Id,v43.Name,(v43.Ps.set (y33.toNat) (⟨v45.Up,r44.1,v45.Has,v45.Hd⟩ : Pt)),v43.F,v43.V,v43.Tk,v43.Pa,v43.Wo,v43.Dr,v43.Ve⟩ : zA)) zA.row,cL 4 r5.Ls Link.row,cL 7 r5.Said Say.row]),(0,(fR (Src.row r44.2))),(4,[cL 11 ([] : List zA) zA.row,cL 4 ([] : List Link) Link.row,cL 7 ([] : List Say) Say.row])]⟩ (fun cx=>?_) ?_
   ·refine mA Zo [(0,[]),(1,[12]),(2,[])] 10 [⟨[12],49,44,45⟩] fun cx=>oN Zo 3 zA.row ev43 fun cx=>mA Zo (zl [4,6,7]) 6 [⟨[12],49,44,45⟩] fun cx=>mB2 tOk Zo 5 8 kr (And.intro kr ?_) (And.intro kr ?_)
    ·refine dE (tI 24) (.box 7) [(0,0),(0,(y6.toNat))] 11 2 [.sl true 3 [[cL 11 y34 zA.row,cL 4 r5.Ls Link.row,cL 7 r5.Said Say.row]]] (zA.row v43) (zQ rfl (zK ev43).2)<|fA<|mC Zo 8<|lA 1<|fA<|mC Zo 9<|vL [.lend,.rd] (zj n (⟨y35,y36,y37⟩ : Src) [1,1,2,5,20] r44 er44)<|fA<|mC Zo 10<|LAt.indexD tOk (t := 24) (ty := 0) (et := 100) (x := (.tmp 49)) (y := (.tmp 50)) (d := 54) (g := none) (tI 100) ⟨(.box 7),[(0,0),(0,(y6.toNat))],2,true,8,(v43.Ps.map Pt.row)⟩ .i64 y33 (y33.toNat) (Pt.row v45) kr kr kr kr kr kr kr (zBm (row := [.sl true 3 [[cL 11 y34 zA.row,cL 4 r5.Ls Link.row,cL 7 r5.Said Say.row]]]) (e := zA.row v43) kr kr (zQ rfl (zK ev43).2) rfl rfl) rfl kr (Qz ev45) rfl<|fA<|mA Zo [(11,[])] 1 [⟨[12],49,44,45⟩] fun cx=>sA_ 0xa0300000000393 145 ⟨73,1,[(55,.adr (.box 7) [(0,0),(0,(y6.toNat)),(2,(y33.toNat))] 8 1),sI 53 r44.1,sR 45 7 3 0 1 false,sA 44 7 3 0,sI 9 y33,sI 8 y6,sA 7 7 3 0,sA 4 4 3 0,sA 0 0 3 0,sI 1 x1],[(0,(fR (Src.row r44.2))),(7,[cL 11 y34 zA.row,cL 4 r5.Ls Link.row,cL 7 r5.Said Say.row]),(4,[cL 11 ([] : List zA) zA.row,cL 4 ([] : List Link) Link.row,cL 7 ([] : List Say) Say.row])]⟩<|mC Zo 12<|LAt.storeK tOk (t := 3) (ty := 0) (ad := (.tmp 55)) (x := (.tmp 53)) (g := none) (tI 3) false [cI r44.1] (.box 7) [(0,0),(0,(y6.toNat)),(2,(y33.toNat))] [(0,(y6.toNat)),(2,(y33.toNat))] 8 1 [.sl true 3 [[cL 11 y34 zA.row,cL 4 r5.Ls Link.row,cL 7 r5.Said Say.row]]] (Pt.row v45) [cL 11 y34 zA.row,cL 4 r5.Ls Link.row,cL 7 r5.Said Say.row] [cL 11 (y34.set (y6.toNat) (⟨v43.Id,v43.Name,(v43.Ps.set (y33.toNat) (⟨v45.Up,r44.1,v45.Has,v45.Hd⟩ : Pt)),v43.F,v43.V,v43.Tk,v43.Pa,v43.Wo,v43.Dr,v43.Ve⟩ : zA)) zA.row,cL 4 r5.Ls Link.row,cL 7 r5.Said Say.row] kr kr kr kr kr kr (zBZ rfl (zK ev43).2 rfl (zK ev45).2) rfl (by intro h; cases h) kr kr rfl (zG7 (new := (⟨v43.Id,v43.Name,(v43.Ps.set (y33.toNat) (⟨v45.Up,r44.1,v45.Has,v45.Hd⟩ : Pt)),v43.F,v43.V,v43.Tk,v43.Pa,v43.Wo,v43.Dr,v43.Ve⟩ : zA)) (new2 := (⟨v45.Up,r44.1,v45.Has,v45.Hd⟩ : Pt)) rfl (zK ev43).2 rfl (zK ev45).2 kr kr) kr ?_
     exact fA<|mE Zo [9,8,7,4,0,1] [7,0,4]
    ·refine lA 1<|fA<|mB2 tOk Zo 5 9 kr (And.intro kr ?_) (And.intro kr ?_)
     ·refine dE (tI 24) (.box 7) [(0,0),(0,(y6.toNat))] 11 2 [.sl true 3 [[cL 11 y34 zA.row,cL 4 r5.Ls Link.row,cL 7 r5.Said Say.row]]] (zA.row v43) (zQ rfl (zK ev43).2)<|fA<|mC Zo 9<|vL [.lend,.rd] (zj n (⟨y35,y36,y37⟩ : Src) [1,1,2,5,20] r44 er44)<|fA<|mC Zo 10<|LAt.indexD tOk (t := 24) (ty := 0) (et := 100) (x := (.tmp 49)) (y := (.tmp 50)) (d := 54) (g := none) (tI 100) ⟨(.box 7),[(0,0),(0,(y6.toNat))],2,true,8,(v43.Ps.map Pt.row)⟩ .i64 y33 (y33.toNat) (Pt.row v45) kr kr kr kr kr kr kr (zBm (row := [.sl true 3 [[cL 11 y34 zA.row,cL 4 r5.Ls Link.row,cL 7 r5.Said Say.row]]]) (e := zA.row v43) kr kr (zQ rfl (zK ev43).2) rfl rfl) rfl kr (Qz ev45) rfl<|fA<|mA Zo [(11,[])] 1 [⟨[12],49,44,45⟩] fun cx=>sA_ 0xa0300000000393 145 ⟨73,1,[(55,.adr (.box 7) [(0,0),(0,(y6.toNat)),(2,(y33.toNat))] 8 1),sI 53 r44.1,sR 45 7 3 0 1 false,sA 44 7 3 0,sI 9 y33,sI 8 y6,sA 7 7 3 0,sA 4 4 3 0,sA 0 0 3 0,sI 1 x1],[(0,(fR (Src.row r44.2))),(7,[cL 11 y34 zA.row,cL 4 r5.Ls Link.row,cL 7 r5.Said Say.row]),(4,[cL 11 ([] : List zA) zA.row,cL 4 ([] : List Link) Link.row,cL 7 ([] : List Say) Say.row])]⟩<|mC Zo 12<|LAt.storeK tOk (t := 3) (ty := 0) (ad := (.tmp 55)) (x := (.tmp 53)) (g := none) (tI 3) false [cI r44.1] (.box 7) [(0,0),(0,(y6.toNat)),(2,(y33.toNat))] [(0,(y6.toNat)),(2,(y33.toNat))] 8 1 [.sl true 3 [[cL 11 y34 zA.row,cL 4 r5.Ls Link.row,cL 7 r5.Said Say.row]]] (Pt.row v45) [cL 11 y34 zA.row,cL 4 r5.Ls Link.row,cL 7 r5.Said Say.row] [cL 11 (y34.set (y6.toNat) (⟨v43.Id,v43.Name,(v43.Ps.set (y33.toNat) (⟨v45.Up,r44.1,v45.Has,v45.Hd⟩ : Pt)),v43.F,v43.V,v43.Tk,v43.Pa,v43.Wo,v43.Dr,v43.Ve⟩ : zA)) zA.row,cL 4 r5.Ls Link.row,cL 7 r5.Said Say.row] kr kr kr kr kr kr (zBZ rfl (zK ev43).2 rfl (zK ev45).2) rfl (by intro h; cases h) kr kr rfl (zG7 (new := (⟨v43.Id,v43.Name,(v43.Ps.set (y33.toNat) (⟨v45.Up,r44.1,v45.Has,v45.Hd⟩ : Pt)),v43.F,v43.V,v43.Tk,v43.Pa,v43.Wo,v43.Dr,v43.Ve⟩ : zA)) (new2 := (⟨v45.Up,r44.1,v45.Has,v45.Hd⟩ : Pt)) rfl (zK ev43).2 rfl (zK ev45).2 kr kr) kr ?_
      exact fA<|mE Zo [9,8,7,4,0,1] [7,0,4]
     ·refine vL [.lend,.rd] (zj n (⟨y35,y36,y37⟩ : Src) [1,1,2,5,20] r44 er44)<|fA<|mC Zo 5<|dE (tI 24) (.box 7) [(0,0),(0,(y6.toNat))] 11 2 [.sl true 3 [[cL 11 y34 zA.row,cL 4 r5.Ls Link.row,cL 7 r5.Said Say.row]]] (zA.row v43) (zQ rfl (zK ev43).2)<|fA<|mC Zo 10<|LAt.indexD tOk (t := 24) (ty := 0) (et := 100) (x := (.tmp 49)) (y := (.tmp 50)) (d := 54) (g := none) (tI 100) ⟨(.box 7),[(0,0),(0,(y6.toNat))],2,true,8,(v43.Ps.map Pt.row)⟩ .i64 y33 (y33.toNat) (Pt.row v45) kr kr kr kr kr kr kr (zBm (row := [.sl true 3 [[cL 11 y34 zA.row,cL 4 r5.Ls Link.row,cL 7 r5.Said Say.row]]]) (e := zA.row v43) kr kr (zQ rfl (zK ev43).2) rfl rfl) rfl kr (Qz ev45) rfl<|fA<|mA Zo [(11,[])] 1 [⟨[12],49,44,45⟩] fun cx=>sA_ 0xa0300000000393 145 ⟨73,1,[(55,.adr (.box 7) [(0,0),(0,(y6.toNat)),(2,(y33.toNat))] 8 1),sI 53 r44.1,sR 45 7 3 0 1 false,sA 44 7 3 0,sI 9 y33,sI 8 y6,sA 7 7 3 0,sA 4 4 3 0,sA 0 0 3 0,sI 1 x1],[(0,(fR (Src.row r44.2))),(7,[cL 11 y34 zA.row,cL 4 r5.Ls Link.row,cL 7 r5.Said Say.row]),(4,[cL 11 ([] : List zA) zA.row,cL 4 ([] : List Link) Link.row,cL 7 ([] : List Say) Say.row])]⟩<|mC Zo 12<|LAt.storeK tOk (t := 3) (ty := 0) (ad := (.tmp 55)) (x := (.tmp 53)) (g := none) (tI 3) false [cI r44.1] (.box 7) [(0,0),(0,(y6.toNat)),(2,(y33.toNat))] [(0,(y6.toNat)),(2,(y33.toNat))] 8 1 [.sl true 3 [[cL 11 y34 zA.row,cL 4 r5.Ls Link.row,cL 7 r5.Said Say.row]]] (Pt.row v45) [cL 11 y34 zA.row,cL 4 r5.Ls Link.row,cL 7 r5.Said Say.row] [cL 11 (y34.set (y6.toNat) (⟨v43.Id,v43.Name,(v43.Ps.set (y33.toNat) (⟨v45.Up,r44.1,v45.Has,v45.Hd⟩ : Pt)),v43.F,v43.V,v43.Tk,v43.Pa,v43.Wo,v43.Dr,v43.Ve⟩ : zA)) zA.row,cL 4 r5.Ls Link.row,cL 7 r5.Said Say.row] kr kr kr kr kr kr (zBZ rfl (zK ev43).2 rfl (zK ev45).2) rfl (by intro h; cases h) kr kr rfl (zG7 (new := (⟨v43.Id,v43.Name,(v43.Ps.set (y33.toNat) (⟨v45.Up,r44.1,v45.Has,v45.Hd⟩ : Pt)),v43.F,v43.V,v43.Tk,v43.Pa,v43.Wo,v43.Dr,v43.Ve⟩ : zA)) (new2 := (⟨v45.Up,r44.1,v45.Has,v45.Hd⟩ : Pt)) rfl (zK ev43).2 rfl (zK ev45).2 kr kr) kr ?_
      exact fA<|mE Zo [9,8,7,4,0,1] [7,0,4]
   exact eA 3 915 145<|jB mo42 ((wI (y33 + 1)),(y34.set (y6.toNat) (⟨v43.Id,v43.Name,(v43.Ps.set (y33.toNat) (⟨v45.Up,r44.1,v45.Has,v45.Hd⟩ : Pt)),v43.F,v43.V,v43.Tk,v43.Pa,v43.Wo,v43.Dr,v43.Ve⟩ : zA)),r44.2.b,r44.2.i,r44.2.h) H [9,8,7,4,0,1] [7,0,4]
  rintro ⟨y38,y39,y40,y41⟩ H
  have H : (J3 n (fun v => ZZ n mo32 v.1 v.2.1 v.2.2.1 v.2.2.2.1 v.2.2.2.2) y6 y38 y39 y40 y41) = some o32 := H
  unfold J3 at H
  exact eA 3 403 145<|jB mo32 ((wI (y6 + 1)),y38,y39,y40,y41) H [8,7,4,0,1] [7,0,4]
 rintro ⟨y11,y12,y13,y14⟩ H
 have H : (J2 n r5 x1 y11 y12 y13 y14) = some r := H
 unfold J2 at H
 refine tS<|rA 3<|bE H fun r15 er15 H=> vL [.lend,.rd] (zL n (⟨y12,y13,y14⟩ : Src) (wI (x1 + 1)) r15 er15)<|uA 1 1169 145 ?_
 obtain ⟨o29,eo29,Ho29⟩ := bs H
 clear H
 refine Tr.mid (ι := (List Int) × Int × Int × (List zA) × (List Link) × (List Say)) (fun v => ⟨73,1,[sA 7 7 3 0,sA 4 4 3 0,sA 0 0 3 0],[(0,[cF 1 v.1 zZ,cI v.2.1,cI v.2.2.1]),(7,[cL 11 v.2.2.2.1 zA.row,cL 4 v.2.2.2.2.1 Link.row,cL 7 v.2.2.2.2.2 Say.row]),(4,[cL 11 ([] : List zA) zA.row,cL 4 ([] : List Link) Link.row,cL 7 ([] : List Say) Say.row])]⟩) (fun v => zBU n v.1 v.2.1 v.2.2.1 v.2.2.2.1 v.2.2.2.2.1 v.2.2.2.2.2 = some r) ?_ ?_
 ·refine tB<|Tr.loop (ι := Nat × (Int × (List Int) × Int × Int × (List zA) × (List Link) × (List Say))) (fun v => ⟨73,1,[sI 10 v.2.1,sA 7 7 3 0,sA 4 4 3 0,sA 0 0 3 0],[(0,[cF 1 v.2.2.1 zZ,cI v.2.2.2.1,cI v.2.2.2.2.1]),(7,[cL 11 v.2.2.2.2.2.1 zA.row,cL 4 v.2.2.2.2.2.2.1 Link.row,cL 7 v.2.2.2.2.2.2.2 Say.row]),(4,[cL 11 ([] : List zA) zA.row,cL 4 ([] : List Link) Link.row,cL 7 ([] : List Say) Say.row])]⟩) (fun v => QZ n v.1 v.2.1 v.2.2.1 v.2.2.2.1 v.2.2.2.2.1 v.2.2.2.2.2.1 v.2.2.2.2.2.2.1 v.2.2.2.2.2.2.2 = some o29) (fun v => v.1) (n,(r15.1,r15.2.b,r15.2.i,r15.2.h,y11,r5.Ls,r5.Said)) eo29 (St.sub_of [10,7,4,0] [0,7,4] kr) ?_
  rintro ⟨_ | mo29,y16,y17,y18,y19,y20,y21,y22⟩ H
  ·exact nN H
  have H : QZ n (mo29+1) y16 y17 y18 y19 y20 y21 y22 = some o29 := H
  rw [QZ] at H
  refine tS<|gA 2 0x2000000000000491 145 ?_
  obtain ⟨h1,H⟩ | ⟨h1,H⟩ := bC H
  ·refine nA h1<|Tr.exit<|aJ ?_
   cases H
   exact jA (y17,y18,y19,y20,y21,y22) Ho29 [7,4,0] [0,7,4]
  refine tA h1<|tK<|tS<|tB<|Tr.frzB 7<|bE H fun r30 er30 H=> bE H fun r31 er31 H=> Tr.draw mixed 9 kr ⟨73,1,[sI 10 y16,sA 7 7 3 0,sA 4 4 3 0,sA 0 0 3 0],[(7,(Net.row r31.1)),(0,(fR (Src.row r30.2))),(4,[cL 11 ([] : List zA) zA.row,cL 4 ([] : List Link) Link.row,cL 7 ([] : List Say) Say.row])]⟩ (fun cx=>?_) ?_
  ·refine aA [(0,[4,8]),(1,[]),(2,[3,4,8])] 6 [⟨[3,4,8],53,7,67⟩,⟨[4,8],53,7,65⟩] fun cx=>bA 3<|vL [.lend,.rd] (zHS n (⟨y17,y18,y19⟩ : Src) (⟨y20,y21,y22⟩ : Net) r30 er30)<|fA<|bA 4<|vA [.rd,.rd] (zH8 n (⟨y20,y21,y22⟩ : Net) r30.1 r31 er31)<|fA<|AT.movT tOk 5 (ty := 87) (t := 69) (d := 64) (g := none) [(true,(Net.row r31.1)),(false,[cB r31.2])] _ kr kr kr (.inl rfl) kr kr kr kr rfl (fun cx=>?_)
   exact aA [(6,[]),(7,[])] 1 [⟨[3,4,8],53,7,67⟩,⟨[4,8],53,7,65⟩] fun cx=>bA 8<|lA 1<|fA<|eE [10,7,4,0] [7,0,4]
  exact eA 3 1169 145<|jB mo29 ((wI (y16 - 1)),r30.2.b,r30.2.i,r30.2.h,r31.1.Bs,r31.1.Ls,r31.1.Said) H [10,7,4,0] [0,7,4]
 rintro ⟨y23,y24,y25,y26,y27,y28⟩ H
 have H : (zBU n y23 y24 y25 y26 y27 y28) = some r := H
 unfold zBU at H
 exact gA 2 17 17<|te<|fY [(true,[cL 11 y26 zA.row,cL 4 y27 Link.row,cL 7 y28 Say.row])] [(0,[cF 1 y23 zZ,cI y24,cI y25])] H
def JK (n : Nat) (x0 : Src) (x1 : (List ByteArray)) : Option (ByteArray × Src) :=
  ((zG n x0 (x1.length : Int)).bind fun r1 => ((idx x1 r1.1).bind fun v2 => (some (v2,r1.2))))
noncomputable abbrev zPY (k : Nat) := Rg Tryz.f151 k
theorem zKD (n : Nat) (x0 : Src) (x1 : (List ByteArray)) (r : ByteArray × Src) (H : JK n x0 x1 = some r) : zE Tryz.prog 151 [.ptr (fR (Src.row x0)),.val false [.sl false 1 (CV.frzEs (x1.map zKJ))]] [.val false [.lit (.string r.1)]] [(0,(fR (Src.row r.2)))] := by
 refine zE.of_body tOk Tryz.func151 rfl (c := (.seq (zPY 0) (.seq (zPY 1) .ret))) kr (Nat.le_of_ble_eq_true kr) 1 (rs := [.tmp 4]) rfl [] .nil [(false,[.lit (.string r.1)])] [] [(0,(fR (Src.row r.2)))] fun cx=>?_
 show Tr _ _ _ ⟨12,1,[sA 0 0 3 0,sC 1 (cF 1 x1 zKJ)],[(0,(fR (Src.row x0)))]⟩ _
 unfold JK at H
 exact gA 1 3 1<|rA 3<|kF x1 zKJ<|bE H fun r1 er1 H=> vL [.lend,.rd] (zL n x0 (x1.length : Int) r1 er1)<|bE H fun v2 ev2 H=> iA zKJ ev2<|uA 2 17 1<|te<|fY [(false,[cS v2])] [(0,(fR (Src.row r1.2)))] H
def zAY (n : Nat) (x0 : Src) : Option (Vec × Src) :=
  ((zG n x0 5).bind fun r1 => ((zX n r1.2 [0,1,2,5,10,100]).bind fun r2 => ((zX n r2.2 [0,1,2,9,10]).bind fun r3 => ((zG n r3.2 5).bind fun r4 => ((zG n r4.2 4).bind fun r5 => (some ((⟨(IntKind.wrap .i64 (1 + r1.1)),r2.1,r3.1,(IntKind.wrap .i64 (1 + r4.1)),r5.1⟩ : Vec),r5.2)))))))
noncomputable abbrev zPZ (k : Nat) := Rg Tryz.f155 k
theorem zIt (n : Nat) (x0 : Src) (r : Vec × Src) (H : zAY n x0 = some r) : zE Tryz.prog 155 [.ptr (fR (Src.row x0))] [.val true (Vec.row r.1)] [(0,(fR (Src.row r.2)))] := by
 refine zE.of_body tOk Tryz.func155 rfl (c := (.seq (zPZ 0) (.seq (zPZ 1) .ret))) kr (Nat.le_of_ble_eq_true kr) 1 (rs := [.cell 2 33]) rfl [] .nil [(true,(Vec.row r.1))] [] [(0,(fR (Src.row r.2)))] fun cx=>?_
 show Tr _ _ _ ⟨18,1,[sA 0 0 3 0],[(0,(fR (Src.row x0)))]⟩ _
 unfold zAY at H
 exact gA 1 5 5<|rA 1<|bE H fun r1 er1 H=> vL [.lend,.rd] (zL n x0 5 r1 er1)<|lA 3<|bE H fun r2 er2 H=> vL [.lend,.rd] (zj n r1.2 [0,1,2,5,10,100] r2 er2)<|lA 2<|bE H fun r3 er3 H=> vL [.lend,.rd] (zj n r2.2 [0,1,2,9,10] r3 er3)<|lA 1<|bE H fun r4 er4 H=> vL [.lend,.rd] (zL n r3.2 5 r4 er4)<|lA 2<|bE H fun r5 er5 H=> vL [.lend,.rd] (zL n r4.2 4 r5 er5)<|uA 2 5 5<|te<|fY [(true,[cI (wI (1 + r1.1)),cI r2.1,cI r3.1,cI (wI (1 + r4.1)),cI r5.1])] [(0,(fR (Src.row r5.2)))] H
def zBR (n : Nat) (y6 : (List Pt)) (y7 : (List Int)) (y8 : Int) (y9 : Int) : Option ((List Pt) × Src) :=
  (some (y6,(⟨y7,y8,y9⟩ : Src)))
def YF (n : Nat) (k : (Int × (List Pt) × (List Int) × Int × Int → Option (((List Pt) × (List Int) × Int × Int) ⊕ ((List Pt) × Src)))) (r12 : Int × Src) (y1 : Int) (y2 : (List Pt)) (y13 : Bool) (y14 : Bool) (y15 : Int) (y16 : Int) (y17 : Int) (y18 : Int) (y19 : Int) (y20 : (List Int)) (y21 : Int) (y22 : Int) : Option (((List Pt) × (List Int) × Int × Int) ⊕ ((List Pt) × Src)) :=
  (bif (decide (y2.length + [(⟨y13,r12.1,y14,(⟨y15,y16,y17,y18,y19⟩ : Vec)⟩ : Pt)].length ≤ 268435456)) then (k ((IntKind.wrap .i64 (y1 + 1)),(y2 ++ [(⟨y13,r12.1,y14,(⟨y15,y16,y17,y18,y19⟩ : Vec)⟩ : Pt)]),y20,y21,y22)) else none)
def qp (n : Nat) : Nat → Int → Int → (List Pt) → (List Int) → Int → Int → Option (((List Pt) × (List Int) × Int × Int) ⊕ ((List Pt) × Src))
  | 0,_,_,_,_,_,_ => none
  | mo10 + 1,x1,y1,y2,y3,y4,y5 => (bif (decide (y1 < x1)) then ((QC n (⟨y3,y4,y5⟩ : Src) 4).bind fun r11 => ((zX n r11.2 [1,1,2,5,10]).bind fun r12 => (bif (!r11.1) then ((QC n r12.2 4).bind fun r24 => (bif (!r24.1) then ((zAY n r24.2).bind fun r25 => (YF n (fun v => qp n mo10 x1 v.1 v.2.1 v.2.2.1 v.2.2.2.1 v.2.2.2.2) r12 y1 y2 true true r25.1.Root r25.1.Co r25.1.Hops r25.1.Bridge r25.1.Port r25.2.b r25.2.i r25.2.h)) else (YF n (fun v => qp n mo10 x1 v.1 v.2.1 v.2.2.1 v.2.2.2.1 v.2.2.2.2) r12 y1 y2 true false 0 0 0 0 0 r24.2.b r24.2.i r24.2.h))) else (YF n (fun v => qp n mo10 x1 v.1 v.2.1 v.2.2.1 v.2.2.2.1 v.2.2.2.2) r12 y1 y2 false false 0 0 0 0 0 r12.2.b r12.2.i r12.2.h)))) else (some (Sum.inl (y2,y3,y4,y5))))
def YT (n : Nat) (x0 : Src) (x1 : Int) : Option ((List Pt) × Src) :=
  ((qp n n x1 0 ([] : List Pt) x0.b x0.i x0.h).bind fun o => match o with | .inl (y6,y7,y8,y9) => (zBR n y6 y7 y8 y9) | .inr r => some r)
noncomputable abbrev zFP (k : Nat) := Rg Tryz.f181 k
theorem zIB (n : Nat) (x0 : Src) (x1 : Int) (r : (List Pt) × Src) (H : YT n x0 x1 = some r) : zE Tryz.prog 181 [.ptr (fR (Src.row x0)),.val false [.lit (.int .i64 x1)]] [.val false [.sl true 8 (r.1.map Pt.row)]] [(0,(fR (Src.row r.2)))] := by
 refine zE.of_body tOk Tryz.func181 rfl (c := (.seq (zFP 0) (.seq (zFP 1) (.seq (.seq (zFP 2) (.block 0 (.loop (.seq (.seq (zFP 3) (.cond (.tmp 11) .skip (.exit 0))) (.seq (.block 1 (.seq (zFP 5) (.seq (.seq (zFP 6) (.cond (.tmp 27) (.seq (zFP 7) (zFP 8)) .skip)) (zFP 9)))) (zFP 4)))))) (.seq (zFP 10) .ret))))) kr (Nat.le_of_ble_eq_true kr) 1 (rs := [.tmp 4]) rfl [] .nil [(false,[.sl true 8 (r.1.map Pt.row)])] [] [(0,(fR (Src.row r.2)))] fun cx=>?_
 show Tr _ _ _ ⟨37,1,[sA 0 0 3 0,sI 1 x1],[(0,(fR (Src.row x0)))]⟩ _
 unfold YT at H
 refine gA 1 3 1<|rA 1<|LAt.moveU (T := lk tab) (ty := 24) (x := (.tmp 8)) (d := 5) (g := none) false [cL 8 ([] : List Pt) Pt.row] kr kr kr kr kr<|dA 35 1<|tS<|gA 1 99 1 ?_
 obtain ⟨o10,eo10,Ho10⟩ := bs H
 clear H
 refine Tr.mid (ι := (List Pt) × (List Int) × Int × Int) (fun v => ⟨37,1,[sC 5 (cL 8 v.1 Pt.row),sA 0 0 3 0],[(0,[cF 1 v.2.1 zZ,cI v.2.2.1,cI v.2.2.2])]⟩) (fun v => zBR n v.1 v.2.1 v.2.2.1 v.2.2.2 = some r) ?_ ?_
 ·refine tB<|Tr.loop (ι := Nat × (Int × (List Pt) × (List Int) × Int × Int)) (fun v => ⟨37,1,[sI 6 v.2.1,sC 5 (cL 8 v.2.2.1 Pt.row),sA 0 0 3 0,sI 1 x1],[(0,[cF 1 v.2.2.2.1 zZ,cI v.2.2.2.2.1,cI v.2.2.2.2.2])]⟩) (fun v => qp n v.1 x1 v.2.1 v.2.2.1 v.2.2.2.1 v.2.2.2.2.1 v.2.2.2.2.2 = some o10) (fun v => v.1) (n,(0,([] : List Pt),x0.b,x0.i,x0.h)) eo10 (St.sub_of [6,5,0,1] [0] kr) ?_
  rintro ⟨_ | mo10,y1,y2,y3,y4,y5⟩ H
  ·exact nN H
  have H : qp n (mo10+1) x1 y1 y2 y3 y4 y5 = some o10 := H
  rw [qp] at H
  refine tS<|gA 3 2147 1 ?_
  obtain ⟨h1,H⟩ | ⟨h1,H⟩ := bC H
  ·refine nA h1<|Tr.exit<|aJ ?_
   cases H
   exact jA (y2,y3,y4,y5) Ho10 [5,0] [0]
  refine tA h1<|tK<|tS<|tB<|rA 1<|bE H fun r11 er11 H=> vL [.lend,.rd] (zCa n (⟨y3,y4,y5⟩ : Src) 4 r11 er11)<|lA 3<|bE H fun r12 er12 H=> vL [.lend,.rd] (zj n r11.2 [1,1,2,5,10] r12 er12)<|uA 3 227 129<|tS<|Tr.mid (ι := Bool × Bool × Int × Int × Int × Int × Int × (List Int) × Int × Int) (fun v => ⟨37,1,[sA 7 7 8 0,sI 6 y1,sC 5 (cL 8 y2 Pt.row),sA 0 0 3 0,sI 1 x1],[(7,[cB v.1,cI r12.1,cB v.2.1,cI v.2.2.1,cI v.2.2.2.1,cI v.2.2.2.2.1,cI v.2.2.2.2.2.1,cI v.2.2.2.2.2.2.1]),(0,[cF 1 v.2.2.2.2.2.2.2.1 zZ,cI v.2.2.2.2.2.2.2.2.1,cI v.2.2.2.2.2.2.2.2.2])]⟩) (fun v => YF n (fun v => qp n mo10 x1 v.1 v.2.1 v.2.2.1 v.2.2.2.1 v.2.2.2.2) r12 y1 y2 v.1 v.2.1 v.2.2.1 v.2.2.2.1 v.2.2.2.2.1 v.2.2.2.2.2.1 v.2.2.2.2.2.2.1 v.2.2.2.2.2.2.2.1 v.2.2.2.2.2.2.2.2.1 v.2.2.2.2.2.2.2.2.2 = some o10) ?_ ?_
  ·refine tS<|Tr.at<|lA 3<|sL 8388835 129 ⟨37,1,[sB 23 (!r11.1),sA 7 7 8 0,sI 6 y1,sC 5 (cL 8 y2 Pt.row),sA 0 0 3 0,sI 1 x1],[(7,[cB (!r11.1),cI r12.1,cB false,cI 0,cI 0,cI 0,cI 0,cI 0]),(0,(fR (Src.row r12.2)))]⟩ ?_
   cases h2 : (!r11.1)
   ·have H := qe h2 H
    exact uA 4 134217955 129<|nB_<|tK<|jA (false,false,0,0,0,0,0,r12.2.b,r12.2.i,r12.2.h) H [7,6,5,0,1] [7,0]
   have H := qf h2 H
   refine lA 1<|bE H fun r24 er24 H=> vL [.lend,.rd] (zCa n r12.2 4 r24 er24)<|uA 2 134217955 129 ?_
   obtain ⟨h3,H⟩ | ⟨h3,H⟩ := bC H
   ·exact nA h3<|tK<|jA (true,false,0,0,0,0,0,r24.2.b,r24.2.i,r24.2.h) H [7,6,5,0,1] [7,0]
   exact tA h3<|gA 2 227 129<|Tr.at<|lA 1<|bE H fun r25 er25 H=> vL [.lend] (zIt n r24.2 r25 er25)<|uA 2 227 129<|jA (true,true,r25.1.Root,r25.1.Co,r25.1.Hops,r25.1.Bridge,r25.1.Port,r25.2.b,r25.2.i,r25.2.h) H [7,6,5,0,1] [7,0]
  rintro ⟨y13,y14,y15,y16,y17,y18,y19,y20,y21,y22⟩ H
  have H : (YF n (fun v => qp n mo10 x1 v.1 v.2.1 v.2.2.1 v.2.2.2.1 v.2.2.2.2) r12 y1 y2 y13 y14 y15 y16 y17 y18 y19 y20 y21 y22) = some o10 := H
  unfold YF at H
  exact Tr.at<|lA 3<|gE H fun hg23 H=> LAt.appMU tOk (t := 24) (ty := 24) (e := 100) (x := (.tmp 32)) (y := (.tmp 34)) (d := 35) (g := none) (tI 100) Pt.row y2 [(⟨y13,r12.1,y14,(⟨y15,y16,y17,y18,y19⟩ : Vec)⟩ : Pt)] kr kr kr kr kr kr kr kr kr kr hg23<|LAt.moveU (T := lk tab) (ty := 24) (x := (.tmp 35)) (d := 5) (g := none) false [cL 8 (y2 ++ [(⟨y13,r12.1,y14,(⟨y15,y16,y17,y18,y19⟩ : Vec)⟩ : Pt)]) Pt.row] kr kr kr kr kr<|dA 99 1<|eA 3 99 1<|jB mo10 ((wI (y1 + 1)),(y2 ++ [(⟨y13,r12.1,y14,(⟨y15,y16,y17,y18,y19⟩ : Vec)⟩ : Pt)]),y20,y21,y22) H [6,5,0,1] [0]
 rintro ⟨y6,y7,y8,y9⟩ H
 have H : (zBR n y6 y7 y8 y9) = some r := H
 unfold zBR at H
 exact gA 2 49 1<|te<|fY [(false,[cL 8 y6 Pt.row])] [(0,[cF 1 y7 zZ,cI y8,cI y9])] H
def zAo (n : Nat) (x0 : zD) (x1 : zD) : Option (zD × Bool) :=
  ((zy n x0 (x1.Pv.length : Int)).bind fun r1 => (bif (!r1) then ((ZY n x1).bind fun r2 => (some (r2,false))) else (some (x0,true))))
theorem zID (n : Nat) (x0 : zD) (x1 : zD) (r : zD × Bool) (H : zAo n x0 x1 = some r) : zE Tryz.prog 196 [.own true (zD.row x0),.val true (fR (zD.row x1))] [.val true (zD.row r.1),.val false [.lit (.bool r.2)]] [] := by
 refine cW Tryz.func196 (fun g d => sl [g 0,sl [g 1] (cn 11 (sl [g 2] .ret) .skip),g 3] .ret) [.cell 4 29,.tmp 5] fun cx=>?_
 unfold zAo at H
 refine gA 4 28 28<|tS<|rA 3<|kF x1.Pv intRow<|bE H fun r1 er1 H=> vB [.rd,.rd] [.box 2] (zCY n x0 (x1.Pv.length : Int) r1 er1) (.inr (zM (zJ zN zg) zT))<|uA 1 2076 28 ?_
 obtain ⟨h1,H⟩ | ⟨h1,H⟩ := bC H
 ·exact nA h1<|tK<|gA 3 48 16<|te (fJ [(true,(zD.row x0)),(false,[cB true])] H)
 exact tA h1<|rA 1<|bE H fun r2 er2 H=> vA [.rd] (Yh n x1 r2 er2)<|uA 2 48 16<|te (fJ [(true,(zD.row r2)),(false,[cB false])] H)
def zAz (n : Nat) (x0 : zD) (x1 : Int) (x2 : Int) : Option (zD × Bool) :=
  ((zy n x0 (x0.Pv.length : Int)).bind fun r1 => (bif (!r1) then ((ZY n x0).bind fun r7 => (some (r7,false))) else ((zR n x1 0 (IntKind.wrap .i64 ((x0.Pv.length : Int) - 1))).bind fun r2 => (bif (!r2) then ((ZY n x0).bind fun r6 => (some (r6,false))) else ((ZY n x0).bind fun r3 => ((idx r3.Pv x1).bind fun v4 => ((zAo n (⟨r3.Rows,(r3.Pv.set (x1.toNat) x2)⟩ : zD) x0).bind fun r5 => (some (r5.1,r5.2)))))))))
theorem zMM (n : Nat) (x0 : zD) (x1 : Int) (x2 : Int) (r : zD × Bool) (H : zAz n x0 x1 x2 = some r) : zE Tryz.prog 190 [.val true (fR (zD.row x0)),.val false [.lit (.int .i64 x1)],.val false [.lit (.int .i64 x2)]] [.val true (zD.row r.1),.val false [.lit (.bool r.2)]] [] := by
 refine cW Tryz.func190 (fun g d => sl [g 0,sl [g 1] (cn 23 (sl [g 2] .ret) .skip),g 3,g 4,g 5] .ret) [.cell 6 29,.tmp 7] fun cx=>?_
 unfold zAz at H
 refine gA 3 78 72<|tS<|rA 3<|kF x0.Pv intRow<|bE H fun r1 er1 H=> vA [.rd,.rd] (zCY n x0 (x0.Pv.length : Int) r1 er1)<|lA 2 ?_
 obtain ⟨h1,H⟩ | ⟨h1,H⟩ := bC H
 ·refine qL 32846 72 [15] h1<|lA 3<|kF x0.Pv intRow<|lA 1<|bE H fun r2 er2 H=> vA [.rd,.rd,.rd] (zS n x1 0 (wI ((x0.Pv.length : Int) - 1)) r2 er2)<|uA 2 8388686 72 ?_
  obtain ⟨h2,H⟩ | ⟨h2,H⟩ := bC H
  ·exact nA h2<|tK<|rA 1<|bE H fun r3 er3 H=> vA [.rd] (Yh n x0 r3 er3)<|uA 2 334 328<|rA 4<|bE H fun v4 ev4 H=> oA intRow ev4<|LAt.storeB tOk (t := 3) (ty := 0) (ad := (.tmp 32)) (x := (.tmp 31)) (g := none) (tI 3) false [cI x2] 8 1 (x1.toNat) 1 0 1 r3.Pv intRow v4 x2 kr kr kr kr kr kr kr kr (zK ev4).2 kr kr kr kr<|dA 328 328<|rA 2<|bE H fun r5 er5 H=> vA [.own,.rd] (zID n (⟨r3.Rows,(r3.Pv.set (x1.toNat) x2)⟩ : zD) x0 r5 er5)<|uA 4 192 64<|te (fJ [(true,(zD.row r5.1)),(false,[cB r5.2])] H)
  exact tA h2<|rA 1<|bE H fun r6 er6 H=> vA [.rd] (Yh n x0 r6 er6)<|uA 2 192 64<|te (fJ [(true,(zD.row r6)),(false,[cB false])] H)
 exact qL 32846 72 [15] h1<|uA 8 8388686 72<|tB_<|rA 1<|bE H fun r7 er7 H=> vA [.rd] (Yh n x0 r7 er7)<|uA 2 192 64<|te (fJ [(true,(zD.row r7)),(false,[cB false])] H)
def Jl (n : Nat) (x0 : zD) (x1 : Int) : Option (zD × Bool) :=
  ((JG n x0 x1).bind fun r1 => ((zy n x0 (x0.Pv.length : Int)).bind fun r2 => (bif (!r2) then ((ZY n x0).bind fun r10 => (some (r10,false))) else (bif (decide (r1 < 0)) then ((ZY n x0).bind fun r9 => (some (r9,false))) else ((ZY n x0).bind fun r3 => (bif (decide ((0 : Int) ≤ 0) && (decide ((0 : Int) ≤ r1) && decide ((r1 : Int) ≤ (x0.Rows.length : Int)))) then (bif (decide (([] : List zC).length + ((x0.Rows.drop ((0 : Int)).toNat).take (((r1 : Int)).toNat - ((0 : Int)).toNat)).length ≤ 268435456)) then (bif (decide ((0 : Int) ≤ (IntKind.wrap .i64 (r1 + 1))) && (decide (((IntKind.wrap .i64 (r1 + 1)) : Int) ≤ (x0.Rows.length : Int)) && decide (((x0.Rows.length : Int) : Int) ≤ (x0.Rows.length : Int)))) then (bif (decide ((([] : List zC) ++ ((x0.Rows.drop ((0 : Int)).toNat).take (((r1 : Int)).toNat - ((0 : Int)).toNat))).length + ((x0.Rows.drop (((IntKind.wrap .i64 (r1 + 1)) : Int)).toNat).take ((((x0.Rows.length : Int) : Int)).toNat - (((IntKind.wrap .i64 (r1 + 1)) : Int)).toNat)).length ≤ 268435456)) then ((zAo n (⟨((([] : List zC) ++ ((x0.Rows.drop ((0 : Int)).toNat).take (((r1 : Int)).toNat - ((0 : Int)).toNat))) ++ ((x0.Rows.drop (((IntKind.wrap .i64 (r1 + 1)) : Int)).toNat).take ((((x0.Rows.length : Int) : Int)).toNat - (((IntKind.wrap .i64 (r1 + 1)) : Int)).toNat))),r3.Pv⟩ : zD) x0).bind fun r8 => (some (r8.1,r8.2))) else none) else none) else none) else none))))))
def zP6 : Tab := ⟨14,[0,0,2,0,12,17,0,64,0,256,640,1056,4095,8191],[0,0,2,0,12,17,0,64,0,256,640,1056,0,6144],[0,0,2,0,14,31,0,64,0,256,960,2047,4095,8191]⟩
theorem zx : zc (rg Tryz.f191 5) zP6 = true := kr
theorem zJ0 (n : Nat) (x0 : zD) (r1 : Int) (r3 : zD) (hg4 : (decide ((0 : Int) ≤ 0) && (decide ((0 : Int) ≤ r1) && decide ((r1 : Int) ≤ (x0.Rows.length : Int)))) = true) (hg5 : (decide (([] : List zC).length + ((x0.Rows.drop ((0 : Int)).toNat).take (((r1 : Int)).toNat - ((0 : Int)).toNat)).length ≤ 268435456)) = true) (hg6 : (decide ((0 : Int) ≤ (wI (r1 + 1))) && (decide (((wI (r1 + 1)) : Int) ≤ (x0.Rows.length : Int)) && decide (((x0.Rows.length : Int) : Int) ≤ (x0.Rows.length : Int)))) = true) (hg7 : (decide ((([] : List zC) ++ ((x0.Rows.drop ((0 : Int)).toNat).take (((r1 : Int)).toNat - ((0 : Int)).toNat))).length + ((x0.Rows.drop (((wI (r1 + 1)) : Int)).toNat).take ((((x0.Rows.length : Int) : Int)).toNat - (((wI (r1 + 1)) : Int)).toNat)).length ≤ 268435456)) = true) (cx : Cx) : AT Tryz.prog cx (rg Tryz.f191 5) [] 14 [] ⟨43,0,[sA 7 7 2 0,sI 6 r1,sA 4 4 2 0,sA 2 2 2 0],[(7,(zD.row r3)),(4,[cL 3 ([] : List zC) zC.row,cL 1 ([] : List Int) intRow]),(2,(fR (zD.row x0)))]⟩ (fun s => s = ⟨43,0,[sA 7 7 2 0,sA 4 4 2 0,sA 2 2 2 0],[(7,[cL 3 ((([] : List zC) ++ ((x0.Rows.drop ((0 : Int)).toNat).take (((r1 : Int)).toNat - ((0 : Int)).toNat))) ++ ((x0.Rows.drop (((wI (r1 + 1)) : Int)).toNat).take ((((x0.Rows.length : Int) : Int)).toNat - (((wI (r1 + 1)) : Int)).toNat))) zC.row,cL 1 r3.Pv intRow]),(4,[cL 3 ([] : List zC) zC.row,cL 1 ([] : List Int) intRow]),(2,(fR (zD.row x0)))]⟩) := by
 refine mA zx [(1,[]),(2,[4,5,11,13]),(3,[]),(6,[]),(7,[10,11,13]),(8,[]),(9,[])] 7 [⟨[10,11,13],26,31,32⟩,⟨[4,5,11,13],26,26,27⟩] fun cx=>mB3 tOk zx 0 4 10 kr (And.intro kr ?_) (And.intro kr ?_) (And.intro kr ?_)
 ·refine lA 1<|fA<|mB2 tOk zx 4 10 kr (And.intro kr ?_) (And.intro kr ?_)
  ·refine LAt.cutG tOk (t := 26) (ty := 26) (e := 113) (x := (.tmp 27)) (lo := none) (hi := (some (.tmp 28))) (d := 29) (g := none) (tI 113) zC.row x0.Rows ⟨(.box 2),[(0,0)],0,false,3,(CV.frzEs (x0.Rows.map zC.row))⟩ 0 r1 kr kr kr kr kr kr rfl kr rfl kr kr hg4<|fA<|mB2 tOk zx 5 10 kr (And.intro kr ?_) (And.intro kr ?_)
   ·exact pD zC.row hg5<|fA<|mC zx 10<|LAt.cutG tOk (t := 26) (ty := 26) (e := 113) (x := (.tmp 32)) (lo := (some (.tmp 34))) (hi := none) (d := 35) (g := none) (tI 113) zC.row x0.Rows ⟨(.box 2),[(0,0)],0,false,3,(CV.frzEs (x0.Rows.map zC.row))⟩ (wI (r1 + 1)) (x0.Rows.length : Int) kr kr kr kr kr kr rfl kr rfl kr kr hg6<|fA<|mC zx 11<|pD zC.row hg7<|fA<|mA zx [(12,[])] 1 [⟨[10,11,13],26,31,32⟩,⟨[4,5,11,13],26,26,27⟩] fun cx=>mC zx 13<|lA 1<|fA<|mE zx [7,4,2] [7,4,2]
   ·exact LAt.cutG tOk (t := 26) (ty := 26) (e := 113) (x := (.tmp 32)) (lo := (some (.tmp 34))) (hi := none) (d := 35) (g := none) (tI 113) zC.row x0.Rows ⟨(.box 2),[(0,0)],0,false,3,(CV.frzEs (x0.Rows.map zC.row))⟩ (wI (r1 + 1)) (x0.Rows.length : Int) kr kr kr kr kr kr rfl kr rfl kr kr hg6<|fA<|mC zx 5<|pD zC.row hg5<|fA<|mC zx 11<|pD zC.row hg7<|fA<|mA zx [(12,[])] 1 [⟨[10,11,13],26,31,32⟩,⟨[4,5,11,13],26,26,27⟩] fun cx=>mC zx 13<|lA 1<|fA<|mE zx [7,4,2] [7,4,2]
  ·exact LAt.cutG tOk (t := 26) (ty := 26) (e := 113) (x := (.tmp 32)) (lo := (some (.tmp 34))) (hi := none) (d := 35) (g := none) (tI 113) zC.row x0.Rows ⟨(.box 2),[(0,0)],0,false,3,(CV.frzEs (x0.Rows.map zC.row))⟩ (wI (r1 + 1)) (x0.Rows.length : Int) kr kr kr kr kr kr rfl kr rfl kr kr hg6<|fA<|mC zx 4<|LAt.cutG tOk (t := 26) (ty := 26) (e := 113) (x := (.tmp 27)) (lo := none) (hi := (some (.tmp 28))) (d := 29) (g := none) (tI 113) zC.row x0.Rows ⟨(.box 2),[(0,0)],0,false,3,(CV.frzEs (x0.Rows.map zC.row))⟩ 0 r1 kr kr kr kr kr kr rfl kr rfl kr kr hg4<|fA<|mC zx 5<|pD zC.row hg5<|fA<|mC zx 11<|pD zC.row hg7<|fA<|mA zx [(12,[])] 1 [⟨[10,11,13],26,31,32⟩,⟨[4,5,11,13],26,26,27⟩] fun cx=>mC zx 13<|lA 1<|fA<|mE zx [7,4,2] [7,4,2]
 ·refine LAt.cutG tOk (t := 26) (ty := 26) (e := 113) (x := (.tmp 27)) (lo := none) (hi := (some (.tmp 28))) (d := 29) (g := none) (tI 113) zC.row x0.Rows ⟨(.box 2),[(0,0)],0,false,3,(CV.frzEs (x0.Rows.map zC.row))⟩ 0 r1 kr kr kr kr kr kr rfl kr rfl kr kr hg4<|fA<|mB2 tOk zx 0 10 kr (And.intro kr ?_) (And.intro kr ?_)
  ·refine lA 1<|fA<|mB2 tOk zx 5 10 kr (And.intro kr ?_) (And.intro kr ?_)
   ·exact pD zC.row hg5<|fA<|mC zx 10<|LAt.cutG tOk (t := 26) (ty := 26) (e := 113) (x := (.tmp 32)) (lo := (some (.tmp 34))) (hi := none) (d := 35) (g := none) (tI 113) zC.row x0.Rows ⟨(.box 2),[(0,0)],0,false,3,(CV.frzEs (x0.Rows.map zC.row))⟩ (wI (r1 + 1)) (x0.Rows.length : Int) kr kr kr kr kr kr rfl kr rfl kr kr hg6<|fA<|mC zx 11<|pD zC.row hg7<|fA<|mA zx [(12,[])] 1 [⟨[10,11,13],26,31,32⟩,⟨[4,5,11,13],26,26,27⟩] fun cx=>mC zx 13<|lA 1<|fA<|mE zx [7,4,2] [7,4,2]
   ·exact LAt.cutG tOk (t := 26) (ty := 26) (e := 113) (x := (.tmp 32)) (lo := (some (.tmp 34))) (hi := none) (d := 35) (g := none) (tI 113) zC.row x0.Rows ⟨(.box 2),[(0,0)],0,false,3,(CV.frzEs (x0.Rows.map zC.row))⟩ (wI (r1 + 1)) (x0.Rows.length : Int) kr kr kr kr kr kr rfl kr rfl kr kr hg6<|fA<|mC zx 5<|pD zC.row hg5<|fA<|mC zx 11<|pD zC.row hg7<|fA<|mA zx [(12,[])] 1 [⟨[10,11,13],26,31,32⟩,⟨[4,5,11,13],26,26,27⟩] fun cx=>mC zx 13<|lA 1<|fA<|mE zx [7,4,2] [7,4,2]
  ·exact LAt.cutG tOk (t := 26) (ty := 26) (e := 113) (x := (.tmp 32)) (lo := (some (.tmp 34))) (hi := none) (d := 35) (g := none) (tI 113) zC.row x0.Rows ⟨(.box 2),[(0,0)],0,false,3,(CV.frzEs (x0.Rows.map zC.row))⟩ (wI (r1 + 1)) (x0.Rows.length : Int) kr kr kr kr kr kr rfl kr rfl kr kr hg6<|fA<|mC zx 0<|lA 1<|fA<|mC zx 5<|pD zC.row hg5<|fA<|mC zx 11<|pD zC.row hg7<|fA<|mA zx [(12,[])] 1 [⟨[10,11,13],26,31,32⟩,⟨[4,5,11,13],26,26,27⟩] fun cx=>mC zx 13<|lA 1<|fA<|mE zx [7,4,2] [7,4,2]
 ·refine LAt.cutG tOk (t := 26) (ty := 26) (e := 113) (x := (.tmp 32)) (lo := (some (.tmp 34))) (hi := none) (d := 35) (g := none) (tI 113) zC.row x0.Rows ⟨(.box 2),[(0,0)],0,false,3,(CV.frzEs (x0.Rows.map zC.row))⟩ (wI (r1 + 1)) (x0.Rows.length : Int) kr kr kr kr kr kr rfl kr rfl kr kr hg6<|fA<|mB2 tOk zx 0 4 kr (And.intro kr ?_) (And.intro kr ?_)
  ·exact lA 1<|fA<|mC zx 4<|LAt.cutG tOk (t := 26) (ty := 26) (e := 113) (x := (.tmp 27)) (lo := none) (hi := (some (.tmp 28))) (d := 29) (g := none) (tI 113) zC.row x0.Rows ⟨(.box 2),[(0,0)],0,false,3,(CV.frzEs (x0.Rows.map zC.row))⟩ 0 r1 kr kr kr kr kr kr rfl kr rfl kr kr hg4<|fA<|mC zx 5<|pD zC.row hg5<|fA<|mC zx 11<|pD zC.row hg7<|fA<|mA zx [(12,[])] 1 [⟨[10,11,13],26,31,32⟩,⟨[4,5,11,13],26,26,27⟩] fun cx=>mC zx 13<|lA 1<|fA<|mE zx [7,4,2] [7,4,2]
  ·exact LAt.cutG tOk (t := 26) (ty := 26) (e := 113) (x := (.tmp 27)) (lo := none) (hi := (some (.tmp 28))) (d := 29) (g := none) (tI 113) zC.row x0.Rows ⟨(.box 2),[(0,0)],0,false,3,(CV.frzEs (x0.Rows.map zC.row))⟩ 0 r1 kr kr kr kr kr kr rfl kr rfl kr kr hg4<|fA<|mC zx 0<|lA 1<|fA<|mC zx 5<|pD zC.row hg5<|fA<|mC zx 11<|pD zC.row hg7<|fA<|mA zx [(12,[])] 1 [⟨[10,11,13],26,31,32⟩,⟨[4,5,11,13],26,26,27⟩] fun cx=>mC zx 13<|lA 1<|fA<|mE zx [7,4,2] [7,4,2]
theorem zML (n : Nat) (x0 : zD) (x1 : Int) (r : zD × Bool) (H : Jl n x0 x1 = some r) : zE Tryz.prog 191 [.val true (fR (zD.row x0)),.val false [.lit (.int .i64 x1)]] [.val true (zD.row r.1),.val false [.lit (.bool r.2)]] [] := by
 refine cW Tryz.func191 (fun g d => sl [g 0,g 1,sl [g 2] (cn 20 (sl [g 3] .ret) .skip),g 4,d 5,g 6] .ret) [.cell 4 29,.tmp 5] fun cx=>?_
 unfold Jl at H
 refine gA 3 22 20<|rA 2<|bE H fun r1 er1 H=> vA [.rd,.rd] (zJ4 n x0 x1 r1 er1)<|uA 1 84 20<|tS<|rA 3<|kF x0.Pv intRow<|bE H fun r2 er2 H=> vA [.rd,.rd] (zCY n x0 (x0.Pv.length : Int) r2 er2)<|lA 2 ?_
 obtain ⟨h1,H⟩ | ⟨h1,H⟩ := bC H
 ·refine qL 131156 20 [17] h1<|uA 3 1048660 20 ?_
  obtain ⟨h2,H⟩ | ⟨h2,H⟩ := bC H
  ·exact nA h2<|tK<|rA 1<|bE H fun r3 er3 H=> vA [.rd] (Yh n x0 r3 er3)<|uA 2 212 148<|gE H fun hg4 H=> gE H fun hg5 H=> gE H fun hg6 H=> gE H fun hg7 H=> sT ⟨43,0,[sA 7 7 2 0,sI 6 r1,sA 4 4 2 0,sA 2 2 2 0],[(7,(zD.row r3)),(4,[cL 3 ([] : List zC) zC.row,cL 1 ([] : List Int) intRow]),(2,(fR (zD.row x0)))]⟩<|Tr.draws mixed 14 kr ⟨43,0,[sA 7 7 2 0,sA 4 4 2 0,sA 2 2 2 0],[(7,[cL 3 ((([] : List zC) ++ ((x0.Rows.drop ((0 : Int)).toNat).take (((r1 : Int)).toNat - ((0 : Int)).toNat))) ++ ((x0.Rows.drop (((wI (r1 + 1)) : Int)).toNat).take ((((x0.Rows.length : Int) : Int)).toNat - (((wI (r1 + 1)) : Int)).toNat))) zC.row,cL 1 r3.Pv intRow]),(4,[cL 3 ([] : List zC) zC.row,cL 1 ([] : List Int) intRow]),(2,(fR (zD.row x0)))]⟩ (zJ0 n x0 r1 r3 hg4 hg5 hg6 hg7)<|rA 2<|bE H fun r8 er8 H=> vA [.own,.rd] (zID n (⟨((([] : List zC) ++ ((x0.Rows.drop ((0 : Int)).toNat).take (((r1 : Int)).toNat - ((0 : Int)).toNat))) ++ ((x0.Rows.drop (((wI (r1 + 1)) : Int)).toNat).take ((((x0.Rows.length : Int) : Int)).toNat - (((wI (r1 + 1)) : Int)).toNat))),r3.Pv⟩ : zD) x0 r8 er8)<|uA 4 48 16<|te (fJ [(true,(zD.row r8.1)),(false,[cB r8.2])] H)
  exact tA h2<|rA 1<|bE H fun r9 er9 H=> vA [.rd] (Yh n x0 r9 er9)<|uA 2 48 16<|te (fJ [(true,(zD.row r9)),(false,[cB false])] H)
 exact qL 131156 20 [17] h1<|uA 3 1048660 20<|tB_<|rA 1<|bE H fun r10 er10 H=> vA [.rd] (Yh n x0 r10 er10)<|uA 2 48 16<|te (fJ [(true,(zD.row r10)),(false,[cB false])] H)
def zBv (n : Nat) (x0 : Src) (x1 : Int) : Option (zC × Src) :=
  (bif (decide ((0 : Int) ≤ (IntKind.wrap .u64 x1))) then ((zG n x0 (IntKind.wrap .i64 ((IntKind.wrap .i64 ((IntKind.wrap .i64 (1 * 2 ^ min (((IntKind.wrap .u64 x1) : Int)).toNat (IntKind.bits .i64))) - 1)) + 1))).bind fun r2 => ((zX n r2.2 [1,2,3,2]).bind fun r3 => ((zG n r3.2 (IntKind.wrap .i64 ((IntKind.wrap .i64 ((IntKind.wrap .i64 (1 * 2 ^ min (((IntKind.wrap .u64 x1) : Int)).toNat (IntKind.bits .i64))) - 1)) + 1))).bind fun r4 => (some ((⟨r3.1,r2.1,(IntKind.wrap .i64 (BitVec.ofInt (IntKind.bits .i64) r2.1 &&& BitVec.ofInt (IntKind.bits .i64) r4.1).toNat)⟩ : zC),r4.2))))) else none)
noncomputable abbrev zNG (k : Nat) := Rg Tryz.f193 k
theorem zMp (n : Nat) (x0 : Src) (x1 : Int) (r : zC × Src) (H : zBv n x0 x1 = some r) : zE Tryz.prog 193 [.ptr (fR (Src.row x0)),.val false [.lit (.int .i64 x1)]] [.val true (zC.row r.1)] [(0,(fR (Src.row r.2)))] := by
 refine zE.of_body tOk Tryz.func193 rfl (c := (.seq (zNG 0) (.seq (zNG 1) (.seq (zNG 2) (.seq (zNG 3) .ret))))) kr (Nat.le_of_ble_eq_true kr) 1 (rs := [.cell 4 113]) rfl [] .nil [(true,(zC.row r.1))] [] [(0,(fR (Src.row r.2)))] fun cx=>?_
 show Tr _ _ _ ⟨26,1,[sA 0 0 3 0,sI 1 x1],[(0,(fR (Src.row x0)))]⟩ _
 unfold zBv at H
 exact gA 1 19 17<|rA 2<|gE H fun hg1 H=> LAt.binC tOk (op := .shl) (t := 3) (ty := 163) (ty' := 3) (x := (.const (.int .i64 1))) (y := (.tmp 8)) (d := 9) (g := none) (.int .i64 1) (.int .u64 (IntKind.wrap .u64 x1)) (.int .i64 (wI (1 * 2 ^ min (((IntKind.wrap .u64 x1) : Int)).toNat (IntKind.bits .i64)))) _ kr kr kr kr kr (φ := (0 : Int) ≤ (IntKind.wrap .u64 x1)) kr (of_decide_eq_true hg1) rfl<|uA 2 49 17<|rA 3<|bE H fun r2 er2 H=> vL [.lend,.rd] (zL n x0 (wI ((wI ((wI (1 * 2 ^ min (((IntKind.wrap .u64 x1) : Int)).toNat (IntKind.bits .i64))) - 1)) + 1)) r2 er2)<|uA 1 113 17<|rA 2<|bE H fun r3 er3 H=> vL [.lend,.rd] (zj n r2.2 [1,2,3,2] r3 er3)<|lA 5<|bE H fun r4 er4 H=> vL [.lend,.rd] (zL n r3.2 (wI ((wI ((wI (1 * 2 ^ min (((IntKind.wrap .u64 x1) : Int)).toNat (IntKind.bits .i64))) - 1)) + 1)) r4 er4)<|uA 3 17 17<|te<|fY [(true,[cI r3.1,cI r2.1,cI (wI (bO r2.1 &&& bO r4.1).toNat)])] [(0,(fR (Src.row r4.2)))] H
def zA5 (n : Nat) (x0 : zD) (x1 : zC) (y5 : Bool) (y6 : (List zC)) : Option (zD) :=
  (bif (!y5) then (bif (decide (y6.length + [x1].length ≤ 268435456)) then (some (⟨(y6 ++ [x1]),(([] : List Int) ++ x0.Pv)⟩ : zD)) else none) else (some (⟨y6,(([] : List Int) ++ x0.Pv)⟩ : zD)))
def YY (n : Nat) (k : (Int × Bool × (List zC) → Option ((Bool × (List zC)) ⊕ (zD)))) (x0 : zD) (x1 : zC) (y2 : Int) (y9 : Bool) (y10 : Bool) (y11 : Bool) (y12 : Bool) (y13 : (List zC)) : Option ((Bool × (List zC)) ⊕ (zD)) :=
  ((idx x0.Rows y2).bind fun v14 => (bif (v14.Id != x1.Id) then ((idx x0.Rows y2).bind fun v15 => (bif (decide (y13.length + [v15].length ≤ 268435456)) then (k ((IntKind.wrap .i64 (y2 + 1)),y12,(y13 ++ [v15]))) else none)) else (k ((IntKind.wrap .i64 (y2 + 1)),y12,y13))))
def ZI (n : Nat) : Nat → zD → zC → Int → Bool → (List zC) → Option ((Bool × (List zC)) ⊕ (zD))
  | 0,_,_,_,_,_ => none
  | mo8 + 1,x0,x1,y2,y3,y4 => (bif (decide (y2 < (x0.Rows.length : Int))) then (bif (!y3) then ((idx x0.Rows y2).bind fun v17 => (bif (decide (v17.Id ≥ x1.Id)) then (bif (decide (y4.length + [x1].length ≤ 268435456)) then (YY n (fun v => ZI n mo8 x0 x1 v.1 v.2.1 v.2.2) x0 x1 y2 true true true true (y4 ++ [x1])) else none) else (YY n (fun v => ZI n mo8 x0 x1 v.1 v.2.1 v.2.2) x0 x1 y2 false true true y3 y4))) else (YY n (fun v => ZI n mo8 x0 x1 v.1 v.2.1 v.2.2) x0 x1 y2 false false false y3 y4)) else (some (Sum.inl (y3,y4))))
def zBC (n : Nat) (x0 : zD) (x1 : zC) : Option (zD) :=
  (bif (decide (([] : List Int).length + x0.Pv.length ≤ 268435456)) then ((ZI n n x0 x1 0 false ([] : List zC)).bind fun o => match o with | .inl (y5,y6) => (zA5 n x0 x1 y5 y6) | .inr r => some r) else none)
def zP3 : Tab := ⟨13,[0,1,2,4,12,4,52,68,132,4,516,1284,2052],[0,1,2,4,12,4,52,68,132,4,516,1284,2052],[0,1,3,7,15,7,63,127,255,7,519,2047,4095]⟩
theorem zES : zc (rg Tryz.f187 6) zP3 = true := kr
theorem zKG (n : Nat) (x0 : zD) (x1 : zC) (r : zD) (H : zBC n x0 x1 = some r) : zE Tryz.prog 187 [.val true (fR (zD.row x0)),.val true (fR (zC.row x1))] [.val true (zD.row r)] [] := by
 refine cW Tryz.func187 (fun g d => sl [g 0,g 1,g 2,sl [g 3] (.block 0 (.loop (sl [sl [g 4] (cn 17 .skip (.exit 0)),.block 1 (sl [sl [d 6] (cn 32 (sl [g 7] (g 8)) .skip),d 9] (cn 47 (d 10) .skip))] (g 5)))),sl [g 11] (cn 59 (g 12) .skip),g 13] .ret) [.cell 4 29] fun cx=>?_
 unfold zBC at H
 refine gA 3 28 28<|rA 3<|gE H fun hg1 H=> pD intRow hg1<|uA 3 60 60<|gA 1 124 60<|tS<|gA 1 252 60 ?_
 obtain ⟨o8,eo8,Ho8⟩ := bs H
 clear H
 refine Tr.mid (ι := Bool × (List zC)) (fun v => ⟨67,0,[sB 6 v.1,sA 5 5 2 0,sA 4 4 2 0,sA 3 3 3 0],[(5,[cL 3 v.2 zC.row,cL 1 (([] : List Int) ++ x0.Pv) intRow]),(4,[cL 3 ([] : List zC) zC.row,cL 1 ([] : List Int) intRow]),(3,(zC.row x1))]⟩) (fun v => zA5 n x0 x1 v.1 v.2 = some r) ?_ ?_
 ·refine tB<|Tr.loop (ι := Nat × (Int × Bool × (List zC))) (fun v => ⟨67,0,[sI 7 v.2.1,sB 6 v.2.2.1,sA 5 5 2 0,sA 4 4 2 0,sA 3 3 3 0,sA 2 2 2 0],[(5,[cL 3 v.2.2.2 zC.row,cL 1 (([] : List Int) ++ x0.Pv) intRow]),(4,[cL 3 ([] : List zC) zC.row,cL 1 ([] : List Int) intRow]),(3,(zC.row x1)),(2,(fR (zD.row x0)))]⟩) (fun v => ZI n v.1 x0 x1 v.2.1 v.2.2.1 v.2.2.2 = some o8) (fun v => v.1) (n,(0,false,([] : List zC))) eo8 (St.sub_of [7,6,5,4,3,2] [5,4,3,2] kr) ?_
  rintro ⟨_ | mo8,y2,y3,y4⟩ H
  ·exact nN H
  have H : ZI n (mo8+1) x0 x1 y2 y3 y4 = some o8 := H
  rw [ZI] at H
  refine tS<|rA 3<|kF x0.Rows zC.row<|uA 1 254204 60 ?_
  obtain ⟨h2,H⟩ | ⟨h2,H⟩ := bC H
  ·refine nA h2<|Tr.exit<|aJ ?_
   cases H
   exact jA (y3,y4) Ho8 [6,5,4,3] [5,4,3]
  refine tA h2<|tK<|tS<|tB<|tS<|Tr.mid (ι := Bool × Bool × Bool × Bool × (List zC)) (fun v => ⟨67,0,[sB 32 v.1,sB 22 v.2.1,sB 21 v.2.2.1,sB 20 y3,sB 17 true,sI 16 (x0.Rows.length : Int),sC 15 (cF 3 x0.Rows zC.row),sA 14 2 2 0,sI 13 y2,sI 7 y2,sB 6 v.2.2.2.1,sA 5 5 2 0,sA 4 4 2 0,sA 3 3 3 0,sA 2 2 2 0],[(5,[cL 3 v.2.2.2.2 zC.row,cL 1 (([] : List Int) ++ x0.Pv) intRow]),(4,[cL 3 ([] : List zC) zC.row,cL 1 ([] : List Int) intRow]),(3,(zC.row x1)),(2,(fR (zD.row x0)))]⟩) (fun v => YY n (fun v => ZI n mo8 x0 x1 v.1 v.2.1 v.2.2) x0 x1 y2 v.1 v.2.1 v.2.2.1 v.2.2.2.1 v.2.2.2.2 = some o8) ?_ ?_
  ·refine tS<|sT ⟨67,0,[sB 17 (decide (y2 < (x0.Rows.length : Int))),sI 16 (x0.Rows.length : Int),sC 15 (cF 3 x0.Rows zC.row),sA 14 2 2 0,sI 13 y2,sI 7 y2,sB 6 y3,sA 5 5 2 0,sA 4 4 2 0,sA 3 3 3 0,sA 2 2 2 0],[(5,[cL 3 y4 zC.row,cL 1 (([] : List Int) ++ x0.Pv) intRow]),(4,[cL 3 ([] : List zC) zC.row,cL 1 ([] : List Int) intRow]),(3,(zC.row x1)),(2,(fR (zD.row x0)))]⟩ ?_
   cases h4 : (!y3)
   ·have H := qe h4 H
    refine Tr.draw mixed 13 kr ⟨67,0,[sB 32 false,(31,.tup []),(30,.tup []),(29,.tup []),(28,.tup []),(27,.tup []),(26,.tup []),(25,.tup []),(24,.tup []),(23,.tup []),sB 22 false,sB 21 false,sB 20 y3,sB 17 (decide (y2 < (x0.Rows.length : Int))),sI 16 (x0.Rows.length : Int),sC 15 (cF 3 x0.Rows zC.row),sA 14 2 2 0,sI 13 y2,sI 7 y2,sB 6 y3,sA 5 5 2 0,sA 4 4 2 0,sA 3 3 3 0,sA 2 2 2 0],[(5,[cL 3 y4 zC.row,cL 1 (([] : List Int) ++ x0.Pv) intRow]),(4,[cL 3 ([] : List zC) zC.row,cL 1 ([] : List Int) intRow]),(3,(zC.row x1)),(2,(fR (zD.row x0)))]⟩ (fun cx=>?_) ?_
    ·exact mA zES (zl [0,1,2]) 10 [] fun cx=>qA 7594236 60 [22,21] h4<|mA zES (zl [3,4,5,6,7,8,9,10,11,12]) 0 [] fun cx=>mE zES [32,31,30,29,28,27,26,25,24,23,22,21,20,17,16,15,14,13,7,6,5,4,3,2] [5,4,3,2]
    refine nB_<|tK<|sB' 8589140220 60 ⟨67,0,[sB 32 false,(31,.tup []),(30,.tup []),(29,.tup []),(28,.tup []),(27,.tup []),(26,.tup []),(25,.tup []),(24,.tup []),(23,.tup []),sB 22 false,sB 21 false,sB 20 y3,sB 17 (decide (y2 < (x0.Rows.length : Int))),sI 16 (x0.Rows.length : Int),sC 15 (cF 3 x0.Rows zC.row),sA 14 2 2 0,sI 13 y2,sI 7 y2,sB 6 y3,sA 5 5 2 0,sA 4 4 2 0,sA 3 3 3 0,sA 2 2 2 0],[(5,[cL 3 y4 zC.row,cL 1 (([] : List Int) ++ x0.Pv) intRow]),(4,[cL 3 ([] : List zC) zC.row,cL 1 ([] : List Int) intRow]),(3,(zC.row x1)),(2,(fR (zD.row x0)))]⟩ ?_
    rw [h2]
    exact jA (false,false,false,y3,y4) H [32,22,21,20,17,16,15,14,13,7,6,5,4,3,2] [5,4,3,2]
   have H := qf h4 H
   refine bE H fun v17 ev17 H=> Tr.draw mixed 13 kr ⟨67,0,[sB 32 (decide (v17.Id ≥ x1.Id)),sB 31 (decide (v17.Id ≥ x1.Id)),sI 30 x1.Id,sA 29 3 3 0,sI 28 v17.Id,(27,.fad ((zC.row v17))),(26,.fad ((zC.row v17))),sI 25 y2,sR 24 2 2 0 1 false,sA 23 2 2 0,sB 22 true,sB 21 true,sB 20 y3,sB 17 (decide (y2 < (x0.Rows.length : Int))),sI 16 (x0.Rows.length : Int),sC 15 (cF 3 x0.Rows zC.row),sA 14 2 2 0,sI 13 y2,sI 7 y2,sB 6 y3,sA 5 5 2 0,sA 4 4 2 0,sA 3 3 3 0,sA 2 2 2 0],[(5,[cL 3 y4 zC.row,cL 1 (([] : List Int) ++ x0.Pv) intRow]),(4,[cL 3 ([] : List zC) zC.row,cL 1 ([] : List Int) intRow]),(3,(zC.row x1)),(2,(fR (zD.row x0)))]⟩ (fun cx=>?_) ?_
   ·exact mA zES (zl [0,1,2]) 10 [] fun cx=>qA 7594236 60 [22,21] h4<|mA zES (zl [3,4,5]) 7 [⟨[],26,23,24⟩] fun cx=>iN zES 6 zC.row ev17 fun cx=>mA zES (zl [7,8,9,10,11,12]) 0 [⟨[],3,29,30⟩,⟨[],26,23,24⟩] fun cx=>mE zES [32,31,30,29,28,27,26,25,24,23,22,21,20,17,16,15,14,13,7,6,5,4,3,2] [5,4,3,2]
   obtain ⟨h5,H⟩ | ⟨h5,H⟩ := bC H
   ·refine qT [32,31] h5<|nB_<|tK<|sB' 8589140220 60 ⟨67,0,[sB 32 false,sB 31 false,sI 30 x1.Id,sA 29 3 3 0,sI 28 v17.Id,(27,.fad ((zC.row v17))),(26,.fad ((zC.row v17))),sI 25 y2,sR 24 2 2 0 1 false,sA 23 2 2 0,sB 22 true,sB 21 true,sB 20 y3,sB 17 (decide (y2 < (x0.Rows.length : Int))),sI 16 (x0.Rows.length : Int),sC 15 (cF 3 x0.Rows zC.row),sA 14 2 2 0,sI 13 y2,sI 7 y2,sB 6 y3,sA 5 5 2 0,sA 4 4 2 0,sA 3 3 3 0,sA 2 2 2 0],[(5,[cL 3 y4 zC.row,cL 1 (([] : List Int) ++ x0.Pv) intRow]),(4,[cL 3 ([] : List zC) zC.row,cL 1 ([] : List Int) intRow]),(3,(zC.row x1)),(2,(fR (zD.row x0)))]⟩ ?_
    rw [h2]
    exact jA (false,true,true,y3,y4) H [32,22,21,20,17,16,15,14,13,7,6,5,4,3,2] [5,4,3,2]
   refine qT [32,31] h5<|tB_<|rA 4<|gE H fun hg18 H=> LAt.appMU tOk (t := 26) (ty := 26) (e := 113) (x := (.tmp 34)) (y := (.tmp 36)) (d := 37) (g := none) (tI 113) zC.row y4 [x1] kr kr kr kr kr kr kr kr kr kr hg18<|uA 2 326416720124 60<|eA 1 326416720124 60<|sB' 326416720124 60 ⟨67,0,[sB 6 true,sA 38 5 2 0,sV 35 (zC.row x1),sA 33 5 2 0,sB 32 true,sB 31 true,sI 30 x1.Id,sA 29 3 3 0,sI 28 v17.Id,(27,.fad ((zC.row v17))),(26,.fad ((zC.row v17))),sI 25 y2,sR 24 2 2 0 1 false,sA 23 2 2 0,sB 22 true,sB 21 true,sB 20 y3,sB 17 (decide (y2 < (x0.Rows.length : Int))),sI 16 (x0.Rows.length : Int),sC 15 (cF 3 x0.Rows zC.row),sA 14 2 2 0,sI 13 y2,sI 7 y2,sA 5 5 2 0,sA 4 4 2 0,sA 3 3 3 0,sA 2 2 2 0],[(5,[cL 3 (y4 ++ [x1]) zC.row,cL 1 (([] : List Int) ++ x0.Pv) intRow]),(4,[cL 3 ([] : List zC) zC.row,cL 1 ([] : List Int) intRow]),(3,(zC.row x1)),(2,(fR (zD.row x0)))]⟩ ?_
   rw [h2]
   exact jA (true,true,true,true,(y4 ++ [x1])) H [32,22,21,20,17,16,15,14,13,7,6,5,4,3,2] [5,4,3,2]
  rintro ⟨y9,y10,y11,y12,y13⟩ H
  have H : (YY n (fun v => ZI n mo8 x0 x1 v.1 v.2.1 v.2.2) x0 x1 y2 y9 y10 y11 y12 y13) = some o8 := H
  unfold YY at H
  refine bE H fun v14 ev14 H=> Tr.draws mixed 9 kr ⟨67,0,[sB 47 (v14.Id != x1.Id),sI 46 x1.Id,sA 45 3 3 0,sI 44 v14.Id,(43,.fad ((zC.row v14))),(42,.fad ((zC.row v14))),sI 41 y2,sR 40 2 2 0 1 false,sA 39 2 2 0,sB 32 y9,sB 22 y10,sB 21 y11,sB 20 y3,sB 17 true,sI 16 (x0.Rows.length : Int),sC 15 (cF 3 x0.Rows zC.row),sA 14 2 2 0,sI 13 y2,sI 7 y2,sB 6 y12,sA 5 5 2 0,sA 4 4 2 0,sA 3 3 3 0,sA 2 2 2 0],[(5,[cL 3 y13 zC.row,cL 1 (([] : List Int) ++ x0.Pv) intRow]),(4,[cL 3 ([] : List zC) zC.row,cL 1 ([] : List Int) intRow]),(3,(zC.row x1)),(2,(fR (zD.row x0)))]⟩ (fun cx=>?_) ?_
  ·refine aA (zl [0,1,2]) 6 [⟨[],26,39,40⟩] fun cx=>aI tOk 3 26 0 40 41 42 none ⟨(.box 2),[(0,0)],0,false,3,(CV.frzEs (x0.Rows.map zC.row))⟩ y2 (zC.row v14) _ kr kr kr kr kr kr rfl (Qb ev14) rfl (fun cx=>?_)
   exact aA (zl [4,5,6,7,8]) 0 [⟨[],3,45,46⟩,⟨[],26,39,40⟩] fun cx=>eE [47,46,45,44,43,42,41,40,39,32,22,21,20,17,16,15,14,13,7,6,5,4,3,2] [5,4,3,2]
  obtain ⟨h3,H⟩ | ⟨h3,H⟩ := bC H
  ·exact qT [47] h3<|nB_<|tK<|eA 3 0xff81007fe0fc 60<|jB mo8 ((wI (y2 + 1)),y12,y13) H [7,6,5,4,3,2] [5,4,3,2]
  refine qT [47] h3<|tB_<|bE H fun v15 ev15 H=> gE H fun hg16 H=> Tr.draw mixed 11 kr ⟨67,0,[sA 57 5 2 0,sV 54 (zC.row v15),(53,.fad ((zC.row v15))),sI 52 y2,sR 51 2 2 0 1 false,sA 50 2 2 0,sA 48 5 2 0,sB 47 true,sI 46 x1.Id,sA 45 3 3 0,sI 44 v14.Id,(43,.fad ((zC.row v14))),(42,.fad ((zC.row v14))),sI 41 y2,sR 40 2 2 0 1 false,sA 39 2 2 0,sB 32 y9,sB 22 y10,sB 21 y11,sB 20 y3,sB 17 true,sI 16 (x0.Rows.length : Int),sC 15 (cF 3 x0.Rows zC.row),sA 14 2 2 0,sI 13 y2,sI 7 y2,sB 6 y12,sA 5 5 2 0,sA 4 4 2 0,sA 3 3 3 0,sA 2 2 2 0],[(5,[cL 3 (y13 ++ [v15]) zC.row,cL 1 (([] : List Int) ++ x0.Pv) intRow]),(4,[cL 3 ([] : List zC) zC.row,cL 1 ([] : List Int) intRow]),(3,(zC.row x1)),(2,(fR (zD.row x0)))]⟩ (fun cx=>?_) ?_
  ·refine aA [(0,[]),(1,[8,10]),(2,[]),(3,[7,8,10]),(4,[])] 6 [⟨[7,8,10],26,50,51⟩,⟨[8,10],26,48,49⟩] fun cx=>aI tOk 5 26 0 51 52 53 none ⟨(.box 2),[(0,0)],0,false,3,(CV.frzEs (x0.Rows.map zC.row))⟩ y2 (zC.row v15) _ kr kr kr kr kr kr rfl (Qb ev15) rfl (fun cx=>?_)
   exact aA [(6,[])] 4 [⟨[7,8,10],26,50,51⟩,⟨[8,10],26,48,49⟩] fun cx=>bA 7<|lA 1<|fA<|bA 8<|LAt.appMU tOk (t := 26) (ty := 26) (e := 113) (x := (.tmp 49)) (y := (.tmp 55)) (d := 56) (g := none) (tI 113) zC.row y13 [v15] kr kr kr kr kr kr kr kr kr kr hg16<|fA<|aA [(9,[])] 1 [⟨[7,8,10],26,50,51⟩,⟨[8,10],26,48,49⟩] fun cx=>bA 10<|lA 1<|fA<|eE [57,54,53,52,51,50,48,47,46,45,44,43,42,41,40,39,32,22,21,20,17,16,15,14,13,7,6,5,4,3,2] [5,4,3,2]
  exact eA 3 0x27dff81007fe0fc 60<|jB mo8 ((wI (y2 + 1)),y12,(y13 ++ [v15])) H [7,6,5,4,3,2] [5,4,3,2]
 rintro ⟨y5,y6⟩ H
 have H : (zA5 n x0 x1 y5 y6) = some r := H
 unfold zA5 at H
 refine tS<|gA 2 0x800000000000038 56 ?_
 obtain ⟨h1,H⟩ | ⟨h1,H⟩ := bC H
 ·exact nA h1<|tK<|gA 2 16 16<|te (fJ [(true,[cL 3 y6 zC.row,cL 1 (([] : List Int) ++ x0.Pv) intRow])] H)
 exact tA h1<|Tr.at<|lA 4<|gE H fun hg7 H=> LAt.appMU tOk (t := 26) (ty := 26) (e := 113) (x := (.tmp 61)) (y := (.tmp 63)) (d := 64) (g := none) (tI 113) zC.row y6 [x1] kr kr kr kr kr kr kr kr kr kr hg7<|uA 2 48 48<|gA 2 16 16<|te (fJ [(true,[cL 3 (y6 ++ [x1]) zC.row,cL 1 (([] : List Int) ++ x0.Pv) intRow])] H)
def zBo (n : Nat) (x0 : zD) (x1 : zC) : Option (zD × Bool) :=
  ((zy n x0 (x0.Pv.length : Int)).bind fun r1 => (bif (!r1) then ((ZY n x0).bind fun r4 => (some (r4,false))) else ((zBC n x0 x1).bind fun r2 => ((zAo n r2 x0).bind fun r3 => (some (r3.1,r3.2))))))
theorem zMi (n : Nat) (x0 : zD) (x1 : zC) (r : zD × Bool) (H : zBo n x0 x1 = some r) : zE Tryz.prog 192 [.val true (fR (zD.row x0)),.val true (fR (zC.row x1))] [.val true (zD.row r.1),.val false [.lit (.bool r.2)]] [] := by
 refine cW Tryz.func192 (fun g d => sl [g 0,sl [g 1] (cn 11 (sl [g 2] .ret) .skip),d 3] .ret) [.cell 4 29,.tmp 5] fun cx=>?_
 unfold zBo at H
 refine gA 4 28 28<|tS<|rA 3<|kF x0.Pv intRow<|bE H fun r1 er1 H=> vA [.rd,.rd] (zCY n x0 (x0.Pv.length : Int) r1 er1)<|uA 1 2076 28 ?_
 obtain ⟨h1,H⟩ | ⟨h1,H⟩ := bC H
 ·refine nA h1<|tK<|bE H fun r2 er2 H=> bE H fun r3 er3 H=> Tr.draws mixed 9 kr ⟨21,0,[sB 5 r3.2,sA 4 4 2 0],[(4,(zD.row r3.1))]⟩ (fun cx=>?_) ?_
  ·exact aA [(0,[2,4,7]),(1,[2,4,7]),(3,[4,7])] 6 [⟨[4,7],29,2,17⟩,⟨[2,4,7],113,3,15⟩,⟨[2,4,7],29,2,14⟩] fun cx=>bA 2<|vA [.rd,.rd] (zKG n x0 x1 r2 er2)<|fA<|bA 4<|vA [.own,.rd] (zID n r2 x0 r3 er3)<|fA<|aA [(5,[]),(6,[])] 2 [⟨[4,7],29,2,17⟩,⟨[2,4,7],113,3,15⟩,⟨[2,4,7],29,2,14⟩] fun cx=>bA 7<|lA 1<|fA<|aA [(8,[])] 0 [⟨[4,7],29,2,17⟩,⟨[2,4,7],113,3,15⟩,⟨[2,4,7],29,2,14⟩] fun cx=>eE [5,4] [4]
  exact te (fJ [(true,(zD.row r3.1)),(false,[cB r3.2])] H)
 exact tA h1<|rA 1<|bE H fun r4 er4 H=> vA [.rd] (Yh n x0 r4 er4)<|uA 2 48 16<|te (fJ [(true,(zD.row r4)),(false,[cB false])] H)
def zCJ (n : Nat) (y9 : (List Int)) (y10 : Int) (y11 : Int) (y12 : (List zC)) (y13 : (List Int)) : Option (zD × Src) :=
  (some ((⟨y12,y13⟩ : zD),(⟨y9,y10,y11⟩ : Src)))
def QO (n : Nat) : Nat → Int → Int → (List Int) → Int → Int → (List zC) → (List Int) → Option (((List Int) × Int × Int × (List zC) × (List Int)) ⊕ (zD × Src))
  | 0,_,_,_,_,_,_,_ => none
  | mo14 + 1,x1,y3,y4,y5,y6,y7,y8 => (bif (decide (y3 > 0)) then ((zG n (⟨y4,y5,y6⟩ : Src) 4).bind fun r15 => (bif (r15.1 == 0) then ((zG n r15.2 x1).bind fun r20 => ((zG n r20.2 3).bind fun r21 => ((zAz n (⟨y7,y8⟩ : zD) r20.1 (IntKind.wrap .i64 (1 + r21.1))).bind fun r22 => (QO n mo14 x1 (IntKind.wrap .i64 (y3 - 1)) r21.2.b r21.2.i r21.2.h r22.1.Rows r22.1.Pv)))) else (bif (r15.1 == 1) then ((zG n r15.2 2).bind fun r18 => ((Jl n (⟨y7,y8⟩ : zD) (IntKind.wrap .i64 (2 + r18.1))).bind fun r19 => (QO n mo14 x1 (IntKind.wrap .i64 (y3 - 1)) r18.2.b r18.2.i r18.2.h r19.1.Rows r19.1.Pv))) else ((zBv n r15.2 x1).bind fun r16 => ((zBo n (⟨y7,y8⟩ : zD) r16.1).bind fun r17 => (QO n mo14 x1 (IntKind.wrap .i64 (y3 - 1)) r16.2.b r16.2.i r16.2.h r17.1.Rows r17.1.Pv)))))) else (some (Sum.inl (y4,y5,y6,y7,y8))))
def zAZ (n : Nat) (x0 : Src) (x1 : Int) : Option (zD × Src) :=
  ((YS n x1).bind fun r1 => ((zG n x0 6).bind fun r2 => ((QO n n x1 r2.1 r2.2.b r2.2.i r2.2.h r1.Rows r1.Pv).bind fun o => match o with | .inl (y9,y10,y11,y12,y13) => (zCJ n y9 y10 y11 y12 y13) | .inr r => some r)))
def zP2 : Tab := ⟨12,[0,0,0,6,0,24,32,105,128,256,256,1023],[0,0,0,6,0,16,32,73,128,256,256,512],[0,0,0,6,0,30,62,127,255,511,511,1023]⟩
noncomputable abbrev zGm (k : Nat) := Rg Tryz.f182 k
noncomputable abbrev zON (k : Nat) := Rd Tryz.f182 k
theorem zCP : zc (rg Tryz.f182 8) zP2 = true := kr
theorem zIu (n : Nat) (x0 : Src) (x1 : Int) (r : zD × Src) (H : zAZ n x0 x1 = some r) : zE Tryz.prog 182 [.ptr (fR (Src.row x0)),.val false [.lit (.int .i64 x1)]] [.val true (zD.row r.1)] [(0,(fR (Src.row r.2)))] := by
 refine zE.of_body tOk Tryz.func182 rfl (c := (.seq (zGm 0) (.seq (zGm 1) (.seq (.seq (zGm 2) (.block 0 (.loop (.seq (.seq (zGm 3) (.cond (.tmp 12) .skip (.exit 0))) (.seq (.block 1 (.seq (zGm 5) (.block 2 (.seq (zGm 7) (.cond (.tmp 25) (zON 8) (.seq (zGm 9) (.cond (.tmp 38) (zON 10) (zON 6)))))))) (zGm 4)))))) (.seq (zGm 11) .ret))))) kr (Nat.le_of_ble_eq_true kr) 1 (rs := [.cell 4 29]) rfl [] .nil [(true,(zD.row r.1))] [] [(0,(fR (Src.row r.2)))] fun cx=>?_
 show Tr _ _ _ ⟨49,1,[sA 0 0 3 0,sI 1 x1],[(0,(fR (Src.row x0)))]⟩ _
 unfold zAZ at H
 refine gA 1 19 17<|rA 1<|bE H fun r1 er1 H=> vA [.rd] (zIA n x1 r1 er1)<|uA 2 51 49<|tS<|rA 1<|bE H fun r2 er2 H=> vL [.lend,.rd] (zL n x0 6 r2 er2)<|uA 1 115 49 ?_
 obtain ⟨o14,eo14,Ho14⟩ := bs H
 clear H
 refine Tr.mid (ι := (List Int) × Int × Int × (List zC) × (List Int)) (fun v => ⟨49,1,[sA 5 5 2 0,sA 4 4 2 0,sA 0 0 3 0],[(0,[cF 1 v.1 zZ,cI v.2.1,cI v.2.2.1]),(5,[cL 3 v.2.2.2.1 zC.row,cL 1 v.2.2.2.2 intRow]),(4,[cL 3 ([] : List zC) zC.row,cL 1 ([] : List Int) intRow])]⟩) (fun v => zCJ n v.1 v.2.1 v.2.2.1 v.2.2.2.1 v.2.2.2.2 = some r) ?_ ?_
 ·refine tB<|Tr.loop (ι := Nat × (Int × (List Int) × Int × Int × (List zC) × (List Int))) (fun v => ⟨49,1,[sI 6 v.2.1,sA 5 5 2 0,sA 4 4 2 0,sA 0 0 3 0,sI 1 x1],[(0,[cF 1 v.2.2.1 zZ,cI v.2.2.2.1,cI v.2.2.2.2.1]),(5,[cL 3 v.2.2.2.2.2.1 zC.row,cL 1 v.2.2.2.2.2.2 intRow]),(4,[cL 3 ([] : List zC) zC.row,cL 1 ([] : List Int) intRow])]⟩) (fun v => QO n v.1 x1 v.2.1 v.2.2.1 v.2.2.2.1 v.2.2.2.2.1 v.2.2.2.2.2.1 v.2.2.2.2.2.2 = some o14) (fun v => v.1) (n,(r2.1,r2.2.b,r2.2.i,r2.2.h,r1.Rows,r1.Pv)) eo14 (St.sub_of [6,5,4,0,1] [0,5,4] kr) ?_
  rintro ⟨_ | mo14,y3,y4,y5,y6,y7,y8⟩ H
  ·exact nN H
  have H : QO n (mo14+1) x1 y3 y4 y5 y6 y7 y8 = some o14 := H
  rw [QO] at H
  refine tS<|gA 2 4211 49 ?_
  obtain ⟨h1,H⟩ | ⟨h1,H⟩ := bC H
  ·refine nA h1<|Tr.exit<|aJ ?_
   cases H
   exact jA (y4,y5,y6,y7,y8) Ho14 [5,4,0] [0,5,4]
  refine tA h1<|tK<|tS<|tB<|rA 1<|bE H fun r15 er15 H=> vL [.lend,.rd] (zL n (⟨y4,y5,y6⟩ : Src) 4 r15 er15)<|dA 65651 49<|tB<|gA 2 33620083 49 ?_
  obtain ⟨h2,H⟩ | ⟨h2,H⟩ := bC H
  ·refine nA h2<|gA 2 274877907059 49 ?_
   obtain ⟨h3,H⟩ | ⟨h3,H⟩ := bC H
   ·refine nA h3<|bE H fun r16 er16 H=> bE H fun r17 er17 H=> Tr.draw mixed 9 kr ⟨49,1,[sI 6 y3,sA 5 5 2 0,sA 4 4 2 0,sA 0 0 3 0,sI 1 x1],[(5,(zD.row r17.1)),(0,(fR (Src.row r16.2))),(4,[cL 3 ([] : List zC) zC.row,cL 1 ([] : List Int) intRow])]⟩ (fun cx=>?_) ?_
    ·refine aA [(0,[4,8]),(1,[]),(2,[])] 6 [⟨[4,8],29,5,18⟩] fun cx=>bA 3<|vL [.lend,.rd] (zMp n r15.2 x1 r16 er16)<|fA<|bA 4<|vB [.rd,.rd] [.box 5] (zMi n (⟨y7,y8⟩ : zD) r16.1 r17 er17) (.inr (zM (zD.row_mine _) (zM (zJ zN zg) zT)))<|fA<|AT.movT tOk 5 (ty := 177) (t := 22) (d := 17) (g := none) [(true,(zD.row r17.1)),(false,[cB r17.2])] _ kr kr kr (.inl rfl) kr kr kr kr rfl (fun cx=>?_)
     exact aA [(6,[]),(7,[])] 1 [⟨[4,8],29,5,18⟩] fun cx=>bA 8<|lA 1<|fA<|eE [6,5,4,0,1] [5,0,4]
    exact eA 3 115 49<|jB mo14 ((wI (y3 - 1)),r16.2.b,r16.2.i,r16.2.h,r17.1.Rows,r17.1.Pv) H [6,5,4,0,1] [0,5,4]
   refine tA h3<|bE H fun r18 er18 H=> bE H fun r19 er19 H=> Tr.draw mixed 9 kr ⟨49,1,[sI 6 y3,sA 5 5 2 0,sA 4 4 2 0,sA 0 0 3 0,sI 1 x1],[(5,(zD.row r19.1)),(0,(fR (Src.row r18.2))),(4,[cL 3 ([] : List zC) zC.row,cL 1 ([] : List Int) intRow])]⟩ (fun cx=>?_) ?_
   ·refine aA [(0,[4,8]),(1,[])] 7 [⟨[4,8],29,5,41⟩] fun cx=>bA 2<|vL [.lend,.rd] (zL n r15.2 2 r18 er18)<|fA<|aA [(3,[])] 5 [⟨[4,8],29,5,41⟩] fun cx=>bA 4<|vB [.rd,.rd] [.box 5] (zML n (⟨y7,y8⟩ : zD) (wI (2 + r18.1)) r19 er19) (.inr (zM (zD.row_mine _) (zM (zJ zN zg) zT)))<|fA<|AT.movT tOk 5 (ty := 177) (t := 45) (d := 40) (g := none) [(true,(zD.row r19.1)),(false,[cB r19.2])] _ kr kr kr (.inl rfl) kr kr kr kr rfl (fun cx=>?_)
    exact aA [(6,[]),(7,[])] 1 [⟨[4,8],29,5,41⟩] fun cx=>bA 8<|lA 1<|fA<|eE [6,5,4,0,1] [5,0,4]
   exact eA 3 115 49<|jB mo14 ((wI (y3 - 1)),r18.2.b,r18.2.i,r18.2.h,r19.1.Rows,r19.1.Pv) H [6,5,4,0,1] [0,5,4]
  refine tA h2<|bE H fun r20 er20 H=> bE H fun r21 er21 H=> bE H fun r22 er22 H=> Tr.draw mixed 12 kr ⟨49,1,[sI 6 y3,sA 5 5 2 0,sA 4 4 2 0,sA 0 0 3 0,sI 1 x1],[(5,(zD.row r22.1)),(0,(fR (Src.row r21.2))),(4,[cL 3 ([] : List zC) zC.row,cL 1 ([] : List Int) intRow])]⟩ (fun cx=>?_) ?_
  ·refine mA zCP ([(0,[7,11])]++zl [1,2,4]) 8 [⟨[7,11],29,5,28⟩] fun cx=>mC zCP 3<|vL [.lend,.rd] (zL n r15.2 x1 r20 er20)<|fA<|mC zCP 5<|vL [.lend,.rd] (zL n r20.2 3 r21 er21)<|fA<|mA zCP [(6,[])] 5 [⟨[7,11],29,5,28⟩] fun cx=>mC zCP 7<|vB [.rd,.rd,.rd] [.box 5] (zMM n (⟨y7,y8⟩ : zD) r20.1 (wI (1 + r21.1)) r22 er22) (.inr (zM (zD.row_mine _) (zM (zJ zN zg) zT)))<|fA<|AT.movT tOk 8 (ty := 177) (t := 35) (d := 27) (g := none) [(true,(zD.row r22.1)),(false,[cB r22.2])] _ kr (oM zCP kr) (dM zCP kr) (.inl rfl) kr kr kr kr rfl (fun cx=>?_)
   exact mA zCP [(9,[]),(10,[])] 1 [⟨[7,11],29,5,28⟩] fun cx=>mC zCP 11<|lA 1<|fA<|mE zCP [6,5,4,0,1] [5,0,4]
  exact eA 3 115 49<|jB mo14 ((wI (y3 - 1)),r21.2.b,r21.2.i,r21.2.h,r22.1.Rows,r22.1.Pv) H [6,5,4,0,1] [0,5,4]
 rintro ⟨y9,y10,y11,y12,y13⟩ H
 have H : (zCJ n y9 y10 y11 y12 y13) = some r := H
 unfold zCJ at H
 exact gA 2 17 17<|te<|fY [(true,[cL 3 y12 zC.row,cL 1 y13 intRow])] [(0,[cF 1 y9 zZ,cI y10,cI y11])] H
def JL (n : Nat) (x0 : Src) : Option (Int × Src) :=
  ((zX n x0 [11,12,13,14]).bind fun r1 => (some (r1.1,r1.2)))
noncomputable abbrev zPa (k : Nat) := Rg Tryz.f184 k
theorem zFJ (n : Nat) (x0 : Src) (r : Int × Src) (H : JL n x0 = some r) : zE Tryz.prog 184 [.ptr (fR (Src.row x0))] [.val false [.lit (.int .i64 r.1)]] [(0,(fR (Src.row r.2)))] := by
 refine zE.of_body tOk Tryz.func184 rfl (c := (.seq (zPa 0) (.seq (zPa 1) .ret))) kr (Nat.le_of_ble_eq_true kr) 1 (rs := [.tmp 2]) rfl [] .nil [(false,[.lit (.int .i64 r.1)])] [] [(0,(fR (Src.row r.2)))] fun cx=>?_
 show Tr _ _ _ ⟨6,1,[sA 0 0 3 0],[(0,(fR (Src.row x0)))]⟩ _
 unfold JL at H
 exact gA 1 1 1<|rA 2<|bE H fun r1 er1 H=> vL [.lend,.rd] (zj n x0 [11,12,13,14] r1 er1)<|uA 1 5 1<|te<|fY [(false,[cI r1.1])] [(0,(fR (Src.row r1.2)))] H
def zDW (n : Nat) : Option (Int) :=
  (some (-1))
def QD (n : Nat) : Nat → (List zB) → Int → Int → Int → Option ((Unit) ⊕ (Int))
  | 0,_,_,_,_ => none
  | mo2 + 1,x0,x1,x2,y1 => (bif (decide (y1 < (x0.length : Int))) then ((idx x0 y1).bind fun v3 => (bif (v3.Tag == x1) then ((idx x0 y1).bind fun v4 => (bif (v4.Mac == x2) then (some (Sum.inr y1)) else (QD n mo2 x0 x1 x2 (IntKind.wrap .i64 (y1 + 1))))) else (QD n mo2 x0 x1 x2 (IntKind.wrap .i64 (y1 + 1))))) else (some (Sum.inl ())))
def zAn (n : Nat) (x0 : (List zB)) (x1 : Int) (x2 : Int) : Option (Int) :=
  ((QD n n x0 x1 x2 0).bind fun o => match o with | .inl _ => (zDW n) | .inr r => some r)
theorem zLM (n : Nat) (x0 : (List zB)) (x1 : Int) (x2 : Int) (r : Int) (H : zAn n x0 x1 x2 = some r) : zE Tryz.prog 194 [.val false [.sl false 5 (CV.frzEs (x0.map zB.row))],.val false [.lit (.int .i64 x1)],.val false [.lit (.int .i64 x2)]] [.val false [.lit (.int .i64 r)]] [] := by
 refine cW Tryz.func194 (fun g d => sl [g 0,sl [g 1] (.block 0 (.loop (sl [sl [g 2] (cn 11 .skip (.exit 0)),.block 1 (sl [g 4] (cn 29 (sl [g 5] .ret) .skip))] (g 3)))),g 6] .ret) [.tmp 6] fun cx=>?_
 unfold zAn at H
 refine gA 1 7 0<|tS<|gA 1 135 0 ?_
 obtain ⟨o2,eo2,Ho2⟩ := bs H
 clear H
 refine Tr.mid (ι := Unit) (fun v => ⟨31,0,[],[]⟩) (fun v => zDW n = some r) ?_ ?_
 ·refine tB<|Tr.loop (ι := Nat × (Int)) (fun v => ⟨31,0,[sI 7 v.2,sC 0 (cF 5 x0 zB.row),sI 1 x1,sI 2 x2],[]⟩) (fun v => QD n v.1 x0 x1 x2 v.2 = some o2) (fun v => v.1) (n,0) eo2 (St.sub_of [7,0,1,2] [] kr) ?_
  rintro ⟨_ | mo2,y1⟩ H
  ·exact nN H
  have H : QD n (mo2+1) x0 x1 x2 y1 = some o2 := H
  rw [QD] at H
  refine tS<|rA 2<|kF x0 zB.row<|uA 1 2183 0 ?_
  obtain ⟨h1,H⟩ | ⟨h1,H⟩ := bC H
  ·refine nA h1<|Tr.exit<|aJ ?_
   cases H
   exact jA () Ho2 [] []
  refine tA h1<|tK<|tS<|tB<|rA 2<|bE H fun v3 ev3 H=> iA zB.row ev3<|lA 5 ?_
  obtain ⟨h2,H⟩ | ⟨h2,H⟩ := bC H
  ·exact qL 2097287 0 [21] h2<|uA 8 536871047 0<|nB_<|tK<|eA 3 135 0<|jB mo2 (wI (y1 + 1)) H [7,0,1,2] []
  refine qL 2097287 0 [21] h2<|lA 2<|bE H fun v4 ev4 H=> iA zB.row ev4<|uA 5 536871047 0 ?_
  obtain ⟨h3,H⟩ | ⟨h3,H⟩ := bC H
  ·exact nA h3<|tK<|eA 3 135 0<|jB mo2 (wI (y1 + 1)) H [7,0,1,2] []
  refine tA h3<|gA 2 64 0<|te ?_
  cases H
  exact fJ [(false,[cI y1])] Ho2
 rintro _ H
 have H : (zDW n) = some r := H
 unfold zDW at H
 exact gA 1 64 0<|te (fJ [(false,[cI (-1)])] H)
def zA3 (n : Nat) (x1 : zB) (y4 : Bool) (y5 : (List zB)) : Option ((List zB)) :=
  (bif (!y4) then (bif (decide (y5.length + [x1].length ≤ 268435456)) then (some (y5 ++ [x1])) else none) else (some y5))
def Qn (n : Nat) (k : (Int × Bool × (List zB) → Option ((Bool × (List zB)) ⊕ ((List zB))))) (x0 : (List zB)) (x1 : zB) (y1 : Int) (y8 : Bool) (y9 : (List zB)) : Option ((Bool × (List zB)) ⊕ ((List zB))) :=
  ((idx x0 y1).bind fun v10 => (bif (v10.Tag != x1.Tag) then ((idx x0 y1).bind fun v14 => (bif (decide (y9.length + [v14].length ≤ 268435456)) then (k ((IntKind.wrap .i64 (y1 + 1)),y8,(y9 ++ [v14]))) else none)) else ((idx x0 y1).bind fun v11 => (bif (v11.Mac != x1.Mac) then ((idx x0 y1).bind fun v12 => (bif (decide (y9.length + [v12].length ≤ 268435456)) then (k ((IntKind.wrap .i64 (y1 + 1)),y8,(y9 ++ [v12]))) else none)) else (k ((IntKind.wrap .i64 (y1 + 1)),y8,y9))))))
def q8 (n : Nat) : Nat → (List zB) → zB → Int → Bool → (List zB) → Option ((Bool × (List zB)) ⊕ ((List zB)))
  | 0,_,_,_,_,_ => none
  | mo7 + 1,x0,x1,y1,y2,y3 => (bif (decide (y1 < (x0.length : Int))) then (bif (!y2) then ((idx x0 y1).bind fun v16 => ((Zm n v16 x1.Tag x1.Mac).bind fun r17 => (bif (!r17) then (bif (decide (y3.length + [x1].length ≤ 268435456)) then (Qn n (fun v => q8 n mo7 x0 x1 v.1 v.2.1 v.2.2) x0 x1 y1 true (y3 ++ [x1])) else none) else (Qn n (fun v => q8 n mo7 x0 x1 v.1 v.2.1 v.2.2) x0 x1 y1 y2 y3)))) else (Qn n (fun v => q8 n mo7 x0 x1 v.1 v.2.1 v.2.2) x0 x1 y1 y2 y3)) else (some (Sum.inl (y2,y3))))
def YA (n : Nat) (x0 : (List zB)) (x1 : zB) : Option ((List zB)) :=
  ((q8 n n x0 x1 0 false ([] : List zB)).bind fun o => match o with | .inl (y4,y5) => (zA3 n x1 y4 y5) | .inr r => some r)
def zP7 : Tab := ⟨14,[0,1,2,4,4,28,36,4,132,4,516,1348,2052,4100],[0,1,2,4,4,28,36,4,132,4,516,1348,2052,4100],[0,1,3,7,7,31,63,7,135,7,519,2047,4095,8191]⟩
theorem zCQ : zc (rg Tryz.f195 6) zP7 = true := kr
def zP8 : Tab := ⟨18,[0,0,3,4,8,0,32,80,128,256,256,1792,2304,4352,256,16640,41216,65792],[0,0,3,4,8,0,32,80,128,256,256,1792,2304,4352,256,16640,41216,65792],[0,0,3,7,15,0,32,127,255,511,511,2047,4095,8191,511,16895,65535,131071]⟩
theorem zAq : zc (rg Tryz.f195 9) zP8 = true := kr
theorem zCI (n : Nat) (x0 : (List zB)) (x1 : zB) (r : (List zB)) (H : YA n x0 x1 = some r) : zE Tryz.prog 195 [.val false [.sl false 5 (CV.frzEs (x0.map zB.row))],.val true (fR (zB.row x1))] [.val false [.sl true 5 (r.map zB.row)]] [] := by
 refine cW Tryz.func195 (fun g d => sl [g 0,g 1,g 2,sl [g 3] (.block 0 (.loop (sl [sl [g 4] (cn 12 .skip (.exit 0)),.block 1 (sl [sl [d 6] (cn 28 (sl [g 7] (g 8)) .skip),d 9] (cn 50 (g 10) .skip))] (g 5)))),sl [g 11] (cn 59 (g 12) .skip),g 13] .ret) [.tmp 4] fun cx=>?_
 unfold YA at H
 refine gA 2 9 8<|rA 1<|LAt.moveU (T := lk tab) (ty := 25) (x := (.tmp 8)) (d := 5) (g := none) false [cL 5 ([] : List zB) zB.row] kr kr kr kr kr<|dA 41 8<|gA 1 105 8<|tS<|gA 1 233 8 ?_
 obtain ⟨o7,eo7,Ho7⟩ := bs H
 clear H
 refine Tr.mid (ι := Bool × (List zB)) (fun v => ⟨65,0,[sB 6 v.1,sC 5 (cL 5 v.2 zB.row),sA 3 3 5 0],[(3,(zB.row x1))]⟩) (fun v => zA3 n x1 v.1 v.2 = some r) ?_ ?_
 ·refine tB<|Tr.loop (ι := Nat × (Int × Bool × (List zB))) (fun v => ⟨65,0,[sI 7 v.2.1,sB 6 v.2.2.1,sC 5 (cL 5 v.2.2.2 zB.row),sA 3 3 5 0,sC 0 (cF 5 x0 zB.row)],[(3,(zB.row x1))]⟩) (fun v => q8 n v.1 x0 x1 v.2.1 v.2.2.1 v.2.2.2 = some o7) (fun v => v.1) (n,(0,false,([] : List zB))) eo7 (St.sub_of [7,6,5,3,0] [3] kr) ?_
  rintro ⟨_ | mo7,y1,y2,y3⟩ H
  ·exact nN H
  have H : q8 n (mo7+1) x0 x1 y1 y2 y3 = some o7 := H
  rw [q8] at H
  refine tS<|rA 2<|kF x0 zB.row<|uA 1 4329 8 ?_
  obtain ⟨h2,H⟩ | ⟨h2,H⟩ := bC H
  ·refine nA h2<|Tr.exit<|aJ ?_
   cases H
   exact jA (y2,y3) Ho7 [6,5,3] [3]
  refine tA h2<|tK<|tS<|tB<|tS<|Tr.mid (ι := Bool × (List zB)) (fun v => ⟨65,0,[sI 7 y1,sB 6 v.1,sC 5 (cL 5 v.2 zB.row),sA 3 3 5 0,sC 0 (cF 5 x0 zB.row)],[(3,(zB.row x1))]⟩) (fun v => Qn n (fun v => q8 n mo7 x0 x1 v.1 v.2.1 v.2.2) x0 x1 y1 v.1 v.2 = some o7) ?_ ?_
  ·refine tS<|sT ⟨65,0,[sB 12 (decide (y1 < (x0.length : Int))),sI 7 y1,sB 6 y2,sC 5 (cL 5 y3 zB.row),sA 3 3 5 0,sC 0 (cF 5 x0 zB.row)],[(3,(zB.row x1))]⟩ ?_
   cases h5 : (!y2)
   ·have H := qe h5 H
    refine Tr.draw mixed 14 kr ⟨65,0,[sB 28 false,sI 7 y1,sB 6 y2,sC 5 (cL 5 y3 zB.row),sA 3 3 5 0,sC 0 (cF 5 x0 zB.row)],[(3,(zB.row x1))]⟩ (fun cx=>?_) ?_
    ·exact mA zCQ (zl [0,1,2]) 11 [] fun cx=>qA 131305 8 [17] h5<|mA zCQ (zl [3,4,5,6,7,8,9,10,11,12,13]) 0 [] fun cx=>mE zCQ [28,7,6,5,3,0] [3]
    exact nB_<|tK<|jA (y2,y3) H [7,6,5,3,0] [3]
   have H := qf h5 H
   refine bE H fun v16 ev16 H=> bE H fun r17 er17 H=> Tr.draw mixed 14 kr ⟨65,0,[sB 28 (!r17),sI 7 y1,sB 6 y2,sC 5 (cL 5 y3 zB.row),sA 3 3 5 0,sC 0 (cF 5 x0 zB.row)],[(3,(zB.row x1))]⟩ (fun cx=>?_) ?_
   ·exact mA zCQ (zl [0,1,2]) 11 [] fun cx=>qA 131305 8 [17] h5<|mA zCQ [(3,[]),(4,[])] 9 [] fun cx=>iN zCQ 5 zB.row ev16 fun cx=>mA zCQ [(6,[]),(7,[]),(8,[11]),(9,[]),(10,[11])] 3 [⟨[11],3,24,25⟩,⟨[11],3,22,23⟩] fun cx=>mC zCQ 11<|vA [.rd,.rd,.rd] (zIC n v16 x1.Tag x1.Mac r17 er17)<|fA<|mA zCQ [(12,[]),(13,[])] 0 [⟨[11],3,24,25⟩,⟨[11],3,22,23⟩] fun cx=>mE zCQ [28,7,6,5,3,0] [3]
   obtain ⟨h6,H⟩ | ⟨h6,H⟩ := bC H
   ·exact qT [28] h6<|nB_<|tK<|jA (y2,y3) H [7,6,5,3,0] [3]
   exact qT [28] h6<|tB_<|rA 3<|gE H fun hg18 H=> LAt.appMU tOk (t := 25) (ty := 25) (e := 103) (x := (.tmp 29)) (y := (.tmp 31)) (d := 32) (g := none) (tI 103) zB.row y3 [x1] kr kr kr kr kr kr kr kr kr kr hg18<|LAt.moveU (T := lk tab) (ty := 25) (x := (.tmp 32)) (d := 5) (g := none) false [cL 5 (y3 ++ [x1]) zB.row] kr kr kr kr kr<|dA 169 8<|eA 1 233 8<|jA (true,(y3 ++ [x1])) H [7,6,5,3,0] [3]
  rintro ⟨y8,y9⟩ H
  have H : (Qn n (fun v => q8 n mo7 x0 x1 v.1 v.2.1 v.2.2) x0 x1 y1 y8 y9) = some o7 := H
  unfold Qn at H
  refine tS<|bE H fun v10 ev10 H=> sT ⟨65,0,[sI 7 y1,sB 6 y8,sC 5 (cL 5 y9 zB.row),sA 3 3 5 0,sC 0 (cF 5 x0 zB.row)],[(3,(zB.row x1))]⟩ ?_
  cases h3 : (v10.Tag != x1.Tag)
  ·have H := qe h3 H
   refine bE H fun v11 ev11 H=> Tr.draw mixed 18 kr ⟨65,0,[sB 50 (v11.Mac != x1.Mac),sI 7 y1,sB 6 y8,sC 5 (cL 5 y9 zB.row),sA 3 3 5 0,sC 0 (cF 5 x0 zB.row)],[(3,(zB.row x1))]⟩ (fun cx=>?_) ?_
   ·exact mA zAq [(0,[]),(1,[])] 16 [] fun cx=>iN zAq 2 zB.row ev10 fun cx=>mA zAq (zl [3,4,5,6,7,8]) 9 [⟨[],3,38,39⟩] fun cx=>qA 3023656976617 8 [41] h3<|mA zAq [(9,[]),(10,[])] 7 [⟨[],3,38,39⟩] fun cx=>iN zAq 11 zB.row ev11 fun cx=>mA zAq (zl [12,13,14,15,16,17]) 0 [⟨[],3,47,48⟩,⟨[],3,38,39⟩] fun cx=>mE zAq [50,7,6,5,3,0] [3]
   obtain ⟨h4,H⟩ | ⟨h4,H⟩ := bC H
   ·exact qT [50] h4<|nB_<|tK<|eA 3 233 8<|jB mo7 ((wI (y1 + 1)),y8,y9) H [7,6,5,3,0] [3]
   exact qT [50] h4<|tB_<|Tr.at<|lA 3<|bE H fun v12 ev12 H=> iA zB.row ev12<|lA 2<|gE H fun hg13 H=> LAt.appMU tOk (t := 25) (ty := 25) (e := 103) (x := (.tmp 51)) (y := (.tmp 56)) (d := 57) (g := none) (tI 103) zB.row y9 [v12] kr kr kr kr kr kr kr kr kr kr hg13<|LAt.moveU (T := lk tab) (ty := 25) (x := (.tmp 57)) (d := 5) (g := none) false [cL 5 (y9 ++ [v12]) zB.row] kr kr kr kr kr<|dA 233 8<|eA 3 233 8<|jB mo7 ((wI (y1 + 1)),y8,(y9 ++ [v12])) H [7,6,5,3,0] [3]
  have H := qf h3 H
  refine Tr.draw mixed 18 kr ⟨65,0,[sB 50 true,sI 7 y1,sB 6 y8,sC 5 (cL 5 y9 zB.row),sA 3 3 5 0,sC 0 (cF 5 x0 zB.row)],[(3,(zB.row x1))]⟩ (fun cx=>?_) ?_
  ·exact mA zAq [(0,[]),(1,[])] 16 [] fun cx=>iN zAq 2 zB.row ev10 fun cx=>mA zAq (zl [3,4,5,6,7,8]) 9 [⟨[],3,38,39⟩] fun cx=>qA 3023656976617 8 [41] h3<|mA zAq (zl [9,10,11,12,13,14,15,16,17]) 0 [⟨[],3,38,39⟩] fun cx=>mE zAq [50,7,6,5,3,0] [3]
  exact tB_<|Tr.at<|lA 3<|bE H fun v14 ev14 H=> iA zB.row ev14<|lA 2<|gE H fun hg15 H=> LAt.appMU tOk (t := 25) (ty := 25) (e := 103) (x := (.tmp 51)) (y := (.tmp 56)) (d := 57) (g := none) (tI 103) zB.row y9 [v14] kr kr kr kr kr kr kr kr kr kr hg15<|LAt.moveU (T := lk tab) (ty := 25) (x := (.tmp 57)) (d := 5) (g := none) false [cL 5 (y9 ++ [v14]) zB.row] kr kr kr kr kr<|dA 233 8<|eA 3 233 8<|jB mo7 ((wI (y1 + 1)),y8,(y9 ++ [v14])) H [7,6,5,3,0] [3]
 rintro ⟨y4,y5⟩ H
 have H : (zA3 n x1 y4 y5) = some r := H
 unfold zA3 at H
 refine tS<|gA 2 0x800000000000028 8 ?_
 obtain ⟨h1,H⟩ | ⟨h1,H⟩ := bC H
 ·exact nA h1<|tK<|gA 2 48 0<|te (fJ [(false,[cL 5 y5 zB.row])] H)
 exact tA h1<|Tr.at<|lA 3<|gE H fun hg6 H=> LAt.appMU tOk (t := 25) (ty := 25) (e := 103) (x := (.tmp 60)) (y := (.tmp 62)) (d := 63) (g := none) (tI 103) zB.row y5 [x1] kr kr kr kr kr kr kr kr kr kr hg6<|LAt.moveU (T := lk tab) (ty := 25) (x := (.tmp 63)) (d := 5) (g := none) false [cL 5 (y5 ++ [x1]) zB.row] kr kr kr kr kr<|dA 32 0<|gA 2 48 0<|te (fJ [(false,[cL 5 (y5 ++ [x1]) zB.row])] H)
def zBA (n : Nat) (x0 : (List zB)) (x1 : Int) (x2 : Int) (x3 : Int) : Option ((List zB)) :=
  ((zAn n x0 x1 x2).bind fun r1 => ((ZQ n x0).bind fun r2 => (bif (!r2) then ((qu n x0).bind fun r13 => (some r13)) else ((ZR n (⟨x1,x2,x3,0,false⟩ : zB)).bind fun r3 => (bif (!r3) then ((qu n x0).bind fun r12 => (some r12)) else (bif (decide (r1 ≥ 0)) then ((idx x0 r1).bind fun v7 => (bif v7.Sc then ((qu n x0).bind fun r11 => (some r11)) else (bif (decide (r1 < 0)) then (bif (decide ((x0.length : Int) ≥ 12)) then ((qu n x0).bind fun r10 => (some r10)) else ((YA n x0 (⟨x1,x2,x3,0,false⟩ : zB)).bind fun r9 => (some r9))) else ((YA n x0 (⟨x1,x2,x3,0,false⟩ : zB)).bind fun r8 => (some r8))))) else (bif (decide (r1 < 0)) then (bif (decide ((x0.length : Int) ≥ 12)) then ((qu n x0).bind fun r6 => (some r6)) else ((YA n x0 (⟨x1,x2,x3,0,false⟩ : zB)).bind fun r5 => (some r5))) else ((YA n x0 (⟨x1,x2,x3,0,false⟩ : zB)).bind fun r4 => (some r4)))))))))
theorem zJ1 (n : Nat) (x0 : (List zB)) (x1 : Int) (x2 : Int) (x3 : Int) (r : (List zB)) (H : zBA n x0 x1 x2 x3 = some r) : zE Tryz.prog 183 [.val false [.sl false 5 (CV.frzEs (x0.map zB.row))],.val false [.lit (.int .i64 x1)],.val false [.lit (.int .i64 x2)],.val false [.lit (.int .i64 x3)]] [.val false [.sl true 5 (r.map zB.row)]] [] := by
 refine cW Tryz.func183 (fun g d => sl [g 0,g 1,g 2,sl [g 3] (cn 46 (sl [g 4] .ret) .skip),g 5] .ret) [.tmp 8] fun cx=>?_
 unfold zBA at H
 refine gA 1 15 0<|gA 6 519 512<|rA 3<|bE H fun r1 er1 H=> vA [.rd,.rd,.rd] (zLM n x0 x1 x2 r1 er1)<|uA 1 1537 512<|tS<|rA 1<|bE H fun r2 er2 H=> vA [.rd] (zHF n x0 r2 er2)<|lA 2 ?_
 obtain ⟨h1,H⟩ | ⟨h1,H⟩ := bC H
 ·refine qL 4195841 512 [22] h1<|lA 1<|bE H fun r3 er3 H=> vA [.rd] (zDX n (⟨x1,x2,x3,0,false⟩ : zB) r3 er3)<|lA 3 ?_
  obtain ⟨h2,H⟩ | ⟨h2,H⟩ := bC H
  ·refine qL 134219265 512 [27] h2<|lA 3 ?_
   obtain ⟨h3,H⟩ | ⟨h3,H⟩ := bC H
   ·refine qL 1207961089 512 [30] h3<|lA 11 ?_
    obtain ⟨h4,H⟩ | ⟨h4,H⟩ := bC H
    ·exact qL 2473901163009 512 [41] h4<|uA 5 70368744178177 512<|nB_<|tK<|rA 2<|bE H fun r4 er4 H=> vA [.rd,.rd] (zCI n x0 (⟨x1,x2,x3,0,false⟩ : zB) r4 er4)<|LAt.moveU (T := lk tab) (ty := 25) (x := (.tmp 51)) (d := 8) (g := none) false [cL 5 r4 zB.row] kr kr kr kr kr<|dA 256 0<|te (fJ [(false,[cL 5 r4 zB.row])] H)
    refine qL 2473901163009 512 [41] h4<|lA 1<|kF x0 zB.row<|uA 3 70368744178177 512 ?_
    obtain ⟨h5,H⟩ | ⟨h5,H⟩ := bC H
    ·exact nA h5<|tK<|rA 2<|bE H fun r5 er5 H=> vA [.rd,.rd] (zCI n x0 (⟨x1,x2,x3,0,false⟩ : zB) r5 er5)<|LAt.moveU (T := lk tab) (ty := 25) (x := (.tmp 51)) (d := 8) (g := none) false [cL 5 r5 zB.row] kr kr kr kr kr<|dA 256 0<|te (fJ [(false,[cL 5 r5 zB.row])] H)
    exact tA h5<|rA 1<|bE H fun r6 er6 H=> vA [.rd] (Yg n x0 r6 er6)<|LAt.moveU (T := lk tab) (ty := 25) (x := (.tmp 48)) (d := 8) (g := none) false [cL 5 r6 zB.row] kr kr kr kr kr<|dA 256 0<|te (fJ [(false,[cL 5 r6 zB.row])] H)
   refine qL 1207961089 512 [30] h3<|lA 2<|bE H fun v7 ev7 H=> iA zB.row ev7<|lA 5 ?_
   obtain ⟨h6,H⟩ | ⟨h6,H⟩ := bC H
   ·refine qL 274877908481 512 [38] h6<|lA 3 ?_
    obtain ⟨h7,H⟩ | ⟨h7,H⟩ := bC H
    ·exact qL 2473901163009 512 [41] h7<|uA 5 70368744178177 512<|nB_<|tK<|rA 2<|bE H fun r8 er8 H=> vA [.rd,.rd] (zCI n x0 (⟨x1,x2,x3,0,false⟩ : zB) r8 er8)<|LAt.moveU (T := lk tab) (ty := 25) (x := (.tmp 51)) (d := 8) (g := none) false [cL 5 r8 zB.row] kr kr kr kr kr<|dA 256 0<|te (fJ [(false,[cL 5 r8 zB.row])] H)
    refine qL 2473901163009 512 [41] h7<|lA 1<|kF x0 zB.row<|uA 3 70368744178177 512 ?_
    obtain ⟨h8,H⟩ | ⟨h8,H⟩ := bC H
    ·exact nA h8<|tK<|rA 2<|bE H fun r9 er9 H=> vA [.rd,.rd] (zCI n x0 (⟨x1,x2,x3,0,false⟩ : zB) r9 er9)<|LAt.moveU (T := lk tab) (ty := 25) (x := (.tmp 51)) (d := 8) (g := none) false [cL 5 r9 zB.row] kr kr kr kr kr<|dA 256 0<|te (fJ [(false,[cL 5 r9 zB.row])] H)
    exact tA h8<|rA 1<|bE H fun r10 er10 H=> vA [.rd] (Yg n x0 r10 er10)<|LAt.moveU (T := lk tab) (ty := 25) (x := (.tmp 48)) (d := 8) (g := none) false [cL 5 r10 zB.row] kr kr kr kr kr<|dA 256 0<|te (fJ [(false,[cL 5 r10 zB.row])] H)
   exact qL 274877908481 512 [38] h6<|uA 8 70368744178177 512<|tB_<|rA 1<|bE H fun r11 er11 H=> vA [.rd] (Yg n x0 r11 er11)<|LAt.moveU (T := lk tab) (ty := 25) (x := (.tmp 48)) (d := 8) (g := none) false [cL 5 r11 zB.row] kr kr kr kr kr<|dA 256 0<|te (fJ [(false,[cL 5 r11 zB.row])] H)
  exact qL 134219265 512 [27] h2<|uA 19 70368744178177 512<|tB_<|rA 1<|bE H fun r12 er12 H=> vA [.rd] (Yg n x0 r12 er12)<|LAt.moveU (T := lk tab) (ty := 25) (x := (.tmp 48)) (d := 8) (g := none) false [cL 5 r12 zB.row] kr kr kr kr kr<|dA 256 0<|te (fJ [(false,[cL 5 r12 zB.row])] H)
 exact qL 4195841 512 [22] h1<|uA 24 70368744178177 512<|tB_<|rA 1<|bE H fun r13 er13 H=> vA [.rd] (Yg n x0 r13 er13)<|LAt.moveU (T := lk tab) (ty := 25) (x := (.tmp 48)) (d := 8) (g := none) false [cL 5 r13 zB.row] kr kr kr kr kr<|dA 256 0<|te (fJ [(false,[cL 5 r13 zB.row])] H)
def Y1 (n : Nat) (x0 : (List zB)) (x1 : Int) (x2 : Int) (x3 : Int) : Option ((List zB) × Bool) :=
  ((ZQ n x0).bind fun r1 => (bif (!r1) then ((qu n x0).bind fun r8 => (some (r8,false))) else ((ZR n (⟨x1,x2,x3,0,true⟩ : zB)).bind fun r2 => (bif (!r2) then ((qu n x0).bind fun r7 => (some (r7,false))) else ((zAn n x0 x1 x2).bind fun r3 => (bif (decide (r3 < 0)) then (bif (decide ((x0.length : Int) ≥ 12)) then ((qu n x0).bind fun r6 => (some (r6,false))) else ((YA n x0 (⟨x1,x2,x3,0,true⟩ : zB)).bind fun r5 => (some (r5,true)))) else ((YA n x0 (⟨x1,x2,x3,0,true⟩ : zB)).bind fun r4 => (some (r4,true)))))))))
theorem zGf (n : Nat) (x0 : (List zB)) (x1 : Int) (x2 : Int) (x3 : Int) (r : (List zB) × Bool) (H : Y1 n x0 x1 x2 x3 = some r) : zE Tryz.prog 185 [.val false [.sl false 5 (CV.frzEs (x0.map zB.row))],.val false [.lit (.int .i64 x1)],.val false [.lit (.int .i64 x2)],.val false [.lit (.int .i64 x3)]] [.val false [.sl true 5 (r.1.map zB.row)],.val false [.lit (.bool r.2)]] [] := by
 refine cW Tryz.func185 (fun g d => sl [g 0,g 1,sl [g 2] (cn 34 (sl [g 3] .ret) .skip),g 4] .ret) [.tmp 8,.tmp 9] fun cx=>?_
 unfold Y1 at H
 refine gA 2 15 0<|gA 6 1031 1024<|tS<|rA 1<|bE H fun r1 er1 H=> vA [.rd] (zHF n x0 r1 er1)<|lA 2 ?_
 obtain ⟨h1,H⟩ | ⟨h1,H⟩ := bC H
 ·refine qL 263175 1024 [18] h1<|lA 1<|bE H fun r2 er2 H=> vA [.rd] (zDX n (⟨x1,x2,x3,0,true⟩ : zB) r2 er2)<|lA 3 ?_
  obtain ⟨h2,H⟩ | ⟨h2,H⟩ := bC H
  ·refine qL 8389639 1024 [23] h2<|lA 3<|bE H fun r3 er3 H=> vA [.rd,.rd,.rd] (zLM n x0 x1 x2 r3 er3)<|lA 2 ?_
   obtain ⟨h3,H⟩ | ⟨h3,H⟩ := bC H
   ·exact qL 545260545 1024 [29] h3<|uA 5 17179870209 1024<|nB_<|tK<|rA 2<|bE H fun r4 er4 H=> vA [.rd,.rd] (zCI n x0 (⟨x1,x2,x3,0,true⟩ : zB) r4 er4)<|LAt.moveU (T := lk tab) (ty := 25) (x := (.tmp 39)) (d := 8) (g := none) false [cL 5 r4 zB.row] kr kr kr kr kr<|uA 1 768 0<|te (fJ [(false,[cL 5 r4 zB.row]),(false,[cB true])] H)
   refine qL 545260545 1024 [29] h3<|lA 1<|kF x0 zB.row<|uA 3 17179870209 1024 ?_
   obtain ⟨h4,H⟩ | ⟨h4,H⟩ := bC H
   ·exact nA h4<|tK<|rA 2<|bE H fun r5 er5 H=> vA [.rd,.rd] (zCI n x0 (⟨x1,x2,x3,0,true⟩ : zB) r5 er5)<|LAt.moveU (T := lk tab) (ty := 25) (x := (.tmp 39)) (d := 8) (g := none) false [cL 5 r5 zB.row] kr kr kr kr kr<|uA 1 768 0<|te (fJ [(false,[cL 5 r5 zB.row]),(false,[cB true])] H)
   exact tA h4<|rA 1<|bE H fun r6 er6 H=> vA [.rd] (Yg n x0 r6 er6)<|LAt.moveU (T := lk tab) (ty := 25) (x := (.tmp 36)) (d := 8) (g := none) false [cL 5 r6 zB.row] kr kr kr kr kr<|uA 1 768 0<|te (fJ [(false,[cL 5 r6 zB.row]),(false,[cB false])] H)
  exact qL 8389639 1024 [23] h2<|uA 11 17179870209 1024<|tB_<|rA 1<|bE H fun r7 er7 H=> vA [.rd] (Yg n x0 r7 er7)<|LAt.moveU (T := lk tab) (ty := 25) (x := (.tmp 36)) (d := 8) (g := none) false [cL 5 r7 zB.row] kr kr kr kr kr<|uA 1 768 0<|te (fJ [(false,[cL 5 r7 zB.row]),(false,[cB false])] H)
 exact qL 263175 1024 [18] h1<|uA 16 17179870209 1024<|tB_<|rA 1<|bE H fun r8 er8 H=> vA [.rd] (Yg n x0 r8 er8)<|LAt.moveU (T := lk tab) (ty := 25) (x := (.tmp 36)) (d := 8) (g := none) false [cL 5 r8 zB.row] kr kr kr kr kr<|uA 1 768 0<|te (fJ [(false,[cL 5 r8 zB.row]),(false,[cB false])] H)
end Go.Proofs.YtajadnlejdpceaaGreat.Tw
