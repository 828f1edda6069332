import Derived.Test.YtajadnlejdpceaaProg
import Derived.Test.YtajadnlejdpceaaTlRule
import Derived.Test.YtajadnlejdpceaaTlU16
import Derived.Test.YtajadnlejdpceaaTwTW0
import Derived.WalkKit
set_option linter.unusedVariables false
set_option linter.unusedSimpArgs false
set_option maxRecDepth 100000
set_option maxHeartbeats 1000000
namespace Go.Proofs.Ytajadnlejdpceaa.Tw
open Go Go.TL Go.Proofs
def QC (n : Nat) (x0 : zA) (x1 : Int) (x2 : Bool) : Option (zA) :=
  ((QD n x0).bind fun r1 => ((YH n x0 x1).bind fun r2 => (bif (!r2) then (some r1) else ((idx x0.Ps x1).bind fun v3 => ((idx r1.Ps x1).bind fun v4 => ((qm n (⟨r1.Id,r1.Name,(r1.Ps.set (x1.toNat) (⟨x2,v3.Co,false,(⟨0,0,0,0,0⟩ : Vec)⟩ : Pt)),r1.F,r1.V,r1.Tk,r1.Pa,r1.Wo,r1.Dr,r1.Ve⟩ : zA)).bind fun r5 => (some r5)))))))
def zMV : Tab := ⟨13,[0,1,0,0,0,16,0,96,128,256,520,2047,4095],[0,1,0,0,0,16,0,96,128,256,520,6,3072],[0,1,0,0,0,16,0,112,240,496,1016,2047,4095]⟩
theorem zCj : zk (rg Try.f166 4) zMV = true := kr
theorem zC7 (n : Nat) (x0 : zA) (x1 : Int) (x2 : Bool) (r : zA) (H : QC n x0 x1 x2 = some r) : zG Try.prog 166 [.val true (fR (zA.row x0)),.val false [.lit (.int .i64 x1)],.val false [.lit (.bool x2)]] [.val true (zA.row r)] [] := by
 refine cW Try.func166 (fun g d => sl [g 0,g 1,sl [g 2] (cn 13 (sl [g 3] .ret) .skip),d 4,g 5] .ret) [.cell 6 42] fun cx=>?_
 unfold QC at H
 refine gA 2 78 72<|rA 1<|bE H fun r1 er1 H=> vA [.rd] (zBE n x0 r1 er1)<|uA 2 206 200<|tS<|rA 2<|bE H fun r2 er2 H=> vA [.rd,.rd] (zEq n x0 x1 r2 er2)<|uA 1 8398 200 ?_
 obtain ⟨h1,H⟩ | ⟨h1,H⟩ := bC H
 ·refine nA h1<|tK<|bE H fun v3 ev3 H=> bE H fun v4 ev4 H=> Tr.draws mixed 13 kr ⟨29,0,[sA 7 7 11 0,sA 6 6 11 0],[(7,[cI r1.Id,cS r1.Name,cL 8 (r1.Ps.set (x1.toNat) (⟨x2,v3.Co,false,(⟨0,0,0,0,0⟩ : Vec)⟩ : Pt)) Pt.row,cL 5 r1.F zC.row,cL 3 r1.V.Rows zT.row,cL 1 r1.V.Pv intRow,cI r1.Tk,cI r1.Pa,cI r1.Wo,cI r1.Dr,cI r1.Ve]),(6,[cI 0,cS (⟨#[]⟩ : ByteArray),cL 8 ([] : List Pt) Pt.row,cL 5 ([] : List zC) zC.row,cL 3 ([] : List zT) zT.row,cL 1 ([] : List Int) intRow,cI 0,cI 0,cI 0,cI 0,cI 0])]⟩ (fun cx=>?_) ?_
  ·exact mA zCj ([(0,[]),(1,[12])]++zl [2,3,4]++[(5,[10,12]),(6,[])]) 6 [⟨[10,12],35,19,20⟩,⟨[12],35,15,16⟩] fun cx=>iN zCj 7 Pt.row ev3 fun cx=>mA zCj [(8,[]),(9,[])] 3 [⟨[10,12],35,19,20⟩,⟨[12],35,15,16⟩] fun cx=>mC zCj 10<|lA 1<|fA<|oN zCj 11 Pt.row ev4 fun cx=>mC zCj 12<|LAt.storeB tOk (t := 55) (ty := 0) (ad := (.tmp 26)) (x := (.tmp 25)) (g := none) (tI 55) true [cB x2,cI v3.Co,cB false,cI 0,cI 0,cI 0,cI 0,cI 0] 7 2 (x1.toNat) 8 0 8 r1.Ps Pt.row v4 (⟨x2,v3.Co,false,(⟨0,0,0,0,0⟩ : Vec)⟩ : Pt) kr kr kr kr kr kr kr kr (zF ev4).2 kr kr kr kr<|fA<|mE zCj [7,6] [7,6]
  exact rA 1<|bE H fun r5 er5 H=> vA [.own] (zBe n (⟨r1.Id,r1.Name,(r1.Ps.set (x1.toNat) (⟨x2,v3.Co,false,(⟨0,0,0,0,0⟩ : Vec)⟩ : Pt)),r1.F,r1.V,r1.Tk,r1.Pa,r1.Wo,r1.Dr,r1.Ve⟩ : zA) r5 er5)<|uA 1 64 64<|te (fJ [(true,(zA.row r5))] H)
 exact tA h1<|gA 2 64 64<|te (fJ [(true,(zA.row r1))] H)
def zAE (n : Nat) (x2 : (List Link)) (y8 : (List zA)) : Option (Net) :=
  (some (⟨y8,(([] : List Link) ++ x2),([] : List Say)⟩ : Net))
def JE (n : Nat) (k : (Int × (List zA) → Option (((List zA)) ⊕ (Net)))) (y6 : Int) (y12 : (List zA)) : Option (((List zA)) ⊕ (Net)) :=
  (k ((IntKind.wrap .i64 (y6 + 1)),y12))
def Zr (n : Nat) : Nat → Int → Int → Int → (List zA) → Option (((List zA)) ⊕ (Net))
  | 0,_,_,_,_ => none
  | mo13 + 1,x1,y6,y10,y11 => (bif (decide (y10 < x1)) then ((idx y11 y6).bind fun v14 => ((QC n v14 y10 true).bind fun r15 => (Zr n mo13 x1 y6 (IntKind.wrap .i64 (y10 + 1)) (y11.set (y6.toNat) r15)))) else (some (Sum.inl y11)))
def ZL (n : Nat) : Nat → Int → Int → (List zA) → Option (((List zA)) ⊕ (Net))
  | 0,_,_,_ => none
  | mo9 + 1,x1,y6,y7 => (bif (decide (y6 < (y7.length : Int))) then ((Zr n n x1 y6 0 y7).bind fun o => match o with | .inl y12 => (JE n (fun v => ZL n mo9 x1 v.1 v.2) y6 y12) | .inr r => some (Sum.inr r)) else (some (Sum.inl y7)))
def JD (n : Nat) (x1 : Int) (x2 : (List Link)) (y4 : (List zA)) : Option (Net) :=
  ((QS n (⟨y4,(([] : List Link) ++ x2),([] : List Say)⟩ : Net)).bind fun r5 => (bif (!r5) then (some (⟨([] : List zA),([] : List Link),([] : List Say)⟩ : Net)) else ((ZL n n x1 0 y4).bind fun o => match o with | .inl y8 => (zAE n x2 y8) | .inr r => some r)))
def ZM (n : Nat) : Nat → (List Int) → Int → Int → (List zA) → Option (((List zA)) ⊕ (Net))
  | 0,_,_,_,_ => none
  | mo16 + 1,x0,x1,y2,y3 => (bif (decide (y2 < (x0.length : Int))) then ((idx x0 y2).bind fun v17 => ((ZW n v17 x1).bind fun r18 => (bif (decide (y3.length + [r18].length ≤ 268435456)) then (ZM n mo16 x0 x1 (IntKind.wrap .i64 (y2 + 1)) (y3 ++ [r18])) else none))) else (some (Sum.inl y3)))
def J3 (n : Nat) (x0 : (List Int)) (x1 : Int) (x2 : (List Link)) : Option (Net) :=
  (bif (decide (([] : List Link).length + x2.length ≤ 268435456)) then ((ZM n n x0 x1 0 ([] : List zA)).bind fun o => match o with | .inl y4 => (JD n x1 x2 y4) | .inr r => some r) else none)
def zMS : Tab := ⟨12,[0,1,0,0,12,16,0,96,128,386,1023,2047],[0,1,0,0,12,16,0,96,128,258,0,1536],[0,1,0,0,12,28,0,124,252,511,1023,2047]⟩
theorem zAw : zk (rg Try.f122 5) zMS = true := kr
def zLw : Tab := ⟨12,[0,1,0,0,8,0,48,64,0,384,1023,2047],[0,1,0,0,8,0,48,64,0,384,6,1536],[0,1,0,0,8,0,56,120,0,504,1023,2047]⟩
theorem zAr : zk (rg Try.f122 14) zLw = true := kr
theorem zJg (n : Nat) (x0 : (List Int)) (x1 : Int) (x2 : (List Link)) (r : Net) (H : J3 n x0 x1 x2 = some r) : zG Try.prog 122 [.val false [.sl false 1 (CV.frzEs (x0.map intRow))],.val false [.lit (.int .i64 x1)],.val false [.sl false 4 (CV.frzEs (x2.map Link.row))]] [.val true (Net.row r)] [] := by
 refine cW Try.func122 (fun g d => sl [g 0,g 1,sl [g 2] (.block 0 (.loop (sl [sl [g 3] (cn 18 .skip (.exit 0)),.block 1 (d 5)] (g 4)))),sl [g 6] (cn 34 (sl [g 7] .ret) .skip),sl [g 8] (.block 2 (.loop (sl [sl [g 9] (cn 40 .skip (.exit 2)),.block 3 (sl [g 11] (.block 4 (.loop (sl [sl [g 12] (cn 45 .skip (.exit 4)),.block 5 (d 14)] (g 13)))))] (g 10)))),g 15] .ret) [.cell 6 76] fun cx=>?_
 unfold J3 at H
 refine gA 1 71 64<|rA 2<|gE H fun hg1 H=> pD Link.row hg1<|uA 3 195 192<|tS<|gA 1 451 192 ?_
 obtain ⟨o16,eo16,Ho16⟩ := bs H
 clear H
 refine Tr.mid (ι := (List zA)) (fun v => ⟨60,0,[sA 7 7 3 0,sA 6 6 3 0,sI 1 x1],[(7,[cL 11 v zA.row,cL 4 (([] : List Link) ++ x2) Link.row,cL 7 ([] : List Say) Say.row]),(6,[cL 11 ([] : List zA) zA.row,cL 4 ([] : List Link) Link.row,cL 7 ([] : List Say) Say.row])]⟩) (fun v => JD n x1 x2 v = some r) ?_ ?_
 ·refine tB<|Tr.loop (ι := Nat × (Int × (List zA))) (fun v => ⟨60,0,[sI 8 v.2.1,sA 7 7 3 0,sA 6 6 3 0,sC 0 (cF 1 x0 intRow),sI 1 x1],[(7,[cL 11 v.2.2 zA.row,cL 4 (([] : List Link) ++ x2) Link.row,cL 7 ([] : List Say) Say.row]),(6,[cL 11 ([] : List zA) zA.row,cL 4 ([] : List Link) Link.row,cL 7 ([] : List Say) Say.row])]⟩) (fun v => ZM n v.1 x0 x1 v.2.1 v.2.2 = some o16) (fun v => v.1) (n,(0,([] : List zA))) eo16 (St.sub_of [8,7,6,0,1] [7,6] kr) ?_
  rintro ⟨_ | mo16,y2,y3⟩ H
  ·exact nN H
  have H : ZM n (mo16+1) x0 x1 y2 y3 = some o16 := H
  rw [ZM] at H
  refine tS<|rA 2<|kF x0 intRow<|uA 1 262595 192 ?_
  obtain ⟨h4,H⟩ | ⟨h4,H⟩ := bC H
  ·refine nA h4<|Tr.exit<|aJ ?_
   cases H
   exact jA y3 Ho16 [7,6,1] [7,6]
  refine tA h4<|tK<|tS<|tB<|bE H fun v17 ev17 H=> bE H fun r18 er18 H=> gE H fun hg19 H=> Tr.draw mixed 12 kr ⟨60,0,[sI 8 y2,sA 7 7 3 0,sA 6 6 3 0,sC 0 (cF 1 x0 intRow),sI 1 x1],[(7,[cL 11 (y3 ++ [r18]) zA.row,cL 4 (([] : List Link) ++ x2) Link.row,cL 7 ([] : List Say) Say.row]),(6,[cL 11 ([] : List zA) zA.row,cL 4 ([] : List Link) Link.row,cL 7 ([] : List Say) Say.row])]⟩ (fun cx=>?_) ?_
  ·exact mA zAw [(0,[]),(1,[9,11]),(2,[]),(3,[])] 8 [⟨[9,11],53,21,22⟩] fun cx=>iN zAw 4 intRow ev17 fun cx=>mA zAw [(5,[]),(6,[])] 5 [⟨[9,11],53,21,22⟩] fun cx=>mC zAw 7<|vA [.rd,.rd] (zHp n v17 x1 r18 er18)<|fA<|mC zAw 8<|lA 1<|fA<|mC zAw 9<|LAt.appMU tOk (t := 53) (ty := 53) (e := 42) (x := (.tmp 22)) (y := (.tmp 29)) (d := 30) (g := none) (tI 42) zA.row y3 [r18] kr kr kr kr kr kr kr kr kr kr hg19<|fA<|mA zAw [(10,[])] 1 [⟨[9,11],53,21,22⟩] fun cx=>mC zAw 11<|lA 1<|fA<|mE zAw [8,7,6,0,1] [7,6]
  exact eA 3 451 192<|jB mo16 ((wI (y2 + 1)),(y3 ++ [r18])) H [8,7,6,0,1] [7,6]
 rintro y4 H
 have H : (JD n x1 x2 y4) = some r := H
 unfold JD at H
 refine tS<|rA 1<|bE H fun r5 er5 H=> vB [.rd] [.box 7] (zHG n (⟨y4,(([] : List Link) ++ x2),([] : List Say)⟩ : Net) r5 er5) (.inr (qF (zE zI z5) qe))<|uA 1 17179869378 192 ?_
 obtain ⟨h1,H⟩ | ⟨h1,H⟩ := bC H
 ·refine nA h1<|tK<|tS<|gA 1 706 192 ?_
  obtain ⟨o9,eo9,Ho9⟩ := bs H
  clear H
  refine Tr.mid (ι := (List zA)) (fun v => ⟨60,0,[sA 7 7 3 0,sA 6 6 3 0],[(7,[cL 11 v zA.row,cL 4 (([] : List Link) ++ x2) Link.row,cL 7 ([] : List Say) Say.row]),(6,[cL 11 ([] : List zA) zA.row,cL 4 ([] : List Link) Link.row,cL 7 ([] : List Say) Say.row])]⟩) (fun v => zAE n x2 v = some r) ?_ ?_
  ·refine tB<|Tr.loop (ι := Nat × (Int × (List zA))) (fun v => ⟨60,0,[sI 9 v.2.1,sA 7 7 3 0,sA 6 6 3 0,sI 1 x1],[(7,[cL 11 v.2.2 zA.row,cL 4 (([] : List Link) ++ x2) Link.row,cL 7 ([] : List Say) Say.row]),(6,[cL 11 ([] : List zA) zA.row,cL 4 ([] : List Link) Link.row,cL 7 ([] : List Say) Say.row])]⟩) (fun v => ZL n v.1 x1 v.2.1 v.2.2 = some o9) (fun v => v.1) (n,(0,y4)) eo9 (St.sub_of [9,7,6,1] [7,6] kr) ?_
   rintro ⟨_ | mo9,y6,y7⟩ H
   ·exact nN H
   have H : ZL n (mo9+1) x1 y6 y7 = some o9 := H
   rw [ZL] at H
   refine tS<|rA 3<|kO y7 zA.row<|uA 1 1099511628482 192 ?_
   obtain ⟨h2,H⟩ | ⟨h2,H⟩ := bC H
   ·refine nA h2<|Tr.exit<|aJ ?_
    cases H
    exact jA y7 Ho9 [7,6] [7,6]
   refine tA h2<|tK<|tS<|tB<|gA 1 1730 192 ?_
   obtain ⟨o13,eo13,Ho13⟩ := bs H
   clear H
   refine Tr.mid (ι := (List zA)) (fun v => ⟨60,0,[sI 9 y6,sA 7 7 3 0,sA 6 6 3 0,sI 1 x1],[(7,[cL 11 v zA.row,cL 4 (([] : List Link) ++ x2) Link.row,cL 7 ([] : List Say) Say.row]),(6,[cL 11 ([] : List zA) zA.row,cL 4 ([] : List Link) Link.row,cL 7 ([] : List Say) Say.row])]⟩) (fun v => JE n (fun v => ZL n mo9 x1 v.1 v.2) y6 v = some o9) ?_ ?_
   ·refine tB<|Tr.loop (ι := Nat × (Int × (List zA))) (fun v => ⟨60,0,[sI 10 v.2.1,sI 9 y6,sA 7 7 3 0,sA 6 6 3 0,sI 1 x1],[(7,[cL 11 v.2.2 zA.row,cL 4 (([] : List Link) ++ x2) Link.row,cL 7 ([] : List Say) Say.row]),(6,[cL 11 ([] : List zA) zA.row,cL 4 ([] : List Link) Link.row,cL 7 ([] : List Say) Say.row])]⟩) (fun v => Zr n v.1 x1 y6 v.2.1 v.2.2 = some o13) (fun v => v.1) (n,(0,y7)) eo13 (St.sub_of [10,9,7,6,1] [7,6] kr) ?_
    rintro ⟨_ | mo13,y10,y11⟩ H
    ·exact nN H
    have H : Zr n (mo13+1) x1 y6 y10 y11 = some o13 := H
    rw [Zr] at H
    refine tS<|gA 3 35184372090562 192 ?_
    obtain ⟨h3,H⟩ | ⟨h3,H⟩ := bC H
    ·refine nA h3<|Tr.exit<|aJ ?_
     cases H
     exact jA y11 Ho13 [9,7,6,1] [7,6]
    refine tA h3<|tK<|tS<|tB<|bE H fun v14 ev14 H=> bE H fun r15 er15 H=> Tr.draw mixed 12 kr ⟨60,0,[sI 10 y10,sI 9 y6,sA 7 7 3 0,sA 6 6 3 0,sI 1 x1],[(7,[cL 11 (y11.set (y6.toNat) r15) zA.row,cL 4 (([] : List Link) ++ x2) Link.row,cL 7 ([] : List Say) Say.row]),(6,[cL 11 ([] : List zA) zA.row,cL 4 ([] : List Link) Link.row,cL 7 ([] : List Say) Say.row])]⟩ (fun cx=>?_) ?_
    ·refine mA zAr [(0,[]),(1,[11]),(2,[]),(3,[]),(4,[9,11]),(5,[])] 6 [⟨[9,11],53,51,52⟩,⟨[11],53,48,49⟩] fun cx=>oN zAr 6 zA.row ev14 fun cx=>mA zAr [(8,[])] 4 [⟨[9,11],53,51,52⟩,⟨[11],53,48,49⟩] fun cx=>mC zAr 7<|dE (tI 42) (.box 7) [(0,0),(0,(y6.toNat))] 11 0 [.sl true 3 [[cL 11 y11 zA.row,cL 4 (([] : List Link) ++ x2) Link.row,cL 7 ([] : List Say) Say.row]]] (zA.row v14) (zK rfl (zF ev14).2)<|fA<|mC zAr 9<|LAt.callO tOk [.rd,.rd,.rd] (f := 166) (av := #[.tmp 55,.tmp 56,.const (.bool true)]) (ats := #[42,3,4]) (d := (some 57)) (ty := 42) (g := none) [(55,zA.row v14)] none kr kr kr [.box 7] (zC7 n v14 y10 true r15 er15) (zC3 (row := [.sl true 3 [[cL 11 y11 zA.row,cL 4 (([] : List Link) ++ x2) Link.row,cL 7 ([] : List Say) Say.row]]]) (q := [(0,0),(0,(y6.toNat))]) kr (zK rfl (zF ev14).2) zD3) kr zD2 (.inr (And.intro (qF (zA.row_mine _) qe) zC4))<|fA<|oN zAr 10 zA.row ev14 fun cx=>sA_ 0x61b0000000006c2 192 ⟨60,0,[(58,.adr (.box 7) [(0,0),(0,(y6.toNat))] 11 0),sV 57 (zA.row r15),sR 52 7 3 0 1 false,sA 51 7 3 0,sR 49 7 3 0 1 false,sA 48 7 3 0,sI 10 y10,sI 9 y6,sA 7 7 3 0,sA 6 6 3 0,sI 1 x1],[(7,[cL 11 y11 zA.row,cL 4 (([] : List Link) ++ x2) Link.row,cL 7 ([] : List Say) Say.row]),(6,[cL 11 ([] : List zA) zA.row,cL 4 ([] : List Link) Link.row,cL 7 ([] : List Say) Say.row])]⟩<|mC zAr 11<|LAt.storeB tOk (t := 42) (ty := 0) (ad := (.tmp 58)) (x := (.tmp 57)) (g := none) (tI 42) true (zA.row r15) 7 0 (y6.toNat) 11 0 11 y11 zA.row v14 r15 kr kr kr kr kr kr kr kr (zF ev14).2 kr kr kr kr ?_
     exact fA<|mE zAr [10,9,7,6,1] [7,6]
    exact eA 3 1730 192<|jB mo13 ((wI (y10 + 1)),(y11.set (y6.toNat) r15)) H [10,9,7,6,1] [7,6]
   rintro y12 H
   have H : (JE n (fun v => ZL n mo9 x1 v.1 v.2) y6 y12) = some o9 := H
   unfold JE at H
   exact eA 3 706 192<|jB mo9 ((wI (y6 + 1)),y12) H [9,7,6,1] [7,6]
  rintro y8 H
  have H : (zAE n x2 y8) = some r := H
  unfold zAE at H
  exact gA 2 64 64<|te (fJ [(true,[cL 11 y8 zA.row,cL 4 (([] : List Link) ++ x2) Link.row,cL 7 ([] : List Say) Say.row])] H)
 exact tA h1<|gA 2 64 64<|te (fJ [(true,[cL 11 ([] : List zA) zA.row,cL 4 ([] : List Link) Link.row,cL 7 ([] : List Say) Say.row])] H)
def Zi (n : Nat) (x0 : Src) (x1 : (List Int)) : Option (Int × Src) :=
  ((ze n x0 (x1.length : Int)).bind fun r1 => ((idx x1 r1.1).bind fun v2 => (some (v2,r1.2))))
noncomputable abbrev G51 (k : Nat) := Rg Try.f51 k
theorem zAJ (n : Nat) (x0 : Src) (x1 : (List Int)) (r : Int × Src) (H : Zi n x0 x1 = some r) : zG Try.prog 51 [.ptr (fR (Src.row x0)),.val false [.sl false 1 (CV.frzEs (x1.map intRow))]] [.val false [.lit (.int .i64 r.1)]] [(0,(fR (Src.row r.2)))] := by
 refine zG.of_body tOk Try.func51 rfl (c := (.seq (G51 0) (.seq (G51 1) .ret))) kr (Nat.le_of_ble_eq_true kr) 1 (rs := [.tmp 4]) rfl [] .nil [(false,[.lit (.int .i64 r.1)])] [] [(0,(fR (Src.row r.2)))] fun cx=>?_
 show Tr _ _ _ ⟨12,1,[sA 0 0 3 0,sC 1 (cF 1 x1 intRow)],[(0,(fR (Src.row x0)))]⟩ _
 unfold Zi at H
 exact gA 1 3 1<|rA 3<|kF x1 intRow<|bE H fun r1 er1 H=> vL [.lend,.rd] (qh n x0 (x1.length : Int) r1 er1)<|bE H fun v2 ev2 H=> iA intRow ev2<|uA 2 17 1<|te<|fY [(false,[cI v2])] [(0,(fR (Src.row r1.2)))] H
def QM (n : Nat) (r5 : Int × Src) (x1 : Net) (y6 : Bool) : Option (Event × Src) :=
  (bif y6 then (bif ((x1.Ls.length : Int) == 0) then (some ((⟨6,0⟩ : Event),r5.2)) else ((ze n r5.2 (x1.Ls.length : Int)).bind fun r8 => (some ((⟨r5.1,r8.1⟩ : Event),r8.2)))) else (bif ((x1.Bs.length : Int) == 0) then (some ((⟨r5.1,0⟩ : Event),r5.2)) else ((ze n r5.2 (x1.Bs.length : Int)).bind fun r7 => (some ((⟨r5.1,r7.1⟩ : Event),r7.2)))))
def QL (n : Nat) (x1 : Net) (y1 : Bool) (y2 : (List Int)) (y3 : Int) (y4 : Int) : Option (Event × Src) :=
  (bif y1 then ((Zi n (⟨y2,y3,y4⟩ : Src) [2,2,2,2,3]).bind fun r9 => ((ze n r9.2 (x1.Said.length : Int)).bind fun r10 => (some ((⟨r9.1,r10.1⟩ : Event),r10.2)))) else ((Zi n (⟨y2,y3,y4⟩ : Src) [1,1,1,1,4,5,6]).bind fun r5 => (bif (r5.1 == 4) then (QM n r5 x1 true) else (QM n r5 x1 (r5.1 == 5)))))
def YI (n : Nat) (x0 : Src) (x1 : Net) : Option (Event × Src) :=
  (bif (decide ((x1.Said.length : Int) > 0)) then ((JM n x0 2).bind fun r11 => (QL n x1 r11.1 r11.2.b r11.2.i r11.2.h)) else (QL n x1 false x0.b x0.i x0.h))
noncomputable abbrev zDZ (k : Nat) := Rg Try.f126 k
noncomputable abbrev D126 (k : Nat) := Rd Try.f126 k
theorem zIb (n : Nat) (x0 : Src) (x1 : Net) (r : Event × Src) (H : YI n x0 x1 = some r) : zG Try.prog 126 [.ptr (fR (Src.row x0)),.val true (fR (Net.row x1))] [.val true (Event.row r.1)] [(0,(fR (Src.row r.2)))] := by
 refine zG.of_body tOk Try.func126 rfl (c := (.seq (zDZ 0) (.seq (.seq (zDZ 1) (.cond (.tmp 13) (.seq (D126 2) .ret) .skip)) (.seq (zDZ 3) (.seq (.seq (zDZ 4) (.cond (.tmp 31) (.seq (.seq (zDZ 5) (.cond (.tmp 35) (.seq (zDZ 6) .ret) .skip)) (.seq (zDZ 7) .ret)) .skip)) (.seq (.seq (zDZ 8) (.cond (.tmp 47) (.seq (zDZ 9) .ret) .skip)) (.seq (zDZ 10) .ret))))))) kr (Nat.le_of_ble_eq_true kr) 1 (rs := [.cell 4 172]) rfl [] .nil [(true,(Event.row r.1))] [] [(0,(fR (Src.row r.2)))] fun cx=>?_
 show Tr _ _ _ ⟨57,1,[sA 0 0 3 0,sV 1 (fR (Net.row x1))],[(0,(fR (Src.row x0)))]⟩ _
 unfold YI at H
 refine gA 2 25 25<|tS<|tS<|Tr.mid (ι := Bool × (List Int) × Int × Int) (fun v => ⟨57,1,[sB 13 v.1,sA 4 4 2 0,sA 3 3 3 0,sA 0 0 3 0],[(4,[cI 0,cI 0]),(3,(fR (Net.row x1))),(0,[cF 1 v.2.1 zx,cI v.2.2.1,cI v.2.2.2])]⟩) (fun v => QL n x1 v.1 v.2.1 v.2.2.1 v.2.2.2 = some r) ?_ ?_
 ·refine Tr.at<|lA 2<|kF x1.Said Say.row<|lA 2 ?_
  obtain ⟨h6,H⟩ | ⟨h6,H⟩ := bC H
  ·exact qL 1049 25 [10] h6<|uA 3 8217 25<|jA (false,x0.b,x0.i,x0.h) H [13,4,3,0] [4,3,0]
  exact qL 1049 25 [10] h6<|lA 1<|bE H fun r11 er11 H=> vL [.lend,.rd] (zGD n x0 2 r11 er11)<|uA 1 8217 25<|jA (r11.1,r11.2.b,r11.2.i,r11.2.h) H [13,4,3,0] [4,3,0]
 rintro ⟨y1,y2,y3,y4⟩ H
 have H : (QL n x1 y1 y2 y3 y4) = some r := H
 unfold QL at H
 cases h1 : y1
 ·have H := Z6 h1 H
  refine nB_<|tK<|rA 2<|bE H fun r5 er5 H=> vL [.lend,.rd] (zAJ n (⟨y2,y3,y4⟩ : Src) [1,1,1,1,4,5,6] r5 er5)<|uA 1 57 25<|tS<|tS<|Tr.mid (ι := Bool) (fun v => ⟨57,1,[sB 31 v,sI 5 r5.1,sA 4 4 2 0,sA 3 3 3 0,sA 0 0 3 0],[(0,(fR (Src.row r5.2))),(4,[cI 0,cI 0]),(3,(fR (Net.row x1)))]⟩) (fun v => QM n r5 x1 v = some r) ?_ ?_
  ·refine Tr.at<|lA 3 ?_
   obtain ⟨h5,H⟩ | ⟨h5,H⟩ := bC H
   ·exact qL 268435513 25 [28] h5<|uA 3 2147483705 25<|jA (r5.1 == 5) H [31,5,4,3,0] [0,4,3]
   exact qL 268435513 25 [28] h5<|uA 3 2147483705 25<|jA true H [31,5,4,3,0] [0,4,3]
  rintro y6 H
  have H : (QM n r5 x1 y6) = some r := H
  unfold QM at H
  cases h2 : y6
  ·have H := Z6 h2 H
   refine nB_<|tK<|tS<|rA 2<|kF x1.Bs zA.row<|uA 1 0x800000000039 25 ?_
   obtain ⟨h3,H⟩ | ⟨h3,H⟩ := bC H
   ·exact nA h3<|tK<|rA 4<|kF x1.Bs zA.row<|bE H fun r7 er7 H=> vL [.lend,.rd] (qh n r5.2 (x1.Bs.length : Int) r7 er7)<|uA 2 17 17<|te<|fY [(true,[cI r5.1,cI r7.1])] [(0,(fR (Src.row r7.2)))] H
   exact tA h3<|gA 3 17 17<|te<|fY [(true,[cI r5.1,cI 0])] [(0,(fR (Src.row r5.2)))] H
  have H := Z7 h2 H
  refine tB_<|tS<|rA 2<|kF x1.Ls Link.row<|uA 1 34359738425 25 ?_
  obtain ⟨h4,H⟩ | ⟨h4,H⟩ := bC H
  ·exact nA h4<|tK<|rA 4<|kF x1.Ls Link.row<|bE H fun r8 er8 H=> vL [.lend,.rd] (qh n r5.2 (x1.Ls.length : Int) r8 er8)<|uA 2 17 17<|te<|fY [(true,[cI r5.1,cI r8.1])] [(0,(fR (Src.row r8.2)))] H
  exact tA h4<|gA 2 17 17<|te<|fY [(true,[cI 6,cI 0])] [(0,(fR (Src.row r5.2)))] H
 have H := Z7 h1 H
 refine tB_<|bE H fun r9 er9 H=> bE H fun r10 er10 H=> Tr.draws mixed 10 kr ⟨57,1,[sA 4 4 2 0,sA 0 0 3 0],[(4,[cI r9.1,cI r10.1]),(0,(fR (Src.row r10.2)))]⟩ (fun cx=>?_) ?_
 ·refine aA (zl [0,3,4]++[(5,[7,8,9])]) 6 [⟨[7,8,9],74,18,19⟩] fun cx=>aL tOk 6 74 3 177 19 20 none ⟨(.box 3),[(0,0)],2,false,7,(CV.frzEs (x1.Said.map Say.row))⟩ (x1.Said).length _ kr kr kr kr kr kr kr (zFc _ _) rfl (fun cx=>?_)
  exact bA 1<|lA 1<|fA<|bA 2<|vL [.lend,.rd] (zAJ n (⟨y2,y3,y4⟩ : Src) [2,2,2,2,3] r9 er9)<|fA<|bA 7<|vL [.lend,.rd] (qh n r9.2 (x1.Said.length : Int) r10 er10)<|fA<|bA 8<|lA 1<|fA<|bA 9<|lA 1<|fA<|eE [4,0] [4,0]
 exact te<|fY [(true,[cI r9.1,cI r10.1])] [(0,(fR (Src.row r10.2)))] H
def Jn (n : Nat) (x0 : Net) (y5 : (List zA)) : Option (Net) :=
  (some (⟨y5,(([] : List Link) ++ x0.Ls),(([] : List Say) ++ x0.Said)⟩ : Net))
def Zw (n : Nat) : Nat → Net → Int → (List zA) → Option (((List zA)) ⊕ (Net))
  | 0,_,_,_ => none
  | mo6 + 1,x0,y3,y4 => (bif (decide (y3 < (x0.Bs.length : Int))) then ((idx x0.Bs y3).bind fun v7 => ((QD n v7).bind fun r8 => (bif (decide (y4.length + [r8].length ≤ 268435456)) then (Zw n mo6 x0 (IntKind.wrap .i64 (y3 + 1)) (y4 ++ [r8])) else none))) else (some (Sum.inl y4)))
def Jb (n : Nat) (x0 : Net) : Option (Net) :=
  (bif (decide (([] : List Link).length + x0.Ls.length ≤ 268435456)) then (bif (decide (([] : List Say).length + x0.Said.length ≤ 268435456)) then ((Zw n n x0 0 ([] : List zA)).bind fun o => match o with | .inl y5 => (Jn n x0 y5) | .inr r => some r) else none) else none)
def zMW : Tab := ⟨12,[0,1,0,4,0,24,32,64,128,386,1023,2047],[0,1,0,4,0,24,32,64,128,258,0,1536],[0,1,0,4,0,28,60,124,252,511,1023,2047]⟩
theorem zAx : zk (rg Try.f168 5) zMW = true := kr
theorem zHK (n : Nat) (x0 : Net) (hg1 : (decide (([] : List Link).length + x0.Ls.length ≤ 268435456)) = true) (hg2 : (decide (([] : List Say).length + x0.Said.length ≤ 268435456)) = true) (cx : Cx) : AT Try.prog cx (rg Try.f168 1) [] 11 [] ⟨33,0,[sA 2 2 3 0,sA 1 1 3 0],[(2,[cL 11 ([] : List zA) zA.row,cL 4 ([] : List Link) Link.row,cL 7 ([] : List Say) Say.row]),(1,(fR (Net.row x0)))]⟩ (fun s => s = ⟨33,0,[sA 3 3 3 0,sA 2 2 3 0,sA 1 1 3 0],[(3,[cL 11 ([] : List zA) zA.row,cL 4 (([] : List Link) ++ x0.Ls) Link.row,cL 7 (([] : List Say) ++ x0.Said) Say.row]),(2,[cL 11 ([] : List zA) zA.row,cL 4 ([] : List Link) Link.row,cL 7 ([] : List Say) Say.row]),(1,(fR (Net.row x0)))]⟩) := by
 refine aA [(1,[]),(2,[3,7,8,10]),(5,[]),(6,[7,8,10])] 7 [⟨[7,8,10],74,10,11⟩,⟨[3,7,8,10],73,6,7⟩] fun cx=>AT.big3 tOk 0 4 9 kr (And.intro kr ?_) (And.intro kr ?_) (And.intro kr ?_)
 ·refine lA 1<|fA<|AT.big3 tOk 3 4 9 kr (And.intro kr ?_) (And.intro kr ?_) (And.intro kr ?_)
  ·refine pD Link.row hg1<|fA<|AT.big2 tOk 4 9 kr (And.intro kr ?_) (And.intro kr ?_)
   ·refine lA 1<|fA<|AT.big2 tOk 7 9 kr (And.intro kr ?_) (And.intro kr ?_)
    ·refine pD Say.row hg2<|fA<|AT.big2 tOk 8 9 kr (And.intro kr ?_) (And.intro kr ?_)
     ·exact lA 1<|fA<|bA 9<|lA 1<|fA<|bA 10<|lA 1<|fA<|eE [3,2,1] [3,2,1]
     ·exact lA 1<|fA<|bA 8<|lA 1<|fA<|bA 10<|lA 1<|fA<|eE [3,2,1] [3,2,1]
    ·exact lA 1<|fA<|bA 7<|pD Say.row hg2<|fA<|bA 8<|lA 1<|fA<|bA 10<|lA 1<|fA<|eE [3,2,1] [3,2,1]
   ·exact lA 1<|fA<|bA 4<|lA 1<|fA<|bA 7<|pD Say.row hg2<|fA<|bA 8<|lA 1<|fA<|bA 10<|lA 1<|fA<|eE [3,2,1] [3,2,1]
  ·refine lA 1<|fA<|AT.big2 tOk 3 9 kr (And.intro kr ?_) (And.intro kr ?_)
   ·refine pD Link.row hg1<|fA<|AT.big2 tOk 7 9 kr (And.intro kr ?_) (And.intro kr ?_)
    ·refine pD Say.row hg2<|fA<|AT.big2 tOk 8 9 kr (And.intro kr ?_) (And.intro kr ?_)
     ·exact lA 1<|fA<|bA 9<|lA 1<|fA<|bA 10<|lA 1<|fA<|eE [3,2,1] [3,2,1]
     ·exact lA 1<|fA<|bA 8<|lA 1<|fA<|bA 10<|lA 1<|fA<|eE [3,2,1] [3,2,1]
    ·exact lA 1<|fA<|bA 7<|pD Say.row hg2<|fA<|bA 8<|lA 1<|fA<|bA 10<|lA 1<|fA<|eE [3,2,1] [3,2,1]
   ·exact lA 1<|fA<|bA 3<|pD Link.row hg1<|fA<|bA 7<|pD Say.row hg2<|fA<|bA 8<|lA 1<|fA<|bA 10<|lA 1<|fA<|eE [3,2,1] [3,2,1]
  ·refine lA 1<|fA<|AT.big2 tOk 3 4 kr (And.intro kr ?_) (And.intro kr ?_)
   ·exact pD Link.row hg1<|fA<|bA 4<|lA 1<|fA<|bA 7<|pD Say.row hg2<|fA<|bA 8<|lA 1<|fA<|bA 10<|lA 1<|fA<|eE [3,2,1] [3,2,1]
   ·exact lA 1<|fA<|bA 3<|pD Link.row hg1<|fA<|bA 7<|pD Say.row hg2<|fA<|bA 8<|lA 1<|fA<|bA 10<|lA 1<|fA<|eE [3,2,1] [3,2,1]
 ·refine lA 1<|fA<|AT.big2 tOk 0 9 kr (And.intro kr ?_) (And.intro kr ?_)
  ·refine lA 1<|fA<|AT.big2 tOk 3 9 kr (And.intro kr ?_) (And.intro kr ?_)
   ·refine pD Link.row hg1<|fA<|AT.big2 tOk 7 9 kr (And.intro kr ?_) (And.intro kr ?_)
    ·refine pD Say.row hg2<|fA<|AT.big2 tOk 8 9 kr (And.intro kr ?_) (And.intro kr ?_)
     ·exact lA 1<|fA<|bA 9<|lA 1<|fA<|bA 10<|lA 1<|fA<|eE [3,2,1] [3,2,1]
     ·exact lA 1<|fA<|bA 8<|lA 1<|fA<|bA 10<|lA 1<|fA<|eE [3,2,1] [3,2,1]
    ·exact lA 1<|fA<|bA 7<|pD Say.row hg2<|fA<|bA 8<|lA 1<|fA<|bA 10<|lA 1<|fA<|eE [3,2,1] [3,2,1]
   ·exact lA 1<|fA<|bA 3<|pD Link.row hg1<|fA<|bA 7<|pD Say.row hg2<|fA<|bA 8<|lA 1<|fA<|bA 10<|lA 1<|fA<|eE [3,2,1] [3,2,1]
  ·exact lA 1<|fA<|bA 0<|lA 1<|fA<|bA 3<|pD Link.row hg1<|fA<|bA 7<|pD Say.row hg2<|fA<|bA 8<|lA 1<|fA<|bA 10<|lA 1<|fA<|eE [3,2,1] [3,2,1]
 ·refine lA 1<|fA<|AT.big2 tOk 0 4 kr (And.intro kr ?_) (And.intro kr ?_)
  ·refine lA 1<|fA<|AT.big2 tOk 3 4 kr (And.intro kr ?_) (And.intro kr ?_)
   ·exact pD Link.row hg1<|fA<|bA 4<|lA 1<|fA<|bA 7<|pD Say.row hg2<|fA<|bA 8<|lA 1<|fA<|bA 10<|lA 1<|fA<|eE [3,2,1] [3,2,1]
   ·exact lA 1<|fA<|bA 3<|pD Link.row hg1<|fA<|bA 7<|pD Say.row hg2<|fA<|bA 8<|lA 1<|fA<|bA 10<|lA 1<|fA<|eE [3,2,1] [3,2,1]
  ·exact lA 1<|fA<|bA 0<|lA 1<|fA<|bA 3<|pD Link.row hg1<|fA<|bA 7<|pD Say.row hg2<|fA<|bA 8<|lA 1<|fA<|bA 10<|lA 1<|fA<|eE [3,2,1] [3,2,1]
theorem zJL (n : Nat) (x0 : Net) (r : Net) (H : Jb n x0 = some r) : zG Try.prog 168 [.val true (fR (Net.row x0))] [.val true (Net.row r)] [] := by
 refine cW Try.func168 (fun g d => sl [g 0,d 1,sl [g 2] (.block 0 (.loop (sl [sl [g 3] (cn 18 .skip (.exit 0)),.block 1 (d 5)] (g 4)))),g 6] .ret) [.cell 2 76] fun cx=>?_
 unfold Jb at H
 refine gA 2 6 6<|gE H fun hg1 H=> gE H fun hg2 H=> sT ⟨33,0,[sA 2 2 3 0,sA 1 1 3 0],[(2,[cL 11 ([] : List zA) zA.row,cL 4 ([] : List Link) Link.row,cL 7 ([] : List Say) Say.row]),(1,(fR (Net.row x0)))]⟩<|Tr.draws mixed 11 kr ⟨33,0,[sA 3 3 3 0,sA 2 2 3 0,sA 1 1 3 0],[(3,[cL 11 ([] : List zA) zA.row,cL 4 (([] : List Link) ++ x0.Ls) Link.row,cL 7 (([] : List Say) ++ x0.Said) Say.row]),(2,[cL 11 ([] : List zA) zA.row,cL 4 ([] : List Link) Link.row,cL 7 ([] : List Say) Say.row]),(1,(fR (Net.row x0)))]⟩ (zHK n x0 hg1 hg2)<|tS<|gA 1 30 14 ?_
 obtain ⟨o6,eo6,Ho6⟩ := bs H
 clear H
 refine Tr.mid (ι := (List zA)) (fun v => ⟨33,0,[sA 3 3 3 0,sA 2 2 3 0],[(3,[cL 11 v zA.row,cL 4 (([] : List Link) ++ x0.Ls) Link.row,cL 7 (([] : List Say) ++ x0.Said) Say.row]),(2,[cL 11 ([] : List zA) zA.row,cL 4 ([] : List Link) Link.row,cL 7 ([] : List Say) Say.row])]⟩) (fun v => Jn n x0 v = some r) ?_ ?_
 ·refine tB<|Tr.loop (ι := Nat × (Int × (List zA))) (fun v => ⟨33,0,[sI 4 v.2.1,sA 3 3 3 0,sA 2 2 3 0,sA 1 1 3 0],[(3,[cL 11 v.2.2 zA.row,cL 4 (([] : List Link) ++ x0.Ls) Link.row,cL 7 (([] : List Say) ++ x0.Said) Say.row]),(2,[cL 11 ([] : List zA) zA.row,cL 4 ([] : List Link) Link.row,cL 7 ([] : List Say) Say.row]),(1,(fR (Net.row x0)))]⟩) (fun v => Zw n v.1 x0 v.2.1 v.2.2 = some o6) (fun v => v.1) (n,(0,([] : List zA))) eo6 (St.sub_of [4,3,2,1] [3,2,1] kr) ?_
  rintro ⟨_ | mo6,y3,y4⟩ H
  ·exact nN H
  have H : Zw n (mo6+1) x0 y3 y4 = some o6 := H
  rw [Zw] at H
  refine tS<|rA 3<|kF x0.Bs zA.row<|uA 1 262174 14 ?_
  obtain ⟨h1,H⟩ | ⟨h1,H⟩ := bC H
  ·refine nA h1<|Tr.exit<|aJ ?_
   cases H
   exact jA y4 Ho6 [3,2] [3,2]
  refine tA h1<|tK<|tS<|tB<|bE H fun v7 ev7 H=> bE H fun r8 er8 H=> gE H fun hg9 H=> Tr.draw mixed 12 kr ⟨33,0,[sI 4 y3,sA 3 3 3 0,sA 2 2 3 0,sA 1 1 3 0],[(3,[cL 11 (y4 ++ [r8]) zA.row,cL 4 (([] : List Link) ++ x0.Ls) Link.row,cL 7 (([] : List Say) ++ x0.Said) Say.row]),(2,[cL 11 ([] : List zA) zA.row,cL 4 ([] : List Link) Link.row,cL 7 ([] : List Say) Say.row]),(1,(fR (Net.row x0)))]⟩ (fun cx=>?_) ?_
  ·exact mA zAx [(0,[]),(1,[9,11]),(2,[]),(3,[7,8,9,11]),(4,[])] 7 [⟨[7,8,9,11],53,23,24⟩,⟨[9,11],53,21,22⟩] fun cx=>iN zAx 5 zA.row ev7 fun cx=>mA zAx [(6,[])] 5 [⟨[7,8,9,11],53,23,24⟩,⟨[9,11],53,21,22⟩] fun cx=>mC zAx 7<|vA [.rd] (zBE n v7 r8 er8)<|fA<|mC zAx 8<|lA 1<|fA<|mC zAx 9<|LAt.appMU tOk (t := 53) (ty := 53) (e := 42) (x := (.tmp 22)) (y := (.tmp 29)) (d := 30) (g := none) (tI 42) zA.row y4 [r8] kr kr kr kr kr kr kr kr kr kr hg9<|fA<|mA zAx [(10,[])] 1 [⟨[7,8,9,11],53,23,24⟩,⟨[9,11],53,21,22⟩] fun cx=>mC zAx 11<|lA 1<|fA<|mE zAx [4,3,2,1] [3,2,1]
  exact eA 3 30 14<|jB mo6 ((wI (y3 + 1)),(y4 ++ [r8])) H [4,3,2,1] [3,2,1]
 rintro y5 H
 have H : (Jn n x0 y5) = some r := H
 unfold Jn at H
 exact gA 2 4 4<|te (fJ [(true,[cL 11 y5 zA.row,cL 4 (([] : List Link) ++ x0.Ls) Link.row,cL 7 (([] : List Say) ++ x0.Said) Say.row])] H)
def zAD (n : Nat) (y3 : (List zC)) : Option ((List zC)) :=
  (some y3)
def ql (n : Nat) : Nat → (List zC) → Int → (List zC) → Option (((List zC)) ⊕ ((List zC)))
  | 0,_,_,_ => none
  | mo4 + 1,x0,y1,y2 => (bif (decide (y1 < (x0.length : Int))) then ((idx x0 y1).bind fun v5 => (bif v5.Sc then (bif (decide (y2.length + [v5].length ≤ 268435456)) then (ql n mo4 x0 (IntKind.wrap .i64 (y1 + 1)) (y2 ++ [v5])) else none) else (bif (decide (v5.Age < 4)) then (bif (decide (y2.length + [(⟨v5.Tag,v5.Mac,v5.Port,(IntKind.wrap .i64 (v5.Age + 1)),v5.Sc⟩ : zC)].length ≤ 268435456)) then (ql n mo4 x0 (IntKind.wrap .i64 (y1 + 1)) (y2 ++ [(⟨v5.Tag,v5.Mac,v5.Port,(IntKind.wrap .i64 (v5.Age + 1)),false⟩ : zC)])) else none) else (ql n mo4 x0 (IntKind.wrap .i64 (y1 + 1)) y2)))) else (some (Sum.inl y2)))
def YP (n : Nat) (x0 : (List zC)) : Option ((List zC)) :=
  ((ql n n x0 0 ([] : List zC)).bind fun o => match o with | .inl y3 => (zAD n y3) | .inr r => some r)
theorem zJf (n : Nat) (x0 : (List zC)) (r : (List zC)) (H : YP n x0 = some r) : zG Try.prog 180 [.val false [.sl false 5 (CV.frzEs (x0.map zC.row))]] [.val false [.sl true 5 (r.map zC.row)]] [] := by
 refine cW Try.func180 (fun g d => sl [g 0,g 1,sl [g 2] (.block 0 (.loop (sl [sl [g 3] (cn 10 .skip (.exit 0)),.block 1 (sl [g 5,sl [g 6] (cn 18 (sl [g 7] (.exit 1)) .skip),g 8] (cn 25 (sl [g 9] (g 10)) .skip))] (g 4)))),g 11] .ret) [.tmp 2] fun cx=>?_
 unfold YP at H
 refine gA 1 1 0<|rA 1<|LAt.moveU (T := lk tab) (ty := 36) (x := (.tmp 6)) (d := 3) (g := none) false [cL 5 ([] : List zC) zC.row] kr kr kr kr kr<|dA 9 0<|tS<|gA 1 25 0 ?_
 obtain ⟨o4,eo4,Ho4⟩ := bs H
 clear H
 refine Tr.mid (ι := (List zC)) (fun v => ⟨35,0,[sC 3 (cL 5 v zC.row)],[]⟩) (fun v => zAD n v = some r) ?_ ?_
 ·refine tB<|Tr.loop (ι := Nat × (Int × (List zC))) (fun v => ⟨35,0,[sI 4 v.2.1,sC 3 (cL 5 v.2.2 zC.row),sC 0 (cF 5 x0 zC.row)],[]⟩) (fun v => ql n v.1 x0 v.2.1 v.2.2 = some o4) (fun v => v.1) (n,(0,([] : List zC))) eo4 (St.sub_of [4,3,0] [] kr) ?_
  rintro ⟨_ | mo4,y1,y2⟩ H
  ·exact nN H
  have H : ql n (mo4+1) x0 y1 y2 = some o4 := H
  rw [ql] at H
  refine tS<|rA 2<|kF x0 zC.row<|uA 1 1049 0 ?_
  obtain ⟨h1,H⟩ | ⟨h1,H⟩ := bC H
  ·refine nA h1<|Tr.exit<|aJ ?_
   cases H
   exact jA y2 Ho4 [3] []
  refine tA h1<|tK<|tS<|tB<|rA 2<|bE H fun v5 ev5 H=> iA zC.row ev5<|uA 3 57 32<|tS<|gA 2 262201 32 ?_
  obtain ⟨h2,H⟩ | ⟨h2,H⟩ := bC H
  ·refine qT [18] h2<|nB_<|tK<|gA 3 33554489 32 ?_
   obtain ⟨h3,H⟩ | ⟨h3,H⟩ := bC H
   ·exact nA h3<|tK<|eA 3 25 0<|jB mo4 ((wI (y1 + 1)),y2) H [4,3,0] []
   refine tA h3<|gA 5 57 32<|Tr.at<|lA 3<|gE H fun hg6 H=> LAt.appMU tOk (t := 36) (ty := 36) (e := 60) (x := (.tmp 30)) (y := (.tmp 32)) (d := 33) (g := none) (tI 60) zC.row y2 [(⟨v5.Tag,v5.Mac,v5.Port,(wI (v5.Age + 1)),v5.Sc⟩ : zC)] kr kr kr kr kr kr kr kr kr kr hg6<|LAt.moveU (T := lk tab) (ty := 36) (x := (.tmp 33)) (d := 3) (g := none) false [cL 5 (y2 ++ [(⟨v5.Tag,v5.Mac,v5.Port,(wI (v5.Age + 1)),v5.Sc⟩ : zC)]) zC.row] kr kr kr kr kr<|dA 25 0<|eA 3 25 0<|sC' 25 0 ⟨35,0,[sI 4 (wI (y1 + 1)),sC 3 (cL 5 (y2 ++ [(⟨v5.Tag,v5.Mac,v5.Port,(wI (v5.Age + 1)),v5.Sc⟩ : zC)]) zC.row),sC 0 (cF 5 x0 zC.row)],[]⟩ ?_
   rw [h2]
   exact jB mo4 ((wI (y1 + 1)),(y2 ++ [(⟨v5.Tag,v5.Mac,v5.Port,(wI (v5.Age + 1)),false⟩ : zC)])) H [4,3,0] []
  exact qT [18] h2<|tB_<|rA 3<|gE H fun hg7 H=> LAt.appMU tOk (t := 36) (ty := 36) (e := 60) (x := (.tmp 19)) (y := (.tmp 21)) (d := 22) (g := none) (tI 60) zC.row y2 [v5] kr kr kr kr kr kr kr kr kr kr hg7<|LAt.moveU (T := lk tab) (ty := 36) (x := (.tmp 22)) (d := 3) (g := none) false [cL 5 (y2 ++ [v5]) zC.row] kr kr kr kr kr<|dA 25 0<|Tr.exit<|aJ<|eA 3 25 0<|jB mo4 ((wI (y1 + 1)),(y2 ++ [v5])) H [4,3,0] []
 rintro y3 H
 have H : (zAD n y3) = some r := H
 unfold zAD at H
 exact gA 2 12 0<|te (fJ [(false,[cL 5 y3 zC.row])] H)
def zAG (n : Nat) (x0 : zA) : Option (zA) :=
  ((QD n x0).bind fun r1 => ((zN n x0).bind fun r2 => (bif (!r2) then (some r1) else ((YS n x0.Tk).bind fun r3 => ((YP n x0.F).bind fun r4 => ((qm n (⟨r1.Id,r1.Name,r1.Ps,r4,r1.V,r3,r1.Pa,r1.Wo,r1.Dr,r1.Ve⟩ : zA)).bind fun r5 => (some r5)))))))
theorem zLB (n : Nat) (x0 : zA) (r : zA) (H : zAG n x0 = some r) : zG Try.prog 169 [.val true (fR (zA.row x0))] [.val true (zA.row r)] [] := by
 refine cW Try.func169 (fun g d => sl [g 0,g 1,sl [g 2] (cn 8 (sl [g 3] .ret) .skip),g 4,g 5,g 6] .ret) [.cell 2 42] fun cx=>?_
 unfold zAG at H
 refine gA 2 6 6<|rA 1<|bE H fun r1 er1 H=> vA [.rd] (zBE n x0 r1 er1)<|uA 2 14 14<|tS<|rA 1<|bE H fun r2 er2 H=> vA [.rd] (zCO n x0 r2 er2)<|uA 1 270 14 ?_
 obtain ⟨h1,H⟩ | ⟨h1,H⟩ := bC H
 ·exact nA h1<|tK<|rA 2<|bE H fun r3 er3 H=> vA [.rd] (zGB n x0.Tk r3 er3)<|uA 2 14 14<|rA 2<|bE H fun r4 er4 H=> vA [.rd] (zJf n x0.F r4 er4)<|uA 2 12 12<|rA 1<|bE H fun r5 er5 H=> vA [.own] (zBe n (⟨r1.Id,r1.Name,r1.Ps,r4,r1.V,r3,r1.Pa,r1.Wo,r1.Dr,r1.Ve⟩ : zA) r5 er5)<|uA 1 4 4<|te (fJ [(true,(zA.row r5))] H)
 exact tA h1<|gA 2 4 4<|te (fJ [(true,(zA.row r1))] H)
def QT (n : Nat) (x0 : Net) (x1 : Int) (x2 : Int) : Option (Bool) :=
  ((zL n x1 0 (IntKind.wrap .i64 ((x0.Bs.length : Int) - 1))).bind fun r1 => (bif r1 then ((idx x0.Bs x1).bind fun v2 => ((zL n x2 0 (IntKind.wrap .i64 ((v2.Ps.length : Int) - 1))).bind fun r3 => (bif r3 then ((idx x0.Bs x1).bind fun v4 => ((idx v4.Ps x2).bind fun v5 => (some v5.Up))) else (some false)))) else (some false)))
theorem zHM (n : Nat) (x0 : Net) (x1 : Int) (x2 : Int) (r : Bool) (H : QT n x0 x1 x2 = some r) : zG Try.prog 202 [.val true (fR (Net.row x0)),.val false [.lit (.int .i64 x1)],.val false [.lit (.int .i64 x2)]] [.val false [.lit (.bool r)]] [] := by
 refine cW Try.func202 (fun g d => sl [g 0,g 1] .ret) [.tmp 6] fun cx=>?_
 unfold QT at H
 refine gA 2 14 8<|rA 3<|kF x0.Bs zA.row<|lA 1<|bE H fun r1 er1 H=> vA [.rd,.rd,.rd] (zM n x1 0 (wI ((x0.Bs.length : Int) - 1)) r1 er1)<|lA 1 ?_
 obtain ⟨h1,H⟩ | ⟨h1,H⟩ := bC H
 ·exact qL 8206 8 [13] h1<|uA 24 64 0<|te (fF H)
 refine qL 8206 8 [13] h1<|lA 4<|bE H fun v2 ev2 H=> iA zA.row ev2<|lA 2<|kF v2.Ps Pt.row<|lA 1<|bE H fun r3 er3 H=> vA [.rd,.rd,.rd] (zM n x2 0 (wI ((v2.Ps.length : Int) - 1)) r3 er3)<|lA 2 ?_
 obtain ⟨h2,H⟩ | ⟨h2,H⟩ := bC H
 ·exact qL 33554446 8 [25] h2<|uA 12 64 0<|te (fF H)
 exact qL 33554446 8 [25] h2<|lA 3<|bE H fun v4 ev4 H=> iA zA.row ev4<|lA 3<|bE H fun v5 ev5 H=> iA Pt.row ev5<|uA 4 64 0<|te (fJ [(false,[cB v5.Up])] H)
def qp (n : Nat) (x0 : Net) (x1 : Int) : Option (Bool) :=
  ((zL n x1 0 (IntKind.wrap .i64 ((x0.Ls.length : Int) - 1))).bind fun r1 => (bif (!r1) then (some false) else ((idx x0.Ls x1).bind fun v2 => ((QT n x0 v2.A v2.P).bind fun r3 => (bif r3 then ((QT n x0 v2.B v2.Q).bind fun r4 => (some r4)) else (some false))))))
theorem zDi (n : Nat) (x0 : Net) (x1 : Int) (r : Bool) (H : qp n x0 x1 = some r) : zG Try.prog 192 [.val true (fR (Net.row x0)),.val false [.lit (.int .i64 x1)]] [.val false [.lit (.bool r)]] [] := by
 refine cW Try.func192 (fun g d => sl [g 0,sl [g 1] (cn 12 (sl [g 2] .ret) .skip),g 3,g 4] .ret) [.tmp 4] fun cx=>?_
 unfold qp at H
 refine gA 2 6 4<|tS<|rA 3<|kF x0.Ls Link.row<|lA 1<|bE H fun r1 er1 H=> vA [.rd,.rd,.rd] (zM n x1 0 (wI ((x0.Ls.length : Int) - 1)) r1 er1)<|uA 1 4102 4 ?_
 obtain ⟨h1,H⟩ | ⟨h1,H⟩ := bC H
 ·refine nA h1<|tK<|rA 3<|bE H fun v2 ev2 H=> iA Link.row ev2<|uA 3 36 36<|rA 5<|bE H fun r3 er3 H=> vA [.rd,.rd,.rd] (zHM n x0 v2.A v2.P r3 er3)<|lA 1 ?_
  obtain ⟨h2,H⟩ | ⟨h2,H⟩ := bC H
  ·exact qL 16777252 36 [24] h2<|uA 8 16 0<|te (fF H)
  exact qL 16777252 36 [24] h2<|lA 5<|bE H fun r4 er4 H=> vA [.rd,.rd,.rd] (zHM n x0 v2.B v2.Q r4 er4)<|uA 2 16 0<|te (fJ [(false,[cB r4])] H)
 exact tA h1<|gA 1 16 0<|te (fF H)
def JK (n : Nat) (x0 : Net) (x1 : Int) (x2 : Bool) : Option (Vec) :=
  ((idx x0.Ls x1).bind fun v1 => (bif x2 then ((idx x0.Bs v1.B).bind fun v5 => ((idx x0.Bs v1.B).bind fun v6 => ((qV n v5.Id v6.Ps v1.Q).bind fun r7 => (some r7)))) else ((idx x0.Bs v1.A).bind fun v2 => ((idx x0.Bs v1.A).bind fun v3 => ((qV n v2.Id v3.Ps v1.P).bind fun r4 => (some r4))))))
def zMf : Tab := ⟨18,[0,1,0,4,10,16,32,0,128,0,512,1280,2048,4096,0,16384,41024,131071],[0,1,0,4,10,16,32,0,128,0,512,1280,2048,4096,0,16384,41024,65536],[0,1,0,4,15,31,63,0,128,0,512,1920,3968,8064,0,16384,65535,131071]⟩
theorem zBw : zk (rg Try.f193 3) zMf = true := kr
def zMg : Tab := ⟨18,[0,1,0,4,10,16,32,0,128,0,512,1280,2048,4096,0,16384,41024,131071],[0,1,0,4,10,16,32,0,128,0,512,1280,2048,4096,0,16384,41024,65536],[0,1,0,4,15,31,63,0,128,0,512,1920,3968,8064,0,16384,65535,131071]⟩
theorem zBx : zk (rg Try.f193 4) zMg = true := kr
theorem zGC (n : Nat) (x0 : Net) (x1 : Int) (x2 : Bool) (r : Vec) (H : JK n x0 x1 x2 = some r) : zG Try.prog 193 [.val true (fR (Net.row x0)),.val false [.lit (.int .i64 x1)],.val false [.lit (.bool x2)]] [.val true (Vec.row r)] [] := by
 refine cW Try.func193 (fun g d => sl [g 0,g 1,sl [g 2] (cn 13 (sl [d 3] .ret) .skip),d 4] .ret) [.cell 6 46] fun cx=>?_
 unfold JK at H
 refine gA 2 78 72<|rA 3<|bE H fun v1 ev1 H=> iA Link.row ev1<|uA 3 204 200<|tS<|gA 1 8392 200 ?_
 cases h1 : x2
 ·have H := Z6 h1 H
  refine nB_<|tK<|bE H fun v2 ev2 H=> bE H fun v3 ev3 H=> bE H fun r4 er4 H=> Tr.draws mixed 18 kr ⟨48,0,[sA 6 6 5 0],[(6,(Vec.row r4))]⟩ (fun cx=>?_) ?_
  ·exact mA zBx [(0,[]),(1,[16,17]),(2,[]),(3,[16,17])] 14 [⟨[16,17],3,33,34⟩,⟨[16,17],53,31,32⟩] fun cx=>iN zBx 4 zA.row ev2 fun cx=>mA zBx (zl [5,6,7]++[(8,[16,17]),(9,[]),(10,[16,17])]) 7 [⟨[16,17],3,40,41⟩,⟨[16,17],53,38,39⟩,⟨[16,17],3,33,34⟩,⟨[16,17],53,31,32⟩] fun cx=>iN zBx 11 zA.row ev3 fun cx=>mA zBx (zl [12,13,14]++[(15,[16,17])]) 2 [⟨[16,17],3,45,46⟩,⟨[16,17],3,40,41⟩,⟨[16,17],53,38,39⟩,⟨[16,17],3,33,34⟩,⟨[16,17],53,31,32⟩] fun cx=>mC zBx 16<|vA [.rd,.rd,.rd] (zDj n v2.Id v3.Ps v1.P r4 er4)<|fA<|mC zBx 17<|lA 1<|fA<|mE zBx [6] [6]
  exact te (fJ [(true,(Vec.row r4))] H)
 have H := Z7 h1 H
 refine tB_<|bE H fun v5 ev5 H=> bE H fun v6 ev6 H=> bE H fun r7 er7 H=> Tr.draws mixed 18 kr ⟨48,0,[sA 6 6 5 0],[(6,(Vec.row r7))]⟩ (fun cx=>?_) ?_
 ·exact mA zBw [(0,[]),(1,[16,17]),(2,[]),(3,[16,17])] 14 [⟨[16,17],3,16,17⟩,⟨[16,17],53,14,15⟩] fun cx=>iN zBw 4 zA.row ev5 fun cx=>mA zBw (zl [5,6,7]++[(8,[16,17]),(9,[]),(10,[16,17])]) 7 [⟨[16,17],3,23,24⟩,⟨[16,17],53,21,22⟩,⟨[16,17],3,16,17⟩,⟨[16,17],53,14,15⟩] fun cx=>iN zBw 11 zA.row ev6 fun cx=>mA zBw (zl [12,13,14]++[(15,[16,17])]) 2 [⟨[16,17],3,28,29⟩,⟨[16,17],3,23,24⟩,⟨[16,17],53,21,22⟩,⟨[16,17],3,16,17⟩,⟨[16,17],53,14,15⟩] fun cx=>mC zBw 16<|vA [.rd,.rd,.rd] (zDj n v5.Id v6.Ps v1.Q r7 er7)<|fA<|mC zBw 17<|lA 1<|fA<|mE zBw [6] [6]
 exact te (fJ [(true,(Vec.row r7))] H)
def Y4 (n : Nat) (x0 : Net) (y3 : (List Say)) : Option (Net) :=
  (some (⟨x0.Bs,x0.Ls,y3⟩ : Net))
def Zv (n : Nat) (k : (Int × (List Say) → Option (((List Say)) ⊕ (Net)))) (x0 : Net) (x1 : Int) (y1 : Int) (y6 : (List Say)) : Option (((List Say)) ⊕ (Net)) :=
  ((idx x0.Ls y1).bind fun v7 => (bif (v7.B == x1) then ((JK n (⟨x0.Bs,x0.Ls,y6⟩ : Net) y1 true).bind fun r8 => (bif (decide (y6.length + [(⟨y1,true,r8⟩ : Say)].length ≤ 268435456)) then (k ((IntKind.wrap .i64 (y1 + 1)),(y6 ++ [(⟨y1,true,r8⟩ : Say)]))) else none)) else (k ((IntKind.wrap .i64 (y1 + 1)),y6))))
def qK (n : Nat) : Nat → Net → Int → Int → (List Say) → Option (((List Say)) ⊕ (Net))
  | 0,_,_,_,_ => none
  | mo4 + 1,x0,x1,y1,y2 => (bif (decide (y1 < (x0.Ls.length : Int))) then ((qp n (⟨x0.Bs,x0.Ls,y2⟩ : Net) y1).bind fun r5 => (bif (!r5) then (qK n mo4 x0 x1 (IntKind.wrap .i64 (y1 + 1)) y2) else (bif (decide ((y2.length : Int) ≥ 40)) then (qK n mo4 x0 x1 (IntKind.wrap .i64 (y1 + 1)) y2) else ((idx x0.Ls y1).bind fun v10 => (bif (v10.A == x1) then ((JK n (⟨x0.Bs,x0.Ls,y2⟩ : Net) y1 false).bind fun r11 => (bif (decide (y2.length + [(⟨y1,false,r11⟩ : Say)].length ≤ 268435456)) then (Zv n (fun v => qK n mo4 x0 x1 v.1 v.2) x0 x1 y1 (y2 ++ [(⟨y1,false,r11⟩ : Say)])) else none)) else (Zv n (fun v => qK n mo4 x0 x1 v.1 v.2) x0 x1 y1 y2)))))) else (some (Sum.inl y2)))
def Yv (n : Nat) (x0 : Net) (x1 : Int) : Option (Net) :=
  ((qK n n x0 x1 0 x0.Said).bind fun o => match o with | .inl y3 => (Y4 n x0 y3) | .inr r => some r)
def zMX : Tab := ⟨17,[0,0,2,4,8,0,0,64,128,0,768,1056,2048,5136,16383,32767,49151],[0,0,2,4,8,0,0,64,128,0,768,1056,2048,4112,1,16384,40960],[0,0,2,6,14,0,0,64,192,0,960,2016,4064,8190,16383,32767,65535]⟩
noncomputable abbrev zHU (k : Nat) := Rg Try.f170 k
noncomputable abbrev zMK (k : Nat) := Rd Try.f170 k
theorem zBs : zk (rg Try.f170 5) zMX = true := kr
def zMY : Tab := ⟨17,[0,0,2,4,8,0,0,64,128,0,768,1056,2048,5136,16383,32767,49151],[0,0,2,4,8,0,0,64,128,0,768,1056,2048,4112,1,16384,40960],[0,0,2,6,14,0,0,64,192,0,960,2016,4064,8190,16383,32767,65535]⟩
theorem zBt : zk (rg Try.f170 7) zMY = true := kr
theorem zHy (n : Nat) (x0 : Net) (x1 : Int) (r : Net) (H : Yv n x0 x1 = some r) : zG Try.prog 170 [.ptr (Net.row x0),.val false [.lit (.int .i64 x1)]] [] [(0,(Net.row r))] := by
 refine zG.of_body tOk Try.func170 rfl (c := (.seq (zHU 0) (.block 0 (.loop (.seq (.seq (zHU 1) (.cond (.tmp 11) .skip (.exit 0))) (.seq (.block 1 (.seq (.seq (zHU 3) (.cond (.tmp 27) (.exit 1) .skip)) (.seq (.seq (zHU 4) (.cond (.tmp 37) (zMK 5) .skip)) (.seq (zHU 6) (.cond (.tmp 63) (zMK 7) .skip))))) (zHU 2))))))) kr (Nat.le_of_ble_eq_true kr) 1 (rs := []) rfl [] .nil [] [] [(0,(Net.row r))] fun cx=>?_
 show Tr _ _ _ ⟨80,1,[sA 0 0 3 0,sI 1 x1],[(0,(Net.row x0))]⟩ _
 unfold Yv at H
 refine gA 1 19 1 ?_
 obtain ⟨o4,eo4,Ho4⟩ := bs H
 clear H
 refine Tr.mid (ι := (List Say)) (fun v => ⟨80,1,[sA 0 0 3 0],[(0,[cL 11 x0.Bs zA.row,cL 4 x0.Ls Link.row,cL 7 v Say.row])]⟩) (fun v => Y4 n x0 v = some r) ?_ ?_
 ·refine tB<|Tr.loop (ι := Nat × (Int × (List Say))) (fun v => ⟨80,1,[sI 4 v.2.1,sA 0 0 3 0,sI 1 x1],[(0,[cL 11 x0.Bs zA.row,cL 4 x0.Ls Link.row,cL 7 v.2.2 Say.row])]⟩) (fun v => qK n v.1 x0 x1 v.2.1 v.2.2 = some o4) (fun v => v.1) (n,(0,x0.Said)) eo4 (St.sub_of [4,0,1] [0] kr) ?_
  rintro ⟨_ | mo4,y1,y2⟩ H
  ·exact nN H
  have H : qK n (mo4+1) x0 x1 y1 y2 = some o4 := H
  rw [qK] at H
  refine tS<|rA 5<|kO x0.Ls Link.row<|uA 1 2067 1 ?_
  obtain ⟨h1,H⟩ | ⟨h1,H⟩ := bC H
  ·refine nA h1<|Tr.exit<|aJ ?_
   cases H
   exact jA y2 Ho4 [0] [0]
  refine tA h1<|tK<|tS<|tB<|tS<|rA 4<|bE H fun r5 er5 H=> vB [.rd,.rd] [.box 0] (zDi n (⟨x0.Bs,x0.Ls,y2⟩ : Net) y1 r5 er5) (.inr (qF (zE zI z5) qe))<|lA 2 ?_
  obtain ⟨h2,H⟩ | ⟨h2,H⟩ := bC H
  ·refine qL 1048595 1 [20] h2<|lA 4<|kO y2 Say.row<|uA 2 134217747 1 ?_
   obtain ⟨h3,H⟩ | ⟨h3,H⟩ := bC H
   ·refine nA h3<|tK<|tS<|Tr.mid (ι := (List Say)) (fun v => ⟨80,1,[sI 4 y1,sA 0 0 3 0,sI 1 x1],[(0,[cL 11 x0.Bs zA.row,cL 4 x0.Ls Link.row,cL 7 v Say.row])]⟩) (fun v => Zv n (fun v => qK n mo4 x0 x1 v.1 v.2) x0 x1 y1 v = some o4) ?_ ?_
    ·refine rA 5<|bE H fun v10 ev10 H=> oA Link.row ev10<|lA 1<|dE (tI 3) (.box 0) [(0,0),(1,(y1.toNat))] 4 0 [.sl true 3 [[cL 11 x0.Bs zA.row,cL 4 x0.Ls Link.row,cL 7 y2 Say.row]]] (Link.row v10) (zK rfl (zF ev10).2)<|uA 2 137438953491 1 ?_
     obtain ⟨h5,H⟩ | ⟨h5,H⟩ := bC H
     ·exact nA h5<|tK<|jA y2 H [4,0,1] [0]
     refine tA h5<|bE H fun r11 er11 H=> gE H fun hg12 H=> Tr.draw mixed 17 kr ⟨80,1,[sI 4 y1,sA 0 0 3 0,sI 1 x1],[(0,[cL 11 x0.Bs zA.row,cL 4 x0.Ls Link.row,cL 7 (y2 ++ [(⟨y1,false,r11⟩ : Say)]) Say.row])]⟩ (fun cx=>?_) ?_
     ·exact mA zBs (zl [0,1,2,3]++[(4,[13,16])]++zl [5,6,7]++[(8,[10,11,12,13,16]),(9,[])]) 7 [⟨[10,11,12,13,16],76,45,46⟩,⟨[13,16],74,41,42⟩] fun cx=>mC zBs 10<|vB [.rd,.rd,.rd] [.box 0] (zGC n (⟨x0.Bs,x0.Ls,y2⟩ : Net) y1 false r11 er11) (.inr (qF (Vec.row_mine _) qe))<|fA<|mC zBs 11<|lA 1<|fA<|mC zBs 12<|lA 1<|fA<|mC zBs 13<|LAt.appMU tOk (t := 74) (ty := 74) (e := 177) (x := (.tmp 42)) (y := (.tmp 50)) (d := 51) (g := none) (tI 177) Say.row y2 [(⟨y1,false,r11⟩ : Say)] kr kr kr kr kr kr kr kr kr kr hg12<|fA<|mA zBs [(14,[]),(15,[])] 1 [⟨[10,11,12,13,16],76,45,46⟩,⟨[13,16],74,41,42⟩] fun cx=>mC zBs 16<|lA 1<|fA<|mE zBs [4,0,1] [0]
     exact jA (y2 ++ [(⟨y1,false,r11⟩ : Say)]) H [4,0,1] [0]
    rintro y6 H
    have H : (Zv n (fun v => qK n mo4 x0 x1 v.1 v.2) x0 x1 y1 y6) = some o4 := H
    unfold Zv at H
    refine rA 5<|bE H fun v7 ev7 H=> oA Link.row ev7<|lA 1<|dE (tI 3) (.box 0) [(0,0),(1,(y1.toNat))] 4 2 [.sl true 3 [[cL 11 x0.Bs zA.row,cL 4 x0.Ls Link.row,cL 7 y6 Say.row]]] (Link.row v7) (zK rfl (zF ev7).2)<|uA 2 0x8000000000000013 1 ?_
    obtain ⟨h4,H⟩ | ⟨h4,H⟩ := bC H
    ·exact nA h4<|tK<|eA 3 19 1<|jB mo4 ((wI (y1 + 1)),y6) H [4,0,1] [0]
    refine tA h4<|bE H fun r8 er8 H=> gE H fun hg9 H=> Tr.draw mixed 17 kr ⟨80,1,[sI 4 y1,sA 0 0 3 0,sI 1 x1],[(0,[cL 11 x0.Bs zA.row,cL 4 x0.Ls Link.row,cL 7 (y6 ++ [(⟨y1,true,r8⟩ : Say)]) Say.row])]⟩ (fun cx=>?_) ?_
    ·exact mA zBt (zl [0,1,2,3]++[(4,[13,16])]++zl [5,6,7]++[(8,[10,11,12,13,16]),(9,[])]) 7 [⟨[10,11,12,13,16],76,71,72⟩,⟨[13,16],74,67,68⟩] fun cx=>mC zBt 10<|vB [.rd,.rd,.rd] [.box 0] (zGC n (⟨x0.Bs,x0.Ls,y6⟩ : Net) y1 true r8 er8) (.inr (qF (Vec.row_mine _) qe))<|fA<|mC zBt 11<|lA 1<|fA<|mC zBt 12<|lA 1<|fA<|mC zBt 13<|LAt.appMU tOk (t := 74) (ty := 74) (e := 177) (x := (.tmp 68)) (y := (.tmp 76)) (d := 77) (g := none) (tI 177) Say.row y6 [(⟨y1,true,r8⟩ : Say)] kr kr kr kr kr kr kr kr kr kr hg9<|fA<|mA zBt [(14,[]),(15,[])] 1 [⟨[10,11,12,13,16],76,71,72⟩,⟨[13,16],74,67,68⟩] fun cx=>mC zBt 16<|lA 1<|fA<|mE zBt [4,0,1] [0]
    exact eA 3 19 1<|jB mo4 ((wI (y1 + 1)),(y6 ++ [(⟨y1,true,r8⟩ : Say)])) H [4,0,1] [0]
   exact tA h3<|Tr.exit<|aJ<|eA 3 19 1<|jB mo4 ((wI (y1 + 1)),y2) H [4,0,1] [0]
  exact qL 1048595 1 [20] h2<|uA 7 134217747 1<|tB_<|Tr.exit<|aJ<|eA 3 19 1<|jB mo4 ((wI (y1 + 1)),y2) H [4,0,1] [0]
 rintro y3 H
 have H : (Y4 n x0 y3) = some r := H
 unfold Y4 at H
 exact fY [] [(0,[cL 11 x0.Bs zA.row,cL 4 x0.Ls Link.row,cL 7 y3 Say.row])] H
def QB (n : Nat) (x0 : zA) (x1 : Int) (x2 : Vec) : Option (zA) :=
  ((QD n x0).bind fun r1 => ((YH n x0 x1).bind fun r2 => (bif (!r2) then (some r1) else ((idx x0.Ps x1).bind fun v3 => (bif (!v3.Up) then (some r1) else ((zw n x2).bind fun r4 => (bif (!r4) then (some r1) else ((idx r1.Ps x1).bind fun v5 => ((idx (r1.Ps.set (x1.toNat) (⟨v5.Up,v5.Co,true,v5.Hd⟩ : Pt)) x1).bind fun v6 => ((qm n (⟨r1.Id,r1.Name,((r1.Ps.set (x1.toNat) (⟨v5.Up,v5.Co,true,v5.Hd⟩ : Pt)).set (x1.toNat) (⟨v6.Up,v6.Co,v6.Has,x2⟩ : Pt)),r1.F,r1.V,r1.Tk,r1.Pa,r1.Wo,r1.Dr,r1.Ve⟩ : zA)).bind fun r7 => (some r7)))))))))))
theorem zFR (n : Nat) (x0 : zA) (x1 : Int) (x2 : Vec) (r : zA) (H : QB n x0 x1 x2 = some r) : zG Try.prog 203 [.val true (fR (zA.row x0)),.val false [.lit (.int .i64 x1)],.val true (fR (Vec.row x2))] [.val true (zA.row r)] [] := by
 refine cW Try.func203 (fun g d => sl [g 0,g 1,sl [g 2] (cn 27 (sl [g 3] .ret) .skip),g 4,g 5,g 6] .ret) [.cell 6 42] fun cx=>?_
 unfold QB at H
 refine gA 3 106 104<|rA 1<|bE H fun r1 er1 H=> vA [.rd] (zBE n x0 r1 er1)<|uA 2 234 232<|tS<|rA 2<|bE H fun r2 er2 H=> vA [.rd,.rd] (zEq n x0 x1 r2 er2)<|lA 2 ?_
 obtain ⟨h1,H⟩ | ⟨h1,H⟩ := bC H
 ·refine qL 16618 232 [14] h1<|lA 3<|bE H fun v3 ev3 H=> iA Pt.row ev3<|lA 5 ?_
  obtain ⟨h2,H⟩ | ⟨h2,H⟩ := bC H
  ·refine qL 8388834 224 [23] h2<|lA 1<|bE H fun r4 er4 H=> vA [.rd] (zBC n x2 r4 er4)<|uA 2 134217954 224 ?_
   obtain ⟨h3,H⟩ | ⟨h3,H⟩ := bC H
   ·exact nA h3<|tK<|rA 3<|bE H fun v5 ev5 H=> oA Pt.row ev5<|lA 1<|LAt.storeB tOk (t := 4) (ty := 0) (ad := (.tmp 33)) (x := (.const (.bool true))) (g := none) (tI 4) false [cB true] 7 2 (x1.toNat) 8 2 8 r1.Ps Pt.row v5 (⟨v5.Up,v5.Co,true,v5.Hd⟩ : Pt) kr kr kr kr kr kr kr kr (zF ev5).2 kr kr kr kr<|dA 226 224<|rA 4<|bE H fun v6 ev6 H=> oA Pt.row ev6<|lA 1<|LAt.storeB tOk (t := 46) (ty := 0) (ad := (.tmp 39)) (x := (.tmp 37)) (g := none) (tI 46) true (Vec.row x2) 7 2 (x1.toNat) 8 3 8 (r1.Ps.set (x1.toNat) (⟨v5.Up,v5.Co,true,v5.Hd⟩ : Pt)) Pt.row v6 (⟨v6.Up,v6.Co,v6.Has,x2⟩ : Pt) kr kr kr kr kr kr kr kr (zF ev6).2 kr kr kr kr<|dA 192 192<|rA 1<|bE H fun r7 er7 H=> vA [.own] (zBe n (⟨r1.Id,r1.Name,((r1.Ps.set (x1.toNat) (⟨v5.Up,v5.Co,true,v5.Hd⟩ : Pt)).set (x1.toNat) (⟨v6.Up,v6.Co,v6.Has,x2⟩ : Pt)),r1.F,r1.V,r1.Tk,r1.Pa,r1.Wo,r1.Dr,r1.Ve⟩ : zA) r7 er7)<|uA 1 64 64<|te (fJ [(true,(zA.row r7))] H)
   exact tA h3<|gA 2 64 64<|te (fJ [(true,(zA.row r1))] H)
  exact qL 8388834 224 [23] h2<|uA 4 134217954 224<|tB_<|gA 2 64 64<|te (fJ [(true,(zA.row r1))] H)
 exact qL 16618 232 [14] h1<|uA 13 134217954 224<|tB_<|gA 2 64 64<|te (fJ [(true,(zA.row r1))] H)
def Yf (n : Nat) (x0 : Net) (x1 : Int) (x2 : Bool) (x3 : Vec) : Option (Net) :=
  ((idx x0.Ls x1).bind fun v1 => (bif x2 then ((idx x0.Bs v1.A).bind fun v4 => ((QB n v4 v1.P x3).bind fun r5 => (some (⟨(x0.Bs.set (v1.A.toNat) r5),x0.Ls,x0.Said⟩ : Net)))) else ((idx x0.Bs v1.B).bind fun v2 => ((QB n v2 v1.Q x3).bind fun r3 => (some (⟨(x0.Bs.set (v1.B.toNat) r3),x0.Ls,x0.Said⟩ : Net))))))
def zMh : Tab := ⟨20,[0,1,2,4,0,16,0,64,128,256,0,1024,2560,4096,0,16384,0,106496,262143,524287],[0,1,2,4,0,16,0,64,128,256,0,1024,2560,4096,0,16384,0,106496,40,393216],[0,1,3,7,0,16,0,64,192,448,0,1024,4032,8128,0,16384,0,131008,262143,524287]⟩
noncomputable abbrev zLI (k : Nat) := Rg Try.f194 k
noncomputable abbrev zMM (k : Nat) := Rd Try.f194 k
theorem zBy : zk (rg Try.f194 3) zMh = true := kr
def zMi : Tab := ⟨20,[0,1,2,4,0,16,0,64,128,256,0,1024,2560,4096,0,16384,0,106496,262143,524287],[0,1,2,4,0,16,0,64,128,256,0,1024,2560,4096,0,16384,0,106496,40,393216],[0,1,3,7,0,16,0,64,192,448,0,1024,4032,8128,0,16384,0,131008,262143,524287]⟩
theorem zBz : zk (rg Try.f194 4) zMi = true := kr
theorem zJN (n : Nat) (x0 : Net) (x1 : Int) (x2 : Bool) (x3 : Vec) (r : Net) (H : Yf n x0 x1 x2 x3 = some r) : zG Try.prog 194 [.ptr (Net.row x0),.val false [.lit (.int .i64 x1)],.val false [.lit (.bool x2)],.val true (fR (Vec.row x3))] [] [(0,(Net.row r))] := by
 refine zG.of_body tOk Try.func194 rfl (c := (.seq (zLI 0) (.seq (zLI 1) (.seq (.seq (zLI 2) (.cond (.tmp 16) (.seq (zMM 3) .ret) .skip)) (zMM 4))))) kr (Nat.le_of_ble_eq_true kr) 1 (rs := []) rfl [] .nil [] [] [(0,(Net.row r))] fun cx=>?_
 show Tr _ _ _ ⟨55,1,[sA 0 0 3 0,sI 1 x1,sB 2 x2,sV 3 (Vec.row x3)],[(0,(Net.row x0))]⟩ _
 unfold Yf at H
 refine gA 1 135 129<|rA 5<|bE H fun v1 ev1 H=> oA Link.row ev1<|dE (tI 119) (.box 0) [(0,0),(1,(x1.toNat))] 4 0 [.sl true 3 [(Net.row x0)]] (Link.row v1) (zK rfl (zF ev1).2)<|uA 2 389 385<|tS<|gA 1 65921 385 ?_
 cases h1 : x2
 ·have H := Z6 h1 H
  refine nB_<|tK<|bE H fun v2 ev2 H=> bE H fun r3 er3 H=> Tr.draw mixed 20 kr ⟨55,1,[sA 0 0 3 0],[(0,[cL 11 (x0.Bs.set (v1.B.toNat) r3) zA.row,cL 4 x0.Ls Link.row,cL 7 x0.Said Say.row])]⟩ (fun cx=>?_) ?_
  ·refine mA zBz (zl [0,1,2]++[(3,[19]),(4,[]),(5,[19])]++zl [6,7,8]++[(9,[17,19]),(10,[]),(11,[17,19])]) 8 [⟨[17,19],3,46,47⟩,⟨[17,19],53,44,45⟩,⟨[19],3,40,41⟩,⟨[19],53,38,39⟩] fun cx=>oN zBz 12 zA.row ev2 fun cx=>mA zBz [(14,[]),(15,[17,19]),(16,[17,19])] 4 [⟨[17,19],46,7,52⟩,⟨[17,19],3,50,51⟩,⟨[17,19],3,46,47⟩,⟨[17,19],53,44,45⟩,⟨[19],3,40,41⟩,⟨[19],53,38,39⟩] fun cx=>mC zBz 13<|dE (tI 42) (.box 0) [(0,0),(0,(v1.B.toNat))] 11 0 [.sl true 3 [(Net.row x0)]] (zA.row v2) (zK rfl (zF ev2).2)<|fA<|mC zBz 17<|LAt.callO tOk [.rd,.rd,.rd] (f := 203) (av := #[.tmp 49,.tmp 51,.tmp 52]) (ats := #[42,3,46]) (d := (some 53)) (ty := 42) (g := none) [(49,zA.row v2)] none kr kr kr [.box 0] (zFR n v2 v1.Q x3 r3 er3) (zC3 (row := [.sl true 3 [(Net.row x0)]]) (q := [(0,0),(0,(v1.B.toNat))]) kr (zK rfl (zF ev2).2) zD3) kr zD2 (.inr (And.intro (qF (zA.row_mine _) qe) zC4))<|fA<|oN zBz 18 zA.row ev2 fun cx=>sA_ 0x7cf3c000000081 385 ⟨55,1,[(54,.adr (.box 0) [(0,0),(0,(v1.B.toNat))] 11 0),sV 53 (zA.row r3),sV 52 (Vec.row x3),sI 51 v1.Q,sA 50 8 4 3,sI 47 v1.B,sA 46 8 4 2,sR 45 0 3 0 1 false,sA 44 0 3 0,sI 41 v1.B,sA 40 8 4 2,sR 39 0 3 0 1 false,sA 38 0 3 0,sA 7 7 5 0,sA 0 0 3 0],[(8,(Link.row v1)),(7,(Vec.row x3)),(0,(Net.row x0))]⟩<|mC zBz 19<|LAt.storeB tOk (t := 42) (ty := 0) (ad := (.tmp 54)) (x := (.tmp 53)) (g := none) (tI 42) true (zA.row r3) 0 0 (v1.B.toNat) 11 0 11 x0.Bs zA.row v2 r3 kr kr kr kr kr kr kr kr (zF ev2).2 kr kr kr kr ?_
   exact fA<|mE zBz [0] [0]
  exact fY [] [(0,[cL 11 (x0.Bs.set (v1.B.toNat) r3) zA.row,cL 4 x0.Ls Link.row,cL 7 x0.Said Say.row])] H
 have H := Z7 h1 H
 refine tB_<|bE H fun v4 ev4 H=> bE H fun r5 er5 H=> Tr.draws mixed 20 kr ⟨55,1,[sA 0 0 3 0],[(0,[cL 11 (x0.Bs.set (v1.A.toNat) r5) zA.row,cL 4 x0.Ls Link.row,cL 7 x0.Said Say.row])]⟩ (fun cx=>?_) ?_
 ·refine mA zBy (zl [0,1,2]++[(3,[19]),(4,[]),(5,[19])]++zl [6,7,8]++[(9,[17,19]),(10,[]),(11,[17,19])]) 8 [⟨[17,19],3,27,28⟩,⟨[17,19],53,25,26⟩,⟨[19],3,21,22⟩,⟨[19],53,19,20⟩] fun cx=>oN zBy 12 zA.row ev4 fun cx=>mA zBy [(14,[]),(15,[17,19]),(16,[17,19])] 4 [⟨[17,19],46,7,33⟩,⟨[17,19],3,31,32⟩,⟨[17,19],3,27,28⟩,⟨[17,19],53,25,26⟩,⟨[19],3,21,22⟩,⟨[19],53,19,20⟩] fun cx=>mC zBy 13<|dE (tI 42) (.box 0) [(0,0),(0,(v1.A.toNat))] 11 0 [.sl true 3 [(Net.row x0)]] (zA.row v4) (zK rfl (zF ev4).2)<|fA<|mC zBy 17<|LAt.callO tOk [.rd,.rd,.rd] (f := 203) (av := #[.tmp 30,.tmp 32,.tmp 33]) (ats := #[42,3,46]) (d := (some 34)) (ty := 42) (g := none) [(30,zA.row v4)] none kr kr kr [.box 0] (zFR n v4 v1.P x3 r5 er5) (zC3 (row := [.sl true 3 [(Net.row x0)]]) (q := [(0,0),(0,(v1.A.toNat))]) kr (zK rfl (zF ev4).2) zD3) kr zD2 (.inr (And.intro (qF (zA.row_mine _) qe) zC4))<|fA<|oN zBy 18 zA.row ev4 fun cx=>sA_ 67083174017 385 ⟨55,1,[(35,.adr (.box 0) [(0,0),(0,(v1.A.toNat))] 11 0),sV 34 (zA.row r5),sV 33 (Vec.row x3),sI 32 v1.P,sA 31 8 4 1,sI 28 v1.A,sA 27 8 4 0,sR 26 0 3 0 1 false,sA 25 0 3 0,sI 22 v1.A,sA 21 8 4 0,sR 20 0 3 0 1 false,sA 19 0 3 0,sA 7 7 5 0,sA 0 0 3 0],[(8,(Link.row v1)),(7,(Vec.row x3)),(0,(Net.row x0))]⟩<|mC zBy 19<|LAt.storeB tOk (t := 42) (ty := 0) (ad := (.tmp 35)) (x := (.tmp 34)) (g := none) (tI 42) true (zA.row r5) 0 0 (v1.A.toNat) 11 0 11 x0.Bs zA.row v4 r5 kr kr kr kr kr kr kr kr (zF ev4).2 kr kr kr kr ?_
  exact fA<|mE zBy [0] [0]
 exact te<|fY [] [(0,[cL 11 (x0.Bs.set (v1.A.toNat) r5) zA.row,cL 4 x0.Ls Link.row,cL 7 x0.Said Say.row])] H
def Yg (n : Nat) (x0 : Net) (x1 : Event) : Option (Net) :=
  ((idx x0.Said x1.At).bind fun v1 => (bif (decide ((0 : Int) ≤ 0) && (decide ((0 : Int) ≤ x1.At) && decide ((x1.At : Int) ≤ (x0.Said.length : Int)))) then (bif (decide (([] : List Say).length + ((x0.Said.drop ((0 : Int)).toNat).take (((x1.At : Int)).toNat - ((0 : Int)).toNat)).length ≤ 268435456)) then (bif (decide ((0 : Int) ≤ (IntKind.wrap .i64 (x1.At + 1))) && (decide (((IntKind.wrap .i64 (x1.At + 1)) : Int) ≤ (x0.Said.length : Int)) && decide (((x0.Said.length : Int) : Int) ≤ (x0.Said.length : Int)))) then (bif (decide ((([] : List Say) ++ ((x0.Said.drop ((0 : Int)).toNat).take (((x1.At : Int)).toNat - ((0 : Int)).toNat))).length + ((x0.Said.drop (((IntKind.wrap .i64 (x1.At + 1)) : Int)).toNat).take ((((x0.Said.length : Int) : Int)).toNat - (((IntKind.wrap .i64 (x1.At + 1)) : Int)).toNat)).length ≤ 268435456)) then (bif (x1.Ki == 2) then ((qp n (⟨x0.Bs,x0.Ls,((([] : List Say) ++ ((x0.Said.drop ((0 : Int)).toNat).take (((x1.At : Int)).toNat - ((0 : Int)).toNat))) ++ ((x0.Said.drop (((IntKind.wrap .i64 (x1.At + 1)) : Int)).toNat).take ((((x0.Said.length : Int) : Int)).toNat - (((IntKind.wrap .i64 (x1.At + 1)) : Int)).toNat)))⟩ : Net) v1.Link).bind fun r6 => (bif r6 then ((Yf n (⟨x0.Bs,x0.Ls,((([] : List Say) ++ ((x0.Said.drop ((0 : Int)).toNat).take (((x1.At : Int)).toNat - ((0 : Int)).toNat))) ++ ((x0.Said.drop (((IntKind.wrap .i64 (x1.At + 1)) : Int)).toNat).take ((((x0.Said.length : Int) : Int)).toNat - (((IntKind.wrap .i64 (x1.At + 1)) : Int)).toNat)))⟩ : Net) v1.Link v1.Back v1.V).bind fun r7 => (some r7)) else (some (⟨x0.Bs,x0.Ls,((([] : List Say) ++ ((x0.Said.drop ((0 : Int)).toNat).take (((x1.At : Int)).toNat - ((0 : Int)).toNat))) ++ ((x0.Said.drop (((IntKind.wrap .i64 (x1.At + 1)) : Int)).toNat).take ((((x0.Said.length : Int) : Int)).toNat - (((IntKind.wrap .i64 (x1.At + 1)) : Int)).toNat)))⟩ : Net)))) else (some (⟨x0.Bs,x0.Ls,((([] : List Say) ++ ((x0.Said.drop ((0 : Int)).toNat).take (((x1.At : Int)).toNat - ((0 : Int)).toNat))) ++ ((x0.Said.drop (((IntKind.wrap .i64 (x1.At + 1)) : Int)).toNat).take ((((x0.Said.length : Int) : Int)).toNat - (((IntKind.wrap .i64 (x1.At + 1)) : Int)).toNat)))⟩ : Net))) else none) else none) else none) else none))
def zMZ : Tab := ⟨22,[0,0,0,4,8,16,0,64,160,258,0,1024,2048,4096,0,16384,32768,73728,131584,524287,1048575,1572863],[0,0,0,4,8,16,0,64,160,258,0,1024,2048,4096,0,16384,32768,73728,131584,1,524288,1310720],[0,0,0,4,12,28,0,64,252,510,0,1024,3072,7168,0,16384,49152,130048,262142,524287,1048575,2097151]⟩
noncomputable abbrev zMO (k : Nat) := Rg Try.f171 k
noncomputable abbrev zLH (k : Nat) := Rd Try.f171 k
theorem zd : zk (rg Try.f171 2) zMZ = true := kr
theorem zHN (n : Nat) (x0 : Net) (x1 : Event) (v1 : Say) (hg2 : (decide ((0 : Int) ≤ 0) && (decide ((0 : Int) ≤ x1.At) && decide ((x1.At : Int) ≤ (x0.Said.length : Int)))) = true) (hg3 : (decide (([] : List Say).length + ((x0.Said.drop ((0 : Int)).toNat).take (((x1.At : Int)).toNat - ((0 : Int)).toNat)).length ≤ 268435456)) = true) (hg4 : (decide ((0 : Int) ≤ (wI (x1.At + 1))) && (decide (((wI (x1.At + 1)) : Int) ≤ (x0.Said.length : Int)) && decide (((x0.Said.length : Int) : Int) ≤ (x0.Said.length : Int)))) = true) (hg5 : (decide ((([] : List Say) ++ ((x0.Said.drop ((0 : Int)).toNat).take (((x1.At : Int)).toNat - ((0 : Int)).toNat))).length + ((x0.Said.drop (((wI (x1.At + 1)) : Int)).toNat).take ((((x0.Said.length : Int) : Int)).toNat - (((wI (x1.At + 1)) : Int)).toNat)).length ≤ 268435456)) = true) (cx : Cx) : AT Try.prog cx (rg Try.f171 2) [] 22 [] ⟨53,1,[sA 4 4 7 0,sA 3 3 2 0,sA 0 0 3 0],[(0,[cL 11 x0.Bs zA.row,cL 4 x0.Ls Link.row,cF 7 x0.Said Say.row]),(4,(Say.row v1)),(3,(Event.row x1))]⟩ (fun s => s = ⟨53,1,[sA 4 4 7 0,sA 3 3 2 0,sA 0 0 3 0],[(0,[cL 11 x0.Bs zA.row,cL 4 x0.Ls Link.row,cL 7 ((([] : List Say) ++ ((x0.Said.drop ((0 : Int)).toNat).take (((x1.At : Int)).toNat - ((0 : Int)).toNat))) ++ ((x0.Said.drop (((wI (x1.At + 1)) : Int)).toNat).take ((((x0.Said.length : Int) : Int)).toNat - (((wI (x1.At + 1)) : Int)).toNat))) Say.row]),(4,(Say.row v1)),(3,(Event.row x1))]⟩) := by
 refine mA zd (zl [0,2,3,4]++[(5,[8,9,18,21]),(6,[]),(7,[8,9,18,21])]++zl [10,11,12]++[(13,[17,18,21]),(14,[]),(15,[17,18,21]),(16,[])]) 8 [⟨[17,18,21],3,27,28⟩,⟨[17,18,21],74,25,26⟩,⟨[8,9,18,21],3,19,20⟩,⟨[8,9,18,21],74,17,18⟩] fun cx=>mB3 tOk zd 1 8 17 kr (And.intro kr ?_) (And.intro kr ?_) (And.intro kr ?_)
 ·refine lA 1<|fA<|mB2 tOk zd 8 17 kr (And.intro kr ?_) (And.intro kr ?_)
  ·refine LAt.cutG tOk (t := 74) (ty := 74) (e := 177) (x := (.tmp 18)) (lo := none) (hi := (some (.tmp 20))) (d := 21) (g := none) (tI 177) Say.row x0.Said ⟨(.box 0),[(0,0)],2,false,7,(CV.frzEs (x0.Said.map Say.row))⟩ 0 x1.At kr kr kr kr kr kr rfl kr rfl kr kr hg2<|fA<|mB2 tOk zd 9 17 kr (And.intro kr ?_) (And.intro kr ?_)
   ·exact pD Say.row hg3<|fA<|mC zd 17<|LAt.cutG tOk (t := 74) (ty := 74) (e := 177) (x := (.tmp 26)) (lo := (some (.tmp 29))) (hi := none) (d := 30) (g := none) (tI 177) Say.row x0.Said ⟨(.box 0),[(0,0)],2,false,7,(CV.frzEs (x0.Said.map Say.row))⟩ (wI (x1.At + 1)) (x0.Said.length : Int) kr kr kr kr kr kr rfl kr rfl kr kr hg4<|fA<|mC zd 18<|pD Say.row hg5<|fA<|mA zd [(19,[]),(20,[])] 1 [⟨[17,18,21],3,27,28⟩,⟨[17,18,21],74,25,26⟩,⟨[8,9,18,21],3,19,20⟩,⟨[8,9,18,21],74,17,18⟩] fun cx=>mC zd 21<|lA 1<|fA<|mE zd [4,3,0] [0,4,3]
   ·exact LAt.cutG tOk (t := 74) (ty := 74) (e := 177) (x := (.tmp 26)) (lo := (some (.tmp 29))) (hi := none) (d := 30) (g := none) (tI 177) Say.row x0.Said ⟨(.box 0),[(0,0)],2,false,7,(CV.frzEs (x0.Said.map Say.row))⟩ (wI (x1.At + 1)) (x0.Said.length : Int) kr kr kr kr kr kr rfl kr rfl kr kr hg4<|fA<|mC zd 9<|pD Say.row hg3<|fA<|mC zd 18<|pD Say.row hg5<|fA<|mA zd [(19,[]),(20,[])] 1 [⟨[17,18,21],3,27,28⟩,⟨[17,18,21],74,25,26⟩,⟨[8,9,18,21],3,19,20⟩,⟨[8,9,18,21],74,17,18⟩] fun cx=>mC zd 21<|lA 1<|fA<|mE zd [4,3,0] [0,4,3]
  ·exact LAt.cutG tOk (t := 74) (ty := 74) (e := 177) (x := (.tmp 26)) (lo := (some (.tmp 29))) (hi := none) (d := 30) (g := none) (tI 177) Say.row x0.Said ⟨(.box 0),[(0,0)],2,false,7,(CV.frzEs (x0.Said.map Say.row))⟩ (wI (x1.At + 1)) (x0.Said.length : Int) kr kr kr kr kr kr rfl kr rfl kr kr hg4<|fA<|mC zd 8<|LAt.cutG tOk (t := 74) (ty := 74) (e := 177) (x := (.tmp 18)) (lo := none) (hi := (some (.tmp 20))) (d := 21) (g := none) (tI 177) Say.row x0.Said ⟨(.box 0),[(0,0)],2,false,7,(CV.frzEs (x0.Said.map Say.row))⟩ 0 x1.At kr kr kr kr kr kr rfl kr rfl kr kr hg2<|fA<|mC zd 9<|pD Say.row hg3<|fA<|mC zd 18<|pD Say.row hg5<|fA<|mA zd [(19,[]),(20,[])] 1 [⟨[17,18,21],3,27,28⟩,⟨[17,18,21],74,25,26⟩,⟨[8,9,18,21],3,19,20⟩,⟨[8,9,18,21],74,17,18⟩] fun cx=>mC zd 21<|lA 1<|fA<|mE zd [4,3,0] [0,4,3]
 ·refine LAt.cutG tOk (t := 74) (ty := 74) (e := 177) (x := (.tmp 18)) (lo := none) (hi := (some (.tmp 20))) (d := 21) (g := none) (tI 177) Say.row x0.Said ⟨(.box 0),[(0,0)],2,false,7,(CV.frzEs (x0.Said.map Say.row))⟩ 0 x1.At kr kr kr kr kr kr rfl kr rfl kr kr hg2<|fA<|mB2 tOk zd 1 17 kr (And.intro kr ?_) (And.intro kr ?_)
  ·refine lA 1<|fA<|mB2 tOk zd 9 17 kr (And.intro kr ?_) (And.intro kr ?_)
   ·exact pD Say.row hg3<|fA<|mC zd 17<|LAt.cutG tOk (t := 74) (ty := 74) (e := 177) (x := (.tmp 26)) (lo := (some (.tmp 29))) (hi := none) (d := 30) (g := none) (tI 177) Say.row x0.Said ⟨(.box 0),[(0,0)],2,false,7,(CV.frzEs (x0.Said.map Say.row))⟩ (wI (x1.At + 1)) (x0.Said.length : Int) kr kr kr kr kr kr rfl kr rfl kr kr hg4<|fA<|mC zd 18<|pD Say.row hg5<|fA<|mA zd [(19,[]),(20,[])] 1 [⟨[17,18,21],3,27,28⟩,⟨[17,18,21],74,25,26⟩,⟨[8,9,18,21],3,19,20⟩,⟨[8,9,18,21],74,17,18⟩] fun cx=>mC zd 21<|lA 1<|fA<|mE zd [4,3,0] [0,4,3]
   ·exact LAt.cutG tOk (t := 74) (ty := 74) (e := 177) (x := (.tmp 26)) (lo := (some (.tmp 29))) (hi := none) (d := 30) (g := none) (tI 177) Say.row x0.Said ⟨(.box 0),[(0,0)],2,false,7,(CV.frzEs (x0.Said.map Say.row))⟩ (wI (x1.At + 1)) (x0.Said.length : Int) kr kr kr kr kr kr rfl kr rfl kr kr hg4<|fA<|mC zd 9<|pD Say.row hg3<|fA<|mC zd 18<|pD Say.row hg5<|fA<|mA zd [(19,[]),(20,[])] 1 [⟨[17,18,21],3,27,28⟩,⟨[17,18,21],74,25,26⟩,⟨[8,9,18,21],3,19,20⟩,⟨[8,9,18,21],74,17,18⟩] fun cx=>mC zd 21<|lA 1<|fA<|mE zd [4,3,0] [0,4,3]
  ·exact LAt.cutG tOk (t := 74) (ty := 74) (e := 177) (x := (.tmp 26)) (lo := (some (.tmp 29))) (hi := none) (d := 30) (g := none) (tI 177) Say.row x0.Said ⟨(.box 0),[(0,0)],2,false,7,(CV.frzEs (x0.Said.map Say.row))⟩ (wI (x1.At + 1)) (x0.Said.length : Int) kr kr kr kr kr kr rfl kr rfl kr kr hg4<|fA<|mC zd 1<|lA 1<|fA<|mC zd 9<|pD Say.row hg3<|fA<|mC zd 18<|pD Say.row hg5<|fA<|mA zd [(19,[]),(20,[])] 1 [⟨[17,18,21],3,27,28⟩,⟨[17,18,21],74,25,26⟩,⟨[8,9,18,21],3,19,20⟩,⟨[8,9,18,21],74,17,18⟩] fun cx=>mC zd 21<|lA 1<|fA<|mE zd [4,3,0] [0,4,3]
 ·refine LAt.cutG tOk (t := 74) (ty := 74) (e := 177) (x := (.tmp 26)) (lo := (some (.tmp 29))) (hi := none) (d := 30) (g := none) (tI 177) Say.row x0.Said ⟨(.box 0),[(0,0)],2,false,7,(CV.frzEs (x0.Said.map Say.row))⟩ (wI (x1.At + 1)) (x0.Said.length : Int) kr kr kr kr kr kr rfl kr rfl kr kr hg4<|fA<|mB2 tOk zd 1 8 kr (And.intro kr ?_) (And.intro kr ?_)
  ·exact lA 1<|fA<|mC zd 8<|LAt.cutG tOk (t := 74) (ty := 74) (e := 177) (x := (.tmp 18)) (lo := none) (hi := (some (.tmp 20))) (d := 21) (g := none) (tI 177) Say.row x0.Said ⟨(.box 0),[(0,0)],2,false,7,(CV.frzEs (x0.Said.map Say.row))⟩ 0 x1.At kr kr kr kr kr kr rfl kr rfl kr kr hg2<|fA<|mC zd 9<|pD Say.row hg3<|fA<|mC zd 18<|pD Say.row hg5<|fA<|mA zd [(19,[]),(20,[])] 1 [⟨[17,18,21],3,27,28⟩,⟨[17,18,21],74,25,26⟩,⟨[8,9,18,21],3,19,20⟩,⟨[8,9,18,21],74,17,18⟩] fun cx=>mC zd 21<|lA 1<|fA<|mE zd [4,3,0] [0,4,3]
  ·exact LAt.cutG tOk (t := 74) (ty := 74) (e := 177) (x := (.tmp 18)) (lo := none) (hi := (some (.tmp 20))) (d := 21) (g := none) (tI 177) Say.row x0.Said ⟨(.box 0),[(0,0)],2,false,7,(CV.frzEs (x0.Said.map Say.row))⟩ 0 x1.At kr kr kr kr kr kr rfl kr rfl kr kr hg2<|fA<|mC zd 1<|lA 1<|fA<|mC zd 9<|pD Say.row hg3<|fA<|mC zd 18<|pD Say.row hg5<|fA<|mA zd [(19,[]),(20,[])] 1 [⟨[17,18,21],3,27,28⟩,⟨[17,18,21],74,25,26⟩,⟨[8,9,18,21],3,19,20⟩,⟨[8,9,18,21],74,17,18⟩] fun cx=>mC zd 21<|lA 1<|fA<|mE zd [4,3,0] [0,4,3]
theorem zJP (n : Nat) (x0 : Net) (x1 : Event) (r : Net) (H : Yg n x0 x1 = some r) : zG Try.prog 171 [.ptr (Net.row x0),.val true (fR (Event.row x1))] [] [(0,(Net.row r))] := by
 refine zG.of_body tOk Try.func171 rfl (c := (.seq (zMO 0) (.seq (zLH 1) (.seq (zLH 2) (.seq (zLH 3) (.cond (.tmp 44) (zMO 4) .skip)))))) kr (Nat.le_of_ble_eq_true kr) 1 (rs := []) rfl [] .nil [] [] [(0,(Net.row r))] fun cx=>?_
 show Tr _ _ _ ⟨53,1,[sA 0 0 3 0,sV 1 (Event.row x1)],[(0,(Net.row x0))]⟩ _
 unfold Yg at H
 refine gA 1 9 9<|bE H fun v1 ev1 H=> Tr.draws mixed 10 kr ⟨53,1,[sA 4 4 7 0,sA 3 3 2 0,sA 0 0 3 0],[(4,(Say.row v1)),(3,(Event.row x1)),(0,(Net.row x0))]⟩ (fun cx=>?_) ?_
 ·refine aA (zl [0,1,2]++[(3,[9]),(4,[]),(5,[9])]) 4 [⟨[9],3,9,10⟩,⟨[9],74,7,8⟩] fun cx=>aO tOk 6 74 0 8 10 11 none ⟨(.box 0),[(0,0)],2,true,7,(x0.Said.map Say.row)⟩ x1.At (x1.At.toNat) (Say.row v1) _ kr kr kr kr kr kr rfl kr (YD ev1) rfl rfl (fun cx=>?_)
  refine AT.big2 tOk 7 8 kr (And.intro kr ?_) (And.intro kr ?_)
  ·exact dE (tI 177) (.box 0) [(0,0),(2,(x1.At.toNat))] 7 0 [.sl true 3 [(Net.row x0)]] (Say.row v1) (zK rfl (zF ev1).2)<|fA<|bA 8<|lA 1<|fA<|sA_ 6041 25 ⟨53,1,[sA 4 4 7 0,sV 12 (Say.row v1),sI 10 x1.At,sA 9 3 2 1,sR 8 0 3 2 1 false,sA 7 0 3 2,sA 3 3 2 0,sA 0 0 3 0],[(4,[cI 0,cB false,cI 0,cI 0,cI 0,cI 0,cI 0]),(3,(Event.row x1)),(0,(Net.row x0))]⟩<|bA 9<|lA 1<|fA<|eE [4,3,0] [4,3,0]
  ·exact lA 1<|fA<|bA 7<|dE (tI 177) (.box 0) [(0,0),(2,(x1.At.toNat))] 7 0 [.sl true 3 [(Net.row x0)]] (Say.row v1) (zK rfl (zF ev1).2)<|fA<|sA_ 6041 25 ⟨53,1,[sV 12 (Say.row v1),sA 4 4 7 0,sI 10 x1.At,sA 9 3 2 1,sR 8 0 3 2 1 false,sA 7 0 3 2,sA 3 3 2 0,sA 0 0 3 0],[(4,[cI 0,cB false,cI 0,cI 0,cI 0,cI 0,cI 0]),(3,(Event.row x1)),(0,(Net.row x0))]⟩<|bA 9<|lA 1<|fA<|eE [4,3,0] [4,3,0]
 refine Tr.frzP 0 2 1<|gE H fun hg2 H=> gE H fun hg3 H=> gE H fun hg4 H=> gE H fun hg5 H=> sT ⟨53,1,[sA 4 4 7 0,sA 3 3 2 0,sA 0 0 3 0],[(0,[cL 11 x0.Bs zA.row,cL 4 x0.Ls Link.row,cF 7 x0.Said Say.row]),(4,(Say.row v1)),(3,(Event.row x1))]⟩<|Tr.draws mixed 22 kr ⟨53,1,[sA 4 4 7 0,sA 3 3 2 0,sA 0 0 3 0],[(0,[cL 11 x0.Bs zA.row,cL 4 x0.Ls Link.row,cL 7 ((([] : List Say) ++ ((x0.Said.drop ((0 : Int)).toNat).take (((x1.At : Int)).toNat - ((0 : Int)).toNat))) ++ ((x0.Said.drop (((wI (x1.At + 1)) : Int)).toNat).take ((((x0.Said.length : Int) : Int)).toNat - (((wI (x1.At + 1)) : Int)).toNat))) Say.row]),(4,(Say.row v1)),(3,(Event.row x1))]⟩ (zHN n x0 x1 v1 hg2 hg3 hg4 hg5)<|tS<|sT ⟨53,1,[sA 4 4 7 0,sA 3 3 2 0,sA 0 0 3 0],[(0,[cL 11 x0.Bs zA.row,cL 4 x0.Ls Link.row,cL 7 ((([] : List Say) ++ ((x0.Said.drop ((0 : Int)).toNat).take (((x1.At : Int)).toNat - ((0 : Int)).toNat))) ++ ((x0.Said.drop (((wI (x1.At + 1)) : Int)).toNat).take ((((x0.Said.length : Int) : Int)).toNat - (((wI (x1.At + 1)) : Int)).toNat))) Say.row]),(4,(Say.row v1)),(3,(Event.row x1))]⟩ ?_
 cases h1 : (x1.Ki == 2)
 ·have H := Z6 h1 H
  refine Tr.draw mixed 11 kr ⟨53,1,[sB 44 false,sA 4 4 7 0,sA 0 0 3 0],[(0,[cL 11 x0.Bs zA.row,cL 4 x0.Ls Link.row,cL 7 ((([] : List Say) ++ ((x0.Said.drop ((0 : Int)).toNat).take (((x1.At : Int)).toNat - ((0 : Int)).toNat))) ++ ((x0.Said.drop (((wI (x1.At + 1)) : Int)).toNat).take ((((x0.Said.length : Int) : Int)).toNat - (((wI (x1.At + 1)) : Int)).toNat))) Say.row]),(4,(Say.row v1))]⟩ (fun cx=>?_) ?_
  ·exact aA (zl [0,1,2,3]) 7 [⟨[],3,34,35⟩] fun cx=>qA 188978561041 25 [37] h1<|aA (zl [4,5,6,7,8,9,10]) 0 [⟨[],3,34,35⟩] fun cx=>eE [44,4,0] [0,4]
  exact nB_<|tK<|fY [] [(0,[cL 11 x0.Bs zA.row,cL 4 x0.Ls Link.row,cL 7 ((([] : List Say) ++ ((x0.Said.drop ((0 : Int)).toNat).take (((x1.At : Int)).toNat - ((0 : Int)).toNat))) ++ ((x0.Said.drop (((wI (x1.At + 1)) : Int)).toNat).take ((((x0.Said.length : Int) : Int)).toNat - (((wI (x1.At + 1)) : Int)).toNat))) Say.row])] H
 have H := Z7 h1 H
 refine bE H fun r6 er6 H=> Tr.draw mixed 11 kr ⟨53,1,[sB 44 r6,sA 4 4 7 0,sA 0 0 3 0],[(0,[cL 11 x0.Bs zA.row,cL 4 x0.Ls Link.row,cL 7 ((([] : List Say) ++ ((x0.Said.drop ((0 : Int)).toNat).take (((x1.At : Int)).toNat - ((0 : Int)).toNat))) ++ ((x0.Said.drop (((wI (x1.At + 1)) : Int)).toNat).take ((((x0.Said.length : Int) : Int)).toNat - (((wI (x1.At + 1)) : Int)).toNat))) Say.row]),(4,(Say.row v1))]⟩ (fun cx=>?_) ?_
 ·exact aA [(0,[]),(1,[9]),(2,[]),(3,[])] 7 [⟨[9],3,34,35⟩] fun cx=>qA 188978561041 25 [37] h1<|aA [(4,[]),(5,[]),(6,[9]),(7,[]),(8,[9])] 2 [⟨[9],3,41,42⟩,⟨[9],76,39,40⟩,⟨[9],3,34,35⟩] fun cx=>bA 9<|vB [.rd,.rd] [.box 0] (zDi n (⟨x0.Bs,x0.Ls,((([] : List Say) ++ ((x0.Said.drop ((0 : Int)).toNat).take (((x1.At : Int)).toNat - ((0 : Int)).toNat))) ++ ((x0.Said.drop (((wI (x1.At + 1)) : Int)).toNat).take ((((x0.Said.length : Int) : Int)).toNat - (((wI (x1.At + 1)) : Int)).toNat)))⟩ : Net) v1.Link r6 er6) (.inr (qF (zE zI z5) qe))<|fA<|aA [(10,[])] 0 [⟨[9],3,41,42⟩,⟨[9],76,39,40⟩,⟨[9],3,34,35⟩] fun cx=>eE [44,4,0] [0,4]
 cases h2 : r6
 ·have H := Z6 h2 H
  exact nB_<|tK<|fY [] [(0,[cL 11 x0.Bs zA.row,cL 4 x0.Ls Link.row,cL 7 ((([] : List Say) ++ ((x0.Said.drop ((0 : Int)).toNat).take (((x1.At : Int)).toNat - ((0 : Int)).toNat))) ++ ((x0.Said.drop (((wI (x1.At + 1)) : Int)).toNat).take ((((x0.Said.length : Int) : Int)).toNat - (((wI (x1.At + 1)) : Int)).toNat))) Say.row])] H
 have H := Z7 h2 H
 exact tB_<|Tr.at<|lA 7<|bE H fun r7 er7 H=> vL [.lend,.rd,.rd,.rd] (zJN n (⟨x0.Bs,x0.Ls,((([] : List Say) ++ ((x0.Said.drop ((0 : Int)).toNat).take (((x1.At : Int)).toNat - ((0 : Int)).toNat))) ++ ((x0.Said.drop (((wI (x1.At + 1)) : Int)).toNat).take ((((x0.Said.length : Int) : Int)).toNat - (((wI (x1.At + 1)) : Int)).toNat)))⟩ : Net) v1.Link v1.Back v1.V r7 er7)<|dA 1 1<|fY [] [(0,(Net.row r7))] H
def Jd (n : Nat) (x0 : Net) (x1 : Int) (x2 : Bool) : Option (Net) :=
  ((qp n x0 x1).bind fun r1 => (bif (r1 == x2) then (some x0) else ((idx x0.Ls x1).bind fun v2 => ((idx x0.Bs v2.A).bind fun v3 => ((QC n v3 v2.P x2).bind fun r4 => ((idx (x0.Bs.set (v2.A.toNat) r4) v2.B).bind fun v5 => ((QC n v5 v2.Q x2).bind fun r6 => (some (⟨((x0.Bs.set (v2.A.toNat) r4).set (v2.B.toNat) r6),x0.Ls,x0.Said⟩ : Net)))))))))
def zMa : Tab := ⟨20,[0,1,2,4,0,16,0,64,128,256,0,1024,2560,4096,0,16384,0,106496,262143,524287],[0,1,2,4,0,16,0,64,128,256,0,1024,2560,4096,0,16384,0,106496,40,393216],[0,1,3,7,0,16,0,64,192,448,0,1024,4032,8128,0,16384,0,131008,262143,524287]⟩
noncomputable abbrev zMP (k : Nat) := Rg Try.f172 k
noncomputable abbrev zML (k : Nat) := Rd Try.f172 k
theorem zBu : zk (rg Try.f172 2) zMa = true := kr
def zMb : Tab := ⟨20,[0,1,2,4,0,16,0,64,128,256,0,1024,2560,4096,0,16384,0,106496,262143,524287],[0,1,2,4,0,16,0,64,128,256,0,1024,2560,4096,0,16384,0,106496,40,393216],[0,1,3,7,0,16,0,64,192,448,0,1024,4032,8128,0,16384,0,131008,262143,524287]⟩
theorem zBv : zk (rg Try.f172 3) zMb = true := kr
theorem zJO (n : Nat) (x0 : Net) (x1 : Int) (x2 : Bool) (r : Net) (H : Jd n x0 x1 x2 = some r) : zG Try.prog 172 [.ptr (Net.row x0),.val false [.lit (.int .i64 x1)],.val false [.lit (.bool x2)]] [] [(0,(Net.row r))] := by
 refine zG.of_body tOk Try.func172 rfl (c := (.seq (.seq (zMP 0) (.cond (.tmp 13) .ret .skip)) (.seq (zMP 1) (.seq (zML 2) (zML 3))))) kr (Nat.le_of_ble_eq_true kr) 1 (rs := []) rfl [] .nil [] [] [(0,(Net.row r))] fun cx=>?_
 show Tr _ _ _ ⟨59,1,[sA 0 0 3 0,sI 1 x1,sB 2 x2],[(0,(Net.row x0))]⟩ _
 unfold Jd at H
 refine tS<|rA 4<|bE H fun r1 er1 H=> vB [.rd,.rd] [.box 0] (zDi n x0 x1 r1 er1) (.inr (qF (zE zI z5) qe))<|uA 2 8199 1 ?_
 obtain ⟨h1,H⟩ | ⟨h1,H⟩ := bC H
 ·refine nA h1<|tK<|rA 5<|bE H fun v2 ev2 H=> oA Link.row ev2<|dE (tI 119) (.box 0) [(0,0),(1,(x1.toNat))] 4 0 [.sl true 3 [(Net.row x0)]] (Link.row v2) (zK rfl (zF ev2).2)<|uA 2 69 65<|bE H fun v3 ev3 H=> bE H fun r4 er4 H=> Tr.draws mixed 20 kr ⟨59,1,[sA 6 6 4 0,sA 0 0 3 0,sB 2 x2],[(0,[cL 11 (x0.Bs.set (v2.A.toNat) r4) zA.row,cL 4 x0.Ls Link.row,cL 7 x0.Said Say.row]),(6,(Link.row v2))]⟩ (fun cx=>?_) ?_
  ·refine mA zBu (zl [0,1,2]++[(3,[19]),(4,[]),(5,[19])]++zl [6,7,8]++[(9,[17,19]),(10,[]),(11,[17,19])]) 8 [⟨[17,19],3,31,32⟩,⟨[17,19],53,29,30⟩,⟨[19],3,25,26⟩,⟨[19],53,23,24⟩] fun cx=>oN zBu 12 zA.row ev3 fun cx=>mA zBu [(14,[]),(15,[17,19]),(16,[])] 4 [⟨[17,19],3,35,36⟩,⟨[17,19],3,31,32⟩,⟨[17,19],53,29,30⟩,⟨[19],3,25,26⟩,⟨[19],53,23,24⟩] fun cx=>mC zBu 13<|dE (tI 42) (.box 0) [(0,0),(0,(v2.A.toNat))] 11 0 [.sl true 3 [(Net.row x0)]] (zA.row v3) (zK rfl (zF ev3).2)<|fA<|mC zBu 17<|LAt.callO tOk [.rd,.rd,.rd] (f := 166) (av := #[.tmp 34,.tmp 36,.tmp 37]) (ats := #[42,3,4]) (d := (some 38)) (ty := 42) (g := none) [(34,zA.row v3)] none kr kr kr [.box 0] (zC7 n v3 v2.P x2 r4 er4) (zC3 (row := [.sl true 3 [(Net.row x0)]]) (q := [(0,0),(0,(v2.A.toNat))]) kr (zK rfl (zF ev3).2) zD3) kr zD2 (.inr (And.intro (qF (zA.row_mine _) qe) zC4))<|fA<|oN zBu 18 zA.row ev3 fun cx=>sA_ 935891828805 65 ⟨59,1,[(39,.adr (.box 0) [(0,0),(0,(v2.A.toNat))] 11 0),sV 38 (zA.row r4),sI 36 v2.P,sA 35 6 4 1,sI 32 v2.A,sA 31 6 4 0,sR 30 0 3 0 1 false,sA 29 0 3 0,sI 26 v2.A,sA 25 6 4 0,sR 24 0 3 0 1 false,sA 23 0 3 0,sA 6 6 4 0,sA 0 0 3 0,sB 2 x2],[(6,(Link.row v2)),(0,(Net.row x0))]⟩<|mC zBu 19<|LAt.storeB tOk (t := 42) (ty := 0) (ad := (.tmp 39)) (x := (.tmp 38)) (g := none) (tI 42) true (zA.row r4) 0 0 (v2.A.toNat) 11 0 11 x0.Bs zA.row v3 r4 kr kr kr kr kr kr kr kr (zF ev3).2 kr kr kr kr ?_
   exact fA<|mE zBu [6,0,2] [0,6]
  refine bE H fun v5 ev5 H=> bE H fun r6 er6 H=> Tr.draw mixed 20 kr ⟨59,1,[sA 0 0 3 0],[(0,[cL 11 ((x0.Bs.set (v2.A.toNat) r4).set (v2.B.toNat) r6) zA.row,cL 4 x0.Ls Link.row,cL 7 x0.Said Say.row])]⟩ (fun cx=>?_) ?_
  ·refine mA zBv (zl [0,1,2]++[(3,[19]),(4,[]),(5,[19])]++zl [6,7,8]++[(9,[17,19]),(10,[]),(11,[17,19])]) 8 [⟨[17,19],3,50,51⟩,⟨[17,19],53,48,49⟩,⟨[19],3,44,45⟩,⟨[19],53,42,43⟩] fun cx=>oN zBv 12 zA.row ev5 fun cx=>mA zBv [(14,[]),(15,[17,19]),(16,[])] 4 [⟨[17,19],3,54,55⟩,⟨[17,19],3,50,51⟩,⟨[17,19],53,48,49⟩,⟨[19],3,44,45⟩,⟨[19],53,42,43⟩] fun cx=>mC zBv 13<|dE (tI 42) (.box 0) [(0,0),(0,(v2.B.toNat))] 11 0 [.sl true 3 [[cL 11 (x0.Bs.set (v2.A.toNat) r4) zA.row,cL 4 x0.Ls Link.row,cL 7 x0.Said Say.row]]] (zA.row v5) (zK rfl (zF ev5).2)<|fA<|mC zBv 17<|LAt.callO tOk [.rd,.rd,.rd] (f := 166) (av := #[.tmp 53,.tmp 55,.tmp 56]) (ats := #[42,3,4]) (d := (some 57)) (ty := 42) (g := none) [(53,zA.row v5)] none kr kr kr [.box 0] (zC7 n v5 v2.Q x2 r6 er6) (zC3 (row := [.sl true 3 [[cL 11 (x0.Bs.set (v2.A.toNat) r4) zA.row,cL 4 x0.Ls Link.row,cL 7 x0.Said Say.row]]]) (q := [(0,0),(0,(v2.B.toNat))]) kr (zK rfl (zF ev5).2) zD3) kr zD2 (.inr (And.intro (qF (zA.row_mine _) qe) zC4))<|fA<|oN zBv 18 zA.row ev5 fun cx=>sA_ 0x6cf3c0000000001 65 ⟨59,1,[(58,.adr (.box 0) [(0,0),(0,(v2.B.toNat))] 11 0),sV 57 (zA.row r6),sI 55 v2.Q,sA 54 6 4 3,sI 51 v2.B,sA 50 6 4 2,sR 49 0 3 0 1 false,sA 48 0 3 0,sI 45 v2.B,sA 44 6 4 2,sR 43 0 3 0 1 false,sA 42 0 3 0,sA 0 0 3 0],[(0,[cL 11 (x0.Bs.set (v2.A.toNat) r4) zA.row,cL 4 x0.Ls Link.row,cL 7 x0.Said Say.row]),(6,(Link.row v2))]⟩ ?_
   exact mC zBv 19<|LAt.storeB tOk (t := 42) (ty := 0) (ad := (.tmp 58)) (x := (.tmp 57)) (g := none) (tI 42) true (zA.row r6) 0 0 (v2.B.toNat) 11 0 11 (x0.Bs.set (v2.A.toNat) r4) zA.row v5 r6 kr kr kr kr kr kr kr kr (zF ev5).2 kr kr kr kr<|fA<|mE zBv [0] [0]
  exact fY [] [(0,[cL 11 ((x0.Bs.set (v2.A.toNat) r4).set (v2.B.toNat) r6) zA.row,cL 4 x0.Ls Link.row,cL 7 x0.Said Say.row])] H
 exact tA h1<|te<|fY [] [(0,(Net.row x0))] H
def Qr (n : Nat) (r1 : Net) (x0 : Net) (x1 : Event) (y5 : Bool) : Option (Net × Bool) :=
  (bif y5 then ((zL n x1.At 0 (IntKind.wrap .i64 ((x0.Ls.length : Int) - 1))).bind fun r6 => (bif (!r6) then (some (r1,false)) else ((Jd n r1 x1.At (x1.Ki == 5)).bind fun r7 => (some (r7,true))))) else (some (r1,false)))
def Qq (n : Nat) (r1 : Net) (x0 : Net) (x1 : Event) (y4 : Bool) : Option (Net × Bool) :=
  (bif y4 then ((zL n x1.At 0 (IntKind.wrap .i64 ((x0.Said.length : Int) - 1))).bind fun r8 => (bif (!r8) then (some (r1,false)) else ((Yg n r1 x1).bind fun r9 => (some (r9,true))))) else (bif (x1.Ki == 4) then (Qr n r1 x0 x1 true) else (Qr n r1 x0 x1 (x1.Ki == 5))))
def ZI (n : Nat) (r1 : Net) (x0 : Net) (x1 : Event) (y3 : Bool) : Option (Net × Bool) :=
  (bif y3 then ((zL n x1.At 0 (IntKind.wrap .i64 ((x0.Bs.length : Int) - 1))).bind fun r10 => (bif (!r10) then (some (r1,false)) else (bif (x1.Ki == 6) then ((idx x0.Bs x1.At).bind fun v12 => ((zAG n v12).bind fun r13 => ((idx r1.Bs x1.At).bind fun v14 => (some ((⟨(r1.Bs.set (x1.At.toNat) r13),r1.Ls,r1.Said⟩ : Net),true))))) else ((Yv n r1 x1.At).bind fun r11 => (some (r11,true)))))) else (bif (x1.Ki == 2) then (Qq n r1 x0 x1 true) else (Qq n r1 x0 x1 (x1.Ki == 3))))
def zAF (n : Nat) (x0 : Net) (x1 : Event) : Option (Net × Bool) :=
  ((Jb n x0).bind fun r1 => ((QS n x0).bind fun r2 => (bif (!r2) then (some (r1,false)) else (bif (x1.Ki == 1) then (ZI n r1 x0 x1 true) else (ZI n r1 x0 x1 (x1.Ki == 6))))))
def zLx : Tab := ⟨13,[0,1,0,4,0,16,0,64,160,256,512,2047,4095],[0,1,0,4,0,16,0,64,160,256,512,10,3072],[0,1,0,4,0,16,0,64,240,496,1008,2047,4095]⟩
theorem zBT : zk (rg Try.f125 10) zLx = true := kr
theorem zLA (n : Nat) (x0 : Net) (x1 : Event) (r : Net × Bool) (H : zAF n x0 x1 = some r) : zG Try.prog 125 [.val true (fR (Net.row x0)),.val true (fR (Event.row x1))] [.val true (Net.row r.1),.val false [.lit (.bool r.2)]] [] := by
 refine cW Try.func125 (fun g d => sl [g 0,g 1,sl [g 2] (cn 11 (sl [g 3] .ret) .skip),sl [g 4] (.block 0 (sl [sl [g 5] (cn 15 .skip (g 6))] (cn 15 (sl [sl [g 7] (cn 25 (sl [g 8] .ret) .skip),sl [g 9] (cn 29 (d 10) (g 11)),g 12] .ret) (sl [sl [g 13] (cn 46 .skip (g 14))] (cn 46 (sl [sl [g 15] (cn 56 (sl [g 16] .ret) .skip),g 17,g 18] .ret) (sl [sl [g 19] (cn 61 .skip (g 20))] (cn 61 (sl [sl [g 21] (cn 71 (sl [g 22] .ret) .skip),g 23,g 24] .ret) .skip))))))),g 25] .ret) [.cell 4 76,.tmp 5] fun cx=>?_
 unfold zAF at H
 refine gA 4 28 28<|rA 1<|bE H fun r1 er1 H=> vA [.rd] (zJL n x0 r1 er1)<|uA 2 92 92<|tS<|rA 1<|bE H fun r2 er2 H=> vA [.rd] (zHG n x0 r2 er2)<|uA 1 2140 92 ?_
 obtain ⟨h1,H⟩ | ⟨h1,H⟩ := bC H
 ·refine nA h1<|tK<|tS<|gA 2 16476 92<|tB<|tS<|Tr.mid (ι := Bool) (fun v => ⟨81,0,[sB 15 v,sI 14 x1.Ki,sA 6 6 3 0,sA 4 4 3 0,sA 3 3 2 0,sA 2 2 3 0],[(6,(Net.row r1)),(4,[cL 11 ([] : List zA) zA.row,cL 4 ([] : List Link) Link.row,cL 7 ([] : List Say) Say.row]),(3,(Event.row x1)),(2,(fR (Net.row x0)))]⟩) (fun v => ZI n r1 x0 x1 v = some r) ?_ ?_
  ·refine gA 2 49244 92 ?_
   obtain ⟨h11,H⟩ | ⟨h11,H⟩ := bC H
   ·exact qT [15] h11<|nB_<|eA 2 49244 92<|jA (x1.Ki == 6) H [15,14,6,4,3,2] [6,4,3,2]
   exact qT [15] h11<|tB_<|tK<|jA true H [15,14,6,4,3,2] [6,4,3,2]
  rintro y3 H
  have H : (ZI n r1 x0 x1 y3) = some r := H
  unfold ZI at H
  cases h2 : y3
  ·have H := Z6 h2 H
   refine nB_<|tS<|Tr.mid (ι := Bool) (fun v => ⟨81,0,[sB 46 v,sI 14 x1.Ki,sA 6 6 3 0,sA 4 4 3 0,sA 3 3 2 0,sA 2 2 3 0],[(6,(Net.row r1)),(4,[cL 11 ([] : List zA) zA.row,cL 4 ([] : List Link) Link.row,cL 7 ([] : List Say) Say.row]),(3,(Event.row x1)),(2,(fR (Net.row x0)))]⟩) (fun v => Qq n r1 x0 x1 v = some r) ?_ ?_
   ·refine gA 2 70368744194140 92 ?_
    obtain ⟨h8,H⟩ | ⟨h8,H⟩ := bC H
    ·exact qT [46] h8<|nB_<|eA 2 70368744194140 92<|jA (x1.Ki == 3) H [46,14,6,4,3,2] [6,4,3,2]
    exact qT [46] h8<|tB_<|tK<|jA true H [46,14,6,4,3,2] [6,4,3,2]
   rintro y4 H
   have H : (Qq n r1 x0 x1 y4) = some r := H
   unfold Qq at H
   cases h3 : y4
   ·have H := Z6 h3 H
    refine nB_<|tS<|Tr.mid (ι := Bool) (fun v => ⟨81,0,[sB 61 v,sA 6 6 3 0,sA 4 4 3 0,sA 3 3 2 0,sA 2 2 3 0],[(6,(Net.row r1)),(4,[cL 11 ([] : List zA) zA.row,cL 4 ([] : List Link) Link.row,cL 7 ([] : List Say) Say.row]),(3,(Event.row x1)),(2,(fR (Net.row x0)))]⟩) (fun v => Qr n r1 x0 x1 v = some r) ?_ ?_
    ·refine gA 2 0x200000000000405c 92 ?_
     obtain ⟨h6,H⟩ | ⟨h6,H⟩ := bC H
     ·exact qT [61] h6<|nB_<|eA 2 0x200000000000005c 92<|jA (x1.Ki == 5) H [61,6,4,3,2] [6,4,3,2]
     exact qT [61] h6<|tB_<|tK<|jA true H [61,6,4,3,2] [6,4,3,2]
    rintro y5 H
    have H : (Qr n r1 x0 x1 y5) = some r := H
    unfold Qr at H
    cases h4 : y5
    ·have H := Z6 h4 H
     exact nB_<|tK<|gA 3 48 16<|te (fJ [(true,(Net.row r1)),(false,[cB false])] H)
    have H := Z7 h4 H
    refine tB_<|tS<|rA 4<|kF x0.Ls Link.row<|lA 1<|bE H fun r6 er6 H=> vA [.rd,.rd,.rd] (zM n x1.At 0 (wI ((x0.Ls.length : Int) - 1)) r6 er6)<|uA 1 0x800000000000000058 88 ?_
    obtain ⟨h5,H⟩ | ⟨h5,H⟩ := bC H
    ·exact nA h5<|tK<|rA 5<|bE H fun r7 er7 H=> vL [.lend,.rd,.rd] (zJO n r1 x1.At (x1.Ki == 5) r7 er7)<|dA 80 80<|gA 3 48 16<|te (fJ [(true,(Net.row r7)),(false,[cB true])] H)
    exact tA h5<|gA 3 48 16<|te (fJ [(true,(Net.row r1)),(false,[cB false])] H)
   have H := Z7 h3 H
   refine tB_<|tS<|rA 4<|kF x0.Said Say.row<|lA 1<|bE H fun r8 er8 H=> vA [.rd,.rd,.rd] (zM n x1.At 0 (wI ((x0.Said.length : Int) - 1)) r8 er8)<|uA 1 72057594037928024 88 ?_
   obtain ⟨h7,H⟩ | ⟨h7,H⟩ := bC H
   ·exact nA h7<|tK<|rA 1<|bE H fun r9 er9 H=> vL [.lend,.rd] (zJP n r1 x1 r9 er9)<|dA 80 80<|gA 3 48 16<|te (fJ [(true,(Net.row r9)),(false,[cB true])] H)
   exact tA h7<|gA 3 48 16<|te (fJ [(true,(Net.row r1)),(false,[cB false])] H)
  have H := Z7 h2 H
  refine tB_<|tS<|rA 4<|kF x0.Bs zA.row<|lA 1<|bE H fun r10 er10 H=> vA [.rd,.rd,.rd] (zM n x1.At 0 (wI ((x0.Bs.length : Int) - 1)) r10 er10)<|uA 1 33554524 92 ?_
  obtain ⟨h9,H⟩ | ⟨h9,H⟩ := bC H
  ·refine nA h9<|tK<|tS<|gA 3 536871004 92 ?_
   obtain ⟨h10,H⟩ | ⟨h10,H⟩ := bC H
   ·exact nA h10<|Tr.at<|lA 2<|bE H fun r11 er11 H=> vL [.lend,.rd] (zHy n r1 x1.At r11 er11)<|dA 80 80<|gA 3 48 16<|te (fJ [(true,(Net.row r11)),(false,[cB true])] H)
   refine tA h10<|bE H fun v12 ev12 H=> bE H fun r13 er13 H=> bE H fun v14 ev14 H=> Tr.draw mixed 13 kr ⟨81,0,[sA 6 6 3 0,sA 4 4 3 0],[(6,[cL 11 (r1.Bs.set (x1.At.toNat) r13) zA.row,cL 4 r1.Ls Link.row,cL 7 r1.Said Say.row]),(4,[cL 11 ([] : List zA) zA.row,cL 4 ([] : List Link) Link.row,cL 7 ([] : List Say) Say.row])]⟩ (fun cx=>?_) ?_
   ·exact mA zBT [(0,[]),(1,[12]),(2,[]),(3,[12]),(4,[]),(5,[10,12]),(6,[]),(7,[10,12])] 5 [⟨[10,12],3,36,37⟩,⟨[10,12],53,34,35⟩,⟨[12],3,32,33⟩,⟨[12],53,30,31⟩] fun cx=>iN zBT 8 zA.row ev12 fun cx=>mA zBT [(9,[])] 3 [⟨[10,12],3,36,37⟩,⟨[10,12],53,34,35⟩,⟨[12],3,32,33⟩,⟨[12],53,30,31⟩] fun cx=>mC zBT 10<|vA [.rd] (zLB n v12 r13 er13)<|fA<|oN zBT 11 zA.row ev14 fun cx=>mC zBT 12<|LAt.storeB tOk (t := 42) (ty := 0) (ad := (.tmp 41)) (x := (.tmp 40)) (g := none) (tI 42) true (zA.row r13) 6 0 (x1.At.toNat) 11 0 11 r1.Bs zA.row v14 r13 kr kr kr kr kr kr kr kr (zF ev14).2 kr kr kr kr<|fA<|mE zBT [6,4] [6,4]
   exact gA 3 48 16<|te (fJ [(true,[cL 11 (r1.Bs.set (x1.At.toNat) r13) zA.row,cL 4 r1.Ls Link.row,cL 7 r1.Said Say.row]),(false,[cB true])] H)
  exact tA h9<|gA 3 48 16<|te (fJ [(true,(Net.row r1)),(false,[cB false])] H)
 exact tA h1<|gA 3 48 16<|te (fJ [(true,(Net.row r1)),(false,[cB false])] H)
def Jo (n : Nat) (y23 : (List Int)) (y24 : Int) (y25 : Int) (y26 : (List zA)) (y27 : (List Link)) (y28 : (List Say)) : Option (Net × Src) :=
  (some ((⟨y26,y27,y28⟩ : Net),(⟨y23,y24,y25⟩ : Src)))
def Zx (n : Nat) : Nat → Int → (List Int) → Int → Int → (List zA) → (List Link) → (List Say) → Option (((List Int) × Int × Int × (List zA) × (List Link) × (List Say)) ⊕ (Net × Src))
  | 0,_,_,_,_,_,_,_ => none
  | mo29 + 1,y16,y17,y18,y19,y20,y21,y22 => (bif (decide (y16 > 0)) then ((YI n (⟨y17,y18,y19⟩ : Src) (⟨y20,y21,y22⟩ : Net)).bind fun r30 => ((zAF n (⟨y20,y21,y22⟩ : Net) r30.1).bind fun r31 => (Zx n mo29 (IntKind.wrap .i64 (y16 - 1)) r30.2.b r30.2.i r30.2.h r31.1.Bs r31.1.Ls r31.1.Said))) else (some (Sum.inl (y17,y18,y19,y20,y21,y22))))
def Ys (n : Nat) (r5 : Net) (x1 : Int) (y11 : (List zA)) (y12 : (List Int)) (y13 : Int) (y14 : Int) : Option (Net × Src) :=
  ((ze n (⟨y12,y13,y14⟩ : Src) (IntKind.wrap .i64 (x1 + 1))).bind fun r15 => ((Zx n n r15.1 r15.2.b r15.2.i r15.2.h y11 r5.Ls r5.Said).bind fun o => match o with | .inl (y23,y24,y25,y26,y27,y28) => (Jo n y23 y24 y25 y26 y27 y28) | .inr r => some r))
def Yt (n : Nat) (k : (Int × (List zA) × (List Int) × Int × Int → Option (((List zA) × (List Int) × Int × Int) ⊕ (Net × Src)))) (y6 : Int) (y38 : (List zA)) (y39 : (List Int)) (y40 : Int) (y41 : Int) : Option (((List zA) × (List Int) × Int × Int) ⊕ (Net × Src)) :=
  (k ((IntKind.wrap .i64 (y6 + 1)),y38,y39,y40,y41))
def Zy (n : Nat) : Nat → Int → Int → (List zA) → (List Int) → Int → Int → Option (((List zA) × (List Int) × Int × Int) ⊕ (Net × Src))
  | 0,_,_,_,_,_,_ => none
  | mo42 + 1,y6,y33,y34,y35,y36,y37 => ((idx y34 y6).bind fun v43 => (bif (decide (y33 < (v43.Ps.length : Int))) then ((Zi n (⟨y35,y36,y37⟩ : Src) [1,1,2,5,20]).bind fun r44 => ((idx v43.Ps y33).bind fun v45 => (Zy n mo42 y6 (IntKind.wrap .i64 (y33 + 1)) (y34.set (y6.toNat) (⟨v43.Id,v43.Name,(v43.Ps.set (y33.toNat) (⟨v45.Up,r44.1,v45.Has,v45.Hd⟩ : Pt)),v43.F,v43.V,v43.Tk,v43.Pa,v43.Wo,v43.Dr,v43.Ve⟩ : zA)) r44.2.b r44.2.i r44.2.h))) else (some (Sum.inl (y34,y35,y36,y37)))))
def ZC (n : Nat) : Nat → Int → (List zA) → (List Int) → Int → Int → Option (((List zA) × (List Int) × Int × Int) ⊕ (Net × Src))
  | 0,_,_,_,_,_ => none
  | mo32 + 1,y6,y7,y8,y9,y10 => (bif (decide (y6 < (y7.length : Int))) then ((Zy n n y6 0 y7 y8 y9 y10).bind fun o => match o with | .inl (y38,y39,y40,y41) => (Yt n (fun v => ZC n mo32 v.1 v.2.1 v.2.2.1 v.2.2.2.1 v.2.2.2.2) y6 y38 y39 y40 y41) | .inr r => some (Sum.inr r)) else (some (Sum.inl (y7,y8,y9,y10))))
def Jc (n : Nat) (x0 : Src) (x1 : Int) : Option (Net × Src) :=
  ((ze n x0 6).bind fun r1 => ((ze n r1.2 4).bind fun r2 => ((J5 n r2.2 (IntKind.wrap .i64 (1 + r1.1))).bind fun r3 => ((JI n r3.2 (IntKind.wrap .i64 (1 + r1.1)) (IntKind.wrap .i64 (2 + r2.1))).bind fun r4 => ((J3 n r3.1 (IntKind.wrap .i64 (2 + r2.1)) r4.1).bind fun r5 => ((ZC n n 0 r5.Bs r4.2.b r4.2.i r4.2.h).bind fun o => match o with | .inl (y11,y12,y13,y14) => (Ys n r5 x1 y11 y12 y13 y14) | .inr r => some r))))))
def zMk : Tab := ⟨13,[0,1,0,6,8,16,0,0,0,384,1023,2047,3071],[0,1,0,6,8,16,0,0,0,384,96,1024,2560],[0,1,0,7,15,31,0,0,0,384,1023,2047,4095]⟩
noncomputable abbrev G69 (k : Nat) := Rg Try.f69 k
noncomputable abbrev D69 (k : Nat) := Rd Try.f69 k
theorem Z5 : zk (rg Try.f69 10) zMk = true := kr
theorem zJM (n : Nat) (x0 : Src) (x1 : Int) (r : Net × Src) (H : Jc n x0 x1 = some r) : zG Try.prog 69 [.ptr (fR (Src.row x0)),.val false [.lit (.int .i64 x1)]] [.val true (Net.row r.1)] [(0,(fR (Src.row r.2)))] := by
 refine zG.of_body tOk Try.func69 rfl (c := (.seq (G69 0) (.seq (G69 1) (.seq (G69 2) (.seq (G69 3) (.seq (.seq (G69 4) (.block 0 (.loop (.seq (.seq (G69 5) (.cond (.tmp 30) .skip (.exit 0))) (.seq (.block 1 (.seq (G69 7) (.block 2 (.loop (.seq (.seq (G69 8) (.cond (.tmp 41) .skip (.exit 2))) (.seq (.block 3 (D69 10)) (G69 9))))))) (G69 6)))))) (.seq (.seq (G69 11) (.block 4 (.loop (.seq (.seq (G69 12) (.cond (.tmp 61) .skip (.exit 4))) (.seq (.block 5 (D69 14)) (G69 13)))))) (.seq (G69 15) .ret)))))))) kr (Nat.le_of_ble_eq_true kr) 1 (rs := [.cell 4 76]) rfl [] .nil [(true,(Net.row r.1))] [] [(0,(fR (Src.row r.2)))] fun cx=>?_
 show Tr _ _ _ ⟨73,1,[sA 0 0 3 0,sI 1 x1],[(0,(fR (Src.row x0)))]⟩ _
 unfold Jc at H
 refine gA 1 19 17<|rA 1<|bE H fun r1 er1 H=> vL [.lend,.rd] (qh n x0 6 r1 er1)<|uA 2 51 17<|rA 1<|bE H fun r2 er2 H=> vL [.lend,.rd] (qh n r1.2 4 r2 er2)<|uA 2 115 17<|rA 2<|bE H fun r3 er3 H=> vL [.lend,.rd] (zJj n r2.2 (wI (1 + r1.1)) r3 er3)<|lA 4<|bE H fun r4 er4 H=> vL [.lend,.rd,.rd] (zIa n r3.2 (wI (1 + r1.1)) (wI (2 + r2.1)) r4 er4)<|bE H fun r5 er5 H=> vA [.rd,.rd,.rd] (zJg n r3.1 (wI (2 + r2.1)) r4.1 r5 er5)<|uA 2 147 145<|tS<|gA 1 403 145 ?_
 obtain ⟨o32,eo32,Ho32⟩ := bs H
 clear H
 refine Tr.mid (ι := (List zA) × (List Int) × Int × Int) (fun v => ⟨73,1,[sA 7 7 3 0,sA 4 4 3 0,sA 0 0 3 0,sI 1 x1],[(7,[cL 11 v.1 zA.row,cL 4 r5.Ls Link.row,cL 7 r5.Said Say.row]),(0,[cF 1 v.2.1 zx,cI v.2.2.1,cI v.2.2.2]),(4,[cL 11 ([] : List zA) zA.row,cL 4 ([] : List Link) Link.row,cL 7 ([] : List Say) Say.row])]⟩) (fun v => Ys n r5 x1 v.1 v.2.1 v.2.2.1 v.2.2.2 = some r) ?_ ?_
 ·refine tB<|Tr.loop (ι := Nat × (Int × (List zA) × (List Int) × Int × Int)) (fun v => ⟨73,1,[sI 8 v.2.1,sA 7 7 3 0,sA 4 4 3 0,sA 0 0 3 0,sI 1 x1],[(7,[cL 11 v.2.2.1 zA.row,cL 4 r5.Ls Link.row,cL 7 r5.Said Say.row]),(0,[cF 1 v.2.2.2.1 zx,cI v.2.2.2.2.1,cI v.2.2.2.2.2]),(4,[cL 11 ([] : List zA) zA.row,cL 4 ([] : List Link) Link.row,cL 7 ([] : List Say) Say.row])]⟩) (fun v => ZC n v.1 v.2.1 v.2.2.1 v.2.2.2.1 v.2.2.2.2.1 v.2.2.2.2.2 = some o32) (fun v => v.1) (n,(0,r5.Bs,r4.2.b,r4.2.i,r4.2.h)) eo32 (St.sub_of [8,7,4,0,1] [7,0,4] kr) ?_
  rintro ⟨_ | mo32,y6,y7,y8,y9,y10⟩ H
  ·exact nN H
  have H : ZC n (mo32+1) y6 y7 y8 y9 y10 = some o32 := H
  rw [ZC] at H
  refine tS<|rA 3<|kO y7 zA.row<|uA 1 1073742227 145 ?_
  obtain ⟨h2,H⟩ | ⟨h2,H⟩ := bC H
  ·refine nA h2<|Tr.exit<|aJ ?_
   cases H
   exact jA (y7,y8,y9,y10) Ho32 [7,4,0,1] [7,0,4]
  refine tA h2<|tK<|tS<|tB<|gA 1 915 145 ?_
  obtain ⟨o42,eo42,Ho42⟩ := bs H
  clear H
  refine Tr.mid (ι := (List zA) × (List Int) × Int × Int) (fun v => ⟨73,1,[sI 8 y6,sA 7 7 3 0,sA 4 4 3 0,sA 0 0 3 0,sI 1 x1],[(7,[cL 11 v.1 zA.row,cL 4 r5.Ls Link.row,cL 7 r5.Said Say.row]),(0,[cF 1 v.2.1 zx,cI v.2.2.1,cI v.2.2.2]),(4,[cL 11 ([] : List zA) zA.row,cL 4 ([] : List Link) Link.row,cL 7 ([] : List Say) Say.row])]⟩) (fun v => Yt n (fun v => ZC n mo32 v.1 v.2.1 v.2.2.1 v.2.2.2.1 v.2.2.2.2) y6 v.1 v.2.1 v.2.2.1 v.2.2.2 = some o32) ?_ ?_
  ·refine tB<|Tr.loop (ι := Nat × (Int × (List zA) × (List Int) × Int × Int)) (fun v => ⟨73,1,[sI 9 v.2.1,sI 8 y6,sA 7 7 3 0,sA 4 4 3 0,sA 0 0 3 0,sI 1 x1],[(7,[cL 11 v.2.2.1 zA.row,cL 4 r5.Ls Link.row,cL 7 r5.Said Say.row]),(0,[cF 1 v.2.2.2.1 zx,cI v.2.2.2.2.1,cI v.2.2.2.2.2]),(4,[cL 11 ([] : List zA) zA.row,cL 4 ([] : List Link) Link.row,cL 7 ([] : List Say) Say.row])]⟩) (fun v => Zy n v.1 y6 v.2.1 v.2.2.1 v.2.2.2.1 v.2.2.2.2.1 v.2.2.2.2.2 = some o42) (fun v => v.1) (n,(0,y7,y8,y9,y10)) eo42 (St.sub_of [9,8,7,4,0,1] [7,0,4] kr) ?_
   rintro ⟨_ | mo42,y33,y34,y35,y36,y37⟩ H
   ·exact nN H
   have H : Zy n (mo42+1) y6 y33 y34 y35 y36 y37 = some o42 := H
   rw [Zy] at H
   refine tS<|rA 4<|bE H fun v43 ev43 H=> oA zA.row ev43<|lA 1<|dE (tI 35) (.box 7) [(0,0),(0,(y6.toNat))] 11 2 [.sl true 3 [[cL 11 y34 zA.row,cL 4 r5.Ls Link.row,cL 7 r5.Said Say.row]]] (zA.row v43) (zK rfl (zF ev43).2)<|lL tOk 35 3 55 39 40 none ⟨(.box 7),[(0,0),(0,(y6.toNat))],2,true,8,(v43.Ps.map Pt.row)⟩ (v43.Ps).length _ kr kr kr kr (zBA (row := [.sl true 3 [[cL 11 y34 zA.row,cL 4 r5.Ls Link.row,cL 7 r5.Said Say.row]]]) (e := zA.row v43) kr kr (zK rfl (zF ev43).2) rfl rfl) (zD0 _ _) rfl<|uA 1 2199023256467 145 ?_
   obtain ⟨h3,H⟩ | ⟨h3,H⟩ := bC H
   ·refine nA h3<|Tr.exit<|aJ ?_
    cases H
    exact jA (y34,y35,y36,y37) Ho42 [8,7,4,0,1] [7,0,4]
   refine tA h3<|tK<|tS<|tB<|bE H fun r44 er44 H=> bE H fun v45 ev45 H=> Tr.draw mixed 13 kr ⟨73,1,[sI 9 y33,sI 8 y6,sA 7 7 3 0,sA 4 4 3 0,sA 0 0 3 0,sI 1 x1],[(7,[cL 11 (y34.set (y6.toNat) (⟨v43.Id,v43.Name,(v43.Ps.set (y33.toNat) (⟨v45.Up,r44.1,v45.Has,v45.Hd⟩ : Pt)),v43.F,v43.V,v43.Tk,v43.Pa,v43.Wo,v43.Dr,v43.Ve⟩ : zA)) zA.row,cL 4 r5.Ls Link.row,cL 7 r5.Said Say.row]),(0,(fR (Src.row r44.2))),(4,[cL 11 ([] : List zA) zA.row,cL 4 ([] : List Link) Link.row,cL 7 ([] : List Say) Say.row])]⟩ (fun cx=>?_) ?_
   ·refine mA Z5 [(0,[]),(1,[12]),(2,[])] 10 [⟨[12],53,44,45⟩] fun cx=>oN Z5 3 zA.row ev43 fun cx=>mA Z5 (zl [4,6,7]) 6 [⟨[12],53,44,45⟩] fun cx=>mB2 tOk Z5 5 8 kr (And.intro kr ?_) (And.intro kr ?_)
    ·refine dE (tI 35) (.box 7) [(0,0),(0,(y6.toNat))] 11 2 [.sl true 3 [[cL 11 y34 zA.row,cL 4 r5.Ls Link.row,cL 7 r5.Said Say.row]]] (zA.row v43) (zK rfl (zF ev43).2)<|fA<|mC Z5 8<|lA 1<|fA<|mC Z5 9<|vL [.lend,.rd] (zAJ n (⟨y35,y36,y37⟩ : Src) [1,1,2,5,20] r44 er44)<|fA<|mC Z5 10<|LAt.indexD tOk (t := 35) (ty := 0) (et := 55) (x := (.tmp 49)) (y := (.tmp 50)) (d := 54) (g := none) (tI 55) ⟨(.box 7),[(0,0),(0,(y6.toNat))],2,true,8,(v43.Ps.map Pt.row)⟩ .i64 y33 (y33.toNat) (Pt.row v45) kr kr kr kr kr kr kr (zBA (row := [.sl true 3 [[cL 11 y34 zA.row,cL 4 r5.Ls Link.row,cL 7 r5.Said Say.row]]]) (e := zA.row v43) kr kr (zK rfl (zF ev43).2) rfl rfl) rfl kr (YD ev45) rfl<|fA<|mA Z5 [(11,[])] 1 [⟨[12],53,44,45⟩] fun cx=>sA_ 0xa0300000000393 145 ⟨73,1,[(55,.adr (.box 7) [(0,0),(0,(y6.toNat)),(2,(y33.toNat))] 8 1),sI 53 r44.1,sR 45 7 3 0 1 false,sA 44 7 3 0,sI 9 y33,sI 8 y6,sA 7 7 3 0,sA 4 4 3 0,sA 0 0 3 0,sI 1 x1],[(0,(fR (Src.row r44.2))),(7,[cL 11 y34 zA.row,cL 4 r5.Ls Link.row,cL 7 r5.Said Say.row]),(4,[cL 11 ([] : List zA) zA.row,cL 4 ([] : List Link) Link.row,cL 7 ([] : List Say) Say.row])]⟩<|mC Z5 12<|LAt.storeK tOk (t := 3) (ty := 0) (ad := (.tmp 55)) (x := (.tmp 53)) (g := none) (tI 3) false [cI r44.1] (.box 7) [(0,0),(0,(y6.toNat)),(2,(y33.toNat))] [(0,(y6.toNat)),(2,(y33.toNat))] 8 1 [.sl true 3 [[cL 11 y34 zA.row,cL 4 r5.Ls Link.row,cL 7 r5.Said Say.row]]] (Pt.row v45) [cL 11 y34 zA.row,cL 4 r5.Ls Link.row,cL 7 r5.Said Say.row] [cL 11 (y34.set (y6.toNat) (⟨v43.Id,v43.Name,(v43.Ps.set (y33.toNat) (⟨v45.Up,r44.1,v45.Has,v45.Hd⟩ : Pt)),v43.F,v43.V,v43.Tk,v43.Pa,v43.Wo,v43.Dr,v43.Ve⟩ : zA)) zA.row,cL 4 r5.Ls Link.row,cL 7 r5.Said Say.row] kr kr kr kr kr kr (zB2 rfl (zF ev43).2 rfl (zF ev45).2) rfl (by intro h; cases h) kr kr rfl (zKK (new := (⟨v43.Id,v43.Name,(v43.Ps.set (y33.toNat) (⟨v45.Up,r44.1,v45.Has,v45.Hd⟩ : Pt)),v43.F,v43.V,v43.Tk,v43.Pa,v43.Wo,v43.Dr,v43.Ve⟩ : zA)) (new2 := (⟨v45.Up,r44.1,v45.Has,v45.Hd⟩ : Pt)) rfl (zF ev43).2 rfl (zF ev45).2 kr kr) kr ?_
     exact fA<|mE Z5 [9,8,7,4,0,1] [7,0,4]
    ·refine lA 1<|fA<|mB2 tOk Z5 5 9 kr (And.intro kr ?_) (And.intro kr ?_)
     ·refine dE (tI 35) (.box 7) [(0,0),(0,(y6.toNat))] 11 2 [.sl true 3 [[cL 11 y34 zA.row,cL 4 r5.Ls Link.row,cL 7 r5.Said Say.row]]] (zA.row v43) (zK rfl (zF ev43).2)<|fA<|mC Z5 9<|vL [.lend,.rd] (zAJ n (⟨y35,y36,y37⟩ : Src) [1,1,2,5,20] r44 er44)<|fA<|mC Z5 10<|LAt.indexD tOk (t := 35) (ty := 0) (et := 55) (x := (.tmp 49)) (y := (.tmp 50)) (d := 54) (g := none) (tI 55) ⟨(.box 7),[(0,0),(0,(y6.toNat))],2,true,8,(v43.Ps.map Pt.row)⟩ .i64 y33 (y33.toNat) (Pt.row v45) kr kr kr kr kr kr kr (zBA (row := [.sl true 3 [[cL 11 y34 zA.row,cL 4 r5.Ls Link.row,cL 7 r5.Said Say.row]]]) (e := zA.row v43) kr kr (zK rfl (zF ev43).2) rfl rfl) rfl kr (YD ev45) rfl<|fA<|mA Z5 [(11,[])] 1 [⟨[12],53,44,45⟩] fun cx=>sA_ 0xa0300000000393 145 ⟨73,1,[(55,.adr (.box 7) [(0,0),(0,(y6.toNat)),(2,(y33.toNat))] 8 1),sI 53 r44.1,sR 45 7 3 0 1 false,sA 44 7 3 0,sI 9 y33,sI 8 y6,sA 7 7 3 0,sA 4 4 3 0,sA 0 0 3 0,sI 1 x1],[(0,(fR (Src.row r44.2))),(7,[cL 11 y34 zA.row,cL 4 r5.Ls Link.row,cL 7 r5.Said Say.row]),(4,[cL 11 ([] : List zA) zA.row,cL 4 ([] : List Link) Link.row,cL 7 ([] : List Say) Say.row])]⟩<|mC Z5 12<|LAt.storeK tOk (t := 3) (ty := 0) (ad := (.tmp 55)) (x := (.tmp 53)) (g := none) (tI 3) false [cI r44.1] (.box 7) [(0,0),(0,(y6.toNat)),(2,(y33.toNat))] [(0,(y6.toNat)),(2,(y33.toNat))] 8 1 [.sl true 3 [[cL 11 y34 zA.row,cL 4 r5.Ls Link.row,cL 7 r5.Said Say.row]]] (Pt.row v45) [cL 11 y34 zA.row,cL 4 r5.Ls Link.row,cL 7 r5.Said Say.row] [cL 11 (y34.set (y6.toNat) (⟨v43.Id,v43.Name,(v43.Ps.set (y33.toNat) (⟨v45.Up,r44.1,v45.Has,v45.Hd⟩ : Pt)),v43.F,v43.V,v43.Tk,v43.Pa,v43.Wo,v43.Dr,v43.Ve⟩ : zA)) zA.row,cL 4 r5.Ls Link.row,cL 7 r5.Said Say.row] kr kr kr kr kr kr (zB2 rfl (zF ev43).2 rfl (zF ev45).2) rfl (by intro h; cases h) kr kr rfl (zKK (new := (⟨v43.Id,v43.Name,(v43.Ps.set (y33.toNat) (⟨v45.Up,r44.1,v45.Has,v45.Hd⟩ : Pt)),v43.F,v43.V,v43.Tk,v43.Pa,v43.Wo,v43.Dr,v43.Ve⟩ : zA)) (new2 := (⟨v45.Up,r44.1,v45.Has,v45.Hd⟩ : Pt)) rfl (zF ev43).2 rfl (zF ev45).2 kr kr) kr ?_
      exact fA<|mE Z5 [9,8,7,4,0,1] [7,0,4]
     ·refine vL [.lend,.rd] (zAJ n (⟨y35,y36,y37⟩ : Src) [1,1,2,5,20] r44 er44)<|fA<|mC Z5 5<|dE (tI 35) (.box 7) [(0,0),(0,(y6.toNat))] 11 2 [.sl true 3 [[cL 11 y34 zA.row,cL 4 r5.Ls Link.row,cL 7 r5.Said Say.row]]] (zA.row v43) (zK rfl (zF ev43).2)<|fA<|mC Z5 10<|LAt.indexD tOk (t := 35) (ty := 0) (et := 55) (x := (.tmp 49)) (y := (.tmp 50)) (d := 54) (g := none) (tI 55) ⟨(.box 7),[(0,0),(0,(y6.toNat))],2,true,8,(v43.Ps.map Pt.row)⟩ .i64 y33 (y33.toNat) (Pt.row v45) kr kr kr kr kr kr kr (zBA (row := [.sl true 3 [[cL 11 y34 zA.row,cL 4 r5.Ls Link.row,cL 7 r5.Said Say.row]]]) (e := zA.row v43) kr kr (zK rfl (zF ev43).2) rfl rfl) rfl kr (YD ev45) rfl<|fA<|mA Z5 [(11,[])] 1 [⟨[12],53,44,45⟩] fun cx=>sA_ 0xa0300000000393 145 ⟨73,1,[(55,.adr (.box 7) [(0,0),(0,(y6.toNat)),(2,(y33.toNat))] 8 1),sI 53 r44.1,sR 45 7 3 0 1 false,sA 44 7 3 0,sI 9 y33,sI 8 y6,sA 7 7 3 0,sA 4 4 3 0,sA 0 0 3 0,sI 1 x1],[(0,(fR (Src.row r44.2))),(7,[cL 11 y34 zA.row,cL 4 r5.Ls Link.row,cL 7 r5.Said Say.row]),(4,[cL 11 ([] : List zA) zA.row,cL 4 ([] : List Link) Link.row,cL 7 ([] : List Say) Say.row])]⟩<|mC Z5 12<|LAt.storeK tOk (t := 3) (ty := 0) (ad := (.tmp 55)) (x := (.tmp 53)) (g := none) (tI 3) false [cI r44.1] (.box 7) [(0,0),(0,(y6.toNat)),(2,(y33.toNat))] [(0,(y6.toNat)),(2,(y33.toNat))] 8 1 [.sl true 3 [[cL 11 y34 zA.row,cL 4 r5.Ls Link.row,cL 7 r5.Said Say.row]]] (Pt.row v45) [cL 11 y34 zA.row,cL 4 r5.Ls Link.row,cL 7 r5.Said Say.row] [cL 11 (y34.set (y6.toNat) (⟨v43.Id,v43.Name,(v43.Ps.set (y33.toNat) (⟨v45.Up,r44.1,v45.Has,v45.Hd⟩ : Pt)),v43.F,v43.V,v43.Tk,v43.Pa,v43.Wo,v43.Dr,v43.Ve⟩ : zA)) zA.row,cL 4 r5.Ls Link.row,cL 7 r5.Said Say.row] kr kr kr kr kr kr (zB2 rfl (zF ev43).2 rfl (zF ev45).2) rfl (by intro h; cases h) kr kr rfl (zKK (new := (⟨v43.Id,v43.Name,(v43.Ps.set (y33.toNat) (⟨v45.Up,r44.1,v45.Has,v45.Hd⟩ : Pt)),v43.F,v43.V,v43.Tk,v43.Pa,v43.Wo,v43.Dr,v43.Ve⟩ : zA)) (new2 := (⟨v45.Up,r44.1,v45.Has,v45.Hd⟩ : Pt)) rfl (zF ev43).2 rfl (zF ev45).2 kr kr) kr ?_
      exact fA<|mE Z5 [9,8,7,4,0,1] [7,0,4]
   exact eA 3 915 145<|jB mo42 ((wI (y33 + 1)),(y34.set (y6.toNat) (⟨v43.Id,v43.Name,(v43.Ps.set (y33.toNat) (⟨v45.Up,r44.1,v45.Has,v45.Hd⟩ : Pt)),v43.F,v43.V,v43.Tk,v43.Pa,v43.Wo,v43.Dr,v43.Ve⟩ : zA)),r44.2.b,r44.2.i,r44.2.h) H [9,8,7,4,0,1] [7,0,4]
  rintro ⟨y38,y39,y40,y41⟩ H
  have H : (Yt n (fun v => ZC n mo32 v.1 v.2.1 v.2.2.1 v.2.2.2.1 v.2.2.2.2) y6 y38 y39 y40 y41) = some o32 := H
  unfold Yt at H
  exact eA 3 403 145<|jB mo32 ((wI (y6 + 1)),y38,y39,y40,y41) H [8,7,4,0,1] [7,0,4]
 rintro ⟨y11,y12,y13,y14⟩ H
 have H : (Ys n r5 x1 y11 y12 y13 y14) = some r := H
 unfold Ys at H
 refine tS<|rA 3<|bE H fun r15 er15 H=> vL [.lend,.rd] (qh n (⟨y12,y13,y14⟩ : Src) (wI (x1 + 1)) r15 er15)<|uA 1 1169 145 ?_
 obtain ⟨o29,eo29,Ho29⟩ := bs H
 clear H
 refine Tr.mid (ι := (List Int) × Int × Int × (List zA) × (List Link) × (List Say)) (fun v => ⟨73,1,[sA 7 7 3 0,sA 4 4 3 0,sA 0 0 3 0],[(0,[cF 1 v.1 zx,cI v.2.1,cI v.2.2.1]),(7,[cL 11 v.2.2.2.1 zA.row,cL 4 v.2.2.2.2.1 Link.row,cL 7 v.2.2.2.2.2 Say.row]),(4,[cL 11 ([] : List zA) zA.row,cL 4 ([] : List Link) Link.row,cL 7 ([] : List Say) Say.row])]⟩) (fun v => Jo n v.1 v.2.1 v.2.2.1 v.2.2.2.1 v.2.2.2.2.1 v.2.2.2.2.2 = some r) ?_ ?_
 ·refine tB<|Tr.loop (ι := Nat × (Int × (List Int) × Int × Int × (List zA) × (List Link) × (List Say))) (fun v => ⟨73,1,[sI 10 v.2.1,sA 7 7 3 0,sA 4 4 3 0,sA 0 0 3 0],[(0,[cF 1 v.2.2.1 zx,cI v.2.2.2.1,cI v.2.2.2.2.1]),(7,[cL 11 v.2.2.2.2.2.1 zA.row,cL 4 v.2.2.2.2.2.2.1 Link.row,cL 7 v.2.2.2.2.2.2.2 Say.row]),(4,[cL 11 ([] : List zA) zA.row,cL 4 ([] : List Link) Link.row,cL 7 ([] : List Say) Say.row])]⟩) (fun v => Zx n v.1 v.2.1 v.2.2.1 v.2.2.2.1 v.2.2.2.2.1 v.2.2.2.2.2.1 v.2.2.2.2.2.2.1 v.2.2.2.2.2.2.2 = some o29) (fun v => v.1) (n,(r15.1,r15.2.b,r15.2.i,r15.2.h,y11,r5.Ls,r5.Said)) eo29 (St.sub_of [10,7,4,0] [0,7,4] kr) ?_
  rintro ⟨_ | mo29,y16,y17,y18,y19,y20,y21,y22⟩ H
  ·exact nN H
  have H : Zx n (mo29+1) y16 y17 y18 y19 y20 y21 y22 = some o29 := H
  rw [Zx] at H
  refine tS<|gA 2 0x2000000000000491 145 ?_
  obtain ⟨h1,H⟩ | ⟨h1,H⟩ := bC H
  ·refine nA h1<|Tr.exit<|aJ ?_
   cases H
   exact jA (y17,y18,y19,y20,y21,y22) Ho29 [7,4,0] [0,7,4]
  refine tA h1<|tK<|tS<|tB<|Tr.frzB 7<|bE H fun r30 er30 H=> bE H fun r31 er31 H=> Tr.draw mixed 9 kr ⟨73,1,[sI 10 y16,sA 7 7 3 0,sA 4 4 3 0,sA 0 0 3 0],[(7,(Net.row r31.1)),(0,(fR (Src.row r30.2))),(4,[cL 11 ([] : List zA) zA.row,cL 4 ([] : List Link) Link.row,cL 7 ([] : List Say) Say.row])]⟩ (fun cx=>?_) ?_
  ·refine aA [(0,[4,8]),(1,[]),(2,[3,4,8])] 6 [⟨[3,4,8],76,7,67⟩,⟨[4,8],76,7,65⟩] fun cx=>bA 3<|vL [.lend,.rd] (zIb n (⟨y17,y18,y19⟩ : Src) (⟨y20,y21,y22⟩ : Net) r30 er30)<|fA<|bA 4<|vA [.rd,.rd] (zLA n (⟨y20,y21,y22⟩ : Net) r30.1 r31 er31)<|fA<|AT.movT tOk 5 (ty := 169) (t := 69) (d := 64) (g := none) [(true,(Net.row r31.1)),(false,[cB r31.2])] _ kr kr kr (.inl rfl) kr kr kr kr rfl (fun cx=>?_)
   exact aA [(6,[]),(7,[])] 1 [⟨[3,4,8],76,7,67⟩,⟨[4,8],76,7,65⟩] fun cx=>bA 8<|lA 1<|fA<|eE [10,7,4,0] [7,0,4]
  exact eA 3 1169 145<|jB mo29 ((wI (y16 - 1)),r30.2.b,r30.2.i,r30.2.h,r31.1.Bs,r31.1.Ls,r31.1.Said) H [10,7,4,0] [0,7,4]
 rintro ⟨y23,y24,y25,y26,y27,y28⟩ H
 have H : (Jo n y23 y24 y25 y26 y27 y28) = some r := H
 unfold Jo at H
 exact gA 2 17 17<|te<|fY [(true,[cL 11 y26 zA.row,cL 4 y27 Link.row,cL 7 y28 Say.row])] [(0,[cF 1 y23 zx,cI y24,cI y25])] H
def Y3 (n : Nat) (y7 : (List Event)) (y8 : (List Int)) (y9 : Int) (y10 : Int) : Option ((List Event) × Src) :=
  (some (y7,(⟨y8,y9,y10⟩ : Src)))
def ZQ (n : Nat) : Nat → Int → (List Event) → (List Int) → Int → Int → Option (((List Event) × (List Int) × Int × Int) ⊕ ((List Event) × Src))
  | 0,_,_,_,_,_ => none
  | mo11 + 1,y2,y3,y4,y5,y6 => (bif (decide (y2 > 0)) then ((Zi n (⟨y4,y5,y6⟩ : Src) [1,1,1,2,2,2,2,3,4,5,6]).bind fun r12 => ((ze n r12.2 4).bind fun r13 => (bif (decide (y3.length + [(⟨r12.1,r13.1⟩ : Event)].length ≤ 268435456)) then (ZQ n mo11 (IntKind.wrap .i64 (y2 - 1)) (y3 ++ [(⟨r12.1,r13.1⟩ : Event)]) r13.2.b r13.2.i r13.2.h) else none))) else (some (Sum.inl (y3,y4,y5,y6))))
def Yu (n : Nat) (x0 : Src) (x1 : Int) : Option ((List Event) × Src) :=
  ((ze n x0 x1).bind fun r1 => ((ZQ n n r1.1 ([] : List Event) r1.2.b r1.2.i r1.2.h).bind fun o => match o with | .inl (y7,y8,y9,y10) => (Y3 n y7 y8 y9 y10) | .inr r => some r))
noncomputable abbrev G71 (k : Nat) := Rg Try.f71 k
theorem zHx (n : Nat) (x0 : Src) (x1 : Int) (r : (List Event) × Src) (H : Yu n x0 x1 = some r) : zG Try.prog 71 [.ptr (fR (Src.row x0)),.val false [.lit (.int .i64 x1)]] [.val false [.sl true 2 (r.1.map Event.row)]] [(0,(fR (Src.row r.2)))] := by
 refine zG.of_body tOk Try.func71 rfl (c := (.seq (G71 0) (.seq (G71 1) (.seq (.seq (G71 2) (.block 0 (.loop (.seq (.seq (G71 3) (.cond (.tmp 12) .skip (.exit 0))) (.seq (.block 1 (G71 5)) (G71 4)))))) (.seq (G71 6) .ret))))) kr (Nat.le_of_ble_eq_true kr) 1 (rs := [.tmp 4]) rfl [] .nil [(false,[.sl true 2 (r.1.map Event.row)])] [] [(0,(fR (Src.row r.2)))] fun cx=>?_
 show Tr _ _ _ ⟨25,1,[sA 0 0 3 0,sI 1 x1],[(0,(fR (Src.row x0)))]⟩ _
 unfold Yu at H
 refine gA 1 3 1<|rA 1<|LAt.moveU (T := lk tab) (ty := 77) (x := (.tmp 7)) (d := 5) (g := none) false [cL 2 ([] : List Event) Event.row] kr kr kr kr kr<|dA 35 1<|tS<|rA 2<|bE H fun r1 er1 H=> vL [.lend,.rd] (qh n x0 x1 r1 er1)<|uA 1 97 1 ?_
 obtain ⟨o11,eo11,Ho11⟩ := bs H
 clear H
 refine Tr.mid (ι := (List Event) × (List Int) × Int × Int) (fun v => ⟨25,1,[sC 5 (cL 2 v.1 Event.row),sA 0 0 3 0],[(0,[cF 1 v.2.1 zx,cI v.2.2.1,cI v.2.2.2])]⟩) (fun v => Y3 n v.1 v.2.1 v.2.2.1 v.2.2.2 = some r) ?_ ?_
 ·refine tB<|Tr.loop (ι := Nat × (Int × (List Event) × (List Int) × Int × Int)) (fun v => ⟨25,1,[sI 6 v.2.1,sC 5 (cL 2 v.2.2.1 Event.row),sA 0 0 3 0],[(0,[cF 1 v.2.2.2.1 zx,cI v.2.2.2.2.1,cI v.2.2.2.2.2])]⟩) (fun v => ZQ n v.1 v.2.1 v.2.2.1 v.2.2.2.1 v.2.2.2.2.1 v.2.2.2.2.2 = some o11) (fun v => v.1) (n,(r1.1,([] : List Event),r1.2.b,r1.2.i,r1.2.h)) eo11 (St.sub_of [6,5,0] [0] kr) ?_
  rintro ⟨_ | mo11,y2,y3,y4,y5,y6⟩ H
  ·exact nN H
  have H : ZQ n (mo11+1) y2 y3 y4 y5 y6 = some o11 := H
  rw [ZQ] at H
  refine tS<|gA 2 4193 1 ?_
  obtain ⟨h1,H⟩ | ⟨h1,H⟩ := bC H
  ·refine nA h1<|Tr.exit<|aJ ?_
   cases H
   exact jA (y3,y4,y5,y6) Ho11 [5,0] [0]
  exact tA h1<|tK<|tS<|tB<|Tr.at<|lA 3<|bE H fun r12 er12 H=> vL [.lend,.rd] (zAJ n (⟨y4,y5,y6⟩ : Src) [1,1,1,2,2,2,2,3,4,5,6] r12 er12)<|lA 1<|bE H fun r13 er13 H=> vL [.lend,.rd] (qh n r12.2 4 r13 er13)<|lA 2<|gE H fun hg14 H=> LAt.appMU tOk (t := 77) (ty := 77) (e := 172) (x := (.tmp 15)) (y := (.tmp 22)) (d := 23) (g := none) (tI 172) Event.row y3 [(⟨r12.1,r13.1⟩ : Event)] kr kr kr kr kr kr kr kr kr kr hg14<|LAt.moveU (T := lk tab) (ty := 77) (x := (.tmp 23)) (d := 5) (g := none) false [cL 2 (y3 ++ [(⟨r12.1,r13.1⟩ : Event)]) Event.row] kr kr kr kr kr<|dA 97 1<|eA 3 97 1<|jB mo11 ((wI (y2 - 1)),(y3 ++ [(⟨r12.1,r13.1⟩ : Event)]),r13.2.b,r13.2.i,r13.2.h) H [6,5,0] [0]
 rintro ⟨y7,y8,y9,y10⟩ H
 have H : (Y3 n y7 y8 y9 y10) = some r := H
 unfold Y3 at H
 exact gA 2 49 1<|te<|fY [(false,[cL 2 y7 Event.row])] [(0,[cF 1 y8 zx,cI y9,cI y10])] H
def JZ (n : Nat) (x0 : (List Int)) : Option (Net × (List Event)) :=
  ((zAW n x0).bind fun r1 => ((J6 n x0 20).bind fun r2 => ((Jc n r1 (IntKind.wrap .i64 (6 + r2))).bind fun r3 => ((Yu n r3.2 10).bind fun r4 => (some (r3.1,r4.1))))))
theorem zJJ (n : Nat) (x0 : (List Int)) (r : Net × (List Event)) (H : JZ n x0 = some r) : zG Try.prog 31 [.val false [.sl false 1 (CV.frzEs (x0.map zx))]] [.val true (Net.row r.1),.val false [.sl true 2 (r.2.map Event.row)]] [] := by
 refine cW Try.func31 (fun g d => sl [g 0,g 1,g 2] .ret) [.cell 2 76,.tmp 3] fun cx=>?_
 unfold JZ at H
 exact gA 2 5 4<|rA 1<|bE H fun r1 er1 H=> vA [.rd] (zKW n x0 r1 er1)<|uA 1 21 68<|rA 2<|bE H fun r2 er2 H=> vA [.rd,.rd] (zJk n x0 20 r2 er2)<|lA 1<|bE H fun r3 er3 H=> vL [.lend,.rd] (zJM n r1 (wI (6 + r2)) r3 er3)<|lA 1<|bE H fun r4 er4 H=> vL [.lend,.rd] (zHx n r3.2 10 r4 er4)<|lA 1<|LAt.moveU (T := lk tab) (ty := 77) (x := (.tmp 13)) (d := 3) (g := none) false [cL 2 r4.1 Event.row] kr kr kr kr kr<|dA 12 4<|te (fJ [(true,(Net.row r3.1)),(false,[cL 2 r4.1 Event.row])] H)
def zq (n : Nat) (x0 : Int) (x1 : Int) (x2 : Int) : Option (Bool) :=
  (bif (decide (x0 ≥ x1)) then (some (decide (x0 ≤ x2))) else (some false))
theorem Jf (n : Nat) (x0 : Int) (x1 : Int) (x2 : Int) (r : Bool) (H : zq n x0 x1 x2 = some r) : zG Try.prog 44 [.val false [.lit (.int .i64 x0)],.val false [.lit (.int .i64 x1)],.val false [.lit (.int .i64 x2)]] [.val false [.lit (.bool r)]] [] := by
 refine cW Try.func44 (fun g d => sl [g 0,g 1] .ret) [.tmp 6] fun cx=>?_
 unfold zq at H
 refine gA 1 7 0<|rA 4 ?_
 obtain ⟨h1,H⟩ | ⟨h1,H⟩ := bC H
 ·exact qL 1029 0 [10] h1<|uA 5 64 0<|te (fF H)
 exact qL 1029 0 [10] h1<|uA 5 64 0<|te (fJ [(false,[cB (decide (x0 ≤ x2))])] H)
def ZZ (n : Nat) (x0 : Net) (x1 : Int) (x2 : Int) : Option (Pt × Bool) :=
  ((zq n x1 0 (IntKind.wrap .i64 ((x0.Bs.length : Int) - 1))).bind fun r1 => (bif (!r1) then (some ((⟨false,0,false,(⟨0,0,0,0,0⟩ : Vec)⟩ : Pt),false)) else ((idx x0.Bs x1).bind fun v2 => ((zq n x2 0 (IntKind.wrap .i64 ((v2.Ps.length : Int) - 1))).bind fun r3 => (bif (!r3) then (some ((⟨false,0,false,(⟨0,0,0,0,0⟩ : Vec)⟩ : Pt),false)) else ((idx x0.Bs x1).bind fun v4 => ((idx v4.Ps x2).bind fun v5 => (some (v5,true)))))))))
theorem zBm (n : Nat) (x0 : Net) (x1 : Int) (x2 : Int) (r : Pt × Bool) (H : ZZ n x0 x1 x2 = some r) : zG Try.prog 130 [.val true (fR (Net.row x0)),.val false [.lit (.int .i64 x1)],.val false [.lit (.int .i64 x2)]] [.val true (Pt.row r.1),.val false [.lit (.bool r.2)]] [] := by
 refine cW Try.func130 (fun g d => sl [g 0,sl [g 1] (cn 27 (sl [g 2] .ret) .skip),g 3] .ret) [.cell 6 55,.tmp 7] fun cx=>?_
 unfold ZZ at H
 refine gA 3 78 72<|tS<|rA 3<|kF x0.Bs zA.row<|lA 1<|bE H fun r1 er1 H=> vA [.rd,.rd,.rd] (Jf n x1 0 (wI ((x0.Bs.length : Int) - 1)) r1 er1)<|lA 2 ?_
 obtain ⟨h1,H⟩ | ⟨h1,H⟩ := bC H
 ·refine qL 32846 72 [15] h1<|lA 4<|bE H fun v2 ev2 H=> iA zA.row ev2<|lA 2<|kF v2.Ps Pt.row<|lA 1<|bE H fun r3 er3 H=> vA [.rd,.rd,.rd] (Jf n x2 0 (wI ((v2.Ps.length : Int) - 1)) r3 er3)<|uA 2 134217806 72 ?_
  obtain ⟨h2,H⟩ | ⟨h2,H⟩ := bC H
  ·exact nA h2<|tK<|rA 3<|bE H fun v4 ev4 H=> iA zA.row ev4<|lA 3<|bE H fun v5 ev5 H=> iA Pt.row ev5<|uA 3 192 64<|te (fJ [(true,(Pt.row v5)),(false,[cB true])] H)
  exact tA h2<|gA 3 192 64<|te (fJ [(true,[cB false,cI 0,cB false,cI 0,cI 0,cI 0,cI 0,cI 0]),(false,[cB false])] H)
 exact qL 32846 72 [15] h1<|uA 12 134217806 72<|tB_<|gA 3 192 64<|te (fJ [(true,[cB false,cI 0,cB false,cI 0,cI 0,cI 0,cI 0,cI 0]),(false,[cB false])] H)
def za (n : Nat) (x0 : Net) (x1 : Int) : Option (Bool) :=
  ((zq n x1 0 (IntKind.wrap .i64 ((x0.Ls.length : Int) - 1))).bind fun r1 => (bif (!r1) then (some false) else ((idx x0.Ls x1).bind fun v2 => ((idx x0.Ls x1).bind fun v3 => ((ZZ n x0 v2.A v3.P).bind fun r4 => ((idx x0.Ls x1).bind fun v5 => ((idx x0.Ls x1).bind fun v6 => ((ZZ n x0 v5.B v6.Q).bind fun r7 => (bif r4.2 then (bif r7.2 then (bif r4.1.Up then (some r7.1.Up) else (some false)) else (some false)) else (some false))))))))))
def zM5 : Tab := ⟨20,[0,0,2,0,12,16,32,0,128,0,768,1024,2048,4161,8192,16384,16384,0,196607,524287],[0,0,2,0,12,16,32,0,128,0,768,1024,2048,4161,8192,16384,16384,0,163840,65536],[0,0,2,0,14,30,62,0,128,0,896,1920,3968,8191,16383,32767,32767,0,196607,524287]⟩
theorem Qw : zk (rg Try.f77 3) zM5 = true := kr
def zM6 : Tab := ⟨20,[0,0,2,0,12,16,32,0,128,0,768,1024,2048,4161,8192,16384,16384,0,196607,524287],[0,0,2,0,12,16,32,0,128,0,768,1024,2048,4161,8192,16384,16384,0,163840,65536],[0,0,2,0,14,30,62,0,128,0,896,1920,3968,8191,16383,32767,32767,0,196607,524287]⟩
theorem Qx : zk (rg Try.f77 4) zM6 = true := kr
theorem zJW (n : Nat) (x0 : Net) (x1 : Int) (r : Bool) (H : za n x0 x1 = some r) : zG Try.prog 77 [.val true (fR (Net.row x0)),.val false [.lit (.int .i64 x1)]] [.val false [.lit (.bool r)]] [] := by
 refine cW Try.func77 (fun g d => sl [g 0,sl [g 1] (cn 15 (sl [g 2] .ret) .skip),d 3,d 4,g 5] .ret) [.tmp 4] fun cx=>?_
 unfold za at H
 refine gA 2 6 4<|tS<|rA 3<|kF x0.Ls Link.row<|lA 1<|bE H fun r1 er1 H=> vA [.rd,.rd,.rd] (Jf n x1 0 (wI ((x0.Ls.length : Int) - 1)) r1 er1)<|uA 1 32774 4 ?_
 obtain ⟨h1,H⟩ | ⟨h1,H⟩ := bC H
 ·refine nA h1<|tK<|bE H fun v2 ev2 H=> bE H fun v3 ev3 H=> bE H fun r4 er4 H=> Tr.draws mixed 20 kr ⟨62,0,[sB 6 r4.2,sA 5 5 8 0,sA 2 2 3 0,sI 1 x1],[(5,(Pt.row r4.1)),(2,(fR (Net.row x0)))]⟩ (fun cx=>?_) ?_
  ·refine mA Qw [(0,[13,18]),(1,[]),(2,[13,18]),(3,[])] 16 [⟨[13,18],73,18,19⟩,⟨[13,18],76,2,17⟩] fun cx=>iN Qw 4 Link.row ev2 fun cx=>mA Qw (zl [5,6,7]++[(8,[13,18]),(9,[])]) 10 [⟨[13,18],73,24,25⟩,⟨[13,18],73,18,19⟩,⟨[13,18],76,2,17⟩] fun cx=>iN Qw 10 Link.row ev3 fun cx=>mA Qw [(11,[]),(12,[])] 7 [⟨[13,18],73,24,25⟩,⟨[13,18],73,18,19⟩,⟨[13,18],76,2,17⟩] fun cx=>mB2 tOk Qw 13 17 kr (And.intro kr ?_) (And.intro kr ?_)
   ·refine vA [.rd,.rd,.rd] (zBm n x0 v2.A v3.P r4 er4)<|fA<|AT.movT tOk 14 (ty := 178) (t := 30) (d := 16) (g := none) [(true,(Pt.row r4.1)),(false,[cB r4.2])] _ kr (oM Qw kr) (dM Qw kr) (.inl rfl) kr kr kr kr rfl (fun cx=>?_)
    exact mA Qw [(15,[]),(16,[])] 3 [⟨[13,18],73,24,25⟩,⟨[13,18],73,18,19⟩,⟨[13,18],76,2,17⟩] fun cx=>mC Qw 17<|lA 1<|fA<|mC Qw 18<|lA 1<|fA<|mA Qw [(19,[])] 0 [⟨[13,18],73,24,25⟩,⟨[13,18],73,18,19⟩,⟨[13,18],76,2,17⟩] fun cx=>mE Qw [6,5,2,1] [5,2]
   ·refine lA 1<|fA<|mC Qw 13<|vA [.rd,.rd,.rd] (zBm n x0 v2.A v3.P r4 er4)<|fA<|AT.movT tOk 14 (ty := 178) (t := 30) (d := 16) (g := none) [(true,(Pt.row r4.1)),(false,[cB r4.2])] _ kr (oM Qw kr) (dM Qw kr) (.inl rfl) kr kr kr kr rfl (fun cx=>?_)
    exact mA Qw [(15,[]),(16,[])] 2 [⟨[13,18],73,24,25⟩,⟨[13,18],73,18,19⟩,⟨[13,18],76,2,17⟩] fun cx=>mC Qw 18<|lA 1<|fA<|mA Qw [(19,[])] 0 [⟨[13,18],73,24,25⟩,⟨[13,18],73,18,19⟩,⟨[13,18],76,2,17⟩] fun cx=>mE Qw [6,5,2,1] [5,2]
  refine bE H fun v5 ev5 H=> bE H fun v6 ev6 H=> bE H fun r7 er7 H=> Tr.draws mixed 20 kr ⟨62,0,[sB 8 r7.2,sA 7 7 8 0,sB 6 r4.2,sA 5 5 8 0],[(7,(Pt.row r7.1)),(5,(Pt.row r4.1))]⟩ (fun cx=>?_) ?_
  ·refine mA Qx [(0,[13,18]),(1,[]),(2,[13,18]),(3,[])] 16 [⟨[13,18],73,35,36⟩,⟨[13,18],76,2,34⟩] fun cx=>iN Qx 4 Link.row ev5 fun cx=>mA Qx (zl [5,6,7]++[(8,[13,18]),(9,[])]) 10 [⟨[13,18],73,41,42⟩,⟨[13,18],73,35,36⟩,⟨[13,18],76,2,34⟩] fun cx=>iN Qx 10 Link.row ev6 fun cx=>mA Qx [(11,[]),(12,[])] 7 [⟨[13,18],73,41,42⟩,⟨[13,18],73,35,36⟩,⟨[13,18],76,2,34⟩] fun cx=>mB2 tOk Qx 13 17 kr (And.intro kr ?_) (And.intro kr ?_)
   ·refine vA [.rd,.rd,.rd] (zBm n x0 v5.B v6.Q r7 er7)<|fA<|AT.movT tOk 14 (ty := 178) (t := 47) (d := 33) (g := none) [(true,(Pt.row r7.1)),(false,[cB r7.2])] _ kr (oM Qx kr) (dM Qx kr) (.inl rfl) kr kr kr kr rfl (fun cx=>?_)
    exact mA Qx [(15,[]),(16,[])] 3 [⟨[13,18],73,41,42⟩,⟨[13,18],73,35,36⟩,⟨[13,18],76,2,34⟩] fun cx=>mC Qx 17<|lA 1<|fA<|mC Qx 18<|lA 1<|fA<|mA Qx [(19,[])] 0 [⟨[13,18],73,41,42⟩,⟨[13,18],73,35,36⟩,⟨[13,18],76,2,34⟩] fun cx=>mE Qx [8,7,6,5] [7,5]
   ·refine lA 1<|fA<|mC Qx 13<|vA [.rd,.rd,.rd] (zBm n x0 v5.B v6.Q r7 er7)<|fA<|AT.movT tOk 14 (ty := 178) (t := 47) (d := 33) (g := none) [(true,(Pt.row r7.1)),(false,[cB r7.2])] _ kr (oM Qx kr) (dM Qx kr) (.inl rfl) kr kr kr kr rfl (fun cx=>?_)
    exact mA Qx [(15,[]),(16,[])] 2 [⟨[13,18],73,41,42⟩,⟨[13,18],73,35,36⟩,⟨[13,18],76,2,34⟩] fun cx=>mC Qx 18<|lA 1<|fA<|mA Qx [(19,[])] 0 [⟨[13,18],73,41,42⟩,⟨[13,18],73,35,36⟩,⟨[13,18],76,2,34⟩] fun cx=>mE Qx [8,7,6,5] [7,5]
  refine rA 2 ?_
  obtain ⟨h2,H⟩ | ⟨h2,H⟩ := bC H
  ·exact qL 0x80000000001a0 160 [51] h2<|uA 11 16 0<|te (fF H)
  refine qL 0x80000000001a0 160 [51] h2<|lA 3 ?_
  obtain ⟨h3,H⟩ | ⟨h3,H⟩ := bC H
  ·exact qL 0x400000000000a0 160 [54] h3<|uA 8 16 0<|te (fF H)
  refine qL 0x400000000000a0 160 [54] h3<|lA 4 ?_
  obtain ⟨h4,H⟩ | ⟨h4,H⟩ := bC H
  ·exact qL 0x400000000000080 128 [58] h4<|uA 4 16 0<|te (fF H)
  exact qL 0x400000000000080 128 [58] h4<|uA 4 16 0<|te (fJ [(false,[cB r7.1.Up])] H)
 exact tA h1<|gA 1 16 0<|te (fF H)
def Yk (n : Nat) (y3 : (List Int)) : Option ((List Int)) :=
  (some y3)
def ZU (n : Nat) : Nat → Net → Int → (List Int) → Option (((List Int)) ⊕ ((List Int)))
  | 0,_,_,_ => none
  | mo4 + 1,x0,y1,y2 => (bif (decide (y1 < (x0.Ls.length : Int))) then ((za n x0 y1).bind fun r5 => (bif r5 then (bif (decide (y2.length + [y1].length ≤ 268435456)) then (ZU n mo4 x0 (IntKind.wrap .i64 (y1 + 1)) (y2 ++ [y1])) else none) else (ZU n mo4 x0 (IntKind.wrap .i64 (y1 + 1)) y2))) else (some (Sum.inl y2)))
def Z9 (n : Nat) (x0 : Net) : Option ((List Int)) :=
  ((ZU n n x0 0 ([] : List Int)).bind fun o => match o with | .inl y3 => (Yk n y3) | .inr r => some r)
theorem zFB (n : Nat) (x0 : Net) (r : (List Int)) (H : Z9 n x0 = some r) : zG Try.prog 74 [.val true (fR (Net.row x0))] [.val false [.sl true 1 (r.map intRow)]] [] := by
 refine cW Try.func74 (fun g d => sl [g 0,g 1,sl [g 2] (.block 0 (.loop (sl [g 3,cn 9 .skip (.exit 0),.block 1 (sl [g 4,g 5] (cn 13 (g 6) .skip))] (g 7)))),g 8] .ret) [.tmp 2] fun cx=>?_
 unfold Z9 at H
 refine gA 2 2 2<|gA 1 10 2<|tS<|rA 2<|kF x0.Ls Link.row<|uA 1 394 2 ?_
 obtain ⟨o4,eo4,Ho4⟩ := bs H
 clear H
 refine Tr.mid (ι := (List Int)) (fun v => ⟨20,0,[sC 3 (cL 1 v intRow)],[]⟩) (fun v => Yk n v = some r) ?_ ?_
 ·refine tB<|Tr.loop (ι := Nat × (Int × (List Int))) (fun v => ⟨20,0,[sI 8 v.2.1,sI 7 (x0.Ls.length : Int),sC 3 (cL 1 v.2.2 intRow),sA 1 1 3 0],[(1,(fR (Net.row x0)))]⟩) (fun v => ZU n v.1 x0 v.2.1 v.2.2 = some o4) (fun v => v.1) (n,(0,([] : List Int))) eo4 (St.sub_of [8,7,3,1] [1] kr) ?_
  rintro ⟨_ | mo4,y1,y2⟩ H
  ·exact nN H
  have H : ZU n (mo4+1) x0 y1 y2 = some o4 := H
  rw [ZU] at H
  refine gA 1 906 2<|tS ?_
  obtain ⟨h1,H⟩ | ⟨h1,H⟩ := bC H
  ·refine nA h1<|Tr.exit<|aJ ?_
   cases H
   exact jA y2 Ho4 [3] []
  refine tA h1<|tK<|tS<|tB<|gA 2 410 2<|rA 2<|bE H fun r5 er5 H=> vA [.rd,.rd] (zJW n x0 y1 r5 er5)<|dA 8602 2 ?_
  cases h2 : r5
  ·have H := Z6 h2 H
   exact nB_<|tK<|eA 2 394 2<|jB mo4 ((wI (y1 + 1)),y2) H [8,7,3,1] [1]
  have H := Z7 h2 H
  exact tB_<|Tr.at<|lA 3<|gE H fun hg6 H=> LAt.appMU tOk (t := 38) (ty := 38) (e := 3) (x := (.tmp 14)) (y := (.tmp 16)) (d := 17) (g := none) (tI 3) intRow y2 [y1] kr kr kr kr kr kr kr kr kr kr hg6<|LAt.moveU (T := lk tab) (ty := 38) (x := (.tmp 17)) (d := 3) (g := none) false [cL 1 (y2 ++ [y1]) intRow] kr kr kr kr kr<|dA 394 2<|eA 2 394 2<|jB mo4 ((wI (y1 + 1)),(y2 ++ [y1])) H [8,7,3,1] [1]
 rintro y3 H
 have H : (Yk n y3) = some r := H
 unfold Yk at H
 exact gA 2 12 0<|te (fJ [(false,[cL 1 y3 intRow])] H)
def Y9 (n : Nat) (y9 : (List Int)) : Option ((List Int)) :=
  (some y9)
def Zo (n : Nat) : Nat → (List Bool) → Int → (List Int) → Option (((List Int)) ⊕ ((List Int)))
  | 0,_,_,_ => none
  | mo10 + 1,y6,y7,y8 => (bif (decide (y7 < (y6.length : Int))) then ((idx y6 y7).bind fun v11 => (bif v11 then (bif (decide (y8.length + [y7].length ≤ 268435456)) then (Zo n mo10 y6 (IntKind.wrap .i64 (y7 + 1)) (y8 ++ [y7])) else none) else (Zo n mo10 y6 (IntKind.wrap .i64 (y7 + 1)) y8))) else (some (Sum.inl y8)))
def Y8 (n : Nat) (y6 : (List Bool)) : Option ((List Int)) :=
  ((Zo n n y6 0 ([] : List Int)).bind fun o => match o with | .inl y9 => (Y9 n y9) | .inr r => some r)
def JA (n : Nat) (k : (Bool × (List Bool) → Option (((List Bool)) ⊕ ((List Int))))) (y17 : Bool) (y18 : (List Bool)) : Option (((List Bool)) ⊕ ((List Int))) :=
  (k (y17,y18))
def Zm (n : Nat) (k : (Int × Bool × (List Bool) → Option ((Bool × (List Bool)) ⊕ ((List Int))))) (v22 : Link) (y14 : Int) (y15 : Bool) (y16 : (List Bool)) (y23 : Bool) : Option ((Bool × (List Bool)) ⊕ ((List Int))) :=
  (bif y23 then ((idx y16 v22.A).bind fun v24 => ((idx (y16.set (v22.A.toNat) true) v22.B).bind fun v25 => (k ((IntKind.wrap .i64 (y14 + 1)),true,((y16.set (v22.A.toNat) true).set (v22.B.toNat) true))))) else (k ((IntKind.wrap .i64 (y14 + 1)),y15,y16)))
def qZ (n : Nat) : Nat → Net → (List Int) → Int → Bool → (List Bool) → Option ((Bool × (List Bool)) ⊕ ((List Int)))
  | 0,_,_,_,_,_ => none
  | mo19 + 1,x0,x2,y14,y15,y16 => (bif (decide (y14 < (x2.length : Int))) then ((idx x2 y14).bind fun v20 => ((zq n v20 0 (IntKind.wrap .i64 ((x0.Ls.length : Int) - 1))).bind fun r21 => (bif (!r21) then (qZ n mo19 x0 x2 (IntKind.wrap .i64 (y14 + 1)) y15 y16) else ((idx x0.Ls v20).bind fun v22 => ((zq n v22.A 0 (IntKind.wrap .i64 ((y16.length : Int) - 1))).bind fun r26 => (bif r26 then ((zq n v22.B 0 (IntKind.wrap .i64 ((y16.length : Int) - 1))).bind fun r27 => (bif r27 then ((idx y16 v22.A).bind fun v28 => ((idx y16 v22.B).bind fun v29 => (Zm n (fun v => qZ n mo19 x0 x2 v.1 v.2.1 v.2.2) v22 y14 y15 y16 (!(v28 == v29))))) else (Zm n (fun v => qZ n mo19 x0 x2 v.1 v.2.1 v.2.2) v22 y14 y15 y16 false))) else (Zm n (fun v => qZ n mo19 x0 x2 v.1 v.2.1 v.2.2) v22 y14 y15 y16 false))))))) else (some (Sum.inl (y15,y16))))
def Zp (n : Nat) : Nat → Net → (List Int) → Bool → (List Bool) → Option (((List Bool)) ⊕ ((List Int)))
  | 0,_,_,_,_ => none
  | mo13 + 1,x0,x2,y4,y5 => (bif y4 then ((qZ n n x0 x2 0 false y5).bind fun o => match o with | .inl (y17,y18) => (JA n (fun v => Zp n mo13 x0 x2 v.1 v.2) y17 y18) | .inr r => some (Sum.inr r)) else (some (Sum.inl y5)))
def YO (n : Nat) (x0 : Net) (x1 : Int) (x2 : (List Int)) : Option ((List Int)) :=
  ((zq n x1 0 (IntKind.wrap .i64 ((x0.Bs.length : Int) - 1))).bind fun r1 => (bif (!r1) then (some ([] : List Int)) else (bif (decide (0 ≤ (x0.Bs.length : Int)) && decide ((x0.Bs.length : Int) ≤ 268435456)) then ((idx (List.replicate ((x0.Bs.length : Int)).toNat false) x1).bind fun v3 => ((Zp n n x0 x2 true ((List.replicate ((x0.Bs.length : Int)).toNat false).set (x1.toNat) true)).bind fun o => match o with | .inl y6 => (Y8 n y6) | .inr r => some r)) else none)))
def zLy : Tab := ⟨27,[0,1,0,4,8,18,32,64,192,64,576,1088,2368,4160,12288,16384,16384,81920,180224,278528,16384,16384,2113536,5259264,8404992,17317888,33570816],[0,1,0,4,8,18,32,64,192,64,576,1088,2368,4160,8192,16384,16384,81920,180224,278528,16384,16384,2113536,5259264,8404992,17317888,33570816],[0,1,0,4,12,31,63,127,255,127,639,1663,4095,8191,16383,32767,32767,98303,262143,524287,32767,32767,2129919,7372799,15761407,33554431,67108863]⟩
theorem zn : zk (rg Try.f127 13) zLy = true := kr
theorem zJV (n : Nat) (x0 : Net) (x1 : Int) (x2 : (List Int)) (r : (List Int)) (H : YO n x0 x1 x2 = some r) : zG Try.prog 127 [.val true (fR (Net.row x0)),.val false [.lit (.int .i64 x1)],.val false [.sl false 1 (CV.frzEs (x2.map intRow))]] [.val false [.sl true 1 (r.map intRow)]] [] := by
 refine cW Try.func127 (fun g d => sl [g 0,sl [g 1] (cn 21 (sl [g 2] .ret) .skip),g 3,g 4,sl [g 5] (.block 0 (.loop (sl [sl [g 6] (cn 29 .skip (.exit 0))] (.block 1 (sl [g 7,g 8] (.block 2 (.loop (sl [g 9,cn 33 .skip (.exit 2),.block 3 (sl [g 10,sl [g 11] (cn 42 (.exit 3) .skip),g 12,d 13] (cn 74 (sl [d 14] (g 15)) .skip))] (g 16))))))))),g 17,sl [g 18] (.block 4 (.loop (sl [g 19,cn 87 .skip (.exit 4),.block 5 (sl [g 20,g 21] (cn 91 (g 22) .skip))] (g 23)))),g 24] .ret) [.tmp 6] fun cx=>?_
 unfold YO at H
 refine gA 2 14 8<|tS<|rA 3<|kF x0.Bs zA.row<|lA 1<|bE H fun r1 er1 H=> vA [.rd,.rd,.rd] (Jf n x1 0 (wI ((x0.Bs.length : Int) - 1)) r1 er1)<|uA 1 2097166 8 ?_
 obtain ⟨h1,H⟩ | ⟨h1,H⟩ := bC H
 ·refine nA h1<|tK<|rA 2<|kF x0.Bs zA.row<|gE H fun hg2 H=> LAt.makeG tOk (t := 206) (ty := 206) (e := 4) (x := (.tmp 24)) (d := 25) (g := none) (tI 4) (x0.Bs.length : Int) ((List.replicate ((x0.Bs.length : Int)).toNat false).map boolRow) _ kr kr kr kr kr kr hg2 kr (zJ3 _ rfl) rfl<|LAt.moveU (T := lk tab) (ty := 206) (x := (.tmp 25)) (d := 7) (g := none) false [cL 1 (List.replicate ((x0.Bs.length : Int)).toNat false) boolRow] kr kr kr kr kr<|dA 142 8<|rA 2<|bE H fun v3 ev3 H=> oA boolRow ev3<|sS (tI 4) false [cB true] 7 0 (x1.toNat) 1 0 1 boolRow true (zF ev3).2<|dA 140 8<|tS<|gA 1 396 8 ?_
  obtain ⟨o13,eo13,Ho13⟩ := bs H
  clear H
  refine Tr.mid (ι := (List Bool)) (fun v => ⟨98,0,[sC 7 (cL 1 v boolRow)],[]⟩) (fun v => Y8 n v = some r) ?_ ?_
  ·refine tB<|Tr.loop (ι := Nat × (Bool × (List Bool))) (fun v => ⟨98,0,[sB 8 v.2.1,sC 7 (cL 1 v.2.2 boolRow),sA 3 3 3 0,sC 2 (cF 1 x2 intRow)],[(3,(fR (Net.row x0)))]⟩) (fun v => Zp n v.1 x0 x2 v.2.1 v.2.2 = some o13) (fun v => v.1) (n,(true,((List.replicate ((x0.Bs.length : Int)).toNat false).set (x1.toNat) true))) eo13 (St.sub_of [8,7,3,2] [3] kr) ?_
   rintro ⟨_ | mo13,y4,y5⟩ H
   ·exact nN H
   have H : Zp n (mo13+1) x0 x2 y4 y5 = some o13 := H
   rw [Zp] at H
   refine tS<|gA 1 536871052 8 ?_
   cases h4 : y4
   ·have H := Z6 h4 H
    refine nB_<|Tr.exit<|aJ ?_
    cases H
    exact jA y5 Ho13 [7] []
   have H := Z7 h4 H
   refine tB_<|tK<|tB<|gA 1 396 8<|rA 1<|kF x2 intRow<|uA 1 7516193164 8 ?_
   obtain ⟨o19,eo19,Ho19⟩ := bs H
   clear H
   refine Tr.mid (ι := Bool × (List Bool)) (fun v => ⟨98,0,[sB 8 v.1,sC 7 (cL 1 v.2 boolRow),sA 3 3 3 0,sC 2 (cF 1 x2 intRow)],[(3,(fR (Net.row x0)))]⟩) (fun v => JA n (fun v => Zp n mo13 x0 x2 v.1 v.2) v.1 v.2 = some o13) ?_ ?_
   ·refine tB<|Tr.loop (ι := Nat × (Int × Bool × (List Bool))) (fun v => ⟨98,0,[sI 32 v.2.1,sI 31 (x2.length : Int),sC 30 (cF 1 x2 intRow),sB 8 v.2.2.1,sC 7 (cL 1 v.2.2.2 boolRow),sA 3 3 3 0,sC 2 (cF 1 x2 intRow)],[(3,(fR (Net.row x0)))]⟩) (fun v => qZ n v.1 x0 x2 v.2.1 v.2.2.1 v.2.2.2 = some o19) (fun v => v.1) (n,(0,false,y5)) eo19 (St.sub_of [32,31,30,8,7,3,2] [3] kr) ?_
    rintro ⟨_ | mo19,y14,y15,y16⟩ H
    ·exact nN H
    have H : qZ n (mo19+1) x0 x2 y14 y15 y16 = some o19 := H
    rw [qZ] at H
    refine gA 1 16106127756 8<|tS ?_
    obtain ⟨h5,H⟩ | ⟨h5,H⟩ := bC H
    ·refine nA h5<|Tr.exit<|aJ ?_
     cases H
     exact jA (y15,y16) Ho19 [8,7,3,2] [3]
    refine tA h5<|tK<|tS<|tB<|tR<|bE H fun v20 ev20 H=> iA intRow ev20<|uA 2 7516194188 8<|tS<|rA 3<|kF x0.Ls Link.row<|lA 1<|bE H fun r21 er21 H=> vA [.rd,.rd,.rd] (Jf n v20 0 (wI ((x0.Ls.length : Int) - 1)) r21 er21)<|uA 1 4405562705292 8 ?_
    obtain ⟨h6,H⟩ | ⟨h6,H⟩ := bC H
    ·refine nA h6<|tK<|rA 3<|bE H fun v22 ev22 H=> iA Link.row ev22<|uA 3 7516195212 2056<|tS<|Tr.mid (ι := Bool) (fun v => ⟨98,0,[sB 74 v,sA 11 11 4 0,sI 32 y14,sI 31 (x2.length : Int),sC 30 (cF 1 x2 intRow),sB 8 y15,sC 7 (cL 1 y16 boolRow),sA 3 3 3 0,sC 2 (cF 1 x2 intRow)],[(11,(Link.row v22)),(3,(fR (Net.row x0)))]⟩) (fun v => Zm n (fun v => qZ n mo19 x0 x2 v.1 v.2.1 v.2.2) v22 y14 y15 y16 v = some o19) ?_ ?_
     ·refine bE H fun r26 er26 H=> sT ⟨98,0,[sA 11 11 4 0,sI 32 y14,sI 31 (x2.length : Int),sC 30 (cF 1 x2 intRow),sB 8 y15,sC 7 (cL 1 y16 boolRow),sA 3 3 3 0,sC 2 (cF 1 x2 intRow)],[(11,(Link.row v22)),(3,(fR (Net.row x0)))]⟩ ?_
      cases h8 : r26
      ·have H := Z6 h8 H
       refine Tr.draw mixed 27 kr ⟨98,0,[sB 74 false,sA 11 11 4 0,sI 32 y14,sI 31 (x2.length : Int),sC 30 (cF 1 x2 intRow),sB 8 y15,sC 7 (cL 1 y16 boolRow),sA 3 3 3 0,sC 2 (cF 1 x2 intRow)],[(11,(Link.row v22)),(3,(fR (Net.row x0)))]⟩ (fun cx=>?_) ?_
       ·exact mA zn [(0,[]),(1,[5]),(2,[])] 24 [⟨[5],3,48,49⟩] fun cx=>kON zn 3 y16 boolRow fun cx=>mA zn [(4,[])] 22 [⟨[5],3,48,49⟩] fun cx=>mC zn 5<|vA [.rd,.rd,.rd] (Jf n v22.A 0 (wI ((y16.length : Int) - 1)) r26 er26)<|fA<|mA zn [(6,[])] 20 [⟨[5],3,48,49⟩] fun cx=>qA 0x430001c000098c 2056 [54] h8<|mA zn (zl [7,8,9,10,11,12,13,14,15,16,17,18,19,20,21,22,23,24,25,26]) 0 [⟨[5],3,48,49⟩] fun cx=>mE zn [74,11,32,31,30,8,7,3,2] [11,3]
       exact jA false H [74,11,32,31,30,8,7,3,2] [11,3]
      have H := Z7 h8 H
      refine bE H fun r27 er27 H=> sT ⟨98,0,[sA 11 11 4 0,sI 32 y14,sI 31 (x2.length : Int),sC 30 (cF 1 x2 intRow),sB 8 y15,sC 7 (cL 1 y16 boolRow),sA 3 3 3 0,sC 2 (cF 1 x2 intRow)],[(11,(Link.row v22)),(3,(fR (Net.row x0)))]⟩ ?_
      cases h9 : r27
      ·have H := Z6 h9 H
       refine Tr.draw mixed 27 kr ⟨98,0,[sB 74 false,sA 11 11 4 0,sI 32 y14,sI 31 (x2.length : Int),sC 30 (cF 1 x2 intRow),sB 8 y15,sC 7 (cL 1 y16 boolRow),sA 3 3 3 0,sC 2 (cF 1 x2 intRow)],[(11,(Link.row v22)),(3,(fR (Net.row x0)))]⟩ (fun cx=>?_) ?_
       ·exact mA zn [(0,[]),(1,[5,12]),(2,[])] 24 [⟨[5,12],3,48,49⟩] fun cx=>kON zn 3 y16 boolRow fun cx=>mA zn [(4,[])] 22 [⟨[5,12],3,48,49⟩] fun cx=>mC zn 5<|vA [.rd,.rd,.rd] (Jf n v22.A 0 (wI ((y16.length : Int) - 1)) r26 er26)<|fA<|mA zn [(6,[])] 20 [⟨[5,12],3,48,49⟩] fun cx=>qA 0x430001c000098c 2056 [54] h8<|mA zn [(7,[]),(8,[12]),(9,[])] 17 [⟨[12],3,55,56⟩,⟨[5,12],3,48,49⟩] fun cx=>kON zn 10 y16 boolRow fun cx=>mA zn [(11,[])] 15 [⟨[12],3,55,56⟩,⟨[5,12],3,48,49⟩] fun cx=>mC zn 12<|vA [.rd,.rd,.rd] (Jf n v22.B 0 (wI ((y16.length : Int) - 1)) r27 er27)<|fA<|mA zn [(13,[]),(14,[])] 12 [⟨[12],3,55,56⟩,⟨[5,12],3,48,49⟩] fun cx=>qA 0x41830001c000098c 2056 [62] h9<|mA zn (zl [15,16,17,18,19,20,21,22,23,24,25,26]) 0 [⟨[12],3,55,56⟩,⟨[5,12],3,48,49⟩] fun cx=>mE zn [74,11,32,31,30,8,7,3,2] [11,3]
       exact jA false H [74,11,32,31,30,8,7,3,2] [11,3]
      have H := Z7 h9 H
      refine bE H fun v28 ev28 H=> bE H fun v29 ev29 H=> Tr.draw mixed 27 kr ⟨98,0,[sB 74 (!(v28 == v29)),sA 11 11 4 0,sI 32 y14,sI 31 (x2.length : Int),sC 30 (cF 1 x2 intRow),sB 8 y15,sC 7 (cL 1 y16 boolRow),sA 3 3 3 0,sC 2 (cF 1 x2 intRow)],[(11,(Link.row v22)),(3,(fR (Net.row x0)))]⟩ (fun cx=>?_) ?_
      ·refine mA zn [(0,[]),(1,[5,12]),(2,[])] 24 [⟨[5,12],3,48,49⟩] fun cx=>kON zn 3 y16 boolRow fun cx=>mA zn [(4,[])] 22 [⟨[5,12],3,48,49⟩] fun cx=>mC zn 5<|vA [.rd,.rd,.rd] (Jf n v22.A 0 (wI ((y16.length : Int) - 1)) r26 er26)<|fA<|mA zn [(6,[])] 20 [⟨[5,12],3,48,49⟩] fun cx=>qA 0x430001c000098c 2056 [54] h8<|mA zn [(7,[]),(8,[12]),(9,[])] 17 [⟨[12],3,55,56⟩,⟨[5,12],3,48,49⟩] fun cx=>kON zn 10 y16 boolRow fun cx=>mA zn [(11,[])] 15 [⟨[12],3,55,56⟩,⟨[5,12],3,48,49⟩] fun cx=>mC zn 12<|vA [.rd,.rd,.rd] (Jf n v22.B 0 (wI ((y16.length : Int) - 1)) r27 er27)<|fA<|mA zn [(13,[]),(14,[])] 12 [⟨[12],3,55,56⟩,⟨[5,12],3,48,49⟩] fun cx=>qA 0x41830001c000098c 2056 [62] h9<|mA zn (zl [15,16,17]) 9 [⟨[],3,64,65⟩,⟨[12],3,55,56⟩,⟨[5,12],3,48,49⟩] fun cx=>oN zn 18 boolRow ev28 fun cx=>mA zn (zl [20,21,22]) 5 [⟨[],3,69,70⟩,⟨[],3,64,65⟩,⟨[12],3,55,56⟩,⟨[5,12],3,48,49⟩] fun cx=>oN zn 23 boolRow ev29 fun cx=>mB2 tOk zn 19 24 kr (And.intro kr ?_) (And.intro kr ?_)
       ·exact dE (tI 4) (.slot 7) [(0,(v22.A.toNat))] 1 0 [cL 1 y16 boolRow] (boolRow v28) (Yh rfl (zF ev28).2)<|fA<|mC zn 24<|dE (tI 4) (.slot 7) [(0,(v22.B.toNat))] 1 0 [cL 1 y16 boolRow] (boolRow v29) (Yh rfl (zF ev29).2)<|fA<|mA zn [(25,[]),(26,[])] 0 [⟨[],3,69,70⟩,⟨[],3,64,65⟩,⟨[12],3,55,56⟩,⟨[5,12],3,48,49⟩] fun cx=>mE zn [74,11,32,31,30,8,7,3,2] [11,3]
       ·exact dE (tI 4) (.slot 7) [(0,(v22.B.toNat))] 1 0 [cL 1 y16 boolRow] (boolRow v29) (Yh rfl (zF ev29).2)<|fA<|mC zn 19<|dE (tI 4) (.slot 7) [(0,(v22.A.toNat))] 1 0 [cL 1 y16 boolRow] (boolRow v28) (Yh rfl (zF ev28).2)<|fA<|mA zn [(25,[]),(26,[])] 0 [⟨[],3,69,70⟩,⟨[],3,64,65⟩,⟨[12],3,55,56⟩,⟨[5,12],3,48,49⟩] fun cx=>mE zn [74,11,32,31,30,8,7,3,2] [11,3]
      exact jA (!(v28 == v29)) H [74,11,32,31,30,8,7,3,2] [11,3]
     rintro y23 H
     have H : (Zm n (fun v => qZ n mo19 x0 x2 v.1 v.2.1 v.2.2) v22 y14 y15 y16 y23) = some o19 := H
     unfold Zm at H
     cases h7 : y23
     ·have H := Z6 h7 H
      exact nB_<|tK<|eA 2 7516193164 8<|jB mo19 ((wI (y14 + 1)),y15,y16) H [32,31,30,8,7,3,2] [3]
     have H := Z7 h7 H
     refine tB_<|bE H fun v24 ev24 H=> bE H fun v25 ev25 H=> Tr.draws mixed 10 kr ⟨98,0,[sC 7 (cL 1 ((y16.set (v22.A.toNat) true).set (v22.B.toNat) true) boolRow),sI 32 y14,sI 31 (x2.length : Int),sC 30 (cF 1 x2 intRow),sA 3 3 3 0,sC 2 (cF 1 x2 intRow)],[(3,(fR (Net.row x0)))]⟩ (fun cx=>?_) ?_
     ·refine aA [(0,[]),(1,[]),(2,[7,9]),(3,[]),(4,[]),(5,[9])] 4 [⟨[9],3,79,80⟩,⟨[7,9],3,76,77⟩] fun cx=>aO tOk 6 206 0 75 77 81 none ⟨(.slot 7),[],0,true,1,(y16.map boolRow)⟩ v22.A (v22.A.toNat) (boolRow v24) _ kr kr kr kr kr kr rfl kr (YD ev24) rfl rfl (fun cx=>?_)
      refine bA 7<|sS (tI 4) false [cB true] 7 0 (v22.A.toNat) 1 0 1 boolRow true (zF ev24).2<|fA<|aO tOk 8 206 0 78 80 82 none ⟨(.slot 7),[],0,true,1,((y16.set (v22.A.toNat) true).map boolRow)⟩ v22.B (v22.B.toNat) (boolRow v25) _ kr kr kr kr kr kr rfl kr (YD ev25) rfl rfl (fun cx=>?_)
      exact sA_ 0x5b00000000001c000008c 2056 ⟨98,0,[(82,.adr (.slot 7) [(0,(v22.B.toNat))] 1 0),sC 7 (cL 1 (y16.set (v22.A.toNat) true) boolRow),sI 80 v22.B,sA 79 11 4 2,sI 77 v22.A,sA 76 11 4 0,sI 32 y14,sI 31 (x2.length : Int),sC 30 (cF 1 x2 intRow),sA 3 3 3 0,sC 2 (cF 1 x2 intRow)],[(11,(Link.row v22)),(3,(fR (Net.row x0)))]⟩<|bA 9<|sS (tI 4) false [cB true] 7 0 (v22.B.toNat) 1 0 1 boolRow true (zF ev25).2<|fA<|eE [7,32,31,30,3,2] [3]
     exact eA 1 7516193164 8<|eA 2 7516193164 8<|jB mo19 ((wI (y14 + 1)),true,((y16.set (v22.A.toNat) true).set (v22.B.toNat) true)) H [32,31,30,8,7,3,2] [3]
    exact tA h6<|Tr.exit<|aJ<|eA 2 7516193164 8<|jB mo19 ((wI (y14 + 1)),y15,y16) H [32,31,30,8,7,3,2] [3]
   rintro ⟨y17,y18⟩ H
   have H : (JA n (fun v => Zp n mo13 x0 x2 v.1 v.2) y17 y18) = some o13 := H
   unfold JA at H
   exact jB mo13 (y17,y18) H [8,7,3,2] [3]
  rintro y6 H
  have H : (Y8 n y6) = some r := H
  unfold Y8 at H
  refine gA 1 4224 0<|tS<|rA 1<|kO y6 boolRow<|uA 1 0x7000000000000000001080 0 ?_
  obtain ⟨o10,eo10,Ho10⟩ := bs H
  clear H
  refine Tr.mid (ι := (List Int)) (fun v => ⟨98,0,[sC 12 (cL 1 v intRow)],[]⟩) (fun v => Y9 n v = some r) ?_ ?_
  ·refine tB<|Tr.loop (ι := Nat × (Int × (List Int))) (fun v => ⟨98,0,[sI 86 v.2.1,sI 85 (y6.length : Int),(84,.ref (.slot 7) [] 0 0 1 false),sC 12 (cL 1 v.2.2 intRow),sC 7 (cL 1 y6 boolRow)],[]⟩) (fun v => Zo n v.1 y6 v.2.1 v.2.2 = some o10) (fun v => v.1) (n,(0,([] : List Int))) eo10 (St.sub_of [86,85,84,12,7] [] kr) ?_
   rintro ⟨_ | mo10,y7,y8⟩ H
   ·exact nN H
   have H : Zo n (mo10+1) y6 y7 y8 = some o10 := H
   rw [Zo] at H
   refine gA 1 0xf000000000000000001080 0<|tS ?_
   obtain ⟨h2,H⟩ | ⟨h2,H⟩ := bC H
   ·refine nA h2<|Tr.exit<|aJ ?_
    cases H
    exact jA y8 Ho10 [12] []
   refine tA h2<|tK<|tS<|tB<|rA 1<|bE H fun v11 ev11 H=> oA boolRow ev11<|dE (tI 4) (.slot 7) [(0,(y7.toNat))] 1 0 [cL 1 y6 boolRow] (boolRow v11) (Yh rfl (zF ev11).2)<|uA 2 0x7000000000000000007080 0<|gA 1 0x87000000000000000003080 0 ?_
   cases h3 : v11
   ·have H := Z6 h3 H
    exact nB_<|tK<|eA 2 0x7000000000000000001080 0<|jB mo10 ((wI (y7 + 1)),y8) H [86,85,84,12,7] []
   have H := Z7 h3 H
   exact tB_<|Tr.at<|lA 3<|gE H fun hg12 H=> LAt.appMU tOk (t := 38) (ty := 38) (e := 3) (x := (.tmp 92)) (y := (.tmp 94)) (d := 95) (g := none) (tI 3) intRow y8 [y7] kr kr kr kr kr kr kr kr kr kr hg12<|LAt.moveU (T := lk tab) (ty := 38) (x := (.tmp 95)) (d := 12) (g := none) false [cL 1 (y8 ++ [y7]) intRow] kr kr kr kr kr<|dA 0x7000000000000000001080 0<|eA 2 0x7000000000000000001080 0<|jB mo10 ((wI (y7 + 1)),(y8 ++ [y7])) H [86,85,84,12,7] []
  rintro y9 H
  have H : (Y9 n y9) = some r := H
  unfold Y9 at H
  exact gA 2 4160 0<|te (fJ [(false,[cL 1 y9 intRow])] H)
 exact tA h1<|gA 1 64 0<|te (fJ [(false,[cL 1 ([] : List Int) intRow])] H)
def zAB (n : Nat) (y5 : Int) : Option (Int) :=
  (some y5)
def ZJ (n : Nat) : Nat → (List Int) → Net → Int → Int → Option ((Int) ⊕ (Int))
  | 0,_,_,_,_ => none
  | mo6 + 1,r2,x0,y3,y4 => (bif (decide (y3 < (r2.length : Int))) then ((idx r2 y3).bind fun v7 => (bif (decide (y4 < 0)) then (ZJ n mo6 r2 x0 (IntKind.wrap .i64 (y3 + 1)) v7) else ((idx x0.Bs v7).bind fun v8 => ((idx x0.Bs y4).bind fun v9 => (bif (decide (v8.Id < v9.Id)) then (ZJ n mo6 r2 x0 (IntKind.wrap .i64 (y3 + 1)) v7) else (ZJ n mo6 r2 x0 (IntKind.wrap .i64 (y3 + 1)) y4)))))) else (some (Sum.inl y4)))
def q9 (n : Nat) (x0 : Net) (x1 : Int) : Option (Int) :=
  ((Z9 n x0).bind fun r1 => ((YO n x0 x1 r1).bind fun r2 => ((ZJ n n r2 x0 0 (-1)).bind fun o => match o with | .inl y5 => (zAB n y5) | .inr r => some r)))
def zM3 : Tab := ⟨17,[0,1,2,4,12,4,52,68,132,4,516,4,3076,4100,8196,16644,32772],[0,1,2,4,12,4,52,68,132,4,516,4,3076,4100,8196,16644,32772],[0,1,3,7,15,7,63,127,255,7,519,7,3591,7687,15879,32767,65535]⟩
theorem zBg : zk (rg Try.f72 5) zM3 = true := kr
theorem zF1 (n : Nat) (x0 : Net) (x1 : Int) (r : Int) (H : q9 n x0 x1 = some r) : zG Try.prog 72 [.val true (fR (Net.row x0)),.val false [.lit (.int .i64 x1)]] [.val false [.lit (.int .i64 r)]] [] := by
 refine cW Try.func72 (fun g d => sl [g 0,g 1,sl [d 2] (.block 0 (.loop (sl [g 3,cn 15 .skip (.exit 0),.block 1 (sl [g 4,d 5] (cn 34 (g 6) .skip))] (g 7)))),g 8] .ret) [.tmp 4] fun cx=>?_
 unfold q9 at H
 refine gA 2 6 4<|gA 1 38 4<|tS<|bE H fun r1 er1 H=> bE H fun r2 er2 H=> Tr.draws mixed 7 kr ⟨38,0,[sI 14 0,sI 13 (r2.length : Int),sC 12 (cL 1 r2 intRow),sI 5 (-1),sA 2 2 3 0],[(2,(fR (Net.row x0)))]⟩ (fun cx=>?_) ?_
 ·refine aA [(0,[4]),(1,[]),(2,[3,4]),(6,[])] 3 [⟨[3,4],76,2,10⟩,⟨[4],76,2,8⟩] fun cx=>bA 3<|vA [.rd] (zFB n x0 r1 er1)<|fA<|bA 4<|vA [.rd,.rd,.rd] (zJV n x0 x1 r1 r2 er2)<|fA<|aL tOk 5 38 3 3 12 13 none ⟨(.slot 12),[],0,true,1,(r2.map intRow)⟩ (r2).length _ kr kr kr kr kr kr kr (zD0 _ _) rfl (fun cx=>?_)
  exact eE [14,13,12,5,2] [2]
 obtain ⟨o6,eo6,Ho6⟩ := bs H
 clear H
 refine Tr.mid (ι := Int) (fun v => ⟨38,0,[sI 5 v],[]⟩) (fun v => zAB n v = some r) ?_ ?_
 ·refine tB<|Tr.loop (ι := Nat × (Int × Int)) (fun v => ⟨38,0,[sI 14 v.2.1,sI 13 (r2.length : Int),sC 12 (cL 1 r2 intRow),sI 5 v.2.2,sA 2 2 3 0],[(2,(fR (Net.row x0)))]⟩) (fun v => ZJ n v.1 r2 x0 v.2.1 v.2.2 = some o6) (fun v => v.1) (n,(0,(-1))) eo6 (St.sub_of [14,13,12,5,2] [2] kr) ?_
  rintro ⟨_ | mo6,y3,y4⟩ H
  ·exact nN H
  have H : ZJ n (mo6+1) r2 x0 y3 y4 = some o6 := H
  rw [ZJ] at H
  refine gA 1 61476 4<|tS ?_
  obtain ⟨h1,H⟩ | ⟨h1,H⟩ := bC H
  ·refine nA h1<|Tr.exit<|aJ ?_
   cases H
   exact jA y4 Ho6 [5] []
  refine tA h1<|tK<|tS<|tB<|tR<|bE H fun v7 ev7 H=> oA intRow ev7<|dE (tI 3) (.slot 12) [(0,(y3.toNat))] 1 0 [cL 1 r2 intRow] (intRow v7) (Yh rfl (zF ev7).2)<|uA 1 28836 4<|sT ⟨38,0,[sI 7 v7,sI 14 y3,sI 13 (r2.length : Int),sC 12 (cL 1 r2 intRow),sI 5 y4,sA 2 2 3 0],[(2,(fR (Net.row x0)))]⟩ ?_
  cases h2 : (decide (y4 < 0))
  ·have H := Z6 h2 H
   refine bE H fun v8 ev8 H=> bE H fun v9 ev9 H=> Tr.draws mixed 17 kr ⟨38,0,[sB 34 (decide (v8.Id < v9.Id)),sI 7 v7,sI 14 y3,sI 13 (r2.length : Int),sC 12 (cL 1 r2 intRow),sI 5 y4,sA 2 2 3 0],[(2,(fR (Net.row x0)))]⟩ (fun cx=>?_) ?_
   ·exact mA zBg (zl [0,1,2]) 14 [] fun cx=>qA 1077412 4 [20] h2<|mA zBg (zl [3,4,5]) 11 [⟨[],53,21,22⟩] fun cx=>iN zBg 6 zA.row ev8 fun cx=>mA zBg (zl [7,8,9,10,11]) 5 [⟨[],53,27,28⟩,⟨[],53,21,22⟩] fun cx=>iN zBg 12 zA.row ev9 fun cx=>mA zBg (zl [13,14,15,16]) 0 [⟨[],53,27,28⟩,⟨[],53,21,22⟩] fun cx=>mE zBg [34,7,14,13,12,5,2] [2]
   obtain ⟨h3,H⟩ | ⟨h3,H⟩ := bC H
   ·exact qT [34] h3<|nB_<|tK<|eA 2 28708 4<|jB mo6 ((wI (y3 + 1)),y4) H [14,13,12,5,2] [2]
   exact qT [34] h3<|tB_<|eA 2 28708 4<|eA 2 28708 4<|jB mo6 ((wI (y3 + 1)),v7) H [14,13,12,5,2] [2]
  have H := Z7 h2 H
  refine Tr.draws mixed 17 kr ⟨38,0,[sB 34 true,sI 7 v7,sI 14 y3,sI 13 (r2.length : Int),sC 12 (cL 1 r2 intRow),sI 5 y4,sA 2 2 3 0],[(2,(fR (Net.row x0)))]⟩ (fun cx=>?_) ?_
  ·exact mA zBg (zl [0,1,2]) 14 [] fun cx=>qA 1077412 4 [20] h2<|mA zBg (zl [3,4,5,6,7,8,9,10,11,12,13,14,15,16]) 0 [] fun cx=>mE zBg [34,7,14,13,12,5,2] [2]
  exact tB_<|eA 2 28708 4<|eA 2 28708 4<|jB mo6 ((wI (y3 + 1)),v7) H [14,13,12,5,2] [2]
 rintro y5 H
 have H : (zAB n y5) = some r := H
 unfold zAB at H
 exact gA 2 16 0<|te (fJ [(false,[cI y5])] H)
def Qz (n : Nat) (x0 : Int) (x1 : Int) (x2 : Int) (x3 : (List Int)) (x4 : Net) : Option ((List Int)) :=
  ((idx x3 x0).bind fun v1 => (bif (decide (v1 < 0)) then (some x3) else ((idx x4.Bs x1).bind fun v2 => ((idx v2.Ps x2).bind fun v3 => ((idx x3 x1).bind fun v4 => (bif (decide (v4 < 0)) then (some (x3.set (x1.toNat) (IntKind.wrap .i64 (v1 + v3.Co)))) else (bif (decide ((IntKind.wrap .i64 (v1 + v3.Co)) < v4)) then (some (x3.set (x1.toNat) (IntKind.wrap .i64 (v1 + v3.Co)))) else (some x3))))))))
def zM4 : Tab := ⟨16,[0,0,3,4,0,16,0,96,128,256,0,1536,2048,4096,8200,32767],[0,0,3,4,0,16,0,96,128,256,0,1536,2048,4096,8200,16384],[0,0,3,7,0,16,0,112,240,496,0,2032,4080,8176,16383,32767]⟩
noncomputable abbrev G73 (k : Nat) := Rg Try.f73 k
noncomputable abbrev D73 (k : Nat) := Rd Try.f73 k
theorem zBh : zk (rg Try.f73 1) zM4 = true := kr
theorem zDs (n : Nat) (x0 : Int) (x1 : Int) (x2 : Int) (x3 : (List Int)) (x4 : Net) (r : (List Int)) (H : Qz n x0 x1 x2 x3 x4 = some r) : zG Try.prog 73 [.val false [.lit (.int .i64 x0)],.val false [.lit (.int .i64 x1)],.val false [.lit (.int .i64 x2)],.ptr [.sl true 1 (x3.map intRow)],.fad (fR (Net.row x4))] [] [(3,[.sl true 1 (r.map intRow)])] := by
 refine zG.of_body tOk Try.func73 rfl (c := (.seq (.seq (G73 0) (.cond (.tmp 13) .ret .skip)) (.seq (D73 1) (.seq (G73 2) (.cond (.tmp 41) (G73 3) .skip))))) kr (Nat.le_of_ble_eq_true kr) 4 (rs := []) rfl [] .nil [] [] [(3,[.sl true 1 (r.map intRow)])] fun cx=>?_
 show Tr _ _ _ ⟨46,4,[sI 0 x0,sI 1 x1,sI 2 x2,sA 3 3 1 0,(4,.fad ((fR (Net.row x4))))],[(3,[cL 1 x3 intRow])]⟩ _
 unfold Qz at H
 refine tS<|rA 2<|bE H fun v1 ev1 H=> oA intRow ev1<|dE (tI 3) (.box 3) [(0,0),(0,(x0.toNat))] 1 0 [.sl true 1 [[cL 1 x3 intRow]]] (intRow v1) (zK rfl (zF ev1).2)<|uA 1 8223 8 ?_
 obtain ⟨h1,H⟩ | ⟨h1,H⟩ := bC H
 ·refine nA h1<|tK<|bE H fun v2 ev2 H=> bE H fun v3 ev3 H=> Tr.draws mixed 16 kr ⟨46,4,[sI 8 (wI (v1 + v3.Co)),sI 1 x1,sA 3 3 1 0],[(3,[cL 1 x3 intRow])]⟩ (fun cx=>?_) ?_
  ·exact mA zBh [(0,[]),(1,[])] 14 [⟨[],38,3,14⟩] fun cx=>oN zBh 2 intRow ev1 fun cx=>mA zBh (zl [4,5,6]) 10 [⟨[],38,3,14⟩] fun cx=>iN zBh 7 zA.row ev2 fun cx=>mA zBh (zl [8,9,10]) 6 [⟨[],38,3,14⟩] fun cx=>iN zBh 11 Pt.row ev3 fun cx=>mA zBh [(12,[]),(13,[])] 3 [⟨[],38,3,14⟩] fun cx=>mC zBh 3<|dE (tI 3) (.box 3) [(0,0),(0,(x0.toNat))] 1 0 [.sl true 1 [[cL 1 x3 intRow]]] (intRow v1) (zK rfl (zF ev1).2)<|fA<|mA zBh [(14,[]),(15,[])] 0 [⟨[],38,3,14⟩] fun cx=>mE zBh [8,1,3] [3]
  refine rA 2<|bE H fun v4 ev4 H=> oA intRow ev4<|dE (tI 3) (.box 3) [(0,0),(0,(x1.toNat))] 1 0 [.sl true 1 [[cL 1 x3 intRow]]] (intRow v4) (zK rfl (zF ev4).2)<|lA 2 ?_
  obtain ⟨h2,H⟩ | ⟨h2,H⟩ := bC H
  ·refine qL 17179869450 8 [34] h2<|lA 3<|oA intRow ev4<|dE (tI 3) (.box 3) [(0,0),(0,(x1.toNat))] 1 0 [.sl true 1 [[cL 1 x3 intRow]]] (intRow v4) (zK rfl (zF ev4).2)<|uA 2 2199023255818 8 ?_
   obtain ⟨h3,H⟩ | ⟨h3,H⟩ := bC H
   ·exact nA h3<|tK<|fY [] [(3,[cL 1 x3 intRow])] H
   exact tA h3<|Tr.at<|lA 3<|oA intRow ev4<|LAt.storeB tOk (t := 3) (ty := 0) (ad := (.tmp 45)) (x := (.tmp 44)) (g := none) (tI 3) false [cI (wI (v1 + v3.Co))] 3 0 (x1.toNat) 1 0 1 x3 intRow v4 (wI (v1 + v3.Co)) kr kr kr kr kr kr kr kr (zF ev4).2 kr kr kr kr<|dA 8 8<|fY [] [(3,[cL 1 (x3.set (x1.toNat) (wI (v1 + v3.Co))) intRow])] H
  exact qL 17179869450 8 [34] h2<|uA 7 2199023255818 8<|tB_<|Tr.at<|lA 3<|oA intRow ev4<|LAt.storeB tOk (t := 3) (ty := 0) (ad := (.tmp 45)) (x := (.tmp 44)) (g := none) (tI 3) false [cI (wI (v1 + v3.Co))] 3 0 (x1.toNat) 1 0 1 x3 intRow v4 (wI (v1 + v3.Co)) kr kr kr kr kr kr kr kr (zF ev4).2 kr kr kr kr<|dA 8 8<|fY [] [(3,[cL 1 (x3.set (x1.toNat) (wI (v1 + v3.Co))) intRow])] H
 exact tA h1<|te<|fY [] [(3,[cL 1 x3 intRow])] H
def YM (n : Nat) (x1 : Int) (y9 : (List Int)) : Option (Int) :=
  ((idx y9 x1).bind fun v10 => (some v10))
def YN (n : Nat) (k : (Int × (List Int) → Option (((List Int)) ⊕ (Int)))) (y7 : Int) (y15 : (List Int)) : Option (((List Int)) ⊕ (Int)) :=
  (k ((IntKind.wrap .i64 (y7 + 1)),y15))
def qd (n : Nat) : Nat → (List Int) → Net → Int → (List Int) → Option (((List Int)) ⊕ (Int))
  | 0,_,_,_,_ => none
  | mo16 + 1,r12,x0,y13,y14 => (bif (decide (y13 < (r12.length : Int))) then ((idx r12 y13).bind fun v17 => ((idx x0.Ls v17).bind fun v18 => ((Qz n v18.A v18.B v18.Q y14 x0).bind fun r19 => ((Qz n v18.B v18.A v18.P r19 x0).bind fun r20 => (qd n mo16 r12 x0 (IntKind.wrap .i64 (y13 + 1)) r20))))) else (some (Sum.inl y14)))
def qx (n : Nat) : Nat → Net → Int → (List Int) → Option (((List Int)) ⊕ (Int))
  | 0,_,_,_ => none
  | mo11 + 1,x0,y7,y8 => (bif (decide (y7 < (x0.Bs.length : Int))) then ((Z9 n x0).bind fun r12 => ((qd n n r12 x0 0 y8).bind fun o => match o with | .inl y15 => (YN n (fun v => qx n mo11 x0 v.1 v.2) y7 y15) | .inr r => some (Sum.inr r))) else (some (Sum.inl y8)))
def YL (n : Nat) (r1 : Int) (x0 : Net) (x1 : Int) (y5 : (List Int)) : Option (Int) :=
  ((idx y5 r1).bind fun v6 => ((qx n n x0 0 (y5.set (r1.toNat) 0)).bind fun o => match o with | .inl y9 => (YM n x1 y9) | .inr r => some r))
def ZX (n : Nat) : Nat → Net → Int → (List Int) → Option (((List Int)) ⊕ (Int))
  | 0,_,_,_ => none
  | mo21 + 1,x0,y3,y4 => (bif (decide (y3 < ((List.replicate ((x0.Bs.length : Int)).toNat (0 : Int)).length : Int))) then ((idx y4 y3).bind fun v22 => (ZX n mo21 x0 (IntKind.wrap .i64 (y3 + 1)) (y4.set (y3.toNat) (-1)))) else (some (Sum.inl y4)))
def q7 (n : Nat) (x0 : Net) (x1 : Int) : Option (Int) :=
  ((q9 n x0 x1).bind fun r1 => (bif (decide (r1 < 0)) then (some (-1)) else (bif (decide (0 ≤ (x0.Bs.length : Int)) && decide ((x0.Bs.length : Int) ≤ 268435456)) then ((ZX n n x0 0 (List.replicate ((x0.Bs.length : Int)).toNat (0 : Int))).bind fun o => match o with | .inl y5 => (YL n r1 x0 x1 y5) | .inr r => some r) else none)))
theorem JY (n : Nat) (x0 : Net) (x1 : Int) (r : Int) (H : q7 n x0 x1 = some r) : zG Try.prog 32 [.val true (fR (Net.row x0)),.val false [.lit (.int .i64 x1)]] [.val false [.lit (.int .i64 r)]] [] := by
 refine cW Try.func32 (fun g d => sl [g 0,g 1,sl [g 2] (cn 16 (sl [g 3] .ret) .skip),g 4,sl [g 5] (.block 0 (.loop (sl [g 6,cn 24 .skip (.exit 0),.block 1 (sl [g 7] (g 8))] (g 9)))),g 10,g 11,sl [g 12] (.block 2 (.loop (sl [g 13,cn 38 .skip (.exit 2),.block 3 (sl [g 14] (.block 4 (.loop (sl [g 15,cn 43 .skip (.exit 4),.block 5 (sl [g 16,g 17,g 18] (g 19))] (g 20)))))] (g 21)))),g 22] .ret) [.tmp 4] fun cx=>?_
 unfold q7 at H
 refine gA 2 6 4<|rA 2<|bE H fun r1 er1 H=> vA [.rd,.rd] (zF1 n x0 x1 r1 er1)<|uA 1 38 4<|tS<|gA 2 65574 4 ?_
 obtain ⟨h1,H⟩ | ⟨h1,H⟩ := bC H
 ·refine nA h1<|tK<|rA 2<|kF x0.Bs zA.row<|gE H fun hg2 H=> LAt.makeG tOk (t := 38) (ty := 38) (e := 3) (x := (.tmp 19)) (d := 20) (g := none) (tI 3) (x0.Bs.length : Int) ((List.replicate ((x0.Bs.length : Int)).toNat 0).map intRow) _ kr kr kr kr kr kr hg2 kr (zJ3 _ rfl) rfl<|uA 2 102 68<|tS<|rA 1<|kO (List.replicate ((x0.Bs.length : Int)).toNat (0 : Int)) intRow<|uA 1 12583014 68 ?_
  obtain ⟨o21,eo21,Ho21⟩ := bs H
  clear H
  refine Tr.mid (ι := (List Int)) (fun v => ⟨73,0,[sA 6 6 1 0,sI 5 r1,sA 2 2 3 0,sI 1 x1],[(6,[cL 1 v intRow]),(2,(fR (Net.row x0)))]⟩) (fun v => YL n r1 x0 x1 v = some r) ?_ ?_
  ·refine tB<|Tr.loop (ι := Nat × (Int × (List Int))) (fun v => ⟨73,0,[sI 23 v.2.1,sI 22 ((List.replicate ((x0.Bs.length : Int)).toNat (0 : Int)).length : Int),sA 6 6 1 0,sI 5 r1,sA 2 2 3 0,sI 1 x1],[(6,[cL 1 v.2.2 intRow]),(2,(fR (Net.row x0)))]⟩) (fun v => ZX n v.1 x0 v.2.1 v.2.2 = some o21) (fun v => v.1) (n,(0,(List.replicate ((x0.Bs.length : Int)).toNat (0 : Int)))) eo21 (St.sub_of [23,22,6,5,2,1] [6,2] kr) ?_
   rintro ⟨_ | mo21,y3,y4⟩ H
   ·exact nN H
   have H : ZX n (mo21+1) x0 y3 y4 = some o21 := H
   rw [ZX] at H
   refine gA 1 29360230 68<|tS ?_
   obtain ⟨h4,H⟩ | ⟨h4,H⟩ := bC H
   ·refine nA h4<|Tr.exit<|aJ ?_
    cases H
    exact jA y4 Ho21 [6,5,2,1] [6,2]
   exact tA h4<|tK<|tS<|tB<|gA 2 12583142 68<|Tr.at<|lA 2<|bE H fun v22 ev22 H=> oA intRow ev22<|LAt.storeB tOk (t := 3) (ty := 0) (ad := (.tmp 28)) (x := (.const (.int .i64 (-1)))) (g := none) (tI 3) false [cI (-1)] 6 0 (y3.toNat) 1 0 1 y4 intRow v22 (-1) kr kr kr kr kr kr kr kr (zF ev22).2 kr kr kr kr<|dA 12583014 68<|eA 2 12583014 68<|jB mo21 ((wI (y3 + 1)),(y4.set (y3.toNat) (-1))) H [23,22,6,5,2,1] [6,2]
  rintro y5 H
  have H : (YL n r1 x0 x1 y5) = some r := H
  unfold YL at H
  refine rA 2<|bE H fun v6 ev6 H=> oA intRow ev6<|LAt.storeB tOk (t := 3) (ty := 0) (ad := (.tmp 32)) (x := (.const (.int .i64 0))) (g := none) (tI 3) false [cI 0] 6 0 (r1.toNat) 1 0 1 y5 intRow v6 0 kr kr kr kr kr kr kr kr (zF ev6).2 kr kr kr kr<|dA 70 68<|Tr.fadB 2 2 (fR (Net.row x0))<|Tr.pinAt 7 fun vs => tR<|yF 73 [6,2]<|uA 1 326 64<|tS<|rA 2<|kF x0.Bs zA.row<|uA 1 206158430534 64 ?_
  obtain ⟨o11,eo11,Ho11⟩ := bs H
  clear H
  refine Tr.mid (ι := (List Int)) (fun v => ⟨73,7,[sA 6 6 1 0,sI 1 x1],[(6,[cL 1 v intRow])]⟩) (fun v => YM n x1 v = some r) ?_ ?_
  ·refine tB<|Tr.loop (ι := Nat × (Int × (List Int))) (fun v => ⟨73,7,[sI 37 v.2.1,sI 36 (x0.Bs.length : Int),sC 8 (.lit (zDb vs 73 [6,2])),(2,.fad ((fR (Net.row x0)))),sA 6 6 1 0,sI 1 x1],[(6,[cL 1 v.2.2 intRow])]⟩) (fun v => qx n v.1 x0 v.2.1 v.2.2 = some o11) (fun v => v.1) (n,(0,(y5.set (r1.toNat) 0))) eo11 (St.sub_of [37,36,8,2,6,1] [6] kr) ?_
   rintro ⟨_ | mo11,y7,y8⟩ H
   ·exact nN H
   have H : qx n (mo11+1) x0 y7 y8 = some o11 := H
   rw [qx] at H
   refine gA 1 481036337478 64<|tS ?_
   obtain ⟨h2,H⟩ | ⟨h2,H⟩ := bC H
   ·refine nA h2<|Tr.exit<|aJ ?_
    cases H
    exact jA y8 Ho11 [6,1] [6]
   refine tA h2<|tK<|tS<|tB<|rA 1<|bE H fun r12 er12 H=> vA [.rd] (zFB n x0 r12 er12)<|kO r12 intRow<|uA 1 7902739824966 64 ?_
   obtain ⟨o16,eo16,Ho16⟩ := bs H
   clear H
   refine Tr.mid (ι := (List Int)) (fun v => ⟨73,7,[sI 37 y7,sI 36 (x0.Bs.length : Int),sC 8 (.lit (zDb vs 73 [6,2])),(2,.fad ((fR (Net.row x0)))),sA 6 6 1 0,sI 1 x1],[(6,[cL 1 v intRow])]⟩) (fun v => YN n (fun v => qx n mo11 x0 v.1 v.2) y7 v = some o11) ?_ ?_
   ·refine tB<|Tr.loop (ι := Nat × (Int × (List Int))) (fun v => ⟨73,7,[sI 42 v.2.1,sI 41 (r12.length : Int),sC 40 (cL 1 r12 intRow),sI 37 y7,sI 36 (x0.Bs.length : Int),sC 8 (.lit (zDb vs 73 [6,2])),(2,.fad ((fR (Net.row x0)))),sA 6 6 1 0,sI 1 x1],[(6,[cL 1 v.2.2 intRow])]⟩) (fun v => qd n v.1 r12 x0 v.2.1 v.2.2 = some o16) (fun v => v.1) (n,(0,y8)) eo16 (St.sub_of [42,41,40,37,36,8,2,6,1] [6] kr) ?_
    rintro ⟨_ | mo16,y13,y14⟩ H
    ·exact nN H
    have H : qd n (mo16+1) r12 x0 y13 y14 = some o16 := H
    rw [qd] at H
    refine gA 1 0xf3000000146 64<|tS ?_
    obtain ⟨h3,H⟩ | ⟨h3,H⟩ := bC H
    ·refine nA h3<|Tr.exit<|aJ ?_
     cases H
     exact jA y14 Ho16 [37,36,8,2,6,1] [6]
    exact tA h3<|tK<|tS<|tB<|tR<|bE H fun v17 ev17 H=> oA intRow ev17<|dE (tI 3) (.slot 40) [(0,(y13.toNat))] 1 0 [cL 1 r12 intRow] (intRow v17) (Yh rfl (zF ev17).2)<|uA 1 7902739825990 64<|rA 3<|bE H fun v18 ev18 H=> iA Link.row ev18<|uA 3 7902739827014 2112<|rA 7<|bE H fun r19 er19 H=> yC 51 [6,2] [0,0] [.rd,.rd,.rd,.lend,.rd] (zDs n v18.A v18.B v18.Q y14 x0 r19 er19)<|dA 7902739827014 2112<|Tr.at<|lA 7<|bE H fun r20 er20 H=> yC 59 [6,2] [0,0] [.rd,.rd,.rd,.lend,.rd] (zDs n v18.B v18.A v18.P r19 x0 r20 er20)<|dA 7902739824966 64<|eA 2 7902739824966 64<|jB mo16 ((wI (y13 + 1)),r20) H [42,41,40,37,36,8,2,6,1] [6]
   rintro y15 H
   have H : (YN n (fun v => qx n mo11 x0 v.1 v.2) y7 y15) = some o11 := H
   unfold YN at H
   exact eA 2 206158430534 64<|jB mo11 ((wI (y7 + 1)),y15) H [37,36,8,2,6,1] [6]
  rintro y9 H
  have H : (YM n x1 y9) = some r := H
  unfold YM at H
  exact Tr.unpin<|rA 2<|bE H fun v10 ev10 H=> oA intRow ev10<|dE (tI 3) (.box 6) [(0,0),(0,(x1.toNat))] 1 0 [.sl true 1 [[cL 1 y9 intRow]]] (intRow v10) (zK rfl (zF ev10).2)<|uA 1 16 0<|te (fJ [(false,[cI v10])] H)
 exact tA h1<|gA 1 16 0<|te (fJ [(false,[cI (-1)])] H)
def q8 (n : Nat) (x0 : Net) (x1 : Int) : Option (Int) :=
  ((q9 n x0 x1).bind fun r1 => (bif (decide (r1 < 0)) then (some 0) else ((idx x0.Bs r1).bind fun v2 => (some v2.Id))))
theorem zEj (n : Nat) (x0 : Net) (x1 : Int) (r : Int) (H : q8 n x0 x1 = some r) : zG Try.prog 33 [.val true (fR (Net.row x0)),.val false [.lit (.int .i64 x1)]] [.val false [.lit (.int .i64 r)]] [] := by
 refine cW Try.func33 (fun g d => sl [g 0,g 1,sl [g 2] (cn 10 (sl [g 3] .ret) .skip),g 4] .ret) [.tmp 4] fun cx=>?_
 unfold q8 at H
 refine gA 2 6 4<|rA 2<|bE H fun r1 er1 H=> vA [.rd,.rd] (zF1 n x0 x1 r1 er1)<|uA 1 36 4<|tS<|gA 2 1060 4 ?_
 obtain ⟨h1,H⟩ | ⟨h1,H⟩ := bC H
 ·exact nA h1<|tK<|rA 3<|bE H fun v2 ev2 H=> iA zA.row ev2<|uA 3 16 0<|te (fJ [(false,[cI v2.Id])] H)
 exact tA h1<|gA 1 16 0<|te (fJ [(false,[cI 0])] H)
def J9 (n : Nat) : Option (Int × Int × Bool) :=
  (some ((-1),(-1),false))
def Zl (n : Nat) (k : (Int → Option ((Unit) ⊕ (Int × Int × Bool)))) (v3 : Link) (x1 : Int) (x2 : Int) (y1 : Int) : Option ((Unit) ⊕ (Int × Int × Bool)) :=
  (bif (v3.B == x1) then (bif (v3.Q == x2) then (some (Sum.inr (v3.A,v3.P,true))) else (k (IntKind.wrap .i64 (y1 + 1)))) else (k (IntKind.wrap .i64 (y1 + 1))))
def qI (n : Nat) : Nat → Net → Int → Int → Int → Option ((Unit) ⊕ (Int × Int × Bool))
  | 0,_,_,_,_ => none
  | mo2 + 1,x0,x1,x2,y1 => (bif (decide (y1 < (x0.Ls.length : Int))) then ((idx x0.Ls y1).bind fun v3 => (bif (v3.A == x1) then (bif (v3.P == x2) then (some (Sum.inr (v3.B,v3.Q,true))) else (Zl n (fun v => qI n mo2 x0 x1 x2 v) v3 x1 x2 y1)) else (Zl n (fun v => qI n mo2 x0 x1 x2 v) v3 x1 x2 y1))) else (some (Sum.inl ())))
def Jv (n : Nat) (x0 : Net) (x1 : Int) (x2 : Int) : Option (Int × Int × Bool) :=
  ((qI n n x0 x1 x2 0).bind fun o => match o with | .inl _ => (J9 n) | .inr r => some r)
theorem zJU (n : Nat) (x0 : Net) (x1 : Int) (x2 : Int) (r : Int × Int × Bool) (H : Jv n x0 x1 x2 = some r) : zG Try.prog 34 [.val true (fR (Net.row x0)),.val false [.lit (.int .i64 x1)],.val false [.lit (.int .i64 x2)]] [.val false [.lit (.int .i64 r.1)],.val false [.lit (.int .i64 r.2.1)],.val false [.lit (.bool r.2.2)]] [] := by
 refine cW Try.func34 (fun g d => sl [g 0,sl [g 1] (.block 0 (.loop (sl [g 2,cn 15 .skip (.exit 0),.block 1 (sl [g 3,sl [g 4] (cn 27 (sl [d 5] .ret) .skip),g 6] (cn 41 (sl [d 7] .ret) .skip))] (g 8)))),g 9] .ret) [.tmp 6,.tmp 7,.tmp 8] fun cx=>?_
 unfold Jv at H
 refine gA 4 14 8<|tS<|rA 2<|kF x0.Ls Link.row<|uA 1 28678 0 ?_
 obtain ⟨o2,eo2,Ho2⟩ := bs H
 clear H
 refine Tr.mid (ι := Unit) (fun v => ⟨47,0,[],[]⟩) (fun v => J9 n = some r) ?_ ?_
 ·refine tB<|Tr.loop (ι := Nat × (Int)) (fun v => ⟨47,0,[sI 14 v.2,sI 13 (x0.Ls.length : Int),sC 12 (cF 4 x0.Ls Link.row),sI 1 x1,sI 2 x2],[]⟩) (fun v => qI n v.1 x0 x1 x2 v.2 = some o2) (fun v => v.1) (n,0) eo2 (St.sub_of [14,13,12,1,2] [] kr) ?_
  rintro ⟨_ | mo2,y1⟩ H
  ·exact nN H
  have H : qI n (mo2+1) x0 x1 x2 y1 = some o2 := H
  rw [qI] at H
  refine gA 1 61446 0<|tS ?_
  obtain ⟨h1,H⟩ | ⟨h1,H⟩ := bC H
  ·refine nA h1<|Tr.exit<|aJ ?_
   cases H
   exact jA () Ho2 [] []
  refine tA h1<|tK<|tS<|tB<|tR<|bE H fun v3 ev3 H=> iA Link.row ev3<|uA 3 29702 1024<|tS<|Tr.mid (ι := Unit) (fun v => ⟨47,0,[sA 10 10 4 0,sI 14 y1,sI 13 (x0.Ls.length : Int),sC 12 (cF 4 x0.Ls Link.row),sI 1 x1,sI 2 x2],[(10,(Link.row v3))]⟩) (fun v => Zl n (fun v => qI n mo2 x0 x1 x2 v) v3 x1 x2 y1 = some o2) ?_ ?_
  ·refine rA 5 ?_
   obtain ⟨h4,H⟩ | ⟨h4,H⟩ := bC H
   ·exact qL 4224006 1024 [22] h4<|uA 5 134247430 1024<|nB_<|tK<|jA () H [10,14,13,12,1,2] [10]
   refine qL 4224006 1024 [22] h4<|uA 5 134247430 1024 ?_
   obtain ⟨h5,H⟩ | ⟨h5,H⟩ := bC H
   ·exact nA h5<|tK<|jA () H [10,14,13,12,1,2] [10]
   refine tA h5<|Tr.draws mixed 7 kr ⟨47,0,[sB 8 true,sI 7 v3.Q,sI 6 v3.B],[]⟩ (fun cx=>?_) ?_
   ·exact aA (zl [0,1,2,3,4,5,6]) 0 [⟨[],3,30,31⟩,⟨[],3,28,29⟩] fun cx=>eE [8,7,6] []
   refine te ?_
   cases H
   exact fJ [(false,[cI v3.B]),(false,[cI v3.Q]),(false,[cB true])] Ho2
  rintro _ H
  have H : (Zl n (fun v => qI n mo2 x0 x1 x2 v) v3 x1 x2 y1) = some o2 := H
  unfold Zl at H
  refine rA 5 ?_
  obtain ⟨h2,H⟩ | ⟨h2,H⟩ := bC H
  ·exact qL 68719506438 1024 [36] h2<|uA 5 2199023285254 1024<|nB_<|tK<|eA 2 28678 0<|jB mo2 (wI (y1 + 1)) H [14,13,12,1,2] []
  refine qL 68719506438 1024 [36] h2<|uA 5 2199023285254 1024 ?_
  obtain ⟨h3,H⟩ | ⟨h3,H⟩ := bC H
  ·exact nA h3<|tK<|eA 2 28678 0<|jB mo2 (wI (y1 + 1)) H [14,13,12,1,2] []
  refine tA h3<|Tr.draws mixed 7 kr ⟨47,0,[sB 8 true,sI 7 v3.P,sI 6 v3.A],[]⟩ (fun cx=>?_) ?_
  ·exact aA (zl [0,1,2,3,4,5,6]) 0 [⟨[],3,44,45⟩,⟨[],3,42,43⟩] fun cx=>eE [8,7,6] []
  refine te ?_
  cases H
  exact fJ [(false,[cI v3.A]),(false,[cI v3.P]),(false,[cB true])] Ho2
 rintro _ H
 have H : (J9 n) = some r := H
 unfold J9 at H
 exact gA 3 448 0<|te (fJ [(false,[cI (-1)]),(false,[cI (-1)]),(false,[cB false])] H)
end Go.Proofs.Ytajadnlejdpceaa.Tw
