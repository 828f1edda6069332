import Derived.Test.YticeglbllcelaaaGreatProg
import Derived.Test.YticeglbllcelaaaGreatTlRule
import Derived.Test.YticeglbllcelaaaGreatTlU16
import Derived.Test.YticeglbllcelaaaGreatTwAB0
import Derived.WalkKit
set_option linter.unusedVariables false
set_option linter.unusedSimpArgs false
set_option maxRecDepth 100000
set_option maxHeartbeats 1000000
namespace Go.Proofs.YticeglbllcelaaaGreat.Tw
open Go Go.TL Go.Proofs
def YP(n:Nat)(x0:zA)(x1:Int)(x2:Bool):Option (zA):=
  ((YS n x0).bind fun r1=>((zAB n x0 x1).bind fun r2=>(bif (!r2)then(some r1)else((idx x0.Ps x1).bind fun v3=>((idx r1.Ps x1).bind fun v4=>((ZK n (⟨r1.Id,r1.Name,(r1.Ps.set (x1.toNat) (⟨x2,v3.Co,false,(⟨0,0,0,0,0⟩:Vec)⟩:Pt)),r1.F,r1.V,r1.Tk,r1.Pa,r1.Wo,r1.Dr,r1.Ve⟩:zA)).bind fun r5=>(some r5)))))))
def zTI:Tab:=⟨13,[0,1,0,0,0,16,0,96,128,256,520,2047,4095],[0,1,0,0,0,16,0,96,128,256,520,6,3072],[0,1,0,0,0,16,0,112,240,496,1016,2047,4095]⟩
theorem zJF:qb (rg Tryz.f121 4) zTI=true:=kr
theorem zGW(n:Nat)(x0:zA)(x1:Int)(x2:Bool)(r:zA)(H:YP n x0 x1 x2=some r):zb Tryz.prog 121 [.val true (fR (zB x0)),.val false [.lit (.int .i64 x1)],.val false [.lit (.bool x2)]] [.val true (zB r)] []:=by
 refine cW Tryz.func121 (fun g d=>sl [g 0,g 1,sl [g 2] (cn 13 (sl [g 3] .ret) .skip),d 4,g 5] .ret) [.cell 6 64] fun cx=>?_
 unfold YP at H
 refine gA 2 78 72<|rA 1<|bE H fun r1 er1 H=>vA [.rd] (zEY n x0 r1 er1)<|uA 2 206 200<|tS<|rA 2<|bE H fun r2 er2 H=>vA [.rd,.rd] (zIJ n x0 x1 r2 er2)<|uA 1 8398 200 ?_
 obtain⟨h1,H⟩|⟨h1,H⟩:=bC H
 ·refine nA h1<|tK<|bE H fun v3 ev3 H=>bE H fun v4 ev4 H=>zd zr 13 kr ⟨29,0,[sA 7 7 11 0,sA 6 6 11 0],[(7,[cI r1.Id,cS r1.Name,cL 8 (r1.Ps.set (x1.toNat) (⟨x2,v3.Co,false,(⟨0,0,0,0,0⟩:Vec)⟩:Pt)) zJ,cL 5 r1.F zG,cL 3 r1.V.Rows zF,cL 1 r1.V.Pv zC,cI r1.Tk,cI r1.Pa,cI r1.Wo,cI r1.Dr,cI r1.Ve]),(6,[cI 0,cS (⟨#[]⟩:ByteArray),cL 8 ([]:List Pt) zJ,cL 5 ([]:List zM) zG,cL 3 ([]:List zX) zF,cL 1 ([]:List Int) zC,cI 0,cI 0,cI 0,cI 0,cI 0])]⟩ (fun cx=>?_) ?_
  ·exact mA zJF ([(0,[]),(1,[12])]++zl [2,3,4]++[(5,[10,12]),(6,[])]) 6 [⟨[10,12],58,19,20⟩,⟨[12],58,15,16⟩] fun cx=>iN zJF 7 zJ ev3 fun cx=>mA zJF [(8,[]),(9,[])] 3 [⟨[10,12],58,19,20⟩,⟨[12],58,15,16⟩] fun cx=>mC zJF 10<|lA 1<|fA<|oN zJF 11 zJ ev4 fun cx=>mC zJF 12<|QR tOk (t:=83) (ty:=0) (ad:=(.tmp 26)) (x:=(.tmp 25)) (g:=none) (tI 83) true [cB x2,cI v3.Co,cB false,cI 0,cI 0,cI 0,cI 0,cI 0] 7 2 (x1.toNat) 8 0 8 r1.Ps zJ v4 (⟨x2,v3.Co,false,(⟨0,0,0,0,0⟩:Vec)⟩:Pt) kr kr kr kr kr kr kr kr (zU ev4).2 kr kr kr kr<|fA<|mE zJF [7,6] [7,6]
  exact rA 1<|bE H fun r5 er5 H=>vA [.own] (zEu n (⟨r1.Id,r1.Name,(r1.Ps.set (x1.toNat) (⟨x2,v3.Co,false,(⟨0,0,0,0,0⟩:Vec)⟩:Pt)),r1.F,r1.V,r1.Tk,r1.Pa,r1.Wo,r1.Dr,r1.Ve⟩:zA) r5 er5)<|uA 1 64 64<|te (fJ [(true,(zB r5))] H)
 exact tA h1<|gA 2 64 64<|te (fJ [(true,(zB r1))] H)
def zCq(n:Nat)(x2:(List Link))(y8:(List zA)):Option (Net):=
  (some (⟨y8,(([]:List Link)++x2),([]:List Say)⟩:Net))
def zBM(n:Nat)(k:(Int×(List zA)→Option (((List zA))⊕(Net))))(y6:Int)(y12:(List zA)):Option (((List zA))⊕(Net)):=
  (k ((wI (y6+1)),y12))
def Qv(n:Nat):Nat→Int→Int→Int→(List zA)→Option (((List zA))⊕(Net))
  |0,_,_,_,_=>none
  |mo13+1,x1,y6,y10,y11=>(bif (decide (y10<x1))then((idx y11 y6).bind fun v14=>((YP n v14 y10 true).bind fun r15=>(Qv n mo13 x1 y6 (wI (y10+1)) (y11.set (y6.toNat) r15))))else(some (Sum.inl y11)))
def QI(n:Nat):Nat→Int→Int→(List zA)→Option (((List zA))⊕(Net))
  |0,_,_,_=>none
  |mo9+1,x1,y6,y7=>(bif (decide (y6<(y7.length:Int)))then((Qv n n x1 y6 0 y7).bind fun o=>match o with|.inl y12=>(zBM n (fun v=>QI n mo9 x1 v.1 v.2) y6 y12)|.inr r=>some (Sum.inr r))else(some (Sum.inl y7)))
def zBL(n:Nat)(x1:Int)(x2:(List Link))(y4:(List zA)):Option (Net):=
  ((Qb n (⟨y4,(([]:List Link)++x2),([]:List Say)⟩:Net)).bind fun r5=>(bif (!r5)then(some (⟨([]:List zA),([]:List Link),([]:List Say)⟩:Net))else((QI n n x1 0 y4).bind fun o=>match o with|.inl y8=>(zCq n x2 y8)|.inr r=>some r)))
def QJ(n:Nat):Nat→(List Int)→Int→Int→(List zA)→Option (((List zA))⊕(Net))
  |0,_,_,_,_=>none
  |mo16+1,x0,x1,y2,y3=>(bif (decide (y2<(x0.length:Int)))then((idx x0 y2).bind fun v17=>((q9 n v17 x1).bind fun r18=>(bif (decide (y3.length+ [r18].length≤268435456))then(QJ n mo16 x0 x1 (wI (y2+1)) (y3++[r18]))else none)))else(some (Sum.inl y3)))
def zC2(n:Nat)(x0:(List Int))(x1:Int)(x2:(List Link)):Option (Net):=
  (bif (decide (([]:List Link).length+x2.length≤268435456))then((QJ n n x0 x1 0 ([]:List zA)).bind fun o=>match o with|.inl y4=>(zBL n x1 x2 y4)|.inr r=>some r)else none)
def zTJ:Tab:=⟨12,[0,1,0,0,12,16,0,96,128,386,1023,2047],[0,1,0,0,12,16,0,96,128,258,0,1536],[0,1,0,0,12,28,0,124,252,511,1023,2047]⟩
theorem zG6:qb (rg Tryz.f127 5) zTJ=true:=kr
def zSb:Tab:=⟨12,[0,1,0,0,8,0,48,64,0,384,1023,2047],[0,1,0,0,8,0,48,64,0,384,6,1536],[0,1,0,0,8,0,56,120,0,504,1023,2047]⟩
theorem zFo:qb (rg Tryz.f127 14) zSb=true:=kr
theorem zOp(n:Nat)(x0:(List Int))(x1:Int)(x2:(List Link))(r:Net)(H:zC2 n x0 x1 x2=some r):zb Tryz.prog 127 [.val false [.sl false 1 (zQ (x0.map zC))],.val false [.lit (.int .i64 x1)],.val false [.sl false 4 (zQ (x2.map zE))]] [.val true (zD r)] []:=by
 refine cW Tryz.func127 (fun g d=>sl [g 0,g 1,sl [g 2] (.block 0 (.loop (sl [sl [g 3] (cn 18 .skip (.exit 0)),.block 1 (d 5)] (g 4)))),sl [g 6] (cn 34 (sl [g 7] .ret) .skip),sl [g 8] (.block 2 (.loop (sl [sl [g 9] (cn 40 .skip (.exit 2)),.block 3 (sl [g 11] (.block 4 (.loop (sl [sl [g 12] (cn 45 .skip (.exit 4)),.block 5 (d 14)] (g 13)))))] (g 10)))),g 15] .ret) [.cell 6 28] fun cx=>?_
 unfold zC2 at H
 refine gA 1 71 64<|rA 2<|gE H fun hg1 H=>pD zE hg1<|uA 3 195 192<|tS<|gA 1 451 192 ?_
 obtain⟨o16,eo16,Ho16⟩:=bs H
 clear H
 refine zt (ι:=(List zA)) (fun v=>⟨60,0,[sA 7 7 3 0,sA 6 6 3 0,sI 1 x1],[(7,[cL 11 v zB,cL 4 (([]:List Link)++x2) zE,cL 7 ([]:List Say) zI]),(6,[cL 11 ([]:List zA) zB,cL 4 ([]:List Link) zE,cL 7 ([]:List Say) zI])]⟩) (fun v=>zBL n x1 x2 v=some r) ?_ ?_
 ·refine tB<|Tr.loop (ι:=Nat×(Int×(List zA))) (fun v=>⟨60,0,[sI 8 v.2.1,sA 7 7 3 0,sA 6 6 3 0,sC 0 (cF 1 x0 zC),sI 1 x1],[(7,[cL 11 v.2.2 zB,cL 4 (([]:List Link)++x2) zE,cL 7 ([]:List Say) zI]),(6,[cL 11 ([]:List zA) zB,cL 4 ([]:List Link) zE,cL 7 ([]:List Say) zI])]⟩) (fun v=>QJ n v.1 x0 x1 v.2.1 v.2.2=some o16) (fun v=>v.1) (n,(0,([]:List zA))) eo16 (za [8,7,6,0,1] [7,6] kr) ?_
  rintro⟨_|mo16,y2,y3⟩ H
  ·exact nN H
  have H:QJ n (mo16+1) x0 x1 y2 y3=some o16:=H
  rw[QJ]at H
  refine tS<|rA 2<|kF x0 zC<|uA 1 262595 192 ?_
  obtain⟨h4,H⟩|⟨h4,H⟩:=bC H
  ·refine nA h4<|Tr.exit<|aJ ?_
   cases H
   exact jA y3 Ho16 [7,6,1] [7,6]
  refine tA h4<|tK<|tS<|tB<|bE H fun v17 ev17 H=>bE H fun r18 er18 H=>gE H fun hg19 H=>qr zr 12 kr ⟨60,0,[sI 8 y2,sA 7 7 3 0,sA 6 6 3 0,sC 0 (cF 1 x0 zC),sI 1 x1],[(7,[cL 11 (y3++[r18]) zB,cL 4 (([]:List Link)++x2) zE,cL 7 ([]:List Say) zI]),(6,[cL 11 ([]:List zA) zB,cL 4 ([]:List Link) zE,cL 7 ([]:List Say) zI])]⟩ (fun cx=>?_) ?_
  ·exact mA zG6 [(0,[]),(1,[9,11]),(2,[]),(3,[])] 8 [⟨[9,11],24,21,22⟩] fun cx=>iN zG6 4 zC ev17 fun cx=>mA zG6 [(5,[]),(6,[])] 5 [⟨[9,11],24,21,22⟩] fun cx=>mC zG6 7<|vA [.rd,.rd] (zHP n v17 x1 r18 er18)<|fA<|mC zG6 8<|lA 1<|fA<|mC zG6 9<|qO tOk (t:=24) (ty:=24) (e:=64) (x:=(.tmp 22)) (y:=(.tmp 29)) (d:=30) (g:=none) (tI 64) zB y3 [r18] kr kr kr kr kr kr kr kr kr kr hg19<|fA<|mA zG6 [(10,[])] 1 [⟨[9,11],24,21,22⟩] fun cx=>mC zG6 11<|lA 1<|fA<|mE zG6 [8,7,6,0,1] [7,6]
  exact eA 3 451 192<|jB mo16 ((wI (y2+1)),(y3++[r18])) H [8,7,6,0,1] [7,6]
 rintro y4 H
 have H:(zBL n x1 x2 y4)=some r:=H
 unfold zBL at H
 refine tS<|rA 1<|bE H fun r5 er5 H=>vB [.rd] [.box 7] (zGo n (⟨y4,(([]:List Link)++x2),([]:List Say)⟩:Net) r5 er5) (.inr (zN (zH zT zR) zS))<|uA 1 17179869378 192 ?_
 obtain⟨h1,H⟩|⟨h1,H⟩:=bC H
 ·refine nA h1<|tK<|tS<|gA 1 706 192 ?_
  obtain⟨o9,eo9,Ho9⟩:=bs H
  clear H
  refine zt (ι:=(List zA)) (fun v=>⟨60,0,[sA 7 7 3 0,sA 6 6 3 0],[(7,[cL 11 v zB,cL 4 (([]:List Link)++x2) zE,cL 7 ([]:List Say) zI]),(6,[cL 11 ([]:List zA) zB,cL 4 ([]:List Link) zE,cL 7 ([]:List Say) zI])]⟩) (fun v=>zCq n x2 v=some r) ?_ ?_
  ·refine tB<|Tr.loop (ι:=Nat×(Int×(List zA))) (fun v=>⟨60,0,[sI 9 v.2.1,sA 7 7 3 0,sA 6 6 3 0,sI 1 x1],[(7,[cL 11 v.2.2 zB,cL 4 (([]:List Link)++x2) zE,cL 7 ([]:List Say) zI]),(6,[cL 11 ([]:List zA) zB,cL 4 ([]:List Link) zE,cL 7 ([]:List Say) zI])]⟩) (fun v=>QI n v.1 x1 v.2.1 v.2.2=some o9) (fun v=>v.1) (n,(0,y4)) eo9 (za [9,7,6,1] [7,6] kr) ?_
   rintro⟨_|mo9,y6,y7⟩ H
   ·exact nN H
   have H:QI n (mo9+1) x1 y6 y7=some o9:=H
   rw[QI]at H
   refine tS<|rA 3<|kO y7 zB<|uA 1 1099511628482 192 ?_
   obtain⟨h2,H⟩|⟨h2,H⟩:=bC H
   ·refine nA h2<|Tr.exit<|aJ ?_
    cases H
    exact jA y7 Ho9 [7,6] [7,6]
   refine tA h2<|tK<|tS<|tB<|gA 1 1730 192 ?_
   obtain⟨o13,eo13,Ho13⟩:=bs H
   clear H
   refine zt (ι:=(List zA)) (fun v=>⟨60,0,[sI 9 y6,sA 7 7 3 0,sA 6 6 3 0,sI 1 x1],[(7,[cL 11 v zB,cL 4 (([]:List Link)++x2) zE,cL 7 ([]:List Say) zI]),(6,[cL 11 ([]:List zA) zB,cL 4 ([]:List Link) zE,cL 7 ([]:List Say) zI])]⟩) (fun v=>zBM n (fun v=>QI n mo9 x1 v.1 v.2) y6 v=some o9) ?_ ?_
   ·refine tB<|Tr.loop (ι:=Nat×(Int×(List zA))) (fun v=>⟨60,0,[sI 10 v.2.1,sI 9 y6,sA 7 7 3 0,sA 6 6 3 0,sI 1 x1],[(7,[cL 11 v.2.2 zB,cL 4 (([]:List Link)++x2) zE,cL 7 ([]:List Say) zI]),(6,[cL 11 ([]:List zA) zB,cL 4 ([]:List Link) zE,cL 7 ([]:List Say) zI])]⟩) (fun v=>Qv n v.1 x1 y6 v.2.1 v.2.2=some o13) (fun v=>v.1) (n,(0,y7)) eo13 (za [10,9,7,6,1] [7,6] kr) ?_
    rintro⟨_|mo13,y10,y11⟩ H
    ·exact nN H
    have H:Qv n (mo13+1) x1 y6 y10 y11=some o13:=H
    rw[Qv]at H
    refine tS<|gA 3 35184372090562 192 ?_
    obtain⟨h3,H⟩|⟨h3,H⟩:=bC H
    ·refine nA h3<|Tr.exit<|aJ ?_
     cases H
     exact jA y11 Ho13 [9,7,6,1] [7,6]
    refine tA h3<|tK<|tS<|tB<|bE H fun v14 ev14 H=>bE H fun r15 er15 H=>qr zr 12 kr ⟨60,0,[sI 10 y10,sI 9 y6,sA 7 7 3 0,sA 6 6 3 0,sI 1 x1],[(7,[cL 11 (y11.set (y6.toNat) r15) zB,cL 4 (([]:List Link)++x2) zE,cL 7 ([]:List Say) zI]),(6,[cL 11 ([]:List zA) zB,cL 4 ([]:List Link) zE,cL 7 ([]:List Say) zI])]⟩ (fun cx=>?_) ?_
    ·refine mA zFo [(0,[]),(1,[11]),(2,[]),(3,[]),(4,[9,11]),(5,[])] 6 [⟨[9,11],24,51,52⟩,⟨[11],24,48,49⟩] fun cx=>oN zFo 6 zB ev14 fun cx=>mA zFo [(8,[])] 4 [⟨[9,11],24,51,52⟩,⟨[11],24,48,49⟩] fun cx=>mC zFo 7<|dE (tI 64) (.box 7) [(0,0),(0,(y6.toNat))] 11 0 [.sl true 3 [[cL 11 y11 zB,cL 4 (([]:List Link)++x2) zE,cL 7 ([]:List Say) zI]]] (zB v14) (zq rfl (zU ev14).2)<|fA<|mC zFo 9<|zGa tOk [.rd,.rd,.rd] (f:=121) (av:= #[.tmp 55,.tmp 56,.const (.bool true)]) (ats:= #[64,3,4]) (d:=(some 57)) (ty:=64) (g:=none) [(55,zB v14)] none kr kr kr [.box 7] (zGW n v14 y10 true r15 er15) (zHg (row:=[.sl true 3 [[cL 11 y11 zB,cL 4 (([]:List Link)++x2) zE,cL 7 ([]:List Say) zI]]]) (q:=[(0,0),(0,(y6.toNat))]) kr (zq rfl (zU ev14).2) zJe) kr zJd (.inr (And.intro (zN (JW _) zS) zHh))<|fA<|oN zFo 10 zB ev14 fun cx=>sA_ 0x61b0000000006c2 192 ⟨60,0,[(58,.adr (.box 7) [(0,0),(0,(y6.toNat))] 11 0),sV 57 (zB r15),sR 52 7 3 0 1 false,sA 51 7 3 0,sR 49 7 3 0 1 false,sA 48 7 3 0,sI 10 y10,sI 9 y6,sA 7 7 3 0,sA 6 6 3 0,sI 1 x1],[(7,[cL 11 y11 zB,cL 4 (([]:List Link)++x2) zE,cL 7 ([]:List Say) zI]),(6,[cL 11 ([]:List zA) zB,cL 4 ([]:List Link) zE,cL 7 ([]:List Say) zI])]⟩<|mC zFo 11<|QR tOk (t:=64) (ty:=0) (ad:=(.tmp 58)) (x:=(.tmp 57)) (g:=none) (tI 64) true (zB r15) 7 0 (y6.toNat) 11 0 11 y11 zB v14 r15 kr kr kr kr kr kr kr kr (zU ev14).2 kr kr kr kr ?_
     exact fA<|mE zFo [10,9,7,6,1] [7,6]
    exact eA 3 1730 192<|jB mo13 ((wI (y10+1)),(y11.set (y6.toNat) r15)) H [10,9,7,6,1] [7,6]
   rintro y12 H
   have H:(zBM n (fun v=>QI n mo9 x1 v.1 v.2) y6 y12)=some o9:=H
   unfold zBM at H
   exact eA 3 706 192<|jB mo9 ((wI (y6+1)),y12) H [9,7,6,1] [7,6]
  rintro y8 H
  have H:(zCq n x2 y8)=some r:=H
  unfold zCq at H
  exact gA 2 64 64<|te (fJ [(true,[cL 11 y8 zB,cL 4 (([]:List Link)++x2) zE,cL 7 ([]:List Say) zI])] H)
 exact tA h1<|gA 2 64 64<|te (fJ [(true,[cL 11 ([]:List zA) zB,cL 4 ([]:List Link) zE,cL 7 ([]:List Say) zI])] H)
def zp(n:Nat)(x0:Src)(x1:(List Int)):Option (Int×Src):=
  ((zP n x0 (x1.length:Int)).bind fun r1=>((idx x1 r1.1).bind fun v2=>(some (v2,r1.2))))
noncomputable abbrev G47(k:Nat):=Rg Tryz.f47 k
theorem qH(n:Nat)(x0:Src)(x1:(List Int))(r:Int×Src)(H:zp n x0 x1=some r):zb Tryz.prog 47 [.ptr (fR (zL x0)),.val false [.sl false 1 (zQ (x1.map zC))]] [.val false [.lit (.int .i64 r.1)]] [(0,(fR (zL r.2)))]:=by
 refine zu tOk Tryz.func47 rfl (c:=(.seq (G47 0) (.seq (G47 1) .ret))) kr (Nat.le_of_ble_eq_true kr) 1 (rs:=[.tmp 4]) rfl [] .nil [(false,[.lit (.int .i64 r.1)])] [] [(0,(fR (zL r.2)))] fun cx=>?_
 show Tr _ _ _ ⟨12,1,[sA 0 0 3 0,sC 1 (cF 1 x1 zC)],[(0,(fR (zL x0)))]⟩ _
 unfold zp at H
 exact gA 1 3 1<|rA 3<|kF x1 zC<|bE H fun r1 er1 H=>vL [.lend,.rd] (zW n x0 (x1.length:Int) r1 er1)<|bE H fun v2 ev2 H=>iA zC ev2<|uA 2 17 1<|te<|fY [(false,[cI v2])] [(0,(fR (zL r1.2)))] H
def YI(n:Nat)(r5:Int×Src)(x1:Net)(y6:Bool):Option (Event×Src):=
  (bif y6 then(bif ((x1.Ls.length:Int)==0)then(some ((⟨6,0⟩:Event),r5.2))else((zP n r5.2 (x1.Ls.length:Int)).bind fun r8=>(some ((⟨r5.1,r8.1⟩:Event),r8.2))))else(bif ((x1.Bs.length:Int)==0)then(some ((⟨r5.1,0⟩:Event),r5.2))else((zP n r5.2 (x1.Bs.length:Int)).bind fun r7=>(some ((⟨r5.1,r7.1⟩:Event),r7.2)))))
def YH(n:Nat)(x1:Net)(y1:Bool)(y2:(List Int))(y3:Int)(y4:Int):Option (Event×Src):=
  (bif y1 then((zp n (⟨y2,y3,y4⟩:Src) [2,2,2,2,3]).bind fun r9=>((zP n r9.2 (x1.Said.length:Int)).bind fun r10=>(some ((⟨r9.1,r10.1⟩:Event),r10.2))))else((zp n (⟨y2,y3,y4⟩:Src) [1,1,1,1,4,5,6]).bind fun r5=>(bif (r5.1==4)then(YI n r5 x1 true)else(YI n r5 x1 (r5.1==5)))))
def zAC(n:Nat)(x0:Src)(x1:Net):Option (Event×Src):=
  (bif (decide ((x1.Said.length:Int)>0))then((Z6 n x0 2).bind fun r11=>(YH n x1 r11.1 r11.2.b r11.2.i r11.2.h))else(YH n x1 false x0.b x0.i x0.h))
noncomputable abbrev G69(k:Nat):=Rg Tryz.f69 k
noncomputable abbrev D69(k:Nat):=Rd Tryz.f69 k
theorem zM1(n:Nat)(x0:Src)(x1:Net)(r:Event×Src)(H:zAC n x0 x1=some r):zb Tryz.prog 69 [.ptr (fR (zL x0)),.val true (fR (zD x1))] [.val true (QZ r.1)] [(0,(fR (zL r.2)))]:=by
 refine zu tOk Tryz.func69 rfl (c:=(.seq (G69 0) (.seq (.seq (G69 1) (.cond (.tmp 13) (.seq (D69 2) .ret) .skip)) (.seq (G69 3) (.seq (.seq (G69 4) (.cond (.tmp 31) (.seq (.seq (G69 5) (.cond (.tmp 35) (.seq (G69 6) .ret) .skip)) (.seq (G69 7) .ret)) .skip)) (.seq (.seq (G69 8) (.cond (.tmp 47) (.seq (G69 9) .ret) .skip)) (.seq (G69 10) .ret))))))) kr (Nat.le_of_ble_eq_true kr) 1 (rs:=[.cell 4 45]) rfl [] .nil [(true,(QZ r.1))] [] [(0,(fR (zL r.2)))] fun cx=>?_
 show Tr _ _ _ ⟨57,1,[sA 0 0 3 0,sV 1 (fR (zD x1))],[(0,(fR (zL x0)))]⟩ _
 unfold zAC at H
 refine gA 2 25 25<|tS<|tS<|zt (ι:=Bool×(List Int)×Int×Int) (fun v=>⟨57,1,[sB 13 v.1,sA 4 4 2 0,sA 3 3 3 0,sA 0 0 3 0],[(4,[cI 0,cI 0]),(3,(fR (zD x1))),(0,[cF 1 v.2.1 qC,cI v.2.2.1,cI v.2.2.2])]⟩) (fun v=>YH n x1 v.1 v.2.1 v.2.2.1 v.2.2.2=some r) ?_ ?_
 ·refine Tr.at<|lA 2<|kF x1.Said zI<|lA 2 ?_
  obtain⟨h6,H⟩|⟨h6,H⟩:=bC H
  ·exact qL 1049 25 [10] h6<|uA 3 8217 25<|jA (false,x0.b,x0.i,x0.h) H [13,4,3,0] [4,3,0]
  exact qL 1049 25 [10] h6<|lA 1<|bE H fun r11 er11 H=>vL [.lend,.rd] (zBU n x0 2 r11 er11)<|uA 1 8217 25<|jA (r11.1,r11.2.b,r11.2.i,r11.2.h) H [13,4,3,0] [4,3,0]
 rintro⟨y1,y2,y3,y4⟩ H
 have H:(YH n x1 y1 y2 y3 y4)=some r:=H
 unfold YH at H
 cases h1:y1
 ·have H:=YA h1 H
  refine nB_<|tK<|rA 2<|bE H fun r5 er5 H=>vL [.lend,.rd] (qH n (⟨y2,y3,y4⟩:Src) [1,1,1,1,4,5,6] r5 er5)<|uA 1 57 25<|tS<|tS<|zt (ι:=Bool) (fun v=>⟨57,1,[sB 31 v,sI 5 r5.1,sA 4 4 2 0,sA 3 3 3 0,sA 0 0 3 0],[(0,(fR (zL r5.2))),(4,[cI 0,cI 0]),(3,(fR (zD x1)))]⟩) (fun v=>YI n r5 x1 v=some r) ?_ ?_
  ·refine Tr.at<|lA 3 ?_
   obtain⟨h5,H⟩|⟨h5,H⟩:=bC H
   ·exact qL 268435513 25 [28] h5<|uA 3 2147483705 25<|jA (r5.1==5) H [31,5,4,3,0] [0,4,3]
   exact qL 268435513 25 [28] h5<|uA 3 2147483705 25<|jA true H [31,5,4,3,0] [0,4,3]
  rintro y6 H
  have H:(YI n r5 x1 y6)=some r:=H
  unfold YI at H
  cases h2:y6
  ·have H:=YA h2 H
   refine nB_<|tK<|tS<|rA 2<|kF x1.Bs zB<|uA 1 0x800000000039 25 ?_
   obtain⟨h3,H⟩|⟨h3,H⟩:=bC H
   ·exact nA h3<|tK<|rA 4<|kF x1.Bs zB<|bE H fun r7 er7 H=>vL [.lend,.rd] (zW n r5.2 (x1.Bs.length:Int) r7 er7)<|uA 2 17 17<|te<|fY [(true,[cI r5.1,cI r7.1])] [(0,(fR (zL r7.2)))] H
   exact tA h3<|gA 3 17 17<|te<|fY [(true,[cI r5.1,cI 0])] [(0,(fR (zL r5.2)))] H
  have H:=YB h2 H
  refine tB_<|tS<|rA 2<|kF x1.Ls zE<|uA 1 34359738425 25 ?_
  obtain⟨h4,H⟩|⟨h4,H⟩:=bC H
  ·exact nA h4<|tK<|rA 4<|kF x1.Ls zE<|bE H fun r8 er8 H=>vL [.lend,.rd] (zW n r5.2 (x1.Ls.length:Int) r8 er8)<|uA 2 17 17<|te<|fY [(true,[cI r5.1,cI r8.1])] [(0,(fR (zL r8.2)))] H
  exact tA h4<|gA 2 17 17<|te<|fY [(true,[cI 6,cI 0])] [(0,(fR (zL r5.2)))] H
 have H:=YB h1 H
 refine tB_<|bE H fun r9 er9 H=>bE H fun r10 er10 H=>zd zr 10 kr ⟨57,1,[sA 4 4 2 0,sA 0 0 3 0],[(4,[cI r9.1,cI r10.1]),(0,(fR (zL r10.2)))]⟩ (fun cx=>?_) ?_
 ·refine aA (zl [0,3,4]++[(5,[7,8,9])]) 6 [⟨[7,8,9],26,18,19⟩] fun cx=>aL tOk 6 26 3 101 19 20 none ⟨(.box 3),[(0,0)],2,false,7,(zQ (x1.Said.map zI))⟩ (x1.Said).length _ kr kr kr kr kr kr kr (zH7 _ _) rfl (fun cx=>?_)
  exact bA 1<|lA 1<|fA<|bA 2<|vL [.lend,.rd] (qH n (⟨y2,y3,y4⟩:Src) [2,2,2,2,3] r9 er9)<|fA<|bA 7<|vL [.lend,.rd] (zW n r9.2 (x1.Said.length:Int) r10 er10)<|fA<|bA 8<|lA 1<|fA<|bA 9<|lA 1<|fA<|eE [4,0] [4,0]
 exact te<|fY [(true,[cI r9.1,cI r10.1])] [(0,(fR (zL r10.2)))] H
def zCB(n:Nat)(x0:Net)(y5:(List zA)):Option (Net):=
  (some (⟨y5,(([]:List Link)++x0.Ls),(([]:List Say)++x0.Said)⟩:Net))
def Q5(n:Nat):Nat→Net→Int→(List zA)→Option (((List zA))⊕(Net))
  |0,_,_,_=>none
  |mo6+1,x0,y3,y4=>(bif (decide (y3<(x0.Bs.length:Int)))then((idx x0.Bs y3).bind fun v7=>((YS n v7).bind fun r8=>(bif (decide (y4.length+ [r8].length≤268435456))then(Q5 n mo6 x0 (wI (y3+1)) (y4++[r8]))else none)))else(some (Sum.inl y4)))
def Js(n:Nat)(x0:Net):Option (Net):=
  (bif (decide (([]:List Link).length+x0.Ls.length≤268435456))then(bif (decide (([]:List Say).length+x0.Said.length≤268435456))then((Q5 n n x0 0 ([]:List zA)).bind fun o=>match o with|.inl y5=>(zCB n x0 y5)|.inr r=>some r)else none)else none)
def zUQ:Tab:=⟨12,[0,1,0,4,0,24,32,64,128,386,1023,2047],[0,1,0,4,0,24,32,64,128,258,0,1536],[0,1,0,4,0,28,60,124,252,511,1023,2047]⟩
theorem zKg:qb (rg Tryz.f77 5) zUQ=true:=kr
theorem zKx(n:Nat)(x0:Net)(hg1:(decide (([]:List Link).length+x0.Ls.length≤268435456))=true)(hg2:(decide (([]:List Say).length+x0.Said.length≤268435456))=true)(cx:Cx):AT Tryz.prog cx (rg Tryz.f77 1) [] 11 [] ⟨33,0,[sA 2 2 3 0,sA 1 1 3 0],[(2,[cL 11 ([]:List zA) zB,cL 4 ([]:List Link) zE,cL 7 ([]:List Say) zI]),(1,(fR (zD x0)))]⟩ (fun s=>s=⟨33,0,[sA 3 3 3 0,sA 2 2 3 0,sA 1 1 3 0],[(3,[cL 11 ([]:List zA) zB,cL 4 (([]:List Link)++x0.Ls) zE,cL 7 (([]:List Say)++x0.Said) zI]),(2,[cL 11 ([]:List zA) zB,cL 4 ([]:List Link) zE,cL 7 ([]:List Say) zI]),(1,(fR (zD x0)))]⟩):=by
 refine aA [(1,[]),(2,[3,7,8,10]),(5,[]),(6,[7,8,10])] 7 [⟨[7,8,10],26,10,11⟩,⟨[3,7,8,10],25,6,7⟩] fun cx=>zMi tOk 0 4 9 kr (And.intro kr ?_) (And.intro kr ?_) (And.intro kr ?_)
 ·refine lA 1<|fA<|zMi tOk 3 4 9 kr (And.intro kr ?_) (And.intro kr ?_) (And.intro kr ?_)
  ·refine pD zE hg1<|fA<|YJ tOk 4 9 kr (And.intro kr ?_) (And.intro kr ?_)
   ·refine lA 1<|fA<|YJ tOk 7 9 kr (And.intro kr ?_) (And.intro kr ?_)
    ·refine pD zI hg2<|fA<|YJ tOk 8 9 kr (And.intro kr ?_) (And.intro kr ?_)
     ·exact lA 1<|fA<|bA 9<|lA 1<|fA<|bA 10<|lA 1<|fA<|eE [3,2,1] [3,2,1]
     ·exact lA 1<|fA<|bA 8<|lA 1<|fA<|bA 10<|lA 1<|fA<|eE [3,2,1] [3,2,1]
    ·exact lA 1<|fA<|bA 7<|pD zI hg2<|fA<|bA 8<|lA 1<|fA<|bA 10<|lA 1<|fA<|eE [3,2,1] [3,2,1]
   ·exact lA 1<|fA<|bA 4<|lA 1<|fA<|bA 7<|pD zI hg2<|fA<|bA 8<|lA 1<|fA<|bA 10<|lA 1<|fA<|eE [3,2,1] [3,2,1]
  ·refine lA 1<|fA<|YJ tOk 3 9 kr (And.intro kr ?_) (And.intro kr ?_)
   ·refine pD zE hg1<|fA<|YJ tOk 7 9 kr (And.intro kr ?_) (And.intro kr ?_)
    ·refine pD zI hg2<|fA<|YJ tOk 8 9 kr (And.intro kr ?_) (And.intro kr ?_)
     ·exact lA 1<|fA<|bA 9<|lA 1<|fA<|bA 10<|lA 1<|fA<|eE [3,2,1] [3,2,1]
     ·exact lA 1<|fA<|bA 8<|lA 1<|fA<|bA 10<|lA 1<|fA<|eE [3,2,1] [3,2,1]
    ·exact lA 1<|fA<|bA 7<|pD zI hg2<|fA<|bA 8<|lA 1<|fA<|bA 10<|lA 1<|fA<|eE [3,2,1] [3,2,1]
   ·exact lA 1<|fA<|bA 3<|pD zE hg1<|fA<|bA 7<|pD zI hg2<|fA<|bA 8<|lA 1<|fA<|bA 10<|lA 1<|fA<|eE [3,2,1] [3,2,1]
  ·refine lA 1<|fA<|YJ tOk 3 4 kr (And.intro kr ?_) (And.intro kr ?_)
   ·exact pD zE hg1<|fA<|bA 4<|lA 1<|fA<|bA 7<|pD zI hg2<|fA<|bA 8<|lA 1<|fA<|bA 10<|lA 1<|fA<|eE [3,2,1] [3,2,1]
   ·exact lA 1<|fA<|bA 3<|pD zE hg1<|fA<|bA 7<|pD zI hg2<|fA<|bA 8<|lA 1<|fA<|bA 10<|lA 1<|fA<|eE [3,2,1] [3,2,1]
 ·refine lA 1<|fA<|YJ tOk 0 9 kr (And.intro kr ?_) (And.intro kr ?_)
  ·refine lA 1<|fA<|YJ tOk 3 9 kr (And.intro kr ?_) (And.intro kr ?_)
   ·refine pD zE hg1<|fA<|YJ tOk 7 9 kr (And.intro kr ?_) (And.intro kr ?_)
    ·refine pD zI hg2<|fA<|YJ tOk 8 9 kr (And.intro kr ?_) (And.intro kr ?_)
     ·exact lA 1<|fA<|bA 9<|lA 1<|fA<|bA 10<|lA 1<|fA<|eE [3,2,1] [3,2,1]
     ·exact lA 1<|fA<|bA 8<|lA 1<|fA<|bA 10<|lA 1<|fA<|eE [3,2,1] [3,2,1]
    ·exact lA 1<|fA<|bA 7<|pD zI hg2<|fA<|bA 8<|lA 1<|fA<|bA 10<|lA 1<|fA<|eE [3,2,1] [3,2,1]
   ·exact lA 1<|fA<|bA 3<|pD zE hg1<|fA<|bA 7<|pD zI hg2<|fA<|bA 8<|lA 1<|fA<|bA 10<|lA 1<|fA<|eE [3,2,1] [3,2,1]
  ·exact lA 1<|fA<|bA 0<|lA 1<|fA<|bA 3<|pD zE hg1<|fA<|bA 7<|pD zI hg2<|fA<|bA 8<|lA 1<|fA<|bA 10<|lA 1<|fA<|eE [3,2,1] [3,2,1]
 ·refine lA 1<|fA<|YJ tOk 0 4 kr (And.intro kr ?_) (And.intro kr ?_)
  ·refine lA 1<|fA<|YJ tOk 3 4 kr (And.intro kr ?_) (And.intro kr ?_)
   ·exact pD zE hg1<|fA<|bA 4<|lA 1<|fA<|bA 7<|pD zI hg2<|fA<|bA 8<|lA 1<|fA<|bA 10<|lA 1<|fA<|eE [3,2,1] [3,2,1]
   ·exact lA 1<|fA<|bA 3<|pD zE hg1<|fA<|bA 7<|pD zI hg2<|fA<|bA 8<|lA 1<|fA<|bA 10<|lA 1<|fA<|eE [3,2,1] [3,2,1]
  ·exact lA 1<|fA<|bA 0<|lA 1<|fA<|bA 3<|pD zE hg1<|fA<|bA 7<|pD zI hg2<|fA<|bA 8<|lA 1<|fA<|bA 10<|lA 1<|fA<|eE [3,2,1] [3,2,1]
theorem zGX(n:Nat)(x0:Net)(r:Net)(H:Js n x0=some r):zb Tryz.prog 77 [.val true (fR (zD x0))] [.val true (zD r)] []:=by
 refine cW Tryz.func77 (fun g d=>sl [g 0,d 1,sl [g 2] (.block 0 (.loop (sl [sl [g 3] (cn 18 .skip (.exit 0)),.block 1 (d 5)] (g 4)))),g 6] .ret) [.cell 2 28] fun cx=>?_
 unfold Js at H
 refine gA 2 6 6<|gE H fun hg1 H=>gE H fun hg2 H=>sT ⟨33,0,[sA 2 2 3 0,sA 1 1 3 0],[(2,[cL 11 ([]:List zA) zB,cL 4 ([]:List Link) zE,cL 7 ([]:List Say) zI]),(1,(fR (zD x0)))]⟩<|zd zr 11 kr ⟨33,0,[sA 3 3 3 0,sA 2 2 3 0,sA 1 1 3 0],[(3,[cL 11 ([]:List zA) zB,cL 4 (([]:List Link)++x0.Ls) zE,cL 7 (([]:List Say)++x0.Said) zI]),(2,[cL 11 ([]:List zA) zB,cL 4 ([]:List Link) zE,cL 7 ([]:List Say) zI]),(1,(fR (zD x0)))]⟩ (zKx n x0 hg1 hg2)<|tS<|gA 1 30 14 ?_
 obtain⟨o6,eo6,Ho6⟩:=bs H
 clear H
 refine zt (ι:=(List zA)) (fun v=>⟨33,0,[sA 3 3 3 0,sA 2 2 3 0],[(3,[cL 11 v zB,cL 4 (([]:List Link)++x0.Ls) zE,cL 7 (([]:List Say)++x0.Said) zI]),(2,[cL 11 ([]:List zA) zB,cL 4 ([]:List Link) zE,cL 7 ([]:List Say) zI])]⟩) (fun v=>zCB n x0 v=some r) ?_ ?_
 ·refine tB<|Tr.loop (ι:=Nat×(Int×(List zA))) (fun v=>⟨33,0,[sI 4 v.2.1,sA 3 3 3 0,sA 2 2 3 0,sA 1 1 3 0],[(3,[cL 11 v.2.2 zB,cL 4 (([]:List Link)++x0.Ls) zE,cL 7 (([]:List Say)++x0.Said) zI]),(2,[cL 11 ([]:List zA) zB,cL 4 ([]:List Link) zE,cL 7 ([]:List Say) zI]),(1,(fR (zD x0)))]⟩) (fun v=>Q5 n v.1 x0 v.2.1 v.2.2=some o6) (fun v=>v.1) (n,(0,([]:List zA))) eo6 (za [4,3,2,1] [3,2,1] kr) ?_
  rintro⟨_|mo6,y3,y4⟩ H
  ·exact nN H
  have H:Q5 n (mo6+1) x0 y3 y4=some o6:=H
  rw[Q5]at H
  refine tS<|rA 3<|kF x0.Bs zB<|uA 1 262174 14 ?_
  obtain⟨h1,H⟩|⟨h1,H⟩:=bC H
  ·refine nA h1<|Tr.exit<|aJ ?_
   cases H
   exact jA y4 Ho6 [3,2] [3,2]
  refine tA h1<|tK<|tS<|tB<|bE H fun v7 ev7 H=>bE H fun r8 er8 H=>gE H fun hg9 H=>qr zr 12 kr ⟨33,0,[sI 4 y3,sA 3 3 3 0,sA 2 2 3 0,sA 1 1 3 0],[(3,[cL 11 (y4++[r8]) zB,cL 4 (([]:List Link)++x0.Ls) zE,cL 7 (([]:List Say)++x0.Said) zI]),(2,[cL 11 ([]:List zA) zB,cL 4 ([]:List Link) zE,cL 7 ([]:List Say) zI]),(1,(fR (zD x0)))]⟩ (fun cx=>?_) ?_
  ·exact mA zKg [(0,[]),(1,[9,11]),(2,[]),(3,[7,8,9,11]),(4,[])] 7 [⟨[7,8,9,11],24,23,24⟩,⟨[9,11],24,21,22⟩] fun cx=>iN zKg 5 zB ev7 fun cx=>mA zKg [(6,[])] 5 [⟨[7,8,9,11],24,23,24⟩,⟨[9,11],24,21,22⟩] fun cx=>mC zKg 7<|vA [.rd] (zEY n v7 r8 er8)<|fA<|mC zKg 8<|lA 1<|fA<|mC zKg 9<|qO tOk (t:=24) (ty:=24) (e:=64) (x:=(.tmp 22)) (y:=(.tmp 29)) (d:=30) (g:=none) (tI 64) zB y4 [r8] kr kr kr kr kr kr kr kr kr kr hg9<|fA<|mA zKg [(10,[])] 1 [⟨[7,8,9,11],24,23,24⟩,⟨[9,11],24,21,22⟩] fun cx=>mC zKg 11<|lA 1<|fA<|mE zKg [4,3,2,1] [3,2,1]
  exact eA 3 30 14<|jB mo6 ((wI (y3+1)),(y4++[r8])) H [4,3,2,1] [3,2,1]
 rintro y5 H
 have H:(zCB n x0 y5)=some r:=H
 unfold zCB at H
 exact gA 2 4 4<|te (fJ [(true,[cL 11 y5 zB,cL 4 (([]:List Link)++x0.Ls) zE,cL 7 (([]:List Say)++x0.Said) zI])] H)
def zCm(n:Nat)(y3:(List zM)):Option ((List zM)):=
  (some y3)
def ZR(n:Nat):Nat→(List zM)→Int→(List zM)→Option (((List zM))⊕((List zM)))
  |0,_,_,_=>none
  |mo4+1,x0,y1,y2=>(bif (decide (y1<(x0.length:Int)))then((idx x0 y1).bind fun v5=>(bif v5.Sc then(bif (decide (y2.length+ [v5].length≤268435456))then(ZR n mo4 x0 (wI (y1+1)) (y2++[v5]))else none)else(bif (decide (v5.Age<4))then(bif (decide (y2.length+ [(⟨v5.Tag,v5.Mac,v5.Port,(wI (v5.Age+1)),v5.Sc⟩:zM)].length≤268435456))then(ZR n mo4 x0 (wI (y1+1)) (y2++[(⟨v5.Tag,v5.Mac,v5.Port,(wI (v5.Age+1)),false⟩:zM)]))else none)else(ZR n mo4 x0 (wI (y1+1)) y2))))else(some (Sum.inl y2)))
def Jc(n:Nat)(x0:(List zM)):Option ((List zM)):=
  ((ZR n n x0 0 ([]:List zM)).bind fun o=>match o with|.inl y3=>(zCm n y3)|.inr r=>some r)
theorem zKV(n:Nat)(x0:(List zM))(r:(List zM))(H:Jc n x0=some r):zb Tryz.prog 119 [.val false [.sl false 5 (zQ (x0.map zG))]] [.val false [.sl true 5 (r.map zG)]] []:=by
 refine cW Tryz.func119 (fun g d=>sl [g 0,g 1,sl [g 2] (.block 0 (.loop (sl [sl [g 3] (cn 10 .skip (.exit 0)),.block 1 (sl [g 5,sl [g 6] (cn 18 (sl [g 7] (.exit 1)) .skip),g 8] (cn 25 (sl [g 9] (g 10)) .skip))] (g 4)))),g 11] .ret) [.tmp 2] fun cx=>?_
 unfold Jc at H
 refine gA 1 1 0<|rA 1<|zY (T:=lk tab) (ty:=59) (x:=(.tmp 6)) (d:=3) (g:=none) false [cL 5 ([]:List zM) zG] kr kr kr kr kr<|dA 9 0<|tS<|gA 1 25 0 ?_
 obtain⟨o4,eo4,Ho4⟩:=bs H
 clear H
 refine zt (ι:=(List zM)) (fun v=>⟨35,0,[sC 3 (cL 5 v zG)],[]⟩) (fun v=>zCm n v=some r) ?_ ?_
 ·refine tB<|Tr.loop (ι:=Nat×(Int×(List zM))) (fun v=>⟨35,0,[sI 4 v.2.1,sC 3 (cL 5 v.2.2 zG),sC 0 (cF 5 x0 zG)],[]⟩) (fun v=>ZR n v.1 x0 v.2.1 v.2.2=some o4) (fun v=>v.1) (n,(0,([]:List zM))) eo4 (za [4,3,0] [] kr) ?_
  rintro⟨_|mo4,y1,y2⟩ H
  ·exact nN H
  have H:ZR n (mo4+1) x0 y1 y2=some o4:=H
  rw[ZR]at H
  refine tS<|rA 2<|kF x0 zG<|uA 1 1049 0 ?_
  obtain⟨h1,H⟩|⟨h1,H⟩:=bC H
  ·refine nA h1<|Tr.exit<|aJ ?_
   cases H
   exact jA y2 Ho4 [3] []
  refine tA h1<|tK<|tS<|tB<|rA 2<|bE H fun v5 ev5 H=>iA zG ev5<|uA 3 57 32<|tS<|gA 2 262201 32 ?_
  obtain⟨h2,H⟩|⟨h2,H⟩:=bC H
  ·refine qT [18] h2<|nB_<|tK<|gA 3 33554489 32 ?_
   obtain⟨h3,H⟩|⟨h3,H⟩:=bC H
   ·exact nA h3<|tK<|eA 3 25 0<|jB mo4 ((wI (y1+1)),y2) H [4,3,0] []
   refine tA h3<|gA 5 57 32<|Tr.at<|lA 3<|gE H fun hg6 H=>qO tOk (t:=59) (ty:=59) (e:=127) (x:=(.tmp 30)) (y:=(.tmp 32)) (d:=33) (g:=none) (tI 127) zG y2 [(⟨v5.Tag,v5.Mac,v5.Port,(wI (v5.Age+1)),v5.Sc⟩:zM)] kr kr kr kr kr kr kr kr kr kr hg6<|zY (T:=lk tab) (ty:=59) (x:=(.tmp 33)) (d:=3) (g:=none) false [cL 5 (y2++[(⟨v5.Tag,v5.Mac,v5.Port,(wI (v5.Age+1)),v5.Sc⟩:zM)]) zG] kr kr kr kr kr<|dA 25 0<|eA 3 25 0<|sC' 25 0 ⟨35,0,[sI 4 (wI (y1+1)),sC 3 (cL 5 (y2++[(⟨v5.Tag,v5.Mac,v5.Port,(wI (v5.Age+1)),v5.Sc⟩:zM)]) zG),sC 0 (cF 5 x0 zG)],[]⟩ ?_
   rw[h2]
   exact jB mo4 ((wI (y1+1)),(y2++[(⟨v5.Tag,v5.Mac,v5.Port,(wI (v5.Age+1)),false⟩:zM)])) H [4,3,0] []
  exact qT [18] h2<|tB_<|rA 3<|gE H fun hg7 H=>qO tOk (t:=59) (ty:=59) (e:=127) (x:=(.tmp 19)) (y:=(.tmp 21)) (d:=22) (g:=none) (tI 127) zG y2 [v5] kr kr kr kr kr kr kr kr kr kr hg7<|zY (T:=lk tab) (ty:=59) (x:=(.tmp 22)) (d:=3) (g:=none) false [cL 5 (y2++[v5]) zG] kr kr kr kr kr<|dA 25 0<|Tr.exit<|aJ<|eA 3 25 0<|jB mo4 ((wI (y1+1)),(y2++[v5])) H [4,3,0] []
 rintro y3 H
 have H:(zCm n y3)=some r:=H
 unfold zCm at H
 exact gA 2 12 0<|te (fJ [(false,[cL 5 y3 zG])] H)
def zDk(n:Nat)(x0:zA):Option (zA):=
  ((YS n x0).bind fun r1=>((zg n x0).bind fun r2=>(bif (!r2)then(some r1)else((zAY n x0.Tk).bind fun r3=>((Jc n x0.F).bind fun r4=>((ZK n (⟨r1.Id,r1.Name,r1.Ps,r4,r1.V,r3,r1.Pa,r1.Wo,r1.Dr,r1.Ve⟩:zA)).bind fun r5=>(some r5)))))))
theorem zQ6(n:Nat)(x0:zA)(r:zA)(H:zDk n x0=some r):zb Tryz.prog 79 [.val true (fR (zB x0))] [.val true (zB r)] []:=by
 refine cW Tryz.func79 (fun g d=>sl [g 0,g 1,sl [g 2] (cn 8 (sl [g 3] .ret) .skip),g 4,g 5,g 6] .ret) [.cell 2 64] fun cx=>?_
 unfold zDk at H
 refine gA 2 6 6<|rA 1<|bE H fun r1 er1 H=>vA [.rd] (zEY n x0 r1 er1)<|uA 2 14 14<|tS<|rA 1<|bE H fun r2 er2 H=>vA [.rd] (zFj n x0 r2 er2)<|uA 1 270 14 ?_
 obtain⟨h1,H⟩|⟨h1,H⟩:=bC H
 ·exact nA h1<|tK<|rA 2<|bE H fun r3 er3 H=>vA [.rd] (zKW n x0.Tk r3 er3)<|uA 2 14 14<|rA 2<|bE H fun r4 er4 H=>vA [.rd] (zKV n x0.F r4 er4)<|uA 2 12 12<|rA 1<|bE H fun r5 er5 H=>vA [.own] (zEu n (⟨r1.Id,r1.Name,r1.Ps,r4,r1.V,r3,r1.Pa,r1.Wo,r1.Dr,r1.Ve⟩:zA) r5 er5)<|uA 1 4 4<|te (fJ [(true,(zB r5))] H)
 exact tA h1<|gA 2 4 4<|te (fJ [(true,(zB r1))] H)
def Y5(n:Nat)(x0:Net)(x1:Int)(x2:Int):Option (Bool):=
  ((ze n x1 0 (wI ((x0.Bs.length:Int)-1))).bind fun r1=>(bif r1 then((idx x0.Bs x1).bind fun v2=>((ze n x2 0 (wI ((v2.Ps.length:Int)-1))).bind fun r3=>(bif r3 then((idx x0.Bs x1).bind fun v4=>((idx v4.Ps x2).bind fun v5=>(some v5.Up)))else(some false))))else(some false)))
theorem zMK(n:Nat)(x0:Net)(x1:Int)(x2:Int)(r:Bool)(H:Y5 n x0 x1 x2=some r):zb Tryz.prog 92 [.val true (fR (zD x0)),.val false [.lit (.int .i64 x1)],.val false [.lit (.int .i64 x2)]] [.val false [.lit (.bool r)]] []:=by
 refine cW Tryz.func92 (fun g d=>sl [g 0,g 1] .ret) [.tmp 6] fun cx=>?_
 unfold Y5 at H
 refine gA 2 14 8<|rA 3<|kF x0.Bs zB<|lA 1<|bE H fun r1 er1 H=>vA [.rd,.rd,.rd] (zf n x1 0 (wI ((x0.Bs.length:Int)-1)) r1 er1)<|lA 1 ?_
 obtain⟨h1,H⟩|⟨h1,H⟩:=bC H
 ·exact qL 8206 8 [13] h1<|uA 24 64 0<|te (fF H)
 refine qL 8206 8 [13] h1<|lA 4<|bE H fun v2 ev2 H=>iA zB ev2<|lA 2<|kF v2.Ps zJ<|lA 1<|bE H fun r3 er3 H=>vA [.rd,.rd,.rd] (zf n x2 0 (wI ((v2.Ps.length:Int)-1)) r3 er3)<|lA 2 ?_
 obtain⟨h2,H⟩|⟨h2,H⟩:=bC H
 ·exact qL 33554446 8 [25] h2<|uA 12 64 0<|te (fF H)
 exact qL 33554446 8 [25] h2<|lA 3<|bE H fun v4 ev4 H=>iA zB ev4<|lA 3<|bE H fun v5 ev5 H=>iA zJ ev5<|uA 4 64 0<|te (fJ [(false,[cB v5.Up])] H)
def qV(n:Nat)(x0:Net)(x1:Int):Option (Bool):=
  ((ze n x1 0 (wI ((x0.Ls.length:Int)-1))).bind fun r1=>(bif (!r1)then(some false)else((idx x0.Ls x1).bind fun v2=>((Y5 n x0 v2.A v2.P).bind fun r3=>(bif r3 then((Y5 n x0 v2.B v2.Q).bind fun r4=>(some r4))else(some false))))))
theorem zAT(n:Nat)(x0:Net)(x1:Int)(r:Bool)(H:qV n x0 x1=some r):zb Tryz.prog 52 [.val true (fR (zD x0)),.val false [.lit (.int .i64 x1)]] [.val false [.lit (.bool r)]] []:=by
 refine cW Tryz.func52 (fun g d=>sl [g 0,sl [g 1] (cn 12 (sl [g 2] .ret) .skip),g 3,g 4] .ret) [.tmp 4] fun cx=>?_
 unfold qV at H
 refine gA 2 6 4<|tS<|rA 3<|kF x0.Ls zE<|lA 1<|bE H fun r1 er1 H=>vA [.rd,.rd,.rd] (zf n x1 0 (wI ((x0.Ls.length:Int)-1)) r1 er1)<|uA 1 4102 4 ?_
 obtain⟨h1,H⟩|⟨h1,H⟩:=bC H
 ·refine nA h1<|tK<|rA 3<|bE H fun v2 ev2 H=>iA zE ev2<|uA 3 36 36<|rA 5<|bE H fun r3 er3 H=>vA [.rd,.rd,.rd] (zMK n x0 v2.A v2.P r3 er3)<|lA 1 ?_
  obtain⟨h2,H⟩|⟨h2,H⟩:=bC H
  ·exact qL 16777252 36 [24] h2<|uA 8 16 0<|te (fF H)
  exact qL 16777252 36 [24] h2<|lA 5<|bE H fun r4 er4 H=>vA [.rd,.rd,.rd] (zMK n x0 v2.B v2.Q r4 er4)<|uA 2 16 0<|te (fJ [(false,[cB r4])] H)
 exact tA h1<|gA 1 16 0<|te (fF H)
def QV(n:Nat)(x0:Net)(x1:Int)(x2:Bool):Option (Vec):=
  ((idx x0.Ls x1).bind fun v1=>(bif x2 then((idx x0.Bs v1.B).bind fun v5=>((idx x0.Bs v1.B).bind fun v6=>((ZF n v5.Id v6.Ps v1.Q).bind fun r7=>(some r7))))else((idx x0.Bs v1.A).bind fun v2=>((idx x0.Bs v1.A).bind fun v3=>((ZF n v2.Id v3.Ps v1.P).bind fun r4=>(some r4))))))
def zUZ:Tab:=⟨18,[0,1,0,4,10,16,32,0,128,0,512,1280,2048,4096,0,16384,41024,131071],[0,1,0,4,10,16,32,0,128,0,512,1280,2048,4096,0,16384,41024,65536],[0,1,0,4,15,31,63,0,128,0,512,1920,3968,8064,0,16384,65535,131071]⟩
theorem zLj:qb (rg Tryz.f87 3) zUZ=true:=kr
def zUa:Tab:=⟨18,[0,1,0,4,10,16,32,0,128,0,512,1280,2048,4096,0,16384,41024,131071],[0,1,0,4,10,16,32,0,128,0,512,1280,2048,4096,0,16384,41024,65536],[0,1,0,4,15,31,63,0,128,0,512,1920,3968,8064,0,16384,65535,131071]⟩
theorem zLk:qb (rg Tryz.f87 4) zUa=true:=kr
theorem zCW(n:Nat)(x0:Net)(x1:Int)(x2:Bool)(r:Vec)(H:QV n x0 x1 x2=some r):zb Tryz.prog 87 [.val true (fR (zD x0)),.val false [.lit (.int .i64 x1)],.val false [.lit (.bool x2)]] [.val true (zj r)] []:=by
 refine cW Tryz.func87 (fun g d=>sl [g 0,g 1,sl [g 2] (cn 13 (sl [d 3] .ret) .skip),d 4] .ret) [.cell 6 73] fun cx=>?_
 unfold QV at H
 refine gA 2 78 72<|rA 3<|bE H fun v1 ev1 H=>iA zE ev1<|uA 3 204 200<|tS<|gA 1 8392 200 ?_
 cases h1:x2
 ·have H:=YA h1 H
  refine nB_<|tK<|bE H fun v2 ev2 H=>bE H fun v3 ev3 H=>bE H fun r4 er4 H=>zd zr 18 kr ⟨48,0,[sA 6 6 5 0],[(6,(zj r4))]⟩ (fun cx=>?_) ?_
  ·exact mA zLk [(0,[]),(1,[16,17]),(2,[]),(3,[16,17])] 14 [⟨[16,17],3,33,34⟩,⟨[16,17],24,31,32⟩] fun cx=>iN zLk 4 zB ev2 fun cx=>mA zLk (zl [5,6,7]++[(8,[16,17]),(9,[]),(10,[16,17])]) 7 [⟨[16,17],3,40,41⟩,⟨[16,17],24,38,39⟩,⟨[16,17],3,33,34⟩,⟨[16,17],24,31,32⟩] fun cx=>iN zLk 11 zB ev3 fun cx=>mA zLk (zl [12,13,14]++[(15,[16,17])]) 2 [⟨[16,17],3,45,46⟩,⟨[16,17],3,40,41⟩,⟨[16,17],24,38,39⟩,⟨[16,17],3,33,34⟩,⟨[16,17],24,31,32⟩] fun cx=>mC zLk 16<|vA [.rd,.rd,.rd] (zHY n v2.Id v3.Ps v1.P r4 er4)<|fA<|mC zLk 17<|lA 1<|fA<|mE zLk [6] [6]
  exact te (fJ [(true,(zj r4))] H)
 have H:=YB h1 H
 refine tB_<|bE H fun v5 ev5 H=>bE H fun v6 ev6 H=>bE H fun r7 er7 H=>zd zr 18 kr ⟨48,0,[sA 6 6 5 0],[(6,(zj r7))]⟩ (fun cx=>?_) ?_
 ·exact mA zLj [(0,[]),(1,[16,17]),(2,[]),(3,[16,17])] 14 [⟨[16,17],3,16,17⟩,⟨[16,17],24,14,15⟩] fun cx=>iN zLj 4 zB ev5 fun cx=>mA zLj (zl [5,6,7]++[(8,[16,17]),(9,[]),(10,[16,17])]) 7 [⟨[16,17],3,23,24⟩,⟨[16,17],24,21,22⟩,⟨[16,17],3,16,17⟩,⟨[16,17],24,14,15⟩] fun cx=>iN zLj 11 zB ev6 fun cx=>mA zLj (zl [12,13,14]++[(15,[16,17])]) 2 [⟨[16,17],3,28,29⟩,⟨[16,17],3,23,24⟩,⟨[16,17],24,21,22⟩,⟨[16,17],3,16,17⟩,⟨[16,17],24,14,15⟩] fun cx=>mC zLj 16<|vA [.rd,.rd,.rd] (zHY n v5.Id v6.Ps v1.Q r7 er7)<|fA<|mC zLj 17<|lA 1<|fA<|mE zLj [6] [6]
 exact te (fJ [(true,(zj r7))] H)
def zA7(n:Nat)(x0:Net)(y3:(List Say)):Option (Net):=
  (some (⟨x0.Bs,x0.Ls,y3⟩:Net))
def Qd(n:Nat)(k:(Int×(List Say)→Option (((List Say))⊕(Net))))(x0:Net)(x1:Int)(y1:Int)(y6:(List Say)):Option (((List Say))⊕(Net)):=
  ((idx x0.Ls y1).bind fun v7=>(bif (v7.B==x1)then((QV n (⟨x0.Bs,x0.Ls,y6⟩:Net) y1 true).bind fun r8=>(bif (decide (y6.length+ [(⟨y1,true,r8⟩:Say)].length≤268435456))then(k ((wI (y1+1)),(y6++[(⟨y1,true,r8⟩:Say)])))else none))else(k ((wI (y1+1)),y6))))
def qn(n:Nat):Nat→Net→Int→Int→(List Say)→Option (((List Say))⊕(Net))
  |0,_,_,_,_=>none
  |mo4+1,x0,x1,y1,y2=>(bif (decide (y1<(x0.Ls.length:Int)))then((qV n (⟨x0.Bs,x0.Ls,y2⟩:Net) y1).bind fun r5=>(bif (!r5)then(qn n mo4 x0 x1 (wI (y1+1)) y2)else(bif (decide ((y2.length:Int)≥40))then(qn n mo4 x0 x1 (wI (y1+1)) y2)else((idx x0.Ls y1).bind fun v10=>(bif (v10.A==x1)then((QV n (⟨x0.Bs,x0.Ls,y2⟩:Net) y1 false).bind fun r11=>(bif (decide (y2.length+ [(⟨y1,false,r11⟩:Say)].length≤268435456))then(Qd n (fun v=>qn n mo4 x0 x1 v.1 v.2) x0 x1 y1 (y2++[(⟨y1,false,r11⟩:Say)]))else none))else(Qd n (fun v=>qn n mo4 x0 x1 v.1 v.2) x0 x1 y1 y2))))))else(some (Sum.inl y2)))
def zAh(n:Nat)(x0:Net)(x1:Int):Option (Net):=
  ((qn n n x0 x1 0 x0.Said).bind fun o=>match o with|.inl y3=>(zA7 n x0 y3)|.inr r=>some r)
def zUS:Tab:=⟨17,[0,0,2,4,8,0,0,64,128,0,768,1056,2048,5136,16383,32767,49151],[0,0,2,4,8,0,0,64,128,0,768,1056,2048,4112,1,16384,40960],[0,0,2,6,14,0,0,64,192,0,960,2016,4064,8190,16383,32767,65535]⟩
noncomputable abbrev G80(k:Nat):=Rg Tryz.f80 k
noncomputable abbrev D80(k:Nat):=Rd Tryz.f80 k
theorem zLd:qb (rg Tryz.f80 5) zUS=true:=kr
def zUT:Tab:=⟨17,[0,0,2,4,8,0,0,64,128,0,768,1056,2048,5136,16383,32767,49151],[0,0,2,4,8,0,0,64,128,0,768,1056,2048,4112,1,16384,40960],[0,0,2,6,14,0,0,64,192,0,960,2016,4064,8190,16383,32767,65535]⟩
theorem zLe:qb (rg Tryz.f80 7) zUT=true:=kr
theorem zLV(n:Nat)(x0:Net)(x1:Int)(r:Net)(H:zAh n x0 x1=some r):zb Tryz.prog 80 [.ptr (zD x0),.val false [.lit (.int .i64 x1)]] [] [(0,(zD r))]:=by
 refine zu tOk Tryz.func80 rfl (c:=(.seq (G80 0) (.block 0 (.loop (.seq (.seq (G80 1) (.cond (.tmp 11) .skip (.exit 0))) (.seq (.block 1 (.seq (.seq (G80 3) (.cond (.tmp 27) (.exit 1) .skip)) (.seq (.seq (G80 4) (.cond (.tmp 37) (D80 5) .skip)) (.seq (G80 6) (.cond (.tmp 63) (D80 7) .skip))))) (G80 2))))))) kr (Nat.le_of_ble_eq_true kr) 1 (rs:=[]) rfl [] .nil [] [] [(0,(zD r))] fun cx=>?_
 show Tr _ _ _ ⟨80,1,[sA 0 0 3 0,sI 1 x1],[(0,(zD x0))]⟩ _
 unfold zAh at H
 refine gA 1 19 1 ?_
 obtain⟨o4,eo4,Ho4⟩:=bs H
 clear H
 refine zt (ι:=(List Say)) (fun v=>⟨80,1,[sA 0 0 3 0],[(0,[cL 11 x0.Bs zB,cL 4 x0.Ls zE,cL 7 v zI])]⟩) (fun v=>zA7 n x0 v=some r) ?_ ?_
 ·refine tB<|Tr.loop (ι:=Nat×(Int×(List Say))) (fun v=>⟨80,1,[sI 4 v.2.1,sA 0 0 3 0,sI 1 x1],[(0,[cL 11 x0.Bs zB,cL 4 x0.Ls zE,cL 7 v.2.2 zI])]⟩) (fun v=>qn n v.1 x0 x1 v.2.1 v.2.2=some o4) (fun v=>v.1) (n,(0,x0.Said)) eo4 (za [4,0,1] [0] kr) ?_
  rintro⟨_|mo4,y1,y2⟩ H
  ·exact nN H
  have H:qn n (mo4+1) x0 x1 y1 y2=some o4:=H
  rw[qn]at H
  refine tS<|rA 5<|kO x0.Ls zE<|uA 1 2067 1 ?_
  obtain⟨h1,H⟩|⟨h1,H⟩:=bC H
  ·refine nA h1<|Tr.exit<|aJ ?_
   cases H
   exact jA y2 Ho4 [0] [0]
  refine tA h1<|tK<|tS<|tB<|tS<|rA 4<|bE H fun r5 er5 H=>vB [.rd,.rd] [.box 0] (zAT n (⟨x0.Bs,x0.Ls,y2⟩:Net) y1 r5 er5) (.inr (zN (zH zT zR) zS))<|lA 2 ?_
  obtain⟨h2,H⟩|⟨h2,H⟩:=bC H
  ·refine qL 1048595 1 [20] h2<|lA 4<|kO y2 zI<|uA 2 134217747 1 ?_
   obtain⟨h3,H⟩|⟨h3,H⟩:=bC H
   ·refine nA h3<|tK<|tS<|zt (ι:=(List Say)) (fun v=>⟨80,1,[sI 4 y1,sA 0 0 3 0,sI 1 x1],[(0,[cL 11 x0.Bs zB,cL 4 x0.Ls zE,cL 7 v zI])]⟩) (fun v=>Qd n (fun v=>qn n mo4 x0 x1 v.1 v.2) x0 x1 y1 v=some o4) ?_ ?_
    ·refine rA 5<|bE H fun v10 ev10 H=>oA zE ev10<|lA 1<|dE (tI 3) (.box 0) [(0,0),(1,(y1.toNat))] 4 0 [.sl true 3 [[cL 11 x0.Bs zB,cL 4 x0.Ls zE,cL 7 y2 zI]]] (zE v10) (zq rfl (zU ev10).2)<|uA 2 137438953491 1 ?_
     obtain⟨h5,H⟩|⟨h5,H⟩:=bC H
     ·exact nA h5<|tK<|jA y2 H [4,0,1] [0]
     refine tA h5<|bE H fun r11 er11 H=>gE H fun hg12 H=>qr zr 17 kr ⟨80,1,[sI 4 y1,sA 0 0 3 0,sI 1 x1],[(0,[cL 11 x0.Bs zB,cL 4 x0.Ls zE,cL 7 (y2++[(⟨y1,false,r11⟩:Say)]) zI])]⟩ (fun cx=>?_) ?_
     ·exact mA zLd (zl [0,1,2,3]++[(4,[13,16])]++zl [5,6,7]++[(8,[10,11,12,13,16]),(9,[])]) 7 [⟨[10,11,12,13,16],28,45,46⟩,⟨[13,16],26,41,42⟩] fun cx=>mC zLd 10<|vB [.rd,.rd,.rd] [.box 0] (zCW n (⟨x0.Bs,x0.Ls,y2⟩:Net) y1 false r11 er11) (.inr (zN (zJN _) zS))<|fA<|mC zLd 11<|lA 1<|fA<|mC zLd 12<|lA 1<|fA<|mC zLd 13<|qO tOk (t:=26) (ty:=26) (e:=101) (x:=(.tmp 42)) (y:=(.tmp 50)) (d:=51) (g:=none) (tI 101) zI y2 [(⟨y1,false,r11⟩:Say)] kr kr kr kr kr kr kr kr kr kr hg12<|fA<|mA zLd [(14,[]),(15,[])] 1 [⟨[10,11,12,13,16],28,45,46⟩,⟨[13,16],26,41,42⟩] fun cx=>mC zLd 16<|lA 1<|fA<|mE zLd [4,0,1] [0]
     exact jA (y2++[(⟨y1,false,r11⟩:Say)]) H [4,0,1] [0]
    rintro y6 H
    have H:(Qd n (fun v=>qn n mo4 x0 x1 v.1 v.2) x0 x1 y1 y6)=some o4:=H
    unfold Qd at H
    refine rA 5<|bE H fun v7 ev7 H=>oA zE ev7<|lA 1<|dE (tI 3) (.box 0) [(0,0),(1,(y1.toNat))] 4 2 [.sl true 3 [[cL 11 x0.Bs zB,cL 4 x0.Ls zE,cL 7 y6 zI]]] (zE v7) (zq rfl (zU ev7).2)<|uA 2 0x8000000000000013 1 ?_
    obtain⟨h4,H⟩|⟨h4,H⟩:=bC H
    ·exact nA h4<|tK<|eA 3 19 1<|jB mo4 ((wI (y1+1)),y6) H [4,0,1] [0]
    refine tA h4<|bE H fun r8 er8 H=>gE H fun hg9 H=>qr zr 17 kr ⟨80,1,[sI 4 y1,sA 0 0 3 0,sI 1 x1],[(0,[cL 11 x0.Bs zB,cL 4 x0.Ls zE,cL 7 (y6++[(⟨y1,true,r8⟩:Say)]) zI])]⟩ (fun cx=>?_) ?_
    ·exact mA zLe (zl [0,1,2,3]++[(4,[13,16])]++zl [5,6,7]++[(8,[10,11,12,13,16]),(9,[])]) 7 [⟨[10,11,12,13,16],28,71,72⟩,⟨[13,16],26,67,68⟩] fun cx=>mC zLe 10<|vB [.rd,.rd,.rd] [.box 0] (zCW n (⟨x0.Bs,x0.Ls,y6⟩:Net) y1 true r8 er8) (.inr (zN (zJN _) zS))<|fA<|mC zLe 11<|lA 1<|fA<|mC zLe 12<|lA 1<|fA<|mC zLe 13<|qO tOk (t:=26) (ty:=26) (e:=101) (x:=(.tmp 68)) (y:=(.tmp 76)) (d:=77) (g:=none) (tI 101) zI y6 [(⟨y1,true,r8⟩:Say)] kr kr kr kr kr kr kr kr kr kr hg9<|fA<|mA zLe [(14,[]),(15,[])] 1 [⟨[10,11,12,13,16],28,71,72⟩,⟨[13,16],26,67,68⟩] fun cx=>mC zLe 16<|lA 1<|fA<|mE zLe [4,0,1] [0]
    exact eA 3 19 1<|jB mo4 ((wI (y1+1)),(y6++[(⟨y1,true,r8⟩:Say)])) H [4,0,1] [0]
   exact tA h3<|Tr.exit<|aJ<|eA 3 19 1<|jB mo4 ((wI (y1+1)),y2) H [4,0,1] [0]
  exact qL 1048595 1 [20] h2<|uA 7 134217747 1<|tB_<|Tr.exit<|aJ<|eA 3 19 1<|jB mo4 ((wI (y1+1)),y2) H [4,0,1] [0]
 rintro y3 H
 have H:(zA7 n x0 y3)=some r:=H
 unfold zA7 at H
 exact fY [] [(0,[cL 11 x0.Bs zB,cL 4 x0.Ls zE,cL 7 y3 zI])] H
def Zm(n:Nat)(x0:zA)(x1:Int)(x2:Vec):Option (zA):=
  ((YS n x0).bind fun r1=>((zAB n x0 x1).bind fun r2=>(bif (!r2)then(some r1)else((idx x0.Ps x1).bind fun v3=>(bif (!v3.Up)then(some r1)else((qK n x2).bind fun r4=>(bif (!r4)then(some r1)else((idx r1.Ps x1).bind fun v5=>((idx (r1.Ps.set (x1.toNat) (⟨v5.Up,v5.Co,true,v5.Hd⟩:Pt)) x1).bind fun v6=>((ZK n (⟨r1.Id,r1.Name,((r1.Ps.set (x1.toNat) (⟨v5.Up,v5.Co,true,v5.Hd⟩:Pt)).set (x1.toNat) (⟨v6.Up,v6.Co,v6.Has,x2⟩:Pt)),r1.F,r1.V,r1.Tk,r1.Pa,r1.Wo,r1.Dr,r1.Ve⟩:zA)).bind fun r7=>(some r7)))))))))))
theorem zI5(n:Nat)(x0:zA)(x1:Int)(x2:Vec)(r:zA)(H:Zm n x0 x1 x2=some r):zb Tryz.prog 125 [.val true (fR (zB x0)),.val false [.lit (.int .i64 x1)],.val true (fR (zj x2))] [.val true (zB r)] []:=by
 refine cW Tryz.func125 (fun g d=>sl [g 0,g 1,sl [g 2] (cn 27 (sl [g 3] .ret) .skip),g 4,g 5,g 6] .ret) [.cell 6 64] fun cx=>?_
 unfold Zm at H
 refine gA 3 106 104<|rA 1<|bE H fun r1 er1 H=>vA [.rd] (zEY n x0 r1 er1)<|uA 2 234 232<|tS<|rA 2<|bE H fun r2 er2 H=>vA [.rd,.rd] (zIJ n x0 x1 r2 er2)<|lA 2 ?_
 obtain⟨h1,H⟩|⟨h1,H⟩:=bC H
 ·refine qL 16618 232 [14] h1<|lA 3<|bE H fun v3 ev3 H=>iA zJ ev3<|lA 5 ?_
  obtain⟨h2,H⟩|⟨h2,H⟩:=bC H
  ·refine qL 8388834 224 [23] h2<|lA 1<|bE H fun r4 er4 H=>vA [.rd] (zE9 n x2 r4 er4)<|uA 2 134217954 224 ?_
   obtain⟨h3,H⟩|⟨h3,H⟩:=bC H
   ·exact nA h3<|tK<|rA 3<|bE H fun v5 ev5 H=>oA zJ ev5<|lA 1<|QR tOk (t:=4) (ty:=0) (ad:=(.tmp 33)) (x:=(.const (.bool true))) (g:=none) (tI 4) false [cB true] 7 2 (x1.toNat) 8 2 8 r1.Ps zJ v5 (⟨v5.Up,v5.Co,true,v5.Hd⟩:Pt) kr kr kr kr kr kr kr kr (zU ev5).2 kr kr kr kr<|dA 226 224<|rA 4<|bE H fun v6 ev6 H=>oA zJ ev6<|lA 1<|QR tOk (t:=73) (ty:=0) (ad:=(.tmp 39)) (x:=(.tmp 37)) (g:=none) (tI 73) true (zj x2) 7 2 (x1.toNat) 8 3 8 (r1.Ps.set (x1.toNat) (⟨v5.Up,v5.Co,true,v5.Hd⟩:Pt)) zJ v6 (⟨v6.Up,v6.Co,v6.Has,x2⟩:Pt) kr kr kr kr kr kr kr kr (zU ev6).2 kr kr kr kr<|dA 192 192<|rA 1<|bE H fun r7 er7 H=>vA [.own] (zEu n (⟨r1.Id,r1.Name,((r1.Ps.set (x1.toNat) (⟨v5.Up,v5.Co,true,v5.Hd⟩:Pt)).set (x1.toNat) (⟨v6.Up,v6.Co,v6.Has,x2⟩:Pt)),r1.F,r1.V,r1.Tk,r1.Pa,r1.Wo,r1.Dr,r1.Ve⟩:zA) r7 er7)<|uA 1 64 64<|te (fJ [(true,(zB r7))] H)
   exact tA h3<|gA 2 64 64<|te (fJ [(true,(zB r1))] H)
  exact qL 8388834 224 [23] h2<|uA 4 134217954 224<|tB_<|gA 2 64 64<|te (fJ [(true,(zB r1))] H)
 exact qL 16618 232 [14] h1<|uA 13 134217954 224<|tB_<|gA 2 64 64<|te (fJ [(true,(zB r1))] H)
def YT(n:Nat)(x0:Net)(x1:Int)(x2:Bool)(x3:Vec):Option (Net):=
  ((idx x0.Ls x1).bind fun v1=>(bif x2 then((idx x0.Bs v1.A).bind fun v4=>((Zm n v4 v1.P x3).bind fun r5=>(some (⟨(x0.Bs.set (v1.A.toNat) r5),x0.Ls,x0.Said⟩:Net))))else((idx x0.Bs v1.B).bind fun v2=>((Zm n v2 v1.Q x3).bind fun r3=>(some (⟨(x0.Bs.set (v1.B.toNat) r3),x0.Ls,x0.Said⟩:Net))))))
def zUX:Tab:=⟨20,[0,1,2,4,0,16,0,64,128,256,0,1024,2560,4096,0,16384,0,106496,262143,524287],[0,1,2,4,0,16,0,64,128,256,0,1024,2560,4096,0,16384,0,106496,40,393216],[0,1,3,7,0,16,0,64,192,448,0,1024,4032,8128,0,16384,0,131008,262143,524287]⟩
noncomputable abbrev G86(k:Nat):=Rg Tryz.f86 k
noncomputable abbrev D86(k:Nat):=Rd Tryz.f86 k
theorem zLh:qb (rg Tryz.f86 3) zUX=true:=kr
def zUY:Tab:=⟨20,[0,1,2,4,0,16,0,64,128,256,0,1024,2560,4096,0,16384,0,106496,262143,524287],[0,1,2,4,0,16,0,64,128,256,0,1024,2560,4096,0,16384,0,106496,40,393216],[0,1,3,7,0,16,0,64,192,448,0,1024,4032,8128,0,16384,0,131008,262143,524287]⟩
theorem zLi:qb (rg Tryz.f86 4) zUY=true:=kr
theorem zGY(n:Nat)(x0:Net)(x1:Int)(x2:Bool)(x3:Vec)(r:Net)(H:YT n x0 x1 x2 x3=some r):zb Tryz.prog 86 [.ptr (zD x0),.val false [.lit (.int .i64 x1)],.val false [.lit (.bool x2)],.val true (fR (zj x3))] [] [(0,(zD r))]:=by
 refine zu tOk Tryz.func86 rfl (c:=(.seq (G86 0) (.seq (G86 1) (.seq (.seq (G86 2) (.cond (.tmp 16) (.seq (D86 3) .ret) .skip)) (D86 4))))) kr (Nat.le_of_ble_eq_true kr) 1 (rs:=[]) rfl [] .nil [] [] [(0,(zD r))] fun cx=>?_
 show Tr _ _ _ ⟨55,1,[sA 0 0 3 0,sI 1 x1,sB 2 x2,sV 3 (zj x3)],[(0,(zD x0))]⟩ _
 unfold YT at H
 refine gA 1 135 129<|rA 5<|bE H fun v1 ev1 H=>oA zE ev1<|dE (tI 70) (.box 0) [(0,0),(1,(x1.toNat))] 4 0 [.sl true 3 [(zD x0)]] (zE v1) (zq rfl (zU ev1).2)<|uA 2 389 385<|tS<|gA 1 65921 385 ?_
 cases h1:x2
 ·have H:=YA h1 H
  refine nB_<|tK<|bE H fun v2 ev2 H=>bE H fun r3 er3 H=>qr zr 20 kr ⟨55,1,[sA 0 0 3 0],[(0,[cL 11 (x0.Bs.set (v1.B.toNat) r3) zB,cL 4 x0.Ls zE,cL 7 x0.Said zI])]⟩ (fun cx=>?_) ?_
  ·refine mA zLi (zl [0,1,2]++[(3,[19]),(4,[]),(5,[19])]++zl [6,7,8]++[(9,[17,19]),(10,[]),(11,[17,19])]) 8 [⟨[17,19],3,46,47⟩,⟨[17,19],24,44,45⟩,⟨[19],3,40,41⟩,⟨[19],24,38,39⟩] fun cx=>oN zLi 12 zB ev2 fun cx=>mA zLi [(14,[]),(15,[17,19]),(16,[17,19])] 4 [⟨[17,19],73,7,52⟩,⟨[17,19],3,50,51⟩,⟨[17,19],3,46,47⟩,⟨[17,19],24,44,45⟩,⟨[19],3,40,41⟩,⟨[19],24,38,39⟩] fun cx=>mC zLi 13<|dE (tI 64) (.box 0) [(0,0),(0,(v1.B.toNat))] 11 0 [.sl true 3 [(zD x0)]] (zB v2) (zq rfl (zU ev2).2)<|fA<|mC zLi 17<|zGa tOk [.rd,.rd,.rd] (f:=125) (av:= #[.tmp 49,.tmp 51,.tmp 52]) (ats:= #[64,3,73]) (d:=(some 53)) (ty:=64) (g:=none) [(49,zB v2)] none kr kr kr [.box 0] (zI5 n v2 v1.Q x3 r3 er3) (zHg (row:=[.sl true 3 [(zD x0)]]) (q:=[(0,0),(0,(v1.B.toNat))]) kr (zq rfl (zU ev2).2) zJe) kr zJd (.inr (And.intro (zN (JW _) zS) zHh))<|fA<|oN zLi 18 zB ev2 fun cx=>sA_ 0x7cf3c000000081 385 ⟨55,1,[(54,.adr (.box 0) [(0,0),(0,(v1.B.toNat))] 11 0),sV 53 (zB r3),sV 52 (zj x3),sI 51 v1.Q,sA 50 8 4 3,sI 47 v1.B,sA 46 8 4 2,sR 45 0 3 0 1 false,sA 44 0 3 0,sI 41 v1.B,sA 40 8 4 2,sR 39 0 3 0 1 false,sA 38 0 3 0,sA 7 7 5 0,sA 0 0 3 0],[(8,(zE v1)),(7,(zj x3)),(0,(zD x0))]⟩<|mC zLi 19<|QR tOk (t:=64) (ty:=0) (ad:=(.tmp 54)) (x:=(.tmp 53)) (g:=none) (tI 64) true (zB r3) 0 0 (v1.B.toNat) 11 0 11 x0.Bs zB v2 r3 kr kr kr kr kr kr kr kr (zU ev2).2 kr kr kr kr ?_
   exact fA<|mE zLi [0] [0]
  exact fY [] [(0,[cL 11 (x0.Bs.set (v1.B.toNat) r3) zB,cL 4 x0.Ls zE,cL 7 x0.Said zI])] H
 have H:=YB h1 H
 refine tB_<|bE H fun v4 ev4 H=>bE H fun r5 er5 H=>zd zr 20 kr ⟨55,1,[sA 0 0 3 0],[(0,[cL 11 (x0.Bs.set (v1.A.toNat) r5) zB,cL 4 x0.Ls zE,cL 7 x0.Said zI])]⟩ (fun cx=>?_) ?_
 ·refine mA zLh (zl [0,1,2]++[(3,[19]),(4,[]),(5,[19])]++zl [6,7,8]++[(9,[17,19]),(10,[]),(11,[17,19])]) 8 [⟨[17,19],3,27,28⟩,⟨[17,19],24,25,26⟩,⟨[19],3,21,22⟩,⟨[19],24,19,20⟩] fun cx=>oN zLh 12 zB ev4 fun cx=>mA zLh [(14,[]),(15,[17,19]),(16,[17,19])] 4 [⟨[17,19],73,7,33⟩,⟨[17,19],3,31,32⟩,⟨[17,19],3,27,28⟩,⟨[17,19],24,25,26⟩,⟨[19],3,21,22⟩,⟨[19],24,19,20⟩] fun cx=>mC zLh 13<|dE (tI 64) (.box 0) [(0,0),(0,(v1.A.toNat))] 11 0 [.sl true 3 [(zD x0)]] (zB v4) (zq rfl (zU ev4).2)<|fA<|mC zLh 17<|zGa tOk [.rd,.rd,.rd] (f:=125) (av:= #[.tmp 30,.tmp 32,.tmp 33]) (ats:= #[64,3,73]) (d:=(some 34)) (ty:=64) (g:=none) [(30,zB v4)] none kr kr kr [.box 0] (zI5 n v4 v1.P x3 r5 er5) (zHg (row:=[.sl true 3 [(zD x0)]]) (q:=[(0,0),(0,(v1.A.toNat))]) kr (zq rfl (zU ev4).2) zJe) kr zJd (.inr (And.intro (zN (JW _) zS) zHh))<|fA<|oN zLh 18 zB ev4 fun cx=>sA_ 67083174017 385 ⟨55,1,[(35,.adr (.box 0) [(0,0),(0,(v1.A.toNat))] 11 0),sV 34 (zB r5),sV 33 (zj x3),sI 32 v1.P,sA 31 8 4 1,sI 28 v1.A,sA 27 8 4 0,sR 26 0 3 0 1 false,sA 25 0 3 0,sI 22 v1.A,sA 21 8 4 0,sR 20 0 3 0 1 false,sA 19 0 3 0,sA 7 7 5 0,sA 0 0 3 0],[(8,(zE v1)),(7,(zj x3)),(0,(zD x0))]⟩<|mC zLh 19<|QR tOk (t:=64) (ty:=0) (ad:=(.tmp 35)) (x:=(.tmp 34)) (g:=none) (tI 64) true (zB r5) 0 0 (v1.A.toNat) 11 0 11 x0.Bs zB v4 r5 kr kr kr kr kr kr kr kr (zU ev4).2 kr kr kr kr ?_
  exact fA<|mE zLh [0] [0]
 exact te<|fY [] [(0,[cL 11 (x0.Bs.set (v1.A.toNat) r5) zB,cL 4 x0.Ls zE,cL 7 x0.Said zI])] H
def zAx(n:Nat)(x0:Net)(x1:Event):Option (Net):=
  ((idx x0.Said x1.At).bind fun v1=>(bif (decide ((0:Int)≤0)&&(decide ((0:Int)≤x1.At)&&decide ((x1.At:Int)≤(x0.Said.length:Int))))then(bif (decide (([]:List Say).length+((x0.Said.drop ((0:Int)).toNat).take (((x1.At:Int)).toNat-((0:Int)).toNat)).length≤268435456))then(bif (decide ((0:Int)≤(wI (x1.At+1)))&&(decide (((wI (x1.At+1)):Int)≤(x0.Said.length:Int))&&decide (((x0.Said.length:Int):Int)≤(x0.Said.length:Int))))then(bif (decide ((([]:List Say)++((x0.Said.drop ((0:Int)).toNat).take (((x1.At:Int)).toNat-((0:Int)).toNat))).length+((x0.Said.drop (((wI (x1.At+1)):Int)).toNat).take ((((x0.Said.length:Int):Int)).toNat-(((wI (x1.At+1)):Int)).toNat)).length≤268435456))then(bif (x1.Ki==2)then((qV n (⟨x0.Bs,x0.Ls,((([]:List Say)++((x0.Said.drop ((0:Int)).toNat).take (((x1.At:Int)).toNat-((0:Int)).toNat)))++((x0.Said.drop (((wI (x1.At+1)):Int)).toNat).take ((((x0.Said.length:Int):Int)).toNat-(((wI (x1.At+1)):Int)).toNat)))⟩:Net) v1.Link).bind fun r6=>(bif r6 then((YT n (⟨x0.Bs,x0.Ls,((([]:List Say)++((x0.Said.drop ((0:Int)).toNat).take (((x1.At:Int)).toNat-((0:Int)).toNat)))++((x0.Said.drop (((wI (x1.At+1)):Int)).toNat).take ((((x0.Said.length:Int):Int)).toNat-(((wI (x1.At+1)):Int)).toNat)))⟩:Net) v1.Link v1.Back v1.V).bind fun r7=>(some r7))else(some (⟨x0.Bs,x0.Ls,((([]:List Say)++((x0.Said.drop ((0:Int)).toNat).take (((x1.At:Int)).toNat-((0:Int)).toNat)))++((x0.Said.drop (((wI (x1.At+1)):Int)).toNat).take ((((x0.Said.length:Int):Int)).toNat-(((wI (x1.At+1)):Int)).toNat)))⟩:Net))))else(some (⟨x0.Bs,x0.Ls,((([]:List Say)++((x0.Said.drop ((0:Int)).toNat).take (((x1.At:Int)).toNat-((0:Int)).toNat)))++((x0.Said.drop (((wI (x1.At+1)):Int)).toNat).take ((((x0.Said.length:Int):Int)).toNat-(((wI (x1.At+1)):Int)).toNat)))⟩:Net)))else none)else none)else none)else none))
def zUU:Tab:=⟨22,[0,0,0,4,8,16,0,64,160,258,0,1024,2048,4096,0,16384,32768,73728,131584,524287,1048575,1572863],[0,0,0,4,8,16,0,64,160,258,0,1024,2048,4096,0,16384,32768,73728,131584,1,524288,1310720],[0,0,0,4,12,28,0,64,252,510,0,1024,3072,7168,0,16384,49152,130048,262142,524287,1048575,2097151]⟩
noncomputable abbrev G81(k:Nat):=Rg Tryz.f81 k
noncomputable abbrev D81(k:Nat):=Rd Tryz.f81 k
theorem QD:qb (rg Tryz.f81 2) zUU=true:=kr
theorem zKz(n:Nat)(x0:Net)(x1:Event)(v1:Say)(hg2:(decide ((0:Int)≤0)&&(decide ((0:Int)≤x1.At)&&decide ((x1.At:Int)≤(x0.Said.length:Int))))=true)(hg3:(decide (([]:List Say).length+((x0.Said.drop ((0:Int)).toNat).take (((x1.At:Int)).toNat-((0:Int)).toNat)).length≤268435456))=true)(hg4:(decide ((0:Int)≤(wI (x1.At+1)))&&(decide (((wI (x1.At+1)):Int)≤(x0.Said.length:Int))&&decide (((x0.Said.length:Int):Int)≤(x0.Said.length:Int))))=true)(hg5:(decide ((([]:List Say)++((x0.Said.drop ((0:Int)).toNat).take (((x1.At:Int)).toNat-((0:Int)).toNat))).length+((x0.Said.drop (((wI (x1.At+1)):Int)).toNat).take ((((x0.Said.length:Int):Int)).toNat-(((wI (x1.At+1)):Int)).toNat)).length≤268435456))=true)(cx:Cx):AT Tryz.prog cx (rg Tryz.f81 2) [] 22 [] ⟨53,1,[sA 4 4 7 0,sA 3 3 2 0,sA 0 0 3 0],[(0,[cL 11 x0.Bs zB,cL 4 x0.Ls zE,cF 7 x0.Said zI]),(4,(zI v1)),(3,(QZ x1))]⟩ (fun s=>s=⟨53,1,[sA 4 4 7 0,sA 3 3 2 0,sA 0 0 3 0],[(0,[cL 11 x0.Bs zB,cL 4 x0.Ls zE,cL 7 ((([]:List Say)++((x0.Said.drop ((0:Int)).toNat).take (((x1.At:Int)).toNat-((0:Int)).toNat)))++((x0.Said.drop (((wI (x1.At+1)):Int)).toNat).take ((((x0.Said.length:Int):Int)).toNat-(((wI (x1.At+1)):Int)).toNat))) zI]),(4,(zI v1)),(3,(QZ x1))]⟩):=by
 refine mA QD (zl [0,2,3,4]++[(5,[8,9,18,21]),(6,[]),(7,[8,9,18,21])]++zl [10,11,12]++[(13,[17,18,21]),(14,[]),(15,[17,18,21]),(16,[])]) 8 [⟨[17,18,21],3,27,28⟩,⟨[17,18,21],26,25,26⟩,⟨[8,9,18,21],3,19,20⟩,⟨[8,9,18,21],26,17,18⟩] fun cx=>mB3 tOk QD 1 8 17 kr (And.intro kr ?_) (And.intro kr ?_) (And.intro kr ?_)
 ·refine lA 1<|fA<|mB2 tOk QD 8 17 kr (And.intro kr ?_) (And.intro kr ?_)
  ·refine qd tOk (t:=26) (ty:=26) (e:=101) (x:=(.tmp 18)) (lo:=none) (hi:=(some (.tmp 20))) (d:=21) (g:=none) (tI 101) zI x0.Said ⟨(.box 0),[(0,0)],2,false,7,(zQ (x0.Said.map zI))⟩ 0 x1.At kr kr kr kr kr kr rfl kr rfl kr kr hg2<|fA<|mB2 tOk QD 9 17 kr (And.intro kr ?_) (And.intro kr ?_)
   ·exact pD zI hg3<|fA<|mC QD 17<|qd tOk (t:=26) (ty:=26) (e:=101) (x:=(.tmp 26)) (lo:=(some (.tmp 29))) (hi:=none) (d:=30) (g:=none) (tI 101) zI x0.Said ⟨(.box 0),[(0,0)],2,false,7,(zQ (x0.Said.map zI))⟩ (wI (x1.At+1)) (x0.Said.length:Int) kr kr kr kr kr kr rfl kr rfl kr kr hg4<|fA<|mC QD 18<|pD zI hg5<|fA<|mA QD [(19,[]),(20,[])] 1 [⟨[17,18,21],3,27,28⟩,⟨[17,18,21],26,25,26⟩,⟨[8,9,18,21],3,19,20⟩,⟨[8,9,18,21],26,17,18⟩] fun cx=>mC QD 21<|lA 1<|fA<|mE QD [4,3,0] [0,4,3]
   ·exact qd tOk (t:=26) (ty:=26) (e:=101) (x:=(.tmp 26)) (lo:=(some (.tmp 29))) (hi:=none) (d:=30) (g:=none) (tI 101) zI x0.Said ⟨(.box 0),[(0,0)],2,false,7,(zQ (x0.Said.map zI))⟩ (wI (x1.At+1)) (x0.Said.length:Int) kr kr kr kr kr kr rfl kr rfl kr kr hg4<|fA<|mC QD 9<|pD zI hg3<|fA<|mC QD 18<|pD zI hg5<|fA<|mA QD [(19,[]),(20,[])] 1 [⟨[17,18,21],3,27,28⟩,⟨[17,18,21],26,25,26⟩,⟨[8,9,18,21],3,19,20⟩,⟨[8,9,18,21],26,17,18⟩] fun cx=>mC QD 21<|lA 1<|fA<|mE QD [4,3,0] [0,4,3]
  ·exact qd tOk (t:=26) (ty:=26) (e:=101) (x:=(.tmp 26)) (lo:=(some (.tmp 29))) (hi:=none) (d:=30) (g:=none) (tI 101) zI x0.Said ⟨(.box 0),[(0,0)],2,false,7,(zQ (x0.Said.map zI))⟩ (wI (x1.At+1)) (x0.Said.length:Int) kr kr kr kr kr kr rfl kr rfl kr kr hg4<|fA<|mC QD 8<|qd tOk (t:=26) (ty:=26) (e:=101) (x:=(.tmp 18)) (lo:=none) (hi:=(some (.tmp 20))) (d:=21) (g:=none) (tI 101) zI x0.Said ⟨(.box 0),[(0,0)],2,false,7,(zQ (x0.Said.map zI))⟩ 0 x1.At kr kr kr kr kr kr rfl kr rfl kr kr hg2<|fA<|mC QD 9<|pD zI hg3<|fA<|mC QD 18<|pD zI hg5<|fA<|mA QD [(19,[]),(20,[])] 1 [⟨[17,18,21],3,27,28⟩,⟨[17,18,21],26,25,26⟩,⟨[8,9,18,21],3,19,20⟩,⟨[8,9,18,21],26,17,18⟩] fun cx=>mC QD 21<|lA 1<|fA<|mE QD [4,3,0] [0,4,3]
 ·refine qd tOk (t:=26) (ty:=26) (e:=101) (x:=(.tmp 18)) (lo:=none) (hi:=(some (.tmp 20))) (d:=21) (g:=none) (tI 101) zI x0.Said ⟨(.box 0),[(0,0)],2,false,7,(zQ (x0.Said.map zI))⟩ 0 x1.At kr kr kr kr kr kr rfl kr rfl kr kr hg2<|fA<|mB2 tOk QD 1 17 kr (And.intro kr ?_) (And.intro kr ?_)
  ·refine lA 1<|fA<|mB2 tOk QD 9 17 kr (And.intro kr ?_) (And.intro kr ?_)
   ·exact pD zI hg3<|fA<|mC QD 17<|qd tOk (t:=26) (ty:=26) (e:=101) (x:=(.tmp 26)) (lo:=(some (.tmp 29))) (hi:=none) (d:=30) (g:=none) (tI 101) zI x0.Said ⟨(.box 0),[(0,0)],2,false,7,(zQ (x0.Said.map zI))⟩ (wI (x1.At+1)) (x0.Said.length:Int) kr kr kr kr kr kr rfl kr rfl kr kr hg4<|fA<|mC QD 18<|pD zI hg5<|fA<|mA QD [(19,[]),(20,[])] 1 [⟨[17,18,21],3,27,28⟩,⟨[17,18,21],26,25,26⟩,⟨[8,9,18,21],3,19,20⟩,⟨[8,9,18,21],26,17,18⟩] fun cx=>mC QD 21<|lA 1<|fA<|mE QD [4,3,0] [0,4,3]
   ·exact qd tOk (t:=26) (ty:=26) (e:=101) (x:=(.tmp 26)) (lo:=(some (.tmp 29))) (hi:=none) (d:=30) (g:=none) (tI 101) zI x0.Said ⟨(.box 0),[(0,0)],2,false,7,(zQ (x0.Said.map zI))⟩ (wI (x1.At+1)) (x0.Said.length:Int) kr kr kr kr kr kr rfl kr rfl kr kr hg4<|fA<|mC QD 9<|pD zI hg3<|fA<|mC QD 18<|pD zI hg5<|fA<|mA QD [(19,[]),(20,[])] 1 [⟨[17,18,21],3,27,28⟩,⟨[17,18,21],26,25,26⟩,⟨[8,9,18,21],3,19,20⟩,⟨[8,9,18,21],26,17,18⟩] fun cx=>mC QD 21<|lA 1<|fA<|mE QD [4,3,0] [0,4,3]
  ·exact qd tOk (t:=26) (ty:=26) (e:=101) (x:=(.tmp 26)) (lo:=(some (.tmp 29))) (hi:=none) (d:=30) (g:=none) (tI 101) zI x0.Said ⟨(.box 0),[(0,0)],2,false,7,(zQ (x0.Said.map zI))⟩ (wI (x1.At+1)) (x0.Said.length:Int) kr kr kr kr kr kr rfl kr rfl kr kr hg4<|fA<|mC QD 1<|lA 1<|fA<|mC QD 9<|pD zI hg3<|fA<|mC QD 18<|pD zI hg5<|fA<|mA QD [(19,[]),(20,[])] 1 [⟨[17,18,21],3,27,28⟩,⟨[17,18,21],26,25,26⟩,⟨[8,9,18,21],3,19,20⟩,⟨[8,9,18,21],26,17,18⟩] fun cx=>mC QD 21<|lA 1<|fA<|mE QD [4,3,0] [0,4,3]
 ·refine qd tOk (t:=26) (ty:=26) (e:=101) (x:=(.tmp 26)) (lo:=(some (.tmp 29))) (hi:=none) (d:=30) (g:=none) (tI 101) zI x0.Said ⟨(.box 0),[(0,0)],2,false,7,(zQ (x0.Said.map zI))⟩ (wI (x1.At+1)) (x0.Said.length:Int) kr kr kr kr kr kr rfl kr rfl kr kr hg4<|fA<|mB2 tOk QD 1 8 kr (And.intro kr ?_) (And.intro kr ?_)
  ·exact lA 1<|fA<|mC QD 8<|qd tOk (t:=26) (ty:=26) (e:=101) (x:=(.tmp 18)) (lo:=none) (hi:=(some (.tmp 20))) (d:=21) (g:=none) (tI 101) zI x0.Said ⟨(.box 0),[(0,0)],2,false,7,(zQ (x0.Said.map zI))⟩ 0 x1.At kr kr kr kr kr kr rfl kr rfl kr kr hg2<|fA<|mC QD 9<|pD zI hg3<|fA<|mC QD 18<|pD zI hg5<|fA<|mA QD [(19,[]),(20,[])] 1 [⟨[17,18,21],3,27,28⟩,⟨[17,18,21],26,25,26⟩,⟨[8,9,18,21],3,19,20⟩,⟨[8,9,18,21],26,17,18⟩] fun cx=>mC QD 21<|lA 1<|fA<|mE QD [4,3,0] [0,4,3]
  ·exact qd tOk (t:=26) (ty:=26) (e:=101) (x:=(.tmp 18)) (lo:=none) (hi:=(some (.tmp 20))) (d:=21) (g:=none) (tI 101) zI x0.Said ⟨(.box 0),[(0,0)],2,false,7,(zQ (x0.Said.map zI))⟩ 0 x1.At kr kr kr kr kr kr rfl kr rfl kr kr hg2<|fA<|mC QD 1<|lA 1<|fA<|mC QD 9<|pD zI hg3<|fA<|mC QD 18<|pD zI hg5<|fA<|mA QD [(19,[]),(20,[])] 1 [⟨[17,18,21],3,27,28⟩,⟨[17,18,21],26,25,26⟩,⟨[8,9,18,21],3,19,20⟩,⟨[8,9,18,21],26,17,18⟩] fun cx=>mC QD 21<|lA 1<|fA<|mE QD [4,3,0] [0,4,3]
theorem zNy(n:Nat)(x0:Net)(x1:Event)(r:Net)(H:zAx n x0 x1=some r):zb Tryz.prog 81 [.ptr (zD x0),.val true (fR (QZ x1))] [] [(0,(zD r))]:=by
 refine zu tOk Tryz.func81 rfl (c:=(.seq (G81 0) (.seq (D81 1) (.seq (D81 2) (.seq (D81 3) (.cond (.tmp 44) (G81 4) .skip)))))) kr (Nat.le_of_ble_eq_true kr) 1 (rs:=[]) rfl [] .nil [] [] [(0,(zD r))] fun cx=>?_
 show Tr _ _ _ ⟨53,1,[sA 0 0 3 0,sV 1 (QZ x1)],[(0,(zD x0))]⟩ _
 unfold zAx at H
 refine gA 1 9 9<|bE H fun v1 ev1 H=>zd zr 10 kr ⟨53,1,[sA 4 4 7 0,sA 3 3 2 0,sA 0 0 3 0],[(4,(zI v1)),(3,(QZ x1)),(0,(zD x0))]⟩ (fun cx=>?_) ?_
 ·refine aA (zl [0,1,2]++[(3,[9]),(4,[]),(5,[9])]) 4 [⟨[9],3,9,10⟩,⟨[9],26,7,8⟩] fun cx=>aO tOk 6 26 0 8 10 11 none ⟨(.box 0),[(0,0)],2,true,7,(x0.Said.map zI)⟩ x1.At (x1.At.toNat) (zI v1) _ kr kr kr kr kr kr rfl kr (JG ev1) rfl rfl (fun cx=>?_)
  refine YJ tOk 7 8 kr (And.intro kr ?_) (And.intro kr ?_)
  ·exact dE (tI 101) (.box 0) [(0,0),(2,(x1.At.toNat))] 7 0 [.sl true 3 [(zD x0)]] (zI v1) (zq rfl (zU ev1).2)<|fA<|bA 8<|lA 1<|fA<|sA_ 6041 25 ⟨53,1,[sA 4 4 7 0,sV 12 (zI v1),sI 10 x1.At,sA 9 3 2 1,sR 8 0 3 2 1 false,sA 7 0 3 2,sA 3 3 2 0,sA 0 0 3 0],[(4,[cI 0,cB false,cI 0,cI 0,cI 0,cI 0,cI 0]),(3,(QZ x1)),(0,(zD x0))]⟩<|bA 9<|lA 1<|fA<|eE [4,3,0] [4,3,0]
  ·exact lA 1<|fA<|bA 7<|dE (tI 101) (.box 0) [(0,0),(2,(x1.At.toNat))] 7 0 [.sl true 3 [(zD x0)]] (zI v1) (zq rfl (zU ev1).2)<|fA<|sA_ 6041 25 ⟨53,1,[sV 12 (zI v1),sA 4 4 7 0,sI 10 x1.At,sA 9 3 2 1,sR 8 0 3 2 1 false,sA 7 0 3 2,sA 3 3 2 0,sA 0 0 3 0],[(4,[cI 0,cB false,cI 0,cI 0,cI 0,cI 0,cI 0]),(3,(QZ x1)),(0,(zD x0))]⟩<|bA 9<|lA 1<|fA<|eE [4,3,0] [4,3,0]
 refine Tr.frzP 0 2 1<|gE H fun hg2 H=>gE H fun hg3 H=>gE H fun hg4 H=>gE H fun hg5 H=>sT ⟨53,1,[sA 4 4 7 0,sA 3 3 2 0,sA 0 0 3 0],[(0,[cL 11 x0.Bs zB,cL 4 x0.Ls zE,cF 7 x0.Said zI]),(4,(zI v1)),(3,(QZ x1))]⟩<|zd zr 22 kr ⟨53,1,[sA 4 4 7 0,sA 3 3 2 0,sA 0 0 3 0],[(0,[cL 11 x0.Bs zB,cL 4 x0.Ls zE,cL 7 ((([]:List Say)++((x0.Said.drop ((0:Int)).toNat).take (((x1.At:Int)).toNat-((0:Int)).toNat)))++((x0.Said.drop (((wI (x1.At+1)):Int)).toNat).take ((((x0.Said.length:Int):Int)).toNat-(((wI (x1.At+1)):Int)).toNat))) zI]),(4,(zI v1)),(3,(QZ x1))]⟩ (zKz n x0 x1 v1 hg2 hg3 hg4 hg5)<|tS<|sT ⟨53,1,[sA 4 4 7 0,sA 3 3 2 0,sA 0 0 3 0],[(0,[cL 11 x0.Bs zB,cL 4 x0.Ls zE,cL 7 ((([]:List Say)++((x0.Said.drop ((0:Int)).toNat).take (((x1.At:Int)).toNat-((0:Int)).toNat)))++((x0.Said.drop (((wI (x1.At+1)):Int)).toNat).take ((((x0.Said.length:Int):Int)).toNat-(((wI (x1.At+1)):Int)).toNat))) zI]),(4,(zI v1)),(3,(QZ x1))]⟩ ?_
 cases h1:(x1.Ki==2)
 ·have H:=YA h1 H
  refine qr zr 11 kr ⟨53,1,[sB 44 false,sA 4 4 7 0,sA 0 0 3 0],[(0,[cL 11 x0.Bs zB,cL 4 x0.Ls zE,cL 7 ((([]:List Say)++((x0.Said.drop ((0:Int)).toNat).take (((x1.At:Int)).toNat-((0:Int)).toNat)))++((x0.Said.drop (((wI (x1.At+1)):Int)).toNat).take ((((x0.Said.length:Int):Int)).toNat-(((wI (x1.At+1)):Int)).toNat))) zI]),(4,(zI v1))]⟩ (fun cx=>?_) ?_
  ·exact aA (zl [0,1,2,3]) 7 [⟨[],3,34,35⟩] fun cx=>qA 188978561041 25 [37] h1<|aA (zl [4,5,6,7,8,9,10]) 0 [⟨[],3,34,35⟩] fun cx=>eE [44,4,0] [0,4]
  exact nB_<|tK<|fY [] [(0,[cL 11 x0.Bs zB,cL 4 x0.Ls zE,cL 7 ((([]:List Say)++((x0.Said.drop ((0:Int)).toNat).take (((x1.At:Int)).toNat-((0:Int)).toNat)))++((x0.Said.drop (((wI (x1.At+1)):Int)).toNat).take ((((x0.Said.length:Int):Int)).toNat-(((wI (x1.At+1)):Int)).toNat))) zI])] H
 have H:=YB h1 H
 refine bE H fun r6 er6 H=>qr zr 11 kr ⟨53,1,[sB 44 r6,sA 4 4 7 0,sA 0 0 3 0],[(0,[cL 11 x0.Bs zB,cL 4 x0.Ls zE,cL 7 ((([]:List Say)++((x0.Said.drop ((0:Int)).toNat).take (((x1.At:Int)).toNat-((0:Int)).toNat)))++((x0.Said.drop (((wI (x1.At+1)):Int)).toNat).take ((((x0.Said.length:Int):Int)).toNat-(((wI (x1.At+1)):Int)).toNat))) zI]),(4,(zI v1))]⟩ (fun cx=>?_) ?_
 ·exact aA [(0,[]),(1,[9]),(2,[]),(3,[])] 7 [⟨[9],3,34,35⟩] fun cx=>qA 188978561041 25 [37] h1<|aA [(4,[]),(5,[]),(6,[9]),(7,[]),(8,[9])] 2 [⟨[9],3,41,42⟩,⟨[9],28,39,40⟩,⟨[9],3,34,35⟩] fun cx=>bA 9<|vB [.rd,.rd] [.box 0] (zAT n (⟨x0.Bs,x0.Ls,((([]:List Say)++((x0.Said.drop ((0:Int)).toNat).take (((x1.At:Int)).toNat-((0:Int)).toNat)))++((x0.Said.drop (((wI (x1.At+1)):Int)).toNat).take ((((x0.Said.length:Int):Int)).toNat-(((wI (x1.At+1)):Int)).toNat)))⟩:Net) v1.Link r6 er6) (.inr (zN (zH zT zR) zS))<|fA<|aA [(10,[])] 0 [⟨[9],3,41,42⟩,⟨[9],28,39,40⟩,⟨[9],3,34,35⟩] fun cx=>eE [44,4,0] [0,4]
 cases h2:r6
 ·have H:=YA h2 H
  exact nB_<|tK<|fY [] [(0,[cL 11 x0.Bs zB,cL 4 x0.Ls zE,cL 7 ((([]:List Say)++((x0.Said.drop ((0:Int)).toNat).take (((x1.At:Int)).toNat-((0:Int)).toNat)))++((x0.Said.drop (((wI (x1.At+1)):Int)).toNat).take ((((x0.Said.length:Int):Int)).toNat-(((wI (x1.At+1)):Int)).toNat))) zI])] H
 have H:=YB h2 H
 exact tB_<|Tr.at<|lA 7<|bE H fun r7 er7 H=>vL [.lend,.rd,.rd,.rd] (zGY n (⟨x0.Bs,x0.Ls,((([]:List Say)++((x0.Said.drop ((0:Int)).toNat).take (((x1.At:Int)).toNat-((0:Int)).toNat)))++((x0.Said.drop (((wI (x1.At+1)):Int)).toNat).take ((((x0.Said.length:Int):Int)).toNat-(((wI (x1.At+1)):Int)).toNat)))⟩:Net) v1.Link v1.Back v1.V r7 er7)<|dA 1 1<|fY [] [(0,(zD r7))] H
def zBz(n:Nat)(x0:Net)(x1:Int)(x2:Bool):Option (Net):=
  ((qV n x0 x1).bind fun r1=>(bif (r1==x2)then(some x0)else((idx x0.Ls x1).bind fun v2=>((idx x0.Bs v2.A).bind fun v3=>((YP n v3 v2.P x2).bind fun r4=>((idx (x0.Bs.set (v2.A.toNat) r4) v2.B).bind fun v5=>((YP n v5 v2.Q x2).bind fun r6=>(some (⟨((x0.Bs.set (v2.A.toNat) r4).set (v2.B.toNat) r6),x0.Ls,x0.Said⟩:Net)))))))))
def zUV:Tab:=⟨20,[0,1,2,4,0,16,0,64,128,256,0,1024,2560,4096,0,16384,0,106496,262143,524287],[0,1,2,4,0,16,0,64,128,256,0,1024,2560,4096,0,16384,0,106496,40,393216],[0,1,3,7,0,16,0,64,192,448,0,1024,4032,8128,0,16384,0,131008,262143,524287]⟩
noncomputable abbrev G82(k:Nat):=Rg Tryz.f82 k
noncomputable abbrev D82(k:Nat):=Rd Tryz.f82 k
theorem zLf:qb (rg Tryz.f82 2) zUV=true:=kr
def zUW:Tab:=⟨20,[0,1,2,4,0,16,0,64,128,256,0,1024,2560,4096,0,16384,0,106496,262143,524287],[0,1,2,4,0,16,0,64,128,256,0,1024,2560,4096,0,16384,0,106496,40,393216],[0,1,3,7,0,16,0,64,192,448,0,1024,4032,8128,0,16384,0,131008,262143,524287]⟩
theorem zLg:qb (rg Tryz.f82 3) zUW=true:=kr
theorem zNx(n:Nat)(x0:Net)(x1:Int)(x2:Bool)(r:Net)(H:zBz n x0 x1 x2=some r):zb Tryz.prog 82 [.ptr (zD x0),.val false [.lit (.int .i64 x1)],.val false [.lit (.bool x2)]] [] [(0,(zD r))]:=by
 refine zu tOk Tryz.func82 rfl (c:=(.seq (.seq (G82 0) (.cond (.tmp 13) .ret .skip)) (.seq (G82 1) (.seq (D82 2) (D82 3))))) kr (Nat.le_of_ble_eq_true kr) 1 (rs:=[]) rfl [] .nil [] [] [(0,(zD r))] fun cx=>?_
 show Tr _ _ _ ⟨59,1,[sA 0 0 3 0,sI 1 x1,sB 2 x2],[(0,(zD x0))]⟩ _
 unfold zBz at H
 refine tS<|rA 4<|bE H fun r1 er1 H=>vB [.rd,.rd] [.box 0] (zAT n x0 x1 r1 er1) (.inr (zN (zH zT zR) zS))<|uA 2 8199 1 ?_
 obtain⟨h1,H⟩|⟨h1,H⟩:=bC H
 ·refine nA h1<|tK<|rA 5<|bE H fun v2 ev2 H=>oA zE ev2<|dE (tI 70) (.box 0) [(0,0),(1,(x1.toNat))] 4 0 [.sl true 3 [(zD x0)]] (zE v2) (zq rfl (zU ev2).2)<|uA 2 69 65<|bE H fun v3 ev3 H=>bE H fun r4 er4 H=>zd zr 20 kr ⟨59,1,[sA 6 6 4 0,sA 0 0 3 0,sB 2 x2],[(0,[cL 11 (x0.Bs.set (v2.A.toNat) r4) zB,cL 4 x0.Ls zE,cL 7 x0.Said zI]),(6,(zE v2))]⟩ (fun cx=>?_) ?_
  ·refine mA zLf (zl [0,1,2]++[(3,[19]),(4,[]),(5,[19])]++zl [6,7,8]++[(9,[17,19]),(10,[]),(11,[17,19])]) 8 [⟨[17,19],3,31,32⟩,⟨[17,19],24,29,30⟩,⟨[19],3,25,26⟩,⟨[19],24,23,24⟩] fun cx=>oN zLf 12 zB ev3 fun cx=>mA zLf [(14,[]),(15,[17,19]),(16,[])] 4 [⟨[17,19],3,35,36⟩,⟨[17,19],3,31,32⟩,⟨[17,19],24,29,30⟩,⟨[19],3,25,26⟩,⟨[19],24,23,24⟩] fun cx=>mC zLf 13<|dE (tI 64) (.box 0) [(0,0),(0,(v2.A.toNat))] 11 0 [.sl true 3 [(zD x0)]] (zB v3) (zq rfl (zU ev3).2)<|fA<|mC zLf 17<|zGa tOk [.rd,.rd,.rd] (f:=121) (av:= #[.tmp 34,.tmp 36,.tmp 37]) (ats:= #[64,3,4]) (d:=(some 38)) (ty:=64) (g:=none) [(34,zB v3)] none kr kr kr [.box 0] (zGW n v3 v2.P x2 r4 er4) (zHg (row:=[.sl true 3 [(zD x0)]]) (q:=[(0,0),(0,(v2.A.toNat))]) kr (zq rfl (zU ev3).2) zJe) kr zJd (.inr (And.intro (zN (JW _) zS) zHh))<|fA<|oN zLf 18 zB ev3 fun cx=>sA_ 935891828805 65 ⟨59,1,[(39,.adr (.box 0) [(0,0),(0,(v2.A.toNat))] 11 0),sV 38 (zB r4),sI 36 v2.P,sA 35 6 4 1,sI 32 v2.A,sA 31 6 4 0,sR 30 0 3 0 1 false,sA 29 0 3 0,sI 26 v2.A,sA 25 6 4 0,sR 24 0 3 0 1 false,sA 23 0 3 0,sA 6 6 4 0,sA 0 0 3 0,sB 2 x2],[(6,(zE v2)),(0,(zD x0))]⟩<|mC zLf 19<|QR tOk (t:=64) (ty:=0) (ad:=(.tmp 39)) (x:=(.tmp 38)) (g:=none) (tI 64) true (zB r4) 0 0 (v2.A.toNat) 11 0 11 x0.Bs zB v3 r4 kr kr kr kr kr kr kr kr (zU ev3).2 kr kr kr kr ?_
   exact fA<|mE zLf [6,0,2] [0,6]
  refine bE H fun v5 ev5 H=>bE H fun r6 er6 H=>qr zr 20 kr ⟨59,1,[sA 0 0 3 0],[(0,[cL 11 ((x0.Bs.set (v2.A.toNat) r4).set (v2.B.toNat) r6) zB,cL 4 x0.Ls zE,cL 7 x0.Said zI])]⟩ (fun cx=>?_) ?_
  ·refine mA zLg (zl [0,1,2]++[(3,[19]),(4,[]),(5,[19])]++zl [6,7,8]++[(9,[17,19]),(10,[]),(11,[17,19])]) 8 [⟨[17,19],3,50,51⟩,⟨[17,19],24,48,49⟩,⟨[19],3,44,45⟩,⟨[19],24,42,43⟩] fun cx=>oN zLg 12 zB ev5 fun cx=>mA zLg [(14,[]),(15,[17,19]),(16,[])] 4 [⟨[17,19],3,54,55⟩,⟨[17,19],3,50,51⟩,⟨[17,19],24,48,49⟩,⟨[19],3,44,45⟩,⟨[19],24,42,43⟩] fun cx=>mC zLg 13<|dE (tI 64) (.box 0) [(0,0),(0,(v2.B.toNat))] 11 0 [.sl true 3 [[cL 11 (x0.Bs.set (v2.A.toNat) r4) zB,cL 4 x0.Ls zE,cL 7 x0.Said zI]]] (zB v5) (zq rfl (zU ev5).2)<|fA<|mC zLg 17<|zGa tOk [.rd,.rd,.rd] (f:=121) (av:= #[.tmp 53,.tmp 55,.tmp 56]) (ats:= #[64,3,4]) (d:=(some 57)) (ty:=64) (g:=none) [(53,zB v5)] none kr kr kr [.box 0] (zGW n v5 v2.Q x2 r6 er6) (zHg (row:=[.sl true 3 [[cL 11 (x0.Bs.set (v2.A.toNat) r4) zB,cL 4 x0.Ls zE,cL 7 x0.Said zI]]]) (q:=[(0,0),(0,(v2.B.toNat))]) kr (zq rfl (zU ev5).2) zJe) kr zJd (.inr (And.intro (zN (JW _) zS) zHh))<|fA<|oN zLg 18 zB ev5 fun cx=>sA_ 0x6cf3c0000000001 65 ⟨59,1,[(58,.adr (.box 0) [(0,0),(0,(v2.B.toNat))] 11 0),sV 57 (zB r6),sI 55 v2.Q,sA 54 6 4 3,sI 51 v2.B,sA 50 6 4 2,sR 49 0 3 0 1 false,sA 48 0 3 0,sI 45 v2.B,sA 44 6 4 2,sR 43 0 3 0 1 false,sA 42 0 3 0,sA 0 0 3 0],[(0,[cL 11 (x0.Bs.set (v2.A.toNat) r4) zB,cL 4 x0.Ls zE,cL 7 x0.Said zI]),(6,(zE v2))]⟩ ?_
   exact mC zLg 19<|QR tOk (t:=64) (ty:=0) (ad:=(.tmp 58)) (x:=(.tmp 57)) (g:=none) (tI 64) true (zB r6) 0 0 (v2.B.toNat) 11 0 11 (x0.Bs.set (v2.A.toNat) r4) zB v5 r6 kr kr kr kr kr kr kr kr (zU ev5).2 kr kr kr kr<|fA<|mE zLg [0] [0]
  exact fY [] [(0,[cL 11 ((x0.Bs.set (v2.A.toNat) r4).set (v2.B.toNat) r6) zB,cL 4 x0.Ls zE,cL 7 x0.Said zI])] H
 exact tA h1<|te<|fY [] [(0,(zD x0))] H
def Jf(n:Nat)(r1:Net)(x0:Net)(x1:Event)(y5:Bool):Option (Net×Bool):=
  (bif y5 then((ze n x1.At 0 (wI ((x0.Ls.length:Int)-1))).bind fun r6=>(bif (!r6)then(some (r1,false))else((zBz n r1 x1.At (x1.Ki==5)).bind fun r7=>(some (r7,true)))))else(some (r1,false)))
def Je(n:Nat)(r1:Net)(x0:Net)(x1:Event)(y4:Bool):Option (Net×Bool):=
  (bif y4 then((ze n x1.At 0 (wI ((x0.Said.length:Int)-1))).bind fun r8=>(bif (!r8)then(some (r1,false))else((zAx n r1 x1).bind fun r9=>(some (r9,true)))))else(bif (x1.Ki==4)then(Jf n r1 x0 x1 true)else(Jf n r1 x0 x1 (x1.Ki==5))))
def QU(n:Nat)(r1:Net)(x0:Net)(x1:Event)(y3:Bool):Option (Net×Bool):=
  (bif y3 then((ze n x1.At 0 (wI ((x0.Bs.length:Int)-1))).bind fun r10=>(bif (!r10)then(some (r1,false))else(bif (x1.Ki==6)then((idx x0.Bs x1.At).bind fun v12=>((zDk n v12).bind fun r13=>((idx r1.Bs x1.At).bind fun v14=>(some ((⟨(r1.Bs.set (x1.At.toNat) r13),r1.Ls,r1.Said⟩:Net),true)))))else((zAh n r1 x1.At).bind fun r11=>(some (r11,true))))))else(bif (x1.Ki==2)then(Je n r1 x0 x1 true)else(Je n r1 x0 x1 (x1.Ki==3))))
def zDj(n:Nat)(x0:Net)(x1:Event):Option (Net×Bool):=
  ((Js n x0).bind fun r1=>((Qb n x0).bind fun r2=>(bif (!r2)then(some (r1,false))else(bif (x1.Ki==1)then(QU n r1 x0 x1 true)else(QU n r1 x0 x1 (x1.Ki==6))))))
def zTW:Tab:=⟨13,[0,1,0,4,0,16,0,64,160,256,512,2047,4095],[0,1,0,4,0,16,0,64,160,256,512,10,3072],[0,1,0,4,0,16,0,64,240,496,1008,2047,4095]⟩
theorem zJG:qb (rg Tryz.f31 10) zTW=true:=kr
theorem zQ5(n:Nat)(x0:Net)(x1:Event)(r:Net×Bool)(H:zDj n x0 x1=some r):zb Tryz.prog 31 [.val true (fR (zD x0)),.val true (fR (QZ x1))] [.val true (zD r.1),.val false [.lit (.bool r.2)]] []:=by
 refine cW Tryz.func31 (fun g d=>sl [g 0,g 1,sl [g 2] (cn 11 (sl [g 3] .ret) .skip),sl [g 4] (.block 0 (sl [sl [g 5] (cn 15 .skip (g 6))] (cn 15 (sl [sl [g 7] (cn 25 (sl [g 8] .ret) .skip),sl [g 9] (cn 29 (d 10) (g 11)),g 12] .ret) (sl [sl [g 13] (cn 46 .skip (g 14))] (cn 46 (sl [sl [g 15] (cn 56 (sl [g 16] .ret) .skip),g 17,g 18] .ret) (sl [sl [g 19] (cn 61 .skip (g 20))] (cn 61 (sl [sl [g 21] (cn 71 (sl [g 22] .ret) .skip),g 23,g 24] .ret) .skip))))))),g 25] .ret) [.cell 4 28,.tmp 5] fun cx=>?_
 unfold zDj at H
 refine gA 4 28 28<|rA 1<|bE H fun r1 er1 H=>vA [.rd] (zGX n x0 r1 er1)<|uA 2 92 92<|tS<|rA 1<|bE H fun r2 er2 H=>vA [.rd] (zGo n x0 r2 er2)<|uA 1 2140 92 ?_
 obtain⟨h1,H⟩|⟨h1,H⟩:=bC H
 ·refine nA h1<|tK<|tS<|gA 2 16476 92<|tB<|tS<|zt (ι:=Bool) (fun v=>⟨81,0,[sB 15 v,sI 14 x1.Ki,sA 6 6 3 0,sA 4 4 3 0,sA 3 3 2 0,sA 2 2 3 0],[(6,(zD r1)),(4,[cL 11 ([]:List zA) zB,cL 4 ([]:List Link) zE,cL 7 ([]:List Say) zI]),(3,(QZ x1)),(2,(fR (zD x0)))]⟩) (fun v=>QU n r1 x0 x1 v=some r) ?_ ?_
  ·refine gA 2 49244 92 ?_
   obtain⟨h11,H⟩|⟨h11,H⟩:=bC H
   ·exact qT [15] h11<|nB_<|eA 2 49244 92<|jA (x1.Ki==6) H [15,14,6,4,3,2] [6,4,3,2]
   exact qT [15] h11<|tB_<|tK<|jA true H [15,14,6,4,3,2] [6,4,3,2]
  rintro y3 H
  have H:(QU n r1 x0 x1 y3)=some r:=H
  unfold QU at H
  cases h2:y3
  ·have H:=YA h2 H
   refine nB_<|tS<|zt (ι:=Bool) (fun v=>⟨81,0,[sB 46 v,sI 14 x1.Ki,sA 6 6 3 0,sA 4 4 3 0,sA 3 3 2 0,sA 2 2 3 0],[(6,(zD r1)),(4,[cL 11 ([]:List zA) zB,cL 4 ([]:List Link) zE,cL 7 ([]:List Say) zI]),(3,(QZ x1)),(2,(fR (zD x0)))]⟩) (fun v=>Je n r1 x0 x1 v=some r) ?_ ?_
   ·refine gA 2 70368744194140 92 ?_
    obtain⟨h8,H⟩|⟨h8,H⟩:=bC H
    ·exact qT [46] h8<|nB_<|eA 2 70368744194140 92<|jA (x1.Ki==3) H [46,14,6,4,3,2] [6,4,3,2]
    exact qT [46] h8<|tB_<|tK<|jA true H [46,14,6,4,3,2] [6,4,3,2]
   rintro y4 H
   have H:(Je n r1 x0 x1 y4)=some r:=H
   unfold Je at H
   cases h3:y4
   ·have H:=YA h3 H
    refine nB_<|tS<|zt (ι:=Bool) (fun v=>⟨81,0,[sB 61 v,sA 6 6 3 0,sA 4 4 3 0,sA 3 3 2 0,sA 2 2 3 0],[(6,(zD r1)),(4,[cL 11 ([]:List zA) zB,cL 4 ([]:List Link) zE,cL 7 ([]:List Say) zI]),(3,(QZ x1)),(2,(fR (zD x0)))]⟩) (fun v=>Jf n r1 x0 x1 v=some r) ?_ ?_
    ·refine gA 2 0x200000000000405c 92 ?_
     obtain⟨h6,H⟩|⟨h6,H⟩:=bC H
     ·exact qT [61] h6<|nB_<|eA 2 0x200000000000005c 92<|jA (x1.Ki==5) H [61,6,4,3,2] [6,4,3,2]
     exact qT [61] h6<|tB_<|tK<|jA true H [61,6,4,3,2] [6,4,3,2]
    rintro y5 H
    have H:(Jf n r1 x0 x1 y5)=some r:=H
    unfold Jf at H
    cases h4:y5
    ·have H:=YA h4 H
     exact nB_<|tK<|gA 3 48 16<|te (fJ [(true,(zD r1)),(false,[cB false])] H)
    have H:=YB h4 H
    refine tB_<|tS<|rA 4<|kF x0.Ls zE<|lA 1<|bE H fun r6 er6 H=>vA [.rd,.rd,.rd] (zf n x1.At 0 (wI ((x0.Ls.length:Int)-1)) r6 er6)<|uA 1 0x800000000000000058 88 ?_
    obtain⟨h5,H⟩|⟨h5,H⟩:=bC H
    ·exact nA h5<|tK<|rA 5<|bE H fun r7 er7 H=>vL [.lend,.rd,.rd] (zNx n r1 x1.At (x1.Ki==5) r7 er7)<|dA 80 80<|gA 3 48 16<|te (fJ [(true,(zD r7)),(false,[cB true])] H)
    exact tA h5<|gA 3 48 16<|te (fJ [(true,(zD r1)),(false,[cB false])] H)
   have H:=YB h3 H
   refine tB_<|tS<|rA 4<|kF x0.Said zI<|lA 1<|bE H fun r8 er8 H=>vA [.rd,.rd,.rd] (zf n x1.At 0 (wI ((x0.Said.length:Int)-1)) r8 er8)<|uA 1 72057594037928024 88 ?_
   obtain⟨h7,H⟩|⟨h7,H⟩:=bC H
   ·exact nA h7<|tK<|rA 1<|bE H fun r9 er9 H=>vL [.lend,.rd] (zNy n r1 x1 r9 er9)<|dA 80 80<|gA 3 48 16<|te (fJ [(true,(zD r9)),(false,[cB true])] H)
   exact tA h7<|gA 3 48 16<|te (fJ [(true,(zD r1)),(false,[cB false])] H)
  have H:=YB h2 H
  refine tB_<|tS<|rA 4<|kF x0.Bs zB<|lA 1<|bE H fun r10 er10 H=>vA [.rd,.rd,.rd] (zf n x1.At 0 (wI ((x0.Bs.length:Int)-1)) r10 er10)<|uA 1 33554524 92 ?_
  obtain⟨h9,H⟩|⟨h9,H⟩:=bC H
  ·refine nA h9<|tK<|tS<|gA 3 536871004 92 ?_
   obtain⟨h10,H⟩|⟨h10,H⟩:=bC H
   ·exact nA h10<|Tr.at<|lA 2<|bE H fun r11 er11 H=>vL [.lend,.rd] (zLV n r1 x1.At r11 er11)<|dA 80 80<|gA 3 48 16<|te (fJ [(true,(zD r11)),(false,[cB true])] H)
   refine tA h10<|bE H fun v12 ev12 H=>bE H fun r13 er13 H=>bE H fun v14 ev14 H=>qr zr 13 kr ⟨81,0,[sA 6 6 3 0,sA 4 4 3 0],[(6,[cL 11 (r1.Bs.set (x1.At.toNat) r13) zB,cL 4 r1.Ls zE,cL 7 r1.Said zI]),(4,[cL 11 ([]:List zA) zB,cL 4 ([]:List Link) zE,cL 7 ([]:List Say) zI])]⟩ (fun cx=>?_) ?_
   ·exact mA zJG [(0,[]),(1,[12]),(2,[]),(3,[12]),(4,[]),(5,[10,12]),(6,[]),(7,[10,12])] 5 [⟨[10,12],3,36,37⟩,⟨[10,12],24,34,35⟩,⟨[12],3,32,33⟩,⟨[12],24,30,31⟩] fun cx=>iN zJG 8 zB ev12 fun cx=>mA zJG [(9,[])] 3 [⟨[10,12],3,36,37⟩,⟨[10,12],24,34,35⟩,⟨[12],3,32,33⟩,⟨[12],24,30,31⟩] fun cx=>mC zJG 10<|vA [.rd] (zQ6 n v12 r13 er13)<|fA<|oN zJG 11 zB ev14 fun cx=>mC zJG 12<|QR tOk (t:=64) (ty:=0) (ad:=(.tmp 41)) (x:=(.tmp 40)) (g:=none) (tI 64) true (zB r13) 6 0 (x1.At.toNat) 11 0 11 r1.Bs zB v14 r13 kr kr kr kr kr kr kr kr (zU ev14).2 kr kr kr kr<|fA<|mE zJG [6,4] [6,4]
   exact gA 3 48 16<|te (fJ [(true,[cL 11 (r1.Bs.set (x1.At.toNat) r13) zB,cL 4 r1.Ls zE,cL 7 r1.Said zI]),(false,[cB true])] H)
  exact tA h9<|gA 3 48 16<|te (fJ [(true,(zD r1)),(false,[cB false])] H)
 exact tA h1<|gA 3 48 16<|te (fJ [(true,(zD r1)),(false,[cB false])] H)
def zCC(n:Nat)(y23:(List Int))(y24:Int)(y25:Int)(y26:(List zA))(y27:(List Link))(y28:(List Say)):Option (Net×Src):=
  (some ((⟨y26,y27,y28⟩:Net),(⟨y23,y24,y25⟩:Src)))
def Q6(n:Nat):Nat→Int→(List Int)→Int→Int→(List zA)→(List Link)→(List Say)→Option (((List Int)×Int×Int×(List zA)×(List Link)×(List Say))⊕(Net×Src))
  |0,_,_,_,_,_,_,_=>none
  |mo29+1,y16,y17,y18,y19,y20,y21,y22=>(bif (decide (y16>0))then((zAC n (⟨y17,y18,y19⟩:Src) (⟨y20,y21,y22⟩:Net)).bind fun r30=>((zDj n (⟨y20,y21,y22⟩:Net) r30.1).bind fun r31=>(Q6 n mo29 (wI (y16-1)) r30.2.b r30.2.i r30.2.h r31.1.Bs r31.1.Ls r31.1.Said)))else(some (Sum.inl (y17,y18,y19,y20,y21,y22))))
def zAf(n:Nat)(r5:Net)(x1:Int)(y11:(List zA))(y12:(List Int))(y13:Int)(y14:Int):Option (Net×Src):=
  ((zP n (⟨y12,y13,y14⟩:Src) (wI (x1+1))).bind fun r15=>((Q6 n n r15.1 r15.2.b r15.2.i r15.2.h y11 r5.Ls r5.Said).bind fun o=>match o with|.inl (y23,y24,y25,y26,y27,y28)=>(zCC n y23 y24 y25 y26 y27 y28)|.inr r=>some r))
def zAg(n:Nat)(k:(Int×(List zA)×(List Int)×Int×Int→Option (((List zA)×(List Int)×Int×Int)⊕(Net×Src))))(y6:Int)(y38:(List zA))(y39:(List Int))(y40:Int)(y41:Int):Option (((List zA)×(List Int)×Int×Int)⊕(Net×Src)):=
  (k ((wI (y6+1)),y38,y39,y40,y41))
def Q7(n:Nat):Nat→Int→Int→(List zA)→(List Int)→Int→Int→Option (((List zA)×(List Int)×Int×Int)⊕(Net×Src))
  |0,_,_,_,_,_,_=>none
  |mo42+1,y6,y33,y34,y35,y36,y37=>((idx y34 y6).bind fun v43=>(bif (decide (y33<(v43.Ps.length:Int)))then((zp n (⟨y35,y36,y37⟩:Src) [1,1,2,5,20]).bind fun r44=>((idx v43.Ps y33).bind fun v45=>(Q7 n mo42 y6 (wI (y33+1)) (y34.set (y6.toNat) (⟨v43.Id,v43.Name,(v43.Ps.set (y33.toNat) (⟨v45.Up,r44.1,v45.Has,v45.Hd⟩:Pt)),v43.F,v43.V,v43.Tk,v43.Pa,v43.Wo,v43.Dr,v43.Ve⟩:zA)) r44.2.b r44.2.i r44.2.h)))else(some (Sum.inl (y34,y35,y36,y37)))))
def Zk(n:Nat):Nat→Int→(List zA)→(List Int)→Int→Int→Option (((List zA)×(List Int)×Int×Int)⊕(Net×Src))
  |0,_,_,_,_,_=>none
  |mo32+1,y6,y7,y8,y9,y10=>(bif (decide (y6<(y7.length:Int)))then((Q7 n n y6 0 y7 y8 y9 y10).bind fun o=>match o with|.inl (y38,y39,y40,y41)=>(zAg n (fun v=>Zk n mo32 v.1 v.2.1 v.2.2.1 v.2.2.2.1 v.2.2.2.2) y6 y38 y39 y40 y41)|.inr r=>some (Sum.inr r))else(some (Sum.inl (y7,y8,y9,y10))))
def zAw(n:Nat)(x0:Src)(x1:Int):Option (Net×Src):=
  ((zP n x0 6).bind fun r1=>((zP n r1.2 4).bind fun r2=>((zC8 n r2.2 (wI (1+r1.1))).bind fun r3=>((zBN n r3.2 (wI (1+r1.1)) (wI (2+r2.1))).bind fun r4=>((zC2 n r3.1 (wI (2+r2.1)) r4.1).bind fun r5=>((Zk n n 0 r5.Bs r4.2.b r4.2.i r4.2.h).bind fun o=>match o with|.inl (y11,y12,y13,y14)=>(zAf n r5 x1 y11 y12 y13 y14)|.inr r=>some r))))))
def zTd:Tab:=⟨13,[0,1,0,6,8,16,0,0,0,384,1023,2047,3071],[0,1,0,6,8,16,0,0,0,384,96,1024,2560],[0,1,0,7,15,31,0,0,0,384,1023,2047,4095]⟩
noncomputable abbrev G88(k:Nat):=Rg Tryz.f88 k
noncomputable abbrev D88(k:Nat):=Rd Tryz.f88 k
theorem zAL:qb (rg Tryz.f88 10) zTd=true:=kr
theorem zJB(n:Nat)(x0:Src)(x1:Int)(r:Net×Src)(H:zAw n x0 x1=some r):zb Tryz.prog 88 [.ptr (fR (zL x0)),.val false [.lit (.int .i64 x1)]] [.val true (zD r.1)] [(0,(fR (zL r.2)))]:=by
 refine zu tOk Tryz.func88 rfl (c:=(.seq (G88 0) (.seq (G88 1) (.seq (G88 2) (.seq (G88 3) (.seq (.seq (G88 4) (.block 0 (.loop (.seq (.seq (G88 5) (.cond (.tmp 30) .skip (.exit 0))) (.seq (.block 1 (.seq (G88 7) (.block 2 (.loop (.seq (.seq (G88 8) (.cond (.tmp 41) .skip (.exit 2))) (.seq (.block 3 (D88 10)) (G88 9))))))) (G88 6)))))) (.seq (.seq (G88 11) (.block 4 (.loop (.seq (.seq (G88 12) (.cond (.tmp 61) .skip (.exit 4))) (.seq (.block 5 (D88 14)) (G88 13)))))) (.seq (G88 15) .ret)))))))) kr (Nat.le_of_ble_eq_true kr) 1 (rs:=[.cell 4 28]) rfl [] .nil [(true,(zD r.1))] [] [(0,(fR (zL r.2)))] fun cx=>?_
 show Tr _ _ _ ⟨73,1,[sA 0 0 3 0,sI 1 x1],[(0,(fR (zL x0)))]⟩ _
 unfold zAw at H
 refine gA 1 19 17<|rA 1<|bE H fun r1 er1 H=>vL [.lend,.rd] (zW n x0 6 r1 er1)<|uA 2 51 17<|rA 1<|bE H fun r2 er2 H=>vL [.lend,.rd] (zW n r1.2 4 r2 er2)<|uA 2 115 17<|rA 2<|bE H fun r3 er3 H=>vL [.lend,.rd] (zOw n r2.2 (wI (1+r1.1)) r3 er3)<|lA 4<|bE H fun r4 er4 H=>vL [.lend,.rd,.rd] (zM0 n r3.2 (wI (1+r1.1)) (wI (2+r2.1)) r4 er4)<|bE H fun r5 er5 H=>vA [.rd,.rd,.rd] (zOp n r3.1 (wI (2+r2.1)) r4.1 r5 er5)<|uA 2 147 145<|tS<|gA 1 403 145 ?_
 obtain⟨o32,eo32,Ho32⟩:=bs H
 clear H
 refine zt (ι:=(List zA)×(List Int)×Int×Int) (fun v=>⟨73,1,[sA 7 7 3 0,sA 4 4 3 0,sA 0 0 3 0,sI 1 x1],[(7,[cL 11 v.1 zB,cL 4 r5.Ls zE,cL 7 r5.Said zI]),(0,[cF 1 v.2.1 qC,cI v.2.2.1,cI v.2.2.2]),(4,[cL 11 ([]:List zA) zB,cL 4 ([]:List Link) zE,cL 7 ([]:List Say) zI])]⟩) (fun v=>zAf n r5 x1 v.1 v.2.1 v.2.2.1 v.2.2.2=some r) ?_ ?_
 ·refine tB<|Tr.loop (ι:=Nat×(Int×(List zA)×(List Int)×Int×Int)) (fun v=>⟨73,1,[sI 8 v.2.1,sA 7 7 3 0,sA 4 4 3 0,sA 0 0 3 0,sI 1 x1],[(7,[cL 11 v.2.2.1 zB,cL 4 r5.Ls zE,cL 7 r5.Said zI]),(0,[cF 1 v.2.2.2.1 qC,cI v.2.2.2.2.1,cI v.2.2.2.2.2]),(4,[cL 11 ([]:List zA) zB,cL 4 ([]:List Link) zE,cL 7 ([]:List Say) zI])]⟩) (fun v=>Zk n v.1 v.2.1 v.2.2.1 v.2.2.2.1 v.2.2.2.2.1 v.2.2.2.2.2=some o32) (fun v=>v.1) (n,(0,r5.Bs,r4.2.b,r4.2.i,r4.2.h)) eo32 (za [8,7,4,0,1] [7,0,4] kr) ?_
  rintro⟨_|mo32,y6,y7,y8,y9,y10⟩ H
  ·exact nN H
  have H:Zk n (mo32+1) y6 y7 y8 y9 y10=some o32:=H
  rw[Zk]at H
  refine tS<|rA 3<|kO y7 zB<|uA 1 1073742227 145 ?_
  obtain⟨h2,H⟩|⟨h2,H⟩:=bC H
  ·refine nA h2<|Tr.exit<|aJ ?_
   cases H
   exact jA (y7,y8,y9,y10) Ho32 [7,4,0,1] [7,0,4]
  refine tA h2<|tK<|tS<|tB<|gA 1 915 145 ?_
  obtain⟨o42,eo42,Ho42⟩:=bs H
  clear H
  refine zt (ι:=(List zA)×(List Int)×Int×Int) (fun v=>⟨73,1,[sI 8 y6,sA 7 7 3 0,sA 4 4 3 0,sA 0 0 3 0,sI 1 x1],[(7,[cL 11 v.1 zB,cL 4 r5.Ls zE,cL 7 r5.Said zI]),(0,[cF 1 v.2.1 qC,cI v.2.2.1,cI v.2.2.2]),(4,[cL 11 ([]:List zA) zB,cL 4 ([]:List Link) zE,cL 7 ([]:List Say) zI])]⟩) (fun v=>zAg n (fun v=>Zk n mo32 v.1 v.2.1 v.2.2.1 v.2.2.2.1 v.2.2.2.2) y6 v.1 v.2.1 v.2.2.1 v.2.2.2=some o32) ?_ ?_
  ·refine tB<|Tr.loop (ι:=Nat×(Int×(List zA)×(List Int)×Int×Int)) (fun v=>⟨73,1,[sI 9 v.2.1,sI 8 y6,sA 7 7 3 0,sA 4 4 3 0,sA 0 0 3 0,sI 1 x1],[(7,[cL 11 v.2.2.1 zB,cL 4 r5.Ls zE,cL 7 r5.Said zI]),(0,[cF 1 v.2.2.2.1 qC,cI v.2.2.2.2.1,cI v.2.2.2.2.2]),(4,[cL 11 ([]:List zA) zB,cL 4 ([]:List Link) zE,cL 7 ([]:List Say) zI])]⟩) (fun v=>Q7 n v.1 y6 v.2.1 v.2.2.1 v.2.2.2.1 v.2.2.2.2.1 v.2.2.2.2.2=some o42) (fun v=>v.1) (n,(0,y7,y8,y9,y10)) eo42 (za [9,8,7,4,0,1] [7,0,4] kr) ?_
   rintro⟨_|mo42,y33,y34,y35,y36,y37⟩ H
   ·exact nN H
   have H:Q7 n (mo42+1) y6 y33 y34 y35 y36 y37=some o42:=H
   rw[Q7]at H
   refine tS<|rA 4<|bE H fun v43 ev43 H=>oA zB ev43<|lA 1<|dE (tI 58) (.box 7) [(0,0),(0,(y6.toNat))] 11 2 [.sl true 3 [[cL 11 y34 zB,cL 4 r5.Ls zE,cL 7 r5.Said zI]]] (zB v43) (zq rfl (zU ev43).2)<|lL tOk 58 3 83 39 40 none ⟨(.box 7),[(0,0),(0,(y6.toNat))],2,true,8,(v43.Ps.map zJ)⟩ (v43.Ps).length _ kr kr kr kr (zFi (row:=[.sl true 3 [[cL 11 y34 zB,cL 4 r5.Ls zE,cL 7 r5.Said zI]]]) (e:=zB v43) kr kr (zq rfl (zU ev43).2) rfl rfl) (zL8 _ _) rfl<|uA 1 2199023256467 145 ?_
   obtain⟨h3,H⟩|⟨h3,H⟩:=bC H
   ·refine nA h3<|Tr.exit<|aJ ?_
    cases H
    exact jA (y34,y35,y36,y37) Ho42 [8,7,4,0,1] [7,0,4]
   refine tA h3<|tK<|tS<|tB<|bE H fun r44 er44 H=>bE H fun v45 ev45 H=>qr zr 13 kr ⟨73,1,[sI 9 y33,sI 8 y6,sA 7 7 3 0,sA 4 4 3 0,sA 0 0 3 0,sI 1 x1],[(7,[cL 11 (y34.set (y6.toNat) (⟨v43.Id,v43.Name,(v43.Ps.set (y33.toNat) (⟨v45.Up,r44.1,v45.Has,v45.Hd⟩:Pt)),v43.F,v43.V,v43.Tk,v43.Pa,v43.Wo,v43.Dr,v43.Ve⟩:zA)) zB,cL 4 r5.Ls zE,cL 7 r5.Said zI]),(0,(fR (zL r44.2))),(4,[cL 11 ([]:List zA) zB,cL 4 ([]:List Link) zE,cL 7 ([]:List Say) zI])]⟩ (fun cx=>?_) ?_
   ·refine mA zAL [(0,[]),(1,[12]),(2,[])] 10 [⟨[12],24,44,45⟩] fun cx=>oN zAL 3 zB ev43 fun cx=>mA zAL (zl [4,6,7]) 6 [⟨[12],24,44,45⟩] fun cx=>mB2 tOk zAL 5 8 kr (And.intro kr ?_) (And.intro kr ?_)
    ·refine dE (tI 58) (.box 7) [(0,0),(0,(y6.toNat))] 11 2 [.sl true 3 [[cL 11 y34 zB,cL 4 r5.Ls zE,cL 7 r5.Said zI]]] (zB v43) (zq rfl (zU ev43).2)<|fA<|mC zAL 8<|lA 1<|fA<|mC zAL 9<|vL [.lend,.rd] (qH n (⟨y35,y36,y37⟩:Src) [1,1,2,5,20] r44 er44)<|fA<|mC zAL 10<|zAF tOk (t:=58) (ty:=0) (et:=83) (x:=(.tmp 49)) (y:=(.tmp 50)) (d:=54) (g:=none) (tI 83) ⟨(.box 7),[(0,0),(0,(y6.toNat))],2,true,8,(v43.Ps.map zJ)⟩ .i64 y33 (y33.toNat) (zJ v45) kr kr kr kr kr kr kr (zFi (row:=[.sl true 3 [[cL 11 y34 zB,cL 4 r5.Ls zE,cL 7 r5.Said zI]]]) (e:=zB v43) kr kr (zq rfl (zU ev43).2) rfl rfl) rfl kr (JG ev45) rfl<|fA<|mA zAL [(11,[])] 1 [⟨[12],24,44,45⟩] fun cx=>sA_ 0xa0300000000393 145 ⟨73,1,[(55,.adr (.box 7) [(0,0),(0,(y6.toNat)),(2,(y33.toNat))] 8 1),sI 53 r44.1,sR 45 7 3 0 1 false,sA 44 7 3 0,sI 9 y33,sI 8 y6,sA 7 7 3 0,sA 4 4 3 0,sA 0 0 3 0,sI 1 x1],[(0,(fR (zL r44.2))),(7,[cL 11 y34 zB,cL 4 r5.Ls zE,cL 7 r5.Said zI]),(4,[cL 11 ([]:List zA) zB,cL 4 ([]:List Link) zE,cL 7 ([]:List Say) zI])]⟩<|mC zAL 12<|zAz tOk (t:=3) (ty:=0) (ad:=(.tmp 55)) (x:=(.tmp 53)) (g:=none) (tI 3) false [cI r44.1] (.box 7) [(0,0),(0,(y6.toNat)),(2,(y33.toNat))] [(0,(y6.toNat)),(2,(y33.toNat))] 8 1 [.sl true 3 [[cL 11 y34 zB,cL 4 r5.Ls zE,cL 7 r5.Said zI]]] (zJ v45) [cL 11 y34 zB,cL 4 r5.Ls zE,cL 7 r5.Said zI] [cL 11 (y34.set (y6.toNat) (⟨v43.Id,v43.Name,(v43.Ps.set (y33.toNat) (⟨v45.Up,r44.1,v45.Has,v45.Hd⟩:Pt)),v43.F,v43.V,v43.Tk,v43.Pa,v43.Wo,v43.Dr,v43.Ve⟩:zA)) zB,cL 4 r5.Ls zE,cL 7 r5.Said zI] kr kr kr kr kr kr (zFb rfl (zU ev43).2 rfl (zU ev45).2) rfl (by intro h;cases h) kr kr rfl (zM8 (new:=(⟨v43.Id,v43.Name,(v43.Ps.set (y33.toNat) (⟨v45.Up,r44.1,v45.Has,v45.Hd⟩:Pt)),v43.F,v43.V,v43.Tk,v43.Pa,v43.Wo,v43.Dr,v43.Ve⟩:zA)) (new2:=(⟨v45.Up,r44.1,v45.Has,v45.Hd⟩:Pt)) rfl (zU ev43).2 rfl (zU ev45).2 kr kr) kr ?_
     exact fA<|mE zAL [9,8,7,4,0,1] [7,0,4]
    ·refine lA 1<|fA<|mB2 tOk zAL 5 9 kr (And.intro kr ?_) (And.intro kr ?_)
     ·refine dE (tI 58) (.box 7) [(0,0),(0,(y6.toNat))] 11 2 [.sl true 3 [[cL 11 y34 zB,cL 4 r5.Ls zE,cL 7 r5.Said zI]]] (zB v43) (zq rfl (zU ev43).2)<|fA<|mC zAL 9<|vL [.lend,.rd] (qH n (⟨y35,y36,y37⟩:Src) [1,1,2,5,20] r44 er44)<|fA<|mC zAL 10<|zAF tOk (t:=58) (ty:=0) (et:=83) (x:=(.tmp 49)) (y:=(.tmp 50)) (d:=54) (g:=none) (tI 83) ⟨(.box 7),[(0,0),(0,(y6.toNat))],2,true,8,(v43.Ps.map zJ)⟩ .i64 y33 (y33.toNat) (zJ v45) kr kr kr kr kr kr kr (zFi (row:=[.sl true 3 [[cL 11 y34 zB,cL 4 r5.Ls zE,cL 7 r5.Said zI]]]) (e:=zB v43) kr kr (zq rfl (zU ev43).2) rfl rfl) rfl kr (JG ev45) rfl<|fA<|mA zAL [(11,[])] 1 [⟨[12],24,44,45⟩] fun cx=>sA_ 0xa0300000000393 145 ⟨73,1,[(55,.adr (.box 7) [(0,0),(0,(y6.toNat)),(2,(y33.toNat))] 8 1),sI 53 r44.1,sR 45 7 3 0 1 false,sA 44 7 3 0,sI 9 y33,sI 8 y6,sA 7 7 3 0,sA 4 4 3 0,sA 0 0 3 0,sI 1 x1],[(0,(fR (zL r44.2))),(7,[cL 11 y34 zB,cL 4 r5.Ls zE,cL 7 r5.Said zI]),(4,[cL 11 ([]:List zA) zB,cL 4 ([]:List Link) zE,cL 7 ([]:List Say) zI])]⟩<|mC zAL 12<|zAz tOk (t:=3) (ty:=0) (ad:=(.tmp 55)) (x:=(.tmp 53)) (g:=none) (tI 3) false [cI r44.1] (.box 7) [(0,0),(0,(y6.toNat)),(2,(y33.toNat))] [(0,(y6.toNat)),(2,(y33.toNat))] 8 1 [.sl true 3 [[cL 11 y34 zB,cL 4 r5.Ls zE,cL 7 r5.Said zI]]] (zJ v45) [cL 11 y34 zB,cL 4 r5.Ls zE,cL 7 r5.Said zI] [cL 11 (y34.set (y6.toNat) (⟨v43.Id,v43.Name,(v43.Ps.set (y33.toNat) (⟨v45.Up,r44.1,v45.Has,v45.Hd⟩:Pt)),v43.F,v43.V,v43.Tk,v43.Pa,v43.Wo,v43.Dr,v43.Ve⟩:zA)) zB,cL 4 r5.Ls zE,cL 7 r5.Said zI] kr kr kr kr kr kr (zFb rfl (zU ev43).2 rfl (zU ev45).2) rfl (by intro h;cases h) kr kr rfl (zM8 (new:=(⟨v43.Id,v43.Name,(v43.Ps.set (y33.toNat) (⟨v45.Up,r44.1,v45.Has,v45.Hd⟩:Pt)),v43.F,v43.V,v43.Tk,v43.Pa,v43.Wo,v43.Dr,v43.Ve⟩:zA)) (new2:=(⟨v45.Up,r44.1,v45.Has,v45.Hd⟩:Pt)) rfl (zU ev43).2 rfl (zU ev45).2 kr kr) kr ?_
      exact fA<|mE zAL [9,8,7,4,0,1] [7,0,4]
     ·refine vL [.lend,.rd] (qH n (⟨y35,y36,y37⟩:Src) [1,1,2,5,20] r44 er44)<|fA<|mC zAL 5<|dE (tI 58) (.box 7) [(0,0),(0,(y6.toNat))] 11 2 [.sl true 3 [[cL 11 y34 zB,cL 4 r5.Ls zE,cL 7 r5.Said zI]]] (zB v43) (zq rfl (zU ev43).2)<|fA<|mC zAL 10<|zAF tOk (t:=58) (ty:=0) (et:=83) (x:=(.tmp 49)) (y:=(.tmp 50)) (d:=54) (g:=none) (tI 83) ⟨(.box 7),[(0,0),(0,(y6.toNat))],2,true,8,(v43.Ps.map zJ)⟩ .i64 y33 (y33.toNat) (zJ v45) kr kr kr kr kr kr kr (zFi (row:=[.sl true 3 [[cL 11 y34 zB,cL 4 r5.Ls zE,cL 7 r5.Said zI]]]) (e:=zB v43) kr kr (zq rfl (zU ev43).2) rfl rfl) rfl kr (JG ev45) rfl<|fA<|mA zAL [(11,[])] 1 [⟨[12],24,44,45⟩] fun cx=>sA_ 0xa0300000000393 145 ⟨73,1,[(55,.adr (.box 7) [(0,0),(0,(y6.toNat)),(2,(y33.toNat))] 8 1),sI 53 r44.1,sR 45 7 3 0 1 false,sA 44 7 3 0,sI 9 y33,sI 8 y6,sA 7 7 3 0,sA 4 4 3 0,sA 0 0 3 0,sI 1 x1],[(0,(fR (zL r44.2))),(7,[cL 11 y34 zB,cL 4 r5.Ls zE,cL 7 r5.Said zI]),(4,[cL 11 ([]:List zA) zB,cL 4 ([]:List Link) zE,cL 7 ([]:List Say) zI])]⟩<|mC zAL 12<|zAz tOk (t:=3) (ty:=0) (ad:=(.tmp 55)) (x:=(.tmp 53)) (g:=none) (tI 3) false [cI r44.1] (.box 7) [(0,0),(0,(y6.toNat)),(2,(y33.toNat))] [(0,(y6.toNat)),(2,(y33.toNat))] 8 1 [.sl true 3 [[cL 11 y34 zB,cL 4 r5.Ls zE,cL 7 r5.Said zI]]] (zJ v45) [cL 11 y34 zB,cL 4 r5.Ls zE,cL 7 r5.Said zI] [cL 11 (y34.set (y6.toNat) (⟨v43.Id,v43.Name,(v43.Ps.set (y33.toNat) (⟨v45.Up,r44.1,v45.Has,v45.Hd⟩:Pt)),v43.F,v43.V,v43.Tk,v43.Pa,v43.Wo,v43.Dr,v43.Ve⟩:zA)) zB,cL 4 r5.Ls zE,cL 7 r5.Said zI] kr kr kr kr kr kr (zFb rfl (zU ev43).2 rfl (zU ev45).2) rfl (by intro h;cases h) kr kr rfl (zM8 (new:=(⟨v43.Id,v43.Name,(v43.Ps.set (y33.toNat) (⟨v45.Up,r44.1,v45.Has,v45.Hd⟩:Pt)),v43.F,v43.V,v43.Tk,v43.Pa,v43.Wo,v43.Dr,v43.Ve⟩:zA)) (new2:=(⟨v45.Up,r44.1,v45.Has,v45.Hd⟩:Pt)) rfl (zU ev43).2 rfl (zU ev45).2 kr kr) kr ?_
      exact fA<|mE zAL [9,8,7,4,0,1] [7,0,4]
   exact eA 3 915 145<|jB mo42 ((wI (y33+1)),(y34.set (y6.toNat) (⟨v43.Id,v43.Name,(v43.Ps.set (y33.toNat) (⟨v45.Up,r44.1,v45.Has,v45.Hd⟩:Pt)),v43.F,v43.V,v43.Tk,v43.Pa,v43.Wo,v43.Dr,v43.Ve⟩:zA)),r44.2.b,r44.2.i,r44.2.h) H [9,8,7,4,0,1] [7,0,4]
  rintro⟨y38,y39,y40,y41⟩ H
  have H:(zAg n (fun v=>Zk n mo32 v.1 v.2.1 v.2.2.1 v.2.2.2.1 v.2.2.2.2) y6 y38 y39 y40 y41)=some o32:=H
  unfold zAg at H
  exact eA 3 403 145<|jB mo32 ((wI (y6+1)),y38,y39,y40,y41) H [8,7,4,0,1] [7,0,4]
 rintro⟨y11,y12,y13,y14⟩ H
 have H:(zAf n r5 x1 y11 y12 y13 y14)=some r:=H
 unfold zAf at H
 refine tS<|rA 3<|bE H fun r15 er15 H=>vL [.lend,.rd] (zW n (⟨y12,y13,y14⟩:Src) (wI (x1+1)) r15 er15)<|uA 1 1169 145 ?_
 obtain⟨o29,eo29,Ho29⟩:=bs H
 clear H
 refine zt (ι:=(List Int)×Int×Int×(List zA)×(List Link)×(List Say)) (fun v=>⟨73,1,[sA 7 7 3 0,sA 4 4 3 0,sA 0 0 3 0],[(0,[cF 1 v.1 qC,cI v.2.1,cI v.2.2.1]),(7,[cL 11 v.2.2.2.1 zB,cL 4 v.2.2.2.2.1 zE,cL 7 v.2.2.2.2.2 zI]),(4,[cL 11 ([]:List zA) zB,cL 4 ([]:List Link) zE,cL 7 ([]:List Say) zI])]⟩) (fun v=>zCC n v.1 v.2.1 v.2.2.1 v.2.2.2.1 v.2.2.2.2.1 v.2.2.2.2.2=some r) ?_ ?_
 ·refine tB<|Tr.loop (ι:=Nat×(Int×(List Int)×Int×Int×(List zA)×(List Link)×(List Say))) (fun v=>⟨73,1,[sI 10 v.2.1,sA 7 7 3 0,sA 4 4 3 0,sA 0 0 3 0],[(0,[cF 1 v.2.2.1 qC,cI v.2.2.2.1,cI v.2.2.2.2.1]),(7,[cL 11 v.2.2.2.2.2.1 zB,cL 4 v.2.2.2.2.2.2.1 zE,cL 7 v.2.2.2.2.2.2.2 zI]),(4,[cL 11 ([]:List zA) zB,cL 4 ([]:List Link) zE,cL 7 ([]:List Say) zI])]⟩) (fun v=>Q6 n v.1 v.2.1 v.2.2.1 v.2.2.2.1 v.2.2.2.2.1 v.2.2.2.2.2.1 v.2.2.2.2.2.2.1 v.2.2.2.2.2.2.2=some o29) (fun v=>v.1) (n,(r15.1,r15.2.b,r15.2.i,r15.2.h,y11,r5.Ls,r5.Said)) eo29 (za [10,7,4,0] [0,7,4] kr) ?_
  rintro⟨_|mo29,y16,y17,y18,y19,y20,y21,y22⟩ H
  ·exact nN H
  have H:Q6 n (mo29+1) y16 y17 y18 y19 y20 y21 y22=some o29:=H
  rw[Q6]at H
  refine tS<|gA 2 0x2000000000000491 145 ?_
  obtain⟨h1,H⟩|⟨h1,H⟩:=bC H
  ·refine nA h1<|Tr.exit<|aJ ?_
   cases H
   exact jA (y17,y18,y19,y20,y21,y22) Ho29 [7,4,0] [0,7,4]
  refine tA h1<|tK<|tS<|tB<|Tr.frzB 7<|bE H fun r30 er30 H=>bE H fun r31 er31 H=>qr zr 9 kr ⟨73,1,[sI 10 y16,sA 7 7 3 0,sA 4 4 3 0,sA 0 0 3 0],[(7,(zD r31.1)),(0,(fR (zL r30.2))),(4,[cL 11 ([]:List zA) zB,cL 4 ([]:List Link) zE,cL 7 ([]:List Say) zI])]⟩ (fun cx=>?_) ?_
  ·refine aA [(0,[4,8]),(1,[]),(2,[3,4,8])] 6 [⟨[3,4,8],28,7,67⟩,⟨[4,8],28,7,65⟩] fun cx=>bA 3<|vL [.lend,.rd] (zM1 n (⟨y17,y18,y19⟩:Src) (⟨y20,y21,y22⟩:Net) r30 er30)<|fA<|bA 4<|vA [.rd,.rd] (zQ5 n (⟨y20,y21,y22⟩:Net) r30.1 r31 er31)<|fA<|AT.movT tOk 5 (ty:=48) (t:=69) (d:=64) (g:=none) [(true,(zD r31.1)),(false,[cB r31.2])] _ kr kr kr (.inl rfl) kr kr kr kr rfl (fun cx=>?_)
   exact aA [(6,[]),(7,[])] 1 [⟨[3,4,8],28,7,67⟩,⟨[4,8],28,7,65⟩] fun cx=>bA 8<|lA 1<|fA<|eE [10,7,4,0] [7,0,4]
  exact eA 3 1169 145<|jB mo29 ((wI (y16-1)),r30.2.b,r30.2.i,r30.2.h,r31.1.Bs,r31.1.Ls,r31.1.Said) H [10,7,4,0] [0,7,4]
 rintro⟨y23,y24,y25,y26,y27,y28⟩ H
 have H:(zCC n y23 y24 y25 y26 y27 y28)=some r:=H
 unfold zCC at H
 exact gA 2 17 17<|te<|fY [(true,[cL 11 y26 zB,cL 4 y27 zE,cL 7 y28 zI])] [(0,[cF 1 y23 qC,cI y24,cI y25])] H
def zAV(n:Nat)(x0:Src)(x1:(List ByteArray)):Option (ByteArray×Src):=
  ((zP n x0 (x1.length:Int)).bind fun r1=>((idx x1 r1.1).bind fun v2=>(some (v2,r1.2))))
noncomputable abbrev zUk(k:Nat):=Rg Tryz.f133 k
theorem zML(n:Nat)(x0:Src)(x1:(List ByteArray))(r:ByteArray×Src)(H:zAV n x0 x1=some r):zb Tryz.prog 133 [.ptr (fR (zL x0)),.val false [.sl false 1 (zQ (x1.map zOa))]] [.val false [.lit (.string r.1)]] [(0,(fR (zL r.2)))]:=by
 refine zu tOk Tryz.func133 rfl (c:=(.seq (zUk 0) (.seq (zUk 1) .ret))) kr (Nat.le_of_ble_eq_true kr) 1 (rs:=[.tmp 4]) rfl [] .nil [(false,[.lit (.string r.1)])] [] [(0,(fR (zL r.2)))] fun cx=>?_
 show Tr _ _ _ ⟨12,1,[sA 0 0 3 0,sC 1 (cF 1 x1 zOa)],[(0,(fR (zL x0)))]⟩ _
 unfold zAV at H
 exact gA 1 3 1<|rA 3<|kF x1 zOa<|bE H fun r1 er1 H=>vL [.lend,.rd] (zW n x0 (x1.length:Int) r1 er1)<|bE H fun v2 ev2 H=>iA zOa ev2<|uA 2 17 1<|te<|fY [(false,[cS v2])] [(0,(fR (zL r1.2)))] H
def zBl(n:Nat)(x0:Src):Option (Vec×Src):=
  ((zP n x0 5).bind fun r1=>((zp n r1.2 [0,1,2,5,10,100]).bind fun r2=>((zp n r2.2 [0,1,2,9,10]).bind fun r3=>((zP n r3.2 5).bind fun r4=>((zP n r4.2 4).bind fun r5=>(some ((⟨(wI (1+r1.1)),r2.1,r3.1,(wI (1+r4.1)),r5.1⟩:Vec),r5.2)))))))
noncomputable abbrev zUl(k:Nat):=Rg Tryz.f137 k
theorem zKX(n:Nat)(x0:Src)(r:Vec×Src)(H:zBl n x0=some r):zb Tryz.prog 137 [.ptr (fR (zL x0))] [.val true (zj r.1)] [(0,(fR (zL r.2)))]:=by
 refine zu tOk Tryz.func137 rfl (c:=(.seq (zUl 0) (.seq (zUl 1) .ret))) kr (Nat.le_of_ble_eq_true kr) 1 (rs:=[.cell 2 73]) rfl [] .nil [(true,(zj r.1))] [] [(0,(fR (zL r.2)))] fun cx=>?_
 show Tr _ _ _ ⟨18,1,[sA 0 0 3 0],[(0,(fR (zL x0)))]⟩ _
 unfold zBl at H
 exact gA 1 5 5<|rA 1<|bE H fun r1 er1 H=>vL [.lend,.rd] (zW n x0 5 r1 er1)<|lA 3<|bE H fun r2 er2 H=>vL [.lend,.rd] (qH n r1.2 [0,1,2,5,10,100] r2 er2)<|lA 2<|bE H fun r3 er3 H=>vL [.lend,.rd] (qH n r2.2 [0,1,2,9,10] r3 er3)<|lA 1<|bE H fun r4 er4 H=>vL [.lend,.rd] (zW n r3.2 5 r4 er4)<|lA 2<|bE H fun r5 er5 H=>vL [.lend,.rd] (zW n r4.2 4 r5 er5)<|uA 2 5 5<|te<|fY [(true,[cI (wI (1+r1.1)),cI r2.1,cI r3.1,cI (wI (1+r4.1)),cI r5.1])] [(0,(fR (zL r5.2)))] H
def zCA(n:Nat)(y6:(List Pt))(y7:(List Int))(y8:Int)(y9:Int):Option ((List Pt)×Src):=
  (some (y6,(⟨y7,y8,y9⟩:Src)))
def Yc(n:Nat)(k:(Int×(List Pt)×(List Int)×Int×Int→Option (((List Pt)×(List Int)×Int×Int)⊕((List Pt)×Src))))(r12:Int×Src)(y1:Int)(y2:(List Pt))(y13:Bool)(y14:Bool)(y15:Int)(y16:Int)(y17:Int)(y18:Int)(y19:Int)(y20:(List Int))(y21:Int)(y22:Int):Option (((List Pt)×(List Int)×Int×Int)⊕((List Pt)×Src)):=
  (bif (decide (y2.length+ [(⟨y13,r12.1,y14,(⟨y15,y16,y17,y18,y19⟩:Vec)⟩:Pt)].length≤268435456))then(k ((wI (y1+1)),(y2++[(⟨y13,r12.1,y14,(⟨y15,y16,y17,y18,y19⟩:Vec)⟩:Pt)]),y20,y21,y22))else none)
def ZA(n:Nat):Nat→Int→Int→(List Pt)→(List Int)→Int→Int→Option (((List Pt)×(List Int)×Int×Int)⊕((List Pt)×Src))
  |0,_,_,_,_,_,_=>none
  |mo10+1,x1,y1,y2,y3,y4,y5=>(bif (decide (y1<x1))then((Z6 n (⟨y3,y4,y5⟩:Src) 4).bind fun r11=>((zp n r11.2 [1,1,2,5,10]).bind fun r12=>(bif (!r11.1)then((Z6 n r12.2 4).bind fun r24=>(bif (!r24.1)then((zBl n r24.2).bind fun r25=>(Yc n (fun v=>ZA n mo10 x1 v.1 v.2.1 v.2.2.1 v.2.2.2.1 v.2.2.2.2) r12 y1 y2 true true r25.1.Root r25.1.Co r25.1.Hops r25.1.Bridge r25.1.Port r25.2.b r25.2.i r25.2.h))else(Yc n (fun v=>ZA n mo10 x1 v.1 v.2.1 v.2.2.1 v.2.2.2.1 v.2.2.2.2) r12 y1 y2 true false 0 0 0 0 0 r24.2.b r24.2.i r24.2.h)))else(Yc n (fun v=>ZA n mo10 x1 v.1 v.2.1 v.2.2.1 v.2.2.2.1 v.2.2.2.2) r12 y1 y2 false false 0 0 0 0 0 r12.2.b r12.2.i r12.2.h))))else(some (Sum.inl (y2,y3,y4,y5))))
def Yv(n:Nat)(x0:Src)(x1:Int):Option ((List Pt)×Src):=
  ((ZA n n x1 0 ([]:List Pt) x0.b x0.i x0.h).bind fun o=>match o with|.inl (y6,y7,y8,y9)=>(zCA n y6 y7 y8 y9)|.inr r=>some r)
noncomputable abbrev zOA(k:Nat):=Rg Tryz.f156 k
theorem zJA(n:Nat)(x0:Src)(x1:Int)(r:(List Pt)×Src)(H:Yv n x0 x1=some r):zb Tryz.prog 156 [.ptr (fR (zL x0)),.val false [.lit (.int .i64 x1)]] [.val false [.sl true 8 (r.1.map zJ)]] [(0,(fR (zL r.2)))]:=by
 refine zu tOk Tryz.func156 rfl (c:=(.seq (zOA 0) (.seq (zOA 1) (.seq (.seq (zOA 2) (.block 0 (.loop (.seq (.seq (zOA 3) (.cond (.tmp 11) .skip (.exit 0))) (.seq (.block 1 (.seq (zOA 5) (.seq (.seq (zOA 6) (.cond (.tmp 27) (.seq (zOA 7) (zOA 8)) .skip)) (zOA 9)))) (zOA 4)))))) (.seq (zOA 10) .ret))))) kr (Nat.le_of_ble_eq_true kr) 1 (rs:=[.tmp 4]) rfl [] .nil [(false,[.sl true 8 (r.1.map zJ)])] [] [(0,(fR (zL r.2)))] fun cx=>?_
 show Tr _ _ _ ⟨37,1,[sA 0 0 3 0,sI 1 x1],[(0,(fR (zL x0)))]⟩ _
 unfold Yv at H
 refine gA 1 3 1<|rA 1<|zY (T:=lk tab) (ty:=58) (x:=(.tmp 8)) (d:=5) (g:=none) false [cL 8 ([]:List Pt) zJ] kr kr kr kr kr<|dA 35 1<|tS<|gA 1 99 1 ?_
 obtain⟨o10,eo10,Ho10⟩:=bs H
 clear H
 refine zt (ι:=(List Pt)×(List Int)×Int×Int) (fun v=>⟨37,1,[sC 5 (cL 8 v.1 zJ),sA 0 0 3 0],[(0,[cF 1 v.2.1 qC,cI v.2.2.1,cI v.2.2.2])]⟩) (fun v=>zCA n v.1 v.2.1 v.2.2.1 v.2.2.2=some r) ?_ ?_
 ·refine tB<|Tr.loop (ι:=Nat×(Int×(List Pt)×(List Int)×Int×Int)) (fun v=>⟨37,1,[sI 6 v.2.1,sC 5 (cL 8 v.2.2.1 zJ),sA 0 0 3 0,sI 1 x1],[(0,[cF 1 v.2.2.2.1 qC,cI v.2.2.2.2.1,cI v.2.2.2.2.2])]⟩) (fun v=>ZA n v.1 x1 v.2.1 v.2.2.1 v.2.2.2.1 v.2.2.2.2.1 v.2.2.2.2.2=some o10) (fun v=>v.1) (n,(0,([]:List Pt),x0.b,x0.i,x0.h)) eo10 (za [6,5,0,1] [0] kr) ?_
  rintro⟨_|mo10,y1,y2,y3,y4,y5⟩ H
  ·exact nN H
  have H:ZA n (mo10+1) x1 y1 y2 y3 y4 y5=some o10:=H
  rw[ZA]at H
  refine tS<|gA 3 2147 1 ?_
  obtain⟨h1,H⟩|⟨h1,H⟩:=bC H
  ·refine nA h1<|Tr.exit<|aJ ?_
   cases H
   exact jA (y2,y3,y4,y5) Ho10 [5,0] [0]
  refine tA h1<|tK<|tS<|tB<|rA 1<|bE H fun r11 er11 H=>vL [.lend,.rd] (zBU n (⟨y3,y4,y5⟩:Src) 4 r11 er11)<|lA 3<|bE H fun r12 er12 H=>vL [.lend,.rd] (qH n r11.2 [1,1,2,5,10] r12 er12)<|uA 3 227 129<|tS<|zt (ι:=Bool×Bool×Int×Int×Int×Int×Int×(List Int)×Int×Int) (fun v=>⟨37,1,[sA 7 7 8 0,sI 6 y1,sC 5 (cL 8 y2 zJ),sA 0 0 3 0,sI 1 x1],[(7,[cB v.1,cI r12.1,cB v.2.1,cI v.2.2.1,cI v.2.2.2.1,cI v.2.2.2.2.1,cI v.2.2.2.2.2.1,cI v.2.2.2.2.2.2.1]),(0,[cF 1 v.2.2.2.2.2.2.2.1 qC,cI v.2.2.2.2.2.2.2.2.1,cI v.2.2.2.2.2.2.2.2.2])]⟩) (fun v=>Yc n (fun v=>ZA n mo10 x1 v.1 v.2.1 v.2.2.1 v.2.2.2.1 v.2.2.2.2) r12 y1 y2 v.1 v.2.1 v.2.2.1 v.2.2.2.1 v.2.2.2.2.1 v.2.2.2.2.2.1 v.2.2.2.2.2.2.1 v.2.2.2.2.2.2.2.1 v.2.2.2.2.2.2.2.2.1 v.2.2.2.2.2.2.2.2.2=some o10) ?_ ?_
  ·refine tS<|Tr.at<|lA 3<|sL 8388835 129 ⟨37,1,[sB 23 (!r11.1),sA 7 7 8 0,sI 6 y1,sC 5 (cL 8 y2 zJ),sA 0 0 3 0,sI 1 x1],[(7,[cB (!r11.1),cI r12.1,cB false,cI 0,cI 0,cI 0,cI 0,cI 0]),(0,(fR (zL r12.2)))]⟩ ?_
   cases h2:(!r11.1)
   ·have H:=YA h2 H
    exact uA 4 134217955 129<|nB_<|tK<|jA (false,false,0,0,0,0,0,r12.2.b,r12.2.i,r12.2.h) H [7,6,5,0,1] [7,0]
   have H:=YB h2 H
   refine lA 1<|bE H fun r24 er24 H=>vL [.lend,.rd] (zBU n r12.2 4 r24 er24)<|uA 2 134217955 129 ?_
   obtain⟨h3,H⟩|⟨h3,H⟩:=bC H
   ·exact nA h3<|tK<|jA (true,false,0,0,0,0,0,r24.2.b,r24.2.i,r24.2.h) H [7,6,5,0,1] [7,0]
   exact tA h3<|gA 2 227 129<|Tr.at<|lA 1<|bE H fun r25 er25 H=>vL [.lend] (zKX n r24.2 r25 er25)<|uA 2 227 129<|jA (true,true,r25.1.Root,r25.1.Co,r25.1.Hops,r25.1.Bridge,r25.1.Port,r25.2.b,r25.2.i,r25.2.h) H [7,6,5,0,1] [7,0]
  rintro⟨y13,y14,y15,y16,y17,y18,y19,y20,y21,y22⟩ H
  have H:(Yc n (fun v=>ZA n mo10 x1 v.1 v.2.1 v.2.2.1 v.2.2.2.1 v.2.2.2.2) r12 y1 y2 y13 y14 y15 y16 y17 y18 y19 y20 y21 y22)=some o10:=H
  unfold Yc at H
  exact Tr.at<|lA 3<|gE H fun hg23 H=>qO tOk (t:=58) (ty:=58) (e:=83) (x:=(.tmp 32)) (y:=(.tmp 34)) (d:=35) (g:=none) (tI 83) zJ y2 [(⟨y13,r12.1,y14,(⟨y15,y16,y17,y18,y19⟩:Vec)⟩:Pt)] kr kr kr kr kr kr kr kr kr kr hg23<|zY (T:=lk tab) (ty:=58) (x:=(.tmp 35)) (d:=5) (g:=none) false [cL 8 (y2++[(⟨y13,r12.1,y14,(⟨y15,y16,y17,y18,y19⟩:Vec)⟩:Pt)]) zJ] kr kr kr kr kr<|dA 99 1<|eA 3 99 1<|jB mo10 ((wI (y1+1)),(y2++[(⟨y13,r12.1,y14,(⟨y15,y16,y17,y18,y19⟩:Vec)⟩:Pt)]),y20,y21,y22) H [6,5,0,1] [0]
 rintro⟨y6,y7,y8,y9⟩ H
 have H:(zCA n y6 y7 y8 y9)=some r:=H
 unfold zCA at H
 exact gA 2 49 1<|te<|fY [(false,[cL 8 y6 zJ])] [(0,[cF 1 y7 qC,cI y8,cI y9])] H
def zCT(n:Nat)(x0:zm)(x1:zm):Option (zm×Bool):=
  ((qN n x0 (x1.Pv.length:Int)).bind fun r1=>(bif (!r1)then((Z7 n x1).bind fun r2=>(some (r2,false)))else(some (x0,true))))
theorem zJ9(n:Nat)(x0:zm)(x1:zm)(r:zm×Bool)(H:zCT n x0 x1=some r):zb Tryz.prog 177 [.own true (zc x0),.val true (fR (zc x1))] [.val true (zc r.1),.val false [.lit (.bool r.2)]] []:=by
 refine cW Tryz.func177 (fun g d=>sl [g 0,sl [g 1] (cn 11 (sl [g 2] .ret) .skip),g 3] .ret) [.cell 4 62,.tmp 5] fun cx=>?_
 unfold zCT at H
 refine gA 4 28 28<|tS<|rA 3<|kF x1.Pv zC<|bE H fun r1 er1 H=>vB [.rd,.rd] [.box 2] (zD0 n x0 (x1.Pv.length:Int) r1 er1) (.inr (zN (zH zT zR) zS))<|uA 1 2076 28 ?_
 obtain⟨h1,H⟩|⟨h1,H⟩:=bC H
 ·exact nA h1<|tK<|gA 3 48 16<|te (fJ [(true,(zc x0)),(false,[cB true])] H)
 exact tA h1<|rA 1<|bE H fun r2 er2 H=>vA [.rd] (Jm n x1 r2 er2)<|uA 2 48 16<|te (fJ [(true,(zc r2)),(false,[cB false])] H)
def zBx(n:Nat)(x0:zm)(x1:Int)(x2:Int):Option (zm×Bool):=
  ((qN n x0 (x0.Pv.length:Int)).bind fun r1=>(bif (!r1)then((Z7 n x0).bind fun r7=>(some (r7,false)))else((ze n x1 0 (wI ((x0.Pv.length:Int)-1))).bind fun r2=>(bif (!r2)then((Z7 n x0).bind fun r6=>(some (r6,false)))else((Z7 n x0).bind fun r3=>((idx r3.Pv x1).bind fun v4=>((zCT n (⟨r3.Rows,(r3.Pv.set (x1.toNat) x2)⟩:zm) x0).bind fun r5=>(some (r5.1,r5.2)))))))))
theorem zNv(n:Nat)(x0:zm)(x1:Int)(x2:Int)(r:zm×Bool)(H:zBx n x0 x1 x2=some r):zb Tryz.prog 171 [.val true (fR (zc x0)),.val false [.lit (.int .i64 x1)],.val false [.lit (.int .i64 x2)]] [.val true (zc r.1),.val false [.lit (.bool r.2)]] []:=by
 refine cW Tryz.func171 (fun g d=>sl [g 0,sl [g 1] (cn 23 (sl [g 2] .ret) .skip),g 3,g 4,g 5] .ret) [.cell 6 62,.tmp 7] fun cx=>?_
 unfold zBx at H
 refine gA 3 78 72<|tS<|rA 3<|kF x0.Pv zC<|bE H fun r1 er1 H=>vA [.rd,.rd] (zD0 n x0 (x0.Pv.length:Int) r1 er1)<|lA 2 ?_
 obtain⟨h1,H⟩|⟨h1,H⟩:=bC H
 ·refine qL 32846 72 [15] h1<|lA 3<|kF x0.Pv zC<|lA 1<|bE H fun r2 er2 H=>vA [.rd,.rd,.rd] (zf n x1 0 (wI ((x0.Pv.length:Int)-1)) r2 er2)<|uA 2 8388686 72 ?_
  obtain⟨h2,H⟩|⟨h2,H⟩:=bC H
  ·exact nA h2<|tK<|rA 1<|bE H fun r3 er3 H=>vA [.rd] (Jm n x0 r3 er3)<|uA 2 334 328<|rA 4<|bE H fun v4 ev4 H=>oA zC ev4<|QR tOk (t:=3) (ty:=0) (ad:=(.tmp 32)) (x:=(.tmp 31)) (g:=none) (tI 3) false [cI x2] 8 1 (x1.toNat) 1 0 1 r3.Pv zC v4 x2 kr kr kr kr kr kr kr kr (zU ev4).2 kr kr kr kr<|dA 328 328<|rA 2<|bE H fun r5 er5 H=>vA [.own,.rd] (zJ9 n (⟨r3.Rows,(r3.Pv.set (x1.toNat) x2)⟩:zm) x0 r5 er5)<|uA 4 192 64<|te (fJ [(true,(zc r5.1)),(false,[cB r5.2])] H)
  exact tA h2<|rA 1<|bE H fun r6 er6 H=>vA [.rd] (Jm n x0 r6 er6)<|uA 2 192 64<|te (fJ [(true,(zc r6)),(false,[cB false])] H)
 exact qL 32846 72 [15] h1<|uA 8 8388686 72<|tB_<|rA 1<|bE H fun r7 er7 H=>vA [.rd] (Jm n x0 r7 er7)<|uA 2 192 64<|te (fJ [(true,(zc r7)),(false,[cB false])] H)
def zAu(n:Nat)(x0:zm)(x1:Int):Option (zm×Bool):=
  ((zAU n x0 x1).bind fun r1=>((qN n x0 (x0.Pv.length:Int)).bind fun r2=>(bif (!r2)then((Z7 n x0).bind fun r10=>(some (r10,false)))else(bif (decide (r1<0))then((Z7 n x0).bind fun r9=>(some (r9,false)))else((Z7 n x0).bind fun r3=>(bif (decide ((0:Int)≤0)&&(decide ((0:Int)≤r1)&&decide ((r1:Int)≤(x0.Rows.length:Int))))then(bif (decide (([]:List zX).length+((x0.Rows.drop ((0:Int)).toNat).take (((r1:Int)).toNat-((0:Int)).toNat)).length≤268435456))then(bif (decide ((0:Int)≤(wI (r1+1)))&&(decide (((wI (r1+1)):Int)≤(x0.Rows.length:Int))&&decide (((x0.Rows.length:Int):Int)≤(x0.Rows.length:Int))))then(bif (decide ((([]:List zX)++((x0.Rows.drop ((0:Int)).toNat).take (((r1:Int)).toNat-((0:Int)).toNat))).length+((x0.Rows.drop (((wI (r1+1)):Int)).toNat).take ((((x0.Rows.length:Int):Int)).toNat-(((wI (r1+1)):Int)).toNat)).length≤268435456))then((zCT n (⟨((([]:List zX)++((x0.Rows.drop ((0:Int)).toNat).take (((r1:Int)).toNat-((0:Int)).toNat)))++((x0.Rows.drop (((wI (r1+1)):Int)).toNat).take ((((x0.Rows.length:Int):Int)).toNat-(((wI (r1+1)):Int)).toNat))),r3.Pv⟩:zm) x0).bind fun r8=>(some (r8.1,r8.2)))else none)else none)else none)else none))))))
def zTS:Tab:=⟨14,[0,0,2,0,12,17,0,64,0,256,640,1056,4095,8191],[0,0,2,0,12,17,0,64,0,256,640,1056,0,6144],[0,0,2,0,14,31,0,64,0,256,960,2047,4095,8191]⟩
theorem qy:qb (rg Tryz.f172 5) zTS=true:=kr
theorem zKo(n:Nat)(x0:zm)(r1:Int)(r3:zm)(hg4:(decide ((0:Int)≤0)&&(decide ((0:Int)≤r1)&&decide ((r1:Int)≤(x0.Rows.length:Int))))=true)(hg5:(decide (([]:List zX).length+((x0.Rows.drop ((0:Int)).toNat).take (((r1:Int)).toNat-((0:Int)).toNat)).length≤268435456))=true)(hg6:(decide ((0:Int)≤(wI (r1+1)))&&(decide (((wI (r1+1)):Int)≤(x0.Rows.length:Int))&&decide (((x0.Rows.length:Int):Int)≤(x0.Rows.length:Int))))=true)(hg7:(decide ((([]:List zX)++((x0.Rows.drop ((0:Int)).toNat).take (((r1:Int)).toNat-((0:Int)).toNat))).length+((x0.Rows.drop (((wI (r1+1)):Int)).toNat).take ((((x0.Rows.length:Int):Int)).toNat-(((wI (r1+1)):Int)).toNat)).length≤268435456))=true)(cx:Cx):AT Tryz.prog cx (rg Tryz.f172 5) [] 14 [] ⟨43,0,[sA 7 7 2 0,sI 6 r1,sA 4 4 2 0,sA 2 2 2 0],[(7,(zc r3)),(4,[cL 3 ([]:List zX) zF,cL 1 ([]:List Int) zC]),(2,(fR (zc x0)))]⟩ (fun s=>s=⟨43,0,[sA 7 7 2 0,sA 4 4 2 0,sA 2 2 2 0],[(7,[cL 3 ((([]:List zX)++((x0.Rows.drop ((0:Int)).toNat).take (((r1:Int)).toNat-((0:Int)).toNat)))++((x0.Rows.drop (((wI (r1+1)):Int)).toNat).take ((((x0.Rows.length:Int):Int)).toNat-(((wI (r1+1)):Int)).toNat))) zF,cL 1 r3.Pv zC]),(4,[cL 3 ([]:List zX) zF,cL 1 ([]:List Int) zC]),(2,(fR (zc x0)))]⟩):=by
 refine mA qy [(1,[]),(2,[4,5,11,13]),(3,[]),(6,[]),(7,[10,11,13]),(8,[]),(9,[])] 7 [⟨[10,11,13],60,31,32⟩,⟨[4,5,11,13],60,26,27⟩] fun cx=>mB3 tOk qy 0 4 10 kr (And.intro kr ?_) (And.intro kr ?_) (And.intro kr ?_)
 ·refine lA 1<|fA<|mB2 tOk qy 4 10 kr (And.intro kr ?_) (And.intro kr ?_)
  ·refine qd tOk (t:=60) (ty:=60) (e:=150) (x:=(.tmp 27)) (lo:=none) (hi:=(some (.tmp 28))) (d:=29) (g:=none) (tI 150) zF x0.Rows ⟨(.box 2),[(0,0)],0,false,3,(zQ (x0.Rows.map zF))⟩ 0 r1 kr kr kr kr kr kr rfl kr rfl kr kr hg4<|fA<|mB2 tOk qy 5 10 kr (And.intro kr ?_) (And.intro kr ?_)
   ·exact pD zF hg5<|fA<|mC qy 10<|qd tOk (t:=60) (ty:=60) (e:=150) (x:=(.tmp 32)) (lo:=(some (.tmp 34))) (hi:=none) (d:=35) (g:=none) (tI 150) zF x0.Rows ⟨(.box 2),[(0,0)],0,false,3,(zQ (x0.Rows.map zF))⟩ (wI (r1+1)) (x0.Rows.length:Int) kr kr kr kr kr kr rfl kr rfl kr kr hg6<|fA<|mC qy 11<|pD zF hg7<|fA<|mA qy [(12,[])] 1 [⟨[10,11,13],60,31,32⟩,⟨[4,5,11,13],60,26,27⟩] fun cx=>mC qy 13<|lA 1<|fA<|mE qy [7,4,2] [7,4,2]
   ·exact qd tOk (t:=60) (ty:=60) (e:=150) (x:=(.tmp 32)) (lo:=(some (.tmp 34))) (hi:=none) (d:=35) (g:=none) (tI 150) zF x0.Rows ⟨(.box 2),[(0,0)],0,false,3,(zQ (x0.Rows.map zF))⟩ (wI (r1+1)) (x0.Rows.length:Int) kr kr kr kr kr kr rfl kr rfl kr kr hg6<|fA<|mC qy 5<|pD zF hg5<|fA<|mC qy 11<|pD zF hg7<|fA<|mA qy [(12,[])] 1 [⟨[10,11,13],60,31,32⟩,⟨[4,5,11,13],60,26,27⟩] fun cx=>mC qy 13<|lA 1<|fA<|mE qy [7,4,2] [7,4,2]
  ·exact qd tOk (t:=60) (ty:=60) (e:=150) (x:=(.tmp 32)) (lo:=(some (.tmp 34))) (hi:=none) (d:=35) (g:=none) (tI 150) zF x0.Rows ⟨(.box 2),[(0,0)],0,false,3,(zQ (x0.Rows.map zF))⟩ (wI (r1+1)) (x0.Rows.length:Int) kr kr kr kr kr kr rfl kr rfl kr kr hg6<|fA<|mC qy 4<|qd tOk (t:=60) (ty:=60) (e:=150) (x:=(.tmp 27)) (lo:=none) (hi:=(some (.tmp 28))) (d:=29) (g:=none) (tI 150) zF x0.Rows ⟨(.box 2),[(0,0)],0,false,3,(zQ (x0.Rows.map zF))⟩ 0 r1 kr kr kr kr kr kr rfl kr rfl kr kr hg4<|fA<|mC qy 5<|pD zF hg5<|fA<|mC qy 11<|pD zF hg7<|fA<|mA qy [(12,[])] 1 [⟨[10,11,13],60,31,32⟩,⟨[4,5,11,13],60,26,27⟩] fun cx=>mC qy 13<|lA 1<|fA<|mE qy [7,4,2] [7,4,2]
 ·refine qd tOk (t:=60) (ty:=60) (e:=150) (x:=(.tmp 27)) (lo:=none) (hi:=(some (.tmp 28))) (d:=29) (g:=none) (tI 150) zF x0.Rows ⟨(.box 2),[(0,0)],0,false,3,(zQ (x0.Rows.map zF))⟩ 0 r1 kr kr kr kr kr kr rfl kr rfl kr kr hg4<|fA<|mB2 tOk qy 0 10 kr (And.intro kr ?_) (And.intro kr ?_)
  ·refine lA 1<|fA<|mB2 tOk qy 5 10 kr (And.intro kr ?_) (And.intro kr ?_)
   ·exact pD zF hg5<|fA<|mC qy 10<|qd tOk (t:=60) (ty:=60) (e:=150) (x:=(.tmp 32)) (lo:=(some (.tmp 34))) (hi:=none) (d:=35) (g:=none) (tI 150) zF x0.Rows ⟨(.box 2),[(0,0)],0,false,3,(zQ (x0.Rows.map zF))⟩ (wI (r1+1)) (x0.Rows.length:Int) kr kr kr kr kr kr rfl kr rfl kr kr hg6<|fA<|mC qy 11<|pD zF hg7<|fA<|mA qy [(12,[])] 1 [⟨[10,11,13],60,31,32⟩,⟨[4,5,11,13],60,26,27⟩] fun cx=>mC qy 13<|lA 1<|fA<|mE qy [7,4,2] [7,4,2]
   ·exact qd tOk (t:=60) (ty:=60) (e:=150) (x:=(.tmp 32)) (lo:=(some (.tmp 34))) (hi:=none) (d:=35) (g:=none) (tI 150) zF x0.Rows ⟨(.box 2),[(0,0)],0,false,3,(zQ (x0.Rows.map zF))⟩ (wI (r1+1)) (x0.Rows.length:Int) kr kr kr kr kr kr rfl kr rfl kr kr hg6<|fA<|mC qy 5<|pD zF hg5<|fA<|mC qy 11<|pD zF hg7<|fA<|mA qy [(12,[])] 1 [⟨[10,11,13],60,31,32⟩,⟨[4,5,11,13],60,26,27⟩] fun cx=>mC qy 13<|lA 1<|fA<|mE qy [7,4,2] [7,4,2]
  ·exact qd tOk (t:=60) (ty:=60) (e:=150) (x:=(.tmp 32)) (lo:=(some (.tmp 34))) (hi:=none) (d:=35) (g:=none) (tI 150) zF x0.Rows ⟨(.box 2),[(0,0)],0,false,3,(zQ (x0.Rows.map zF))⟩ (wI (r1+1)) (x0.Rows.length:Int) kr kr kr kr kr kr rfl kr rfl kr kr hg6<|fA<|mC qy 0<|lA 1<|fA<|mC qy 5<|pD zF hg5<|fA<|mC qy 11<|pD zF hg7<|fA<|mA qy [(12,[])] 1 [⟨[10,11,13],60,31,32⟩,⟨[4,5,11,13],60,26,27⟩] fun cx=>mC qy 13<|lA 1<|fA<|mE qy [7,4,2] [7,4,2]
 ·refine qd tOk (t:=60) (ty:=60) (e:=150) (x:=(.tmp 32)) (lo:=(some (.tmp 34))) (hi:=none) (d:=35) (g:=none) (tI 150) zF x0.Rows ⟨(.box 2),[(0,0)],0,false,3,(zQ (x0.Rows.map zF))⟩ (wI (r1+1)) (x0.Rows.length:Int) kr kr kr kr kr kr rfl kr rfl kr kr hg6<|fA<|mB2 tOk qy 0 4 kr (And.intro kr ?_) (And.intro kr ?_)
  ·exact lA 1<|fA<|mC qy 4<|qd tOk (t:=60) (ty:=60) (e:=150) (x:=(.tmp 27)) (lo:=none) (hi:=(some (.tmp 28))) (d:=29) (g:=none) (tI 150) zF x0.Rows ⟨(.box 2),[(0,0)],0,false,3,(zQ (x0.Rows.map zF))⟩ 0 r1 kr kr kr kr kr kr rfl kr rfl kr kr hg4<|fA<|mC qy 5<|pD zF hg5<|fA<|mC qy 11<|pD zF hg7<|fA<|mA qy [(12,[])] 1 [⟨[10,11,13],60,31,32⟩,⟨[4,5,11,13],60,26,27⟩] fun cx=>mC qy 13<|lA 1<|fA<|mE qy [7,4,2] [7,4,2]
  ·exact qd tOk (t:=60) (ty:=60) (e:=150) (x:=(.tmp 27)) (lo:=none) (hi:=(some (.tmp 28))) (d:=29) (g:=none) (tI 150) zF x0.Rows ⟨(.box 2),[(0,0)],0,false,3,(zQ (x0.Rows.map zF))⟩ 0 r1 kr kr kr kr kr kr rfl kr rfl kr kr hg4<|fA<|mC qy 0<|lA 1<|fA<|mC qy 5<|pD zF hg5<|fA<|mC qy 11<|pD zF hg7<|fA<|mA qy [(12,[])] 1 [⟨[10,11,13],60,31,32⟩,⟨[4,5,11,13],60,26,27⟩] fun cx=>mC qy 13<|lA 1<|fA<|mE qy [7,4,2] [7,4,2]
theorem zNu(n:Nat)(x0:zm)(x1:Int)(r:zm×Bool)(H:zAu n x0 x1=some r):zb Tryz.prog 172 [.val true (fR (zc x0)),.val false [.lit (.int .i64 x1)]] [.val true (zc r.1),.val false [.lit (.bool r.2)]] []:=by
 refine cW Tryz.func172 (fun g d=>sl [g 0,g 1,sl [g 2] (cn 20 (sl [g 3] .ret) .skip),g 4,d 5,g 6] .ret) [.cell 4 62,.tmp 5] fun cx=>?_
 unfold zAu at H
 refine gA 3 22 20<|rA 2<|bE H fun r1 er1 H=>vA [.rd,.rd] (zMI n x0 x1 r1 er1)<|uA 1 84 20<|tS<|rA 3<|kF x0.Pv zC<|bE H fun r2 er2 H=>vA [.rd,.rd] (zD0 n x0 (x0.Pv.length:Int) r2 er2)<|lA 2 ?_
 obtain⟨h1,H⟩|⟨h1,H⟩:=bC H
 ·refine qL 131156 20 [17] h1<|uA 3 1048660 20 ?_
  obtain⟨h2,H⟩|⟨h2,H⟩:=bC H
  ·exact nA h2<|tK<|rA 1<|bE H fun r3 er3 H=>vA [.rd] (Jm n x0 r3 er3)<|uA 2 212 148<|gE H fun hg4 H=>gE H fun hg5 H=>gE H fun hg6 H=>gE H fun hg7 H=>sT ⟨43,0,[sA 7 7 2 0,sI 6 r1,sA 4 4 2 0,sA 2 2 2 0],[(7,(zc r3)),(4,[cL 3 ([]:List zX) zF,cL 1 ([]:List Int) zC]),(2,(fR (zc x0)))]⟩<|zd zr 14 kr ⟨43,0,[sA 7 7 2 0,sA 4 4 2 0,sA 2 2 2 0],[(7,[cL 3 ((([]:List zX)++((x0.Rows.drop ((0:Int)).toNat).take (((r1:Int)).toNat-((0:Int)).toNat)))++((x0.Rows.drop (((wI (r1+1)):Int)).toNat).take ((((x0.Rows.length:Int):Int)).toNat-(((wI (r1+1)):Int)).toNat))) zF,cL 1 r3.Pv zC]),(4,[cL 3 ([]:List zX) zF,cL 1 ([]:List Int) zC]),(2,(fR (zc x0)))]⟩ (zKo n x0 r1 r3 hg4 hg5 hg6 hg7)<|rA 2<|bE H fun r8 er8 H=>vA [.own,.rd] (zJ9 n (⟨((([]:List zX)++((x0.Rows.drop ((0:Int)).toNat).take (((r1:Int)).toNat-((0:Int)).toNat)))++((x0.Rows.drop (((wI (r1+1)):Int)).toNat).take ((((x0.Rows.length:Int):Int)).toNat-(((wI (r1+1)):Int)).toNat))),r3.Pv⟩:zm) x0 r8 er8)<|uA 4 48 16<|te (fJ [(true,(zc r8.1)),(false,[cB r8.2])] H)
  exact tA h2<|rA 1<|bE H fun r9 er9 H=>vA [.rd] (Jm n x0 r9 er9)<|uA 2 48 16<|te (fJ [(true,(zc r9)),(false,[cB false])] H)
 exact qL 131156 20 [17] h1<|uA 3 1048660 20<|tB_<|rA 1<|bE H fun r10 er10 H=>vA [.rd] (Jm n x0 r10 er10)<|uA 2 48 16<|te (fJ [(true,(zc r10)),(false,[cB false])] H)
def zDB(n:Nat)(x0:Src)(x1:Int):Option (zX×Src):=
  (bif (decide ((0:Int)≤(IntKind.wrap .u64 x1)))then((zP n x0 (wI ((wI ((wI (1*2^min (((IntKind.wrap .u64 x1):Int)).toNat (IntKind.bits .i64)))-1))+1))).bind fun r2=>((zp n r2.2 [1,2,3,2]).bind fun r3=>((zP n r3.2 (wI ((wI ((wI (1*2^min (((IntKind.wrap .u64 x1):Int)).toNat (IntKind.bits .i64)))-1))+1))).bind fun r4=>(some ((⟨r3.1,r2.1,(wI (bO r2.1&&&bO r4.1).toNat)⟩:zX),r4.2)))))else none)
noncomputable abbrev zS5(k:Nat):=Rg Tryz.f174 k
theorem zOz(n:Nat)(x0:Src)(x1:Int)(r:zX×Src)(H:zDB n x0 x1=some r):zb Tryz.prog 174 [.ptr (fR (zL x0)),.val false [.lit (.int .i64 x1)]] [.val true (zF r.1)] [(0,(fR (zL r.2)))]:=by
 refine zu tOk Tryz.func174 rfl (c:=(.seq (zS5 0) (.seq (zS5 1) (.seq (zS5 2) (.seq (zS5 3) .ret))))) kr (Nat.le_of_ble_eq_true kr) 1 (rs:=[.cell 4 150]) rfl [] .nil [(true,(zF r.1))] [] [(0,(fR (zL r.2)))] fun cx=>?_
 show Tr _ _ _ ⟨26,1,[sA 0 0 3 0,sI 1 x1],[(0,(fR (zL x0)))]⟩ _
 unfold zDB at H
 exact gA 1 19 17<|rA 2<|gE H fun hg1 H=>Ym tOk (op:=.shl) (t:=3) (ty:=133) (ty':=3) (x:=(.const (.int .i64 1))) (y:=(.tmp 8)) (d:=9) (g:=none) (.int .i64 1) (.int .u64 (IntKind.wrap .u64 x1)) (.int .i64 (wI (1*2^min (((IntKind.wrap .u64 x1):Int)).toNat (IntKind.bits .i64)))) _ kr kr kr kr kr (φ:=(0:Int)≤(IntKind.wrap .u64 x1)) kr (of_decide_eq_true hg1) rfl<|uA 2 49 17<|rA 3<|bE H fun r2 er2 H=>vL [.lend,.rd] (zW n x0 (wI ((wI ((wI (1*2^min (((IntKind.wrap .u64 x1):Int)).toNat (IntKind.bits .i64)))-1))+1)) r2 er2)<|uA 1 113 17<|rA 2<|bE H fun r3 er3 H=>vL [.lend,.rd] (qH n r2.2 [1,2,3,2] r3 er3)<|lA 5<|bE H fun r4 er4 H=>vL [.lend,.rd] (zW n r3.2 (wI ((wI ((wI (1*2^min (((IntKind.wrap .u64 x1):Int)).toNat (IntKind.bits .i64)))-1))+1)) r4 er4)<|uA 3 17 17<|te<|fY [(true,[cI r3.1,cI r2.1,cI (wI (bO r2.1&&&bO r4.1).toNat)])] [(0,(fR (zL r4.2)))] H
def zB3(n:Nat)(x0:zm)(x1:zX)(y5:Bool)(y6:(List zX)):Option (zm):=
  (bif (!y5)then(bif (decide (y6.length+ [x1].length≤268435456))then(some (⟨(y6++[x1]),(([]:List Int)++x0.Pv)⟩:zm))else none)else(some (⟨y6,(([]:List Int)++x0.Pv)⟩:zm)))
def Y0(n:Nat)(k:(Int×Bool×(List zX)→Option ((Bool×(List zX))⊕(zm))))(x0:zm)(x1:zX)(y2:Int)(y9:Bool)(y10:Bool)(y11:Bool)(y12:Bool)(y13:(List zX)):Option ((Bool×(List zX))⊕(zm)):=
  ((idx x0.Rows y2).bind fun v14=>(bif (v14.Id != x1.Id)then((idx x0.Rows y2).bind fun v15=>(bif (decide (y13.length+ [v15].length≤268435456))then(k ((wI (y2+1)),y12,(y13++[v15])))else none))else(k ((wI (y2+1)),y12,y13))))
def Za(n:Nat):Nat→zm→zX→Int→Bool→(List zX)→Option ((Bool×(List zX))⊕(zm))
  |0,_,_,_,_,_=>none
  |mo8+1,x0,x1,y2,y3,y4=>(bif (decide (y2<(x0.Rows.length:Int)))then(bif (!y3)then((idx x0.Rows y2).bind fun v17=>(bif (decide (v17.Id≥x1.Id))then(bif (decide (y4.length+ [x1].length≤268435456))then(Y0 n (fun v=>Za n mo8 x0 x1 v.1 v.2.1 v.2.2) x0 x1 y2 true true true true (y4++[x1]))else none)else(Y0 n (fun v=>Za n mo8 x0 x1 v.1 v.2.1 v.2.2) x0 x1 y2 false true true y3 y4)))else(Y0 n (fun v=>Za n mo8 x0 x1 v.1 v.2.1 v.2.2) x0 x1 y2 false false false y3 y4))else(some (Sum.inl (y3,y4))))
def zCZ(n:Nat)(x0:zm)(x1:zX):Option (zm):=
  (bif (decide (([]:List Int).length+x0.Pv.length≤268435456))then((Za n n x0 x1 0 false ([]:List zX)).bind fun o=>match o with|.inl (y5,y6)=>(zB3 n x0 x1 y5 y6)|.inr r=>some r)else none)
def zTR:Tab:=⟨13,[0,1,2,4,12,4,52,68,132,4,516,1284,2052],[0,1,2,4,12,4,52,68,132,4,516,1284,2052],[0,1,3,7,15,7,63,127,255,7,519,2047,4095]⟩
theorem zH3:qb (rg Tryz.f162 6) zTR=true:=kr
theorem zMO(n:Nat)(x0:zm)(x1:zX)(r:zm)(H:zCZ n x0 x1=some r):zb Tryz.prog 162 [.val true (fR (zc x0)),.val true (fR (zF x1))] [.val true (zc r)] []:=by
 refine cW Tryz.func162 (fun g d=>sl [g 0,g 1,g 2,sl [g 3] (.block 0 (.loop (sl [sl [g 4] (cn 17 .skip (.exit 0)),.block 1 (sl [sl [d 6] (cn 32 (sl [g 7] (g 8)) .skip),d 9] (cn 47 (d 10) .skip))] (g 5)))),sl [g 11] (cn 59 (g 12) .skip),g 13] .ret) [.cell 4 62] fun cx=>?_
 unfold zCZ at H
 refine gA 3 28 28<|rA 3<|gE H fun hg1 H=>pD zC hg1<|uA 3 60 60<|gA 1 124 60<|tS<|gA 1 252 60 ?_
 obtain⟨o8,eo8,Ho8⟩:=bs H
 clear H
 refine zt (ι:=Bool×(List zX)) (fun v=>⟨67,0,[sB 6 v.1,sA 5 5 2 0,sA 4 4 2 0,sA 3 3 3 0],[(5,[cL 3 v.2 zF,cL 1 (([]:List Int)++x0.Pv) zC]),(4,[cL 3 ([]:List zX) zF,cL 1 ([]:List Int) zC]),(3,(zF x1))]⟩) (fun v=>zB3 n x0 x1 v.1 v.2=some r) ?_ ?_
 ·refine tB<|Tr.loop (ι:=Nat×(Int×Bool×(List zX))) (fun v=>⟨67,0,[sI 7 v.2.1,sB 6 v.2.2.1,sA 5 5 2 0,sA 4 4 2 0,sA 3 3 3 0,sA 2 2 2 0],[(5,[cL 3 v.2.2.2 zF,cL 1 (([]:List Int)++x0.Pv) zC]),(4,[cL 3 ([]:List zX) zF,cL 1 ([]:List Int) zC]),(3,(zF x1)),(2,(fR (zc x0)))]⟩) (fun v=>Za n v.1 x0 x1 v.2.1 v.2.2.1 v.2.2.2=some o8) (fun v=>v.1) (n,(0,false,([]:List zX))) eo8 (za [7,6,5,4,3,2] [5,4,3,2] kr) ?_
  rintro⟨_|mo8,y2,y3,y4⟩ H
  ·exact nN H
  have H:Za n (mo8+1) x0 x1 y2 y3 y4=some o8:=H
  rw[Za]at H
  refine tS<|rA 3<|kF x0.Rows zF<|uA 1 254204 60 ?_
  obtain⟨h2,H⟩|⟨h2,H⟩:=bC H
  ·refine nA h2<|Tr.exit<|aJ ?_
   cases H
   exact jA (y3,y4) Ho8 [6,5,4,3] [5,4,3]
  refine tA h2<|tK<|tS<|tB<|tS<|zt (ι:=Bool×Bool×Bool×Bool×(List zX)) (fun v=>⟨67,0,[sB 32 v.1,sB 22 v.2.1,sB 21 v.2.2.1,sB 20 y3,sB 17 true,sI 16 (x0.Rows.length:Int),sC 15 (cF 3 x0.Rows zF),sA 14 2 2 0,sI 13 y2,sI 7 y2,sB 6 v.2.2.2.1,sA 5 5 2 0,sA 4 4 2 0,sA 3 3 3 0,sA 2 2 2 0],[(5,[cL 3 v.2.2.2.2 zF,cL 1 (([]:List Int)++x0.Pv) zC]),(4,[cL 3 ([]:List zX) zF,cL 1 ([]:List Int) zC]),(3,(zF x1)),(2,(fR (zc x0)))]⟩) (fun v=>Y0 n (fun v=>Za n mo8 x0 x1 v.1 v.2.1 v.2.2) x0 x1 y2 v.1 v.2.1 v.2.2.1 v.2.2.2.1 v.2.2.2.2=some o8) ?_ ?_
  ·refine tS<|sT ⟨67,0,[sB 17 (decide (y2<(x0.Rows.length:Int))),sI 16 (x0.Rows.length:Int),sC 15 (cF 3 x0.Rows zF),sA 14 2 2 0,sI 13 y2,sI 7 y2,sB 6 y3,sA 5 5 2 0,sA 4 4 2 0,sA 3 3 3 0,sA 2 2 2 0],[(5,[cL 3 y4 zF,cL 1 (([]:List Int)++x0.Pv) zC]),(4,[cL 3 ([]:List zX) zF,cL 1 ([]:List Int) zC]),(3,(zF x1)),(2,(fR (zc x0)))]⟩ ?_
   cases h4:(!y3)
   ·have H:=YA h4 H
    refine qr zr 13 kr ⟨67,0,[sB 32 false,(31,.tup []),(30,.tup []),(29,.tup []),(28,.tup []),(27,.tup []),(26,.tup []),(25,.tup []),(24,.tup []),(23,.tup []),sB 22 false,sB 21 false,sB 20 y3,sB 17 (decide (y2<(x0.Rows.length:Int))),sI 16 (x0.Rows.length:Int),sC 15 (cF 3 x0.Rows zF),sA 14 2 2 0,sI 13 y2,sI 7 y2,sB 6 y3,sA 5 5 2 0,sA 4 4 2 0,sA 3 3 3 0,sA 2 2 2 0],[(5,[cL 3 y4 zF,cL 1 (([]:List Int)++x0.Pv) zC]),(4,[cL 3 ([]:List zX) zF,cL 1 ([]:List Int) zC]),(3,(zF x1)),(2,(fR (zc x0)))]⟩ (fun cx=>?_) ?_
    ·exact mA zH3 (zl [0,1,2]) 10 [] fun cx=>qA 7594236 60 [22,21] h4<|mA zH3 (zl [3,4,5,6,7,8,9,10,11,12]) 0 [] fun cx=>mE zH3 [32,31,30,29,28,27,26,25,24,23,22,21,20,17,16,15,14,13,7,6,5,4,3,2] [5,4,3,2]
    refine nB_<|tK<|sB' 8589140220 60 ⟨67,0,[sB 32 false,(31,.tup []),(30,.tup []),(29,.tup []),(28,.tup []),(27,.tup []),(26,.tup []),(25,.tup []),(24,.tup []),(23,.tup []),sB 22 false,sB 21 false,sB 20 y3,sB 17 (decide (y2<(x0.Rows.length:Int))),sI 16 (x0.Rows.length:Int),sC 15 (cF 3 x0.Rows zF),sA 14 2 2 0,sI 13 y2,sI 7 y2,sB 6 y3,sA 5 5 2 0,sA 4 4 2 0,sA 3 3 3 0,sA 2 2 2 0],[(5,[cL 3 y4 zF,cL 1 (([]:List Int)++x0.Pv) zC]),(4,[cL 3 ([]:List zX) zF,cL 1 ([]:List Int) zC]),(3,(zF x1)),(2,(fR (zc x0)))]⟩ ?_
    rw[h2]
    exact jA (false,false,false,y3,y4) H [32,22,21,20,17,16,15,14,13,7,6,5,4,3,2] [5,4,3,2]
   have H:=YB h4 H
   refine bE H fun v17 ev17 H=>qr zr 13 kr ⟨67,0,[sB 32 (decide (v17.Id≥x1.Id)),sB 31 (decide (v17.Id≥x1.Id)),sI 30 x1.Id,sA 29 3 3 0,sI 28 v17.Id,(27,.fad ((zF v17))),(26,.fad ((zF v17))),sI 25 y2,sR 24 2 2 0 1 false,sA 23 2 2 0,sB 22 true,sB 21 true,sB 20 y3,sB 17 (decide (y2<(x0.Rows.length:Int))),sI 16 (x0.Rows.length:Int),sC 15 (cF 3 x0.Rows zF),sA 14 2 2 0,sI 13 y2,sI 7 y2,sB 6 y3,sA 5 5 2 0,sA 4 4 2 0,sA 3 3 3 0,sA 2 2 2 0],[(5,[cL 3 y4 zF,cL 1 (([]:List Int)++x0.Pv) zC]),(4,[cL 3 ([]:List zX) zF,cL 1 ([]:List Int) zC]),(3,(zF x1)),(2,(fR (zc x0)))]⟩ (fun cx=>?_) ?_
   ·exact mA zH3 (zl [0,1,2]) 10 [] fun cx=>qA 7594236 60 [22,21] h4<|mA zH3 (zl [3,4,5]) 7 [⟨[],60,23,24⟩] fun cx=>iN zH3 6 zF ev17 fun cx=>mA zH3 (zl [7,8,9,10,11,12]) 0 [⟨[],3,29,30⟩,⟨[],60,23,24⟩] fun cx=>mE zH3 [32,31,30,29,28,27,26,25,24,23,22,21,20,17,16,15,14,13,7,6,5,4,3,2] [5,4,3,2]
   obtain⟨h5,H⟩|⟨h5,H⟩:=bC H
   ·refine qT [32,31] h5<|nB_<|tK<|sB' 8589140220 60 ⟨67,0,[sB 32 false,sB 31 false,sI 30 x1.Id,sA 29 3 3 0,sI 28 v17.Id,(27,.fad ((zF v17))),(26,.fad ((zF v17))),sI 25 y2,sR 24 2 2 0 1 false,sA 23 2 2 0,sB 22 true,sB 21 true,sB 20 y3,sB 17 (decide (y2<(x0.Rows.length:Int))),sI 16 (x0.Rows.length:Int),sC 15 (cF 3 x0.Rows zF),sA 14 2 2 0,sI 13 y2,sI 7 y2,sB 6 y3,sA 5 5 2 0,sA 4 4 2 0,sA 3 3 3 0,sA 2 2 2 0],[(5,[cL 3 y4 zF,cL 1 (([]:List Int)++x0.Pv) zC]),(4,[cL 3 ([]:List zX) zF,cL 1 ([]:List Int) zC]),(3,(zF x1)),(2,(fR (zc x0)))]⟩ ?_
    rw[h2]
    exact jA (false,true,true,y3,y4) H [32,22,21,20,17,16,15,14,13,7,6,5,4,3,2] [5,4,3,2]
   refine qT [32,31] h5<|tB_<|rA 4<|gE H fun hg18 H=>qO tOk (t:=60) (ty:=60) (e:=150) (x:=(.tmp 34)) (y:=(.tmp 36)) (d:=37) (g:=none) (tI 150) zF y4 [x1] kr kr kr kr kr kr kr kr kr kr hg18<|uA 2 326416720124 60<|eA 1 326416720124 60<|sB' 326416720124 60 ⟨67,0,[sB 6 true,sA 38 5 2 0,sV 35 (zF x1),sA 33 5 2 0,sB 32 true,sB 31 true,sI 30 x1.Id,sA 29 3 3 0,sI 28 v17.Id,(27,.fad ((zF v17))),(26,.fad ((zF v17))),sI 25 y2,sR 24 2 2 0 1 false,sA 23 2 2 0,sB 22 true,sB 21 true,sB 20 y3,sB 17 (decide (y2<(x0.Rows.length:Int))),sI 16 (x0.Rows.length:Int),sC 15 (cF 3 x0.Rows zF),sA 14 2 2 0,sI 13 y2,sI 7 y2,sA 5 5 2 0,sA 4 4 2 0,sA 3 3 3 0,sA 2 2 2 0],[(5,[cL 3 (y4++[x1]) zF,cL 1 (([]:List Int)++x0.Pv) zC]),(4,[cL 3 ([]:List zX) zF,cL 1 ([]:List Int) zC]),(3,(zF x1)),(2,(fR (zc x0)))]⟩ ?_
   rw[h2]
   exact jA (true,true,true,true,(y4++[x1])) H [32,22,21,20,17,16,15,14,13,7,6,5,4,3,2] [5,4,3,2]
  rintro⟨y9,y10,y11,y12,y13⟩ H
  have H:(Y0 n (fun v=>Za n mo8 x0 x1 v.1 v.2.1 v.2.2) x0 x1 y2 y9 y10 y11 y12 y13)=some o8:=H
  unfold Y0 at H
  refine bE H fun v14 ev14 H=>zd zr 9 kr ⟨67,0,[sB 47 (v14.Id != x1.Id),sI 46 x1.Id,sA 45 3 3 0,sI 44 v14.Id,(43,.fad ((zF v14))),(42,.fad ((zF v14))),sI 41 y2,sR 40 2 2 0 1 false,sA 39 2 2 0,sB 32 y9,sB 22 y10,sB 21 y11,sB 20 y3,sB 17 true,sI 16 (x0.Rows.length:Int),sC 15 (cF 3 x0.Rows zF),sA 14 2 2 0,sI 13 y2,sI 7 y2,sB 6 y12,sA 5 5 2 0,sA 4 4 2 0,sA 3 3 3 0,sA 2 2 2 0],[(5,[cL 3 y13 zF,cL 1 (([]:List Int)++x0.Pv) zC]),(4,[cL 3 ([]:List zX) zF,cL 1 ([]:List Int) zC]),(3,(zF x1)),(2,(fR (zc x0)))]⟩ (fun cx=>?_) ?_
  ·refine aA (zl [0,1,2]) 6 [⟨[],60,39,40⟩] fun cx=>aI tOk 3 60 0 40 41 42 none ⟨(.box 2),[(0,0)],0,false,3,(zQ (x0.Rows.map zF))⟩ y2 (zF v14) _ kr kr kr kr kr kr rfl (zCa ev14) rfl (fun cx=>?_)
   exact aA (zl [4,5,6,7,8]) 0 [⟨[],3,45,46⟩,⟨[],60,39,40⟩] fun cx=>eE [47,46,45,44,43,42,41,40,39,32,22,21,20,17,16,15,14,13,7,6,5,4,3,2] [5,4,3,2]
  obtain⟨h3,H⟩|⟨h3,H⟩:=bC H
  ·exact qT [47] h3<|nB_<|tK<|eA 3 0xff81007fe0fc 60<|jB mo8 ((wI (y2+1)),y12,y13) H [7,6,5,4,3,2] [5,4,3,2]
  refine qT [47] h3<|tB_<|bE H fun v15 ev15 H=>gE H fun hg16 H=>qr zr 11 kr ⟨67,0,[sA 57 5 2 0,sV 54 (zF v15),(53,.fad ((zF v15))),sI 52 y2,sR 51 2 2 0 1 false,sA 50 2 2 0,sA 48 5 2 0,sB 47 true,sI 46 x1.Id,sA 45 3 3 0,sI 44 v14.Id,(43,.fad ((zF v14))),(42,.fad ((zF v14))),sI 41 y2,sR 40 2 2 0 1 false,sA 39 2 2 0,sB 32 y9,sB 22 y10,sB 21 y11,sB 20 y3,sB 17 true,sI 16 (x0.Rows.length:Int),sC 15 (cF 3 x0.Rows zF),sA 14 2 2 0,sI 13 y2,sI 7 y2,sB 6 y12,sA 5 5 2 0,sA 4 4 2 0,sA 3 3 3 0,sA 2 2 2 0],[(5,[cL 3 (y13++[v15]) zF,cL 1 (([]:List Int)++x0.Pv) zC]),(4,[cL 3 ([]:List zX) zF,cL 1 ([]:List Int) zC]),(3,(zF x1)),(2,(fR (zc x0)))]⟩ (fun cx=>?_) ?_
  ·refine aA [(0,[]),(1,[8,10]),(2,[]),(3,[7,8,10]),(4,[])] 6 [⟨[7,8,10],60,50,51⟩,⟨[8,10],60,48,49⟩] fun cx=>aI tOk 5 60 0 51 52 53 none ⟨(.box 2),[(0,0)],0,false,3,(zQ (x0.Rows.map zF))⟩ y2 (zF v15) _ kr kr kr kr kr kr rfl (zCa ev15) rfl (fun cx=>?_)
   exact aA [(6,[])] 4 [⟨[7,8,10],60,50,51⟩,⟨[8,10],60,48,49⟩] fun cx=>bA 7<|lA 1<|fA<|bA 8<|qO tOk (t:=60) (ty:=60) (e:=150) (x:=(.tmp 49)) (y:=(.tmp 55)) (d:=56) (g:=none) (tI 150) zF y13 [v15] kr kr kr kr kr kr kr kr kr kr hg16<|fA<|aA [(9,[])] 1 [⟨[7,8,10],60,50,51⟩,⟨[8,10],60,48,49⟩] fun cx=>bA 10<|lA 1<|fA<|eE [57,54,53,52,51,50,48,47,46,45,44,43,42,41,40,39,32,22,21,20,17,16,15,14,13,7,6,5,4,3,2] [5,4,3,2]
  exact eA 3 0x27dff81007fe0fc 60<|jB mo8 ((wI (y2+1)),y12,(y13++[v15])) H [7,6,5,4,3,2] [5,4,3,2]
 rintro⟨y5,y6⟩ H
 have H:(zB3 n x0 x1 y5 y6)=some r:=H
 unfold zB3 at H
 refine tS<|gA 2 0x800000000000038 56 ?_
 obtain⟨h1,H⟩|⟨h1,H⟩:=bC H
 ·exact nA h1<|tK<|gA 2 16 16<|te (fJ [(true,[cL 3 y6 zF,cL 1 (([]:List Int)++x0.Pv) zC])] H)
 exact tA h1<|Tr.at<|lA 4<|gE H fun hg7 H=>qO tOk (t:=60) (ty:=60) (e:=150) (x:=(.tmp 61)) (y:=(.tmp 63)) (d:=64) (g:=none) (tI 150) zF y6 [x1] kr kr kr kr kr kr kr kr kr kr hg7<|uA 2 48 48<|gA 2 16 16<|te (fJ [(true,[cL 3 (y6++[x1]) zF,cL 1 (([]:List Int)++x0.Pv) zC])] H)
def zC3(n:Nat)(x0:zm)(x1:zX):Option (zm×Bool):=
  ((qN n x0 (x0.Pv.length:Int)).bind fun r1=>(bif (!r1)then((Z7 n x0).bind fun r4=>(some (r4,false)))else((zCZ n x0 x1).bind fun r2=>((zCT n r2 x0).bind fun r3=>(some (r3.1,r3.2))))))
theorem zOq(n:Nat)(x0:zm)(x1:zX)(r:zm×Bool)(H:zC3 n x0 x1=some r):zb Tryz.prog 173 [.val true (fR (zc x0)),.val true (fR (zF x1))] [.val true (zc r.1),.val false [.lit (.bool r.2)]] []:=by
 refine cW Tryz.func173 (fun g d=>sl [g 0,sl [g 1] (cn 11 (sl [g 2] .ret) .skip),d 3] .ret) [.cell 4 62,.tmp 5] fun cx=>?_
 unfold zC3 at H
 refine gA 4 28 28<|tS<|rA 3<|kF x0.Pv zC<|bE H fun r1 er1 H=>vA [.rd,.rd] (zD0 n x0 (x0.Pv.length:Int) r1 er1)<|uA 1 2076 28 ?_
 obtain⟨h1,H⟩|⟨h1,H⟩:=bC H
 ·refine nA h1<|tK<|bE H fun r2 er2 H=>bE H fun r3 er3 H=>zd zr 9 kr ⟨21,0,[sB 5 r3.2,sA 4 4 2 0],[(4,(zc r3.1))]⟩ (fun cx=>?_) ?_
  ·exact aA [(0,[2,4,7]),(1,[2,4,7]),(3,[4,7])] 6 [⟨[4,7],62,2,17⟩,⟨[2,4,7],150,3,15⟩,⟨[2,4,7],62,2,14⟩] fun cx=>bA 2<|vA [.rd,.rd] (zMO n x0 x1 r2 er2)<|fA<|bA 4<|vA [.own,.rd] (zJ9 n r2 x0 r3 er3)<|fA<|aA [(5,[]),(6,[])] 2 [⟨[4,7],62,2,17⟩,⟨[2,4,7],150,3,15⟩,⟨[2,4,7],62,2,14⟩] fun cx=>bA 7<|lA 1<|fA<|aA [(8,[])] 0 [⟨[4,7],62,2,17⟩,⟨[2,4,7],150,3,15⟩,⟨[2,4,7],62,2,14⟩] fun cx=>eE [5,4] [4]
  exact te (fJ [(true,(zc r3.1)),(false,[cB r3.2])] H)
 exact tA h1<|rA 1<|bE H fun r4 er4 H=>vA [.rd] (Jm n x0 r4 er4)<|uA 2 48 16<|te (fJ [(true,(zc r4)),(false,[cB false])] H)
def zCw(n:Nat)(y9:(List Int))(y10:Int)(y11:Int)(y12:(List zX))(y13:(List Int)):Option (zm×Src):=
  (some ((⟨y12,y13⟩:zm),(⟨y9,y10,y11⟩:Src)))
def Qx(n:Nat):Nat→Int→Int→(List Int)→Int→Int→(List zX)→(List Int)→Option (((List Int)×Int×Int×(List zX)×(List Int))⊕(zm×Src))
  |0,_,_,_,_,_,_,_=>none
  |mo14+1,x1,y3,y4,y5,y6,y7,y8=>(bif (decide (y3>0))then((zP n (⟨y4,y5,y6⟩:Src) 4).bind fun r15=>(bif (r15.1==0)then((zP n r15.2 x1).bind fun r20=>((zP n r20.2 3).bind fun r21=>((zBx n (⟨y7,y8⟩:zm) r20.1 (wI (1+r21.1))).bind fun r22=>(Qx n mo14 x1 (wI (y3-1)) r21.2.b r21.2.i r21.2.h r22.1.Rows r22.1.Pv))))else(bif (r15.1==1)then((zP n r15.2 2).bind fun r18=>((zAu n (⟨y7,y8⟩:zm) (wI (2+r18.1))).bind fun r19=>(Qx n mo14 x1 (wI (y3-1)) r18.2.b r18.2.i r18.2.h r19.1.Rows r19.1.Pv)))else((zDB n r15.2 x1).bind fun r16=>((zC3 n (⟨y7,y8⟩:zm) r16.1).bind fun r17=>(Qx n mo14 x1 (wI (y3-1)) r16.2.b r16.2.i r16.2.h r17.1.Rows r17.1.Pv))))))else(some (Sum.inl (y4,y5,y6,y7,y8))))
def zBm(n:Nat)(x0:Src)(x1:Int):Option (zm×Src):=
  ((Yu n x1).bind fun r1=>((zP n x0 6).bind fun r2=>((Qx n n x1 r2.1 r2.2.b r2.2.i r2.2.h r1.Rows r1.Pv).bind fun o=>match o with|.inl (y9,y10,y11,y12,y13)=>(zCw n y9 y10 y11 y12 y13)|.inr r=>some r)))
def zTQ:Tab:=⟨12,[0,0,0,6,0,24,32,105,128,256,256,1023],[0,0,0,6,0,16,32,73,128,256,256,512],[0,0,0,6,0,30,62,127,255,511,511,1023]⟩
noncomputable abbrev zPS(k:Nat):=Rg Tryz.f157 k
noncomputable abbrev zTz(k:Nat):=Rd Tryz.f157 k
theorem zGH:qb (rg Tryz.f157 8) zTQ=true:=kr
theorem zKY(n:Nat)(x0:Src)(x1:Int)(r:zm×Src)(H:zBm n x0 x1=some r):zb Tryz.prog 157 [.ptr (fR (zL x0)),.val false [.lit (.int .i64 x1)]] [.val true (zc r.1)] [(0,(fR (zL r.2)))]:=by
 refine zu tOk Tryz.func157 rfl (c:=(.seq (zPS 0) (.seq (zPS 1) (.seq (.seq (zPS 2) (.block 0 (.loop (.seq (.seq (zPS 3) (.cond (.tmp 12) .skip (.exit 0))) (.seq (.block 1 (.seq (zPS 5) (.block 2 (.seq (zPS 7) (.cond (.tmp 25) (zTz 8) (.seq (zPS 9) (.cond (.tmp 38) (zTz 10) (zTz 6)))))))) (zPS 4)))))) (.seq (zPS 11) .ret))))) kr (Nat.le_of_ble_eq_true kr) 1 (rs:=[.cell 4 62]) rfl [] .nil [(true,(zc r.1))] [] [(0,(fR (zL r.2)))] fun cx=>?_
 show Tr _ _ _ ⟨49,1,[sA 0 0 3 0,sI 1 x1],[(0,(fR (zL x0)))]⟩ _
 unfold zBm at H
 refine gA 1 19 17<|rA 1<|bE H fun r1 er1 H=>vA [.rd] (zI9 n x1 r1 er1)<|uA 2 51 49<|tS<|rA 1<|bE H fun r2 er2 H=>vL [.lend,.rd] (zW n x0 6 r2 er2)<|uA 1 115 49 ?_
 obtain⟨o14,eo14,Ho14⟩:=bs H
 clear H
 refine zt (ι:=(List Int)×Int×Int×(List zX)×(List Int)) (fun v=>⟨49,1,[sA 5 5 2 0,sA 4 4 2 0,sA 0 0 3 0],[(0,[cF 1 v.1 qC,cI v.2.1,cI v.2.2.1]),(5,[cL 3 v.2.2.2.1 zF,cL 1 v.2.2.2.2 zC]),(4,[cL 3 ([]:List zX) zF,cL 1 ([]:List Int) zC])]⟩) (fun v=>zCw n v.1 v.2.1 v.2.2.1 v.2.2.2.1 v.2.2.2.2=some r) ?_ ?_
 ·refine tB<|Tr.loop (ι:=Nat×(Int×(List Int)×Int×Int×(List zX)×(List Int))) (fun v=>⟨49,1,[sI 6 v.2.1,sA 5 5 2 0,sA 4 4 2 0,sA 0 0 3 0,sI 1 x1],[(0,[cF 1 v.2.2.1 qC,cI v.2.2.2.1,cI v.2.2.2.2.1]),(5,[cL 3 v.2.2.2.2.2.1 zF,cL 1 v.2.2.2.2.2.2 zC]),(4,[cL 3 ([]:List zX) zF,cL 1 ([]:List Int) zC])]⟩) (fun v=>Qx n v.1 x1 v.2.1 v.2.2.1 v.2.2.2.1 v.2.2.2.2.1 v.2.2.2.2.2.1 v.2.2.2.2.2.2=some o14) (fun v=>v.1) (n,(r2.1,r2.2.b,r2.2.i,r2.2.h,r1.Rows,r1.Pv)) eo14 (za [6,5,4,0,1] [0,5,4] kr) ?_
  rintro⟨_|mo14,y3,y4,y5,y6,y7,y8⟩ H
  ·exact nN H
  have H:Qx n (mo14+1) x1 y3 y4 y5 y6 y7 y8=some o14:=H
  rw[Qx]at H
  refine tS<|gA 2 4211 49 ?_
  obtain⟨h1,H⟩|⟨h1,H⟩:=bC H
  ·refine nA h1<|Tr.exit<|aJ ?_
   cases H
   exact jA (y4,y5,y6,y7,y8) Ho14 [5,4,0] [0,5,4]
  refine tA h1<|tK<|tS<|tB<|rA 1<|bE H fun r15 er15 H=>vL [.lend,.rd] (zW n (⟨y4,y5,y6⟩:Src) 4 r15 er15)<|dA 65651 49<|tB<|gA 2 33620083 49 ?_
  obtain⟨h2,H⟩|⟨h2,H⟩:=bC H
  ·refine nA h2<|gA 2 274877907059 49 ?_
   obtain⟨h3,H⟩|⟨h3,H⟩:=bC H
   ·refine nA h3<|bE H fun r16 er16 H=>bE H fun r17 er17 H=>qr zr 9 kr ⟨49,1,[sI 6 y3,sA 5 5 2 0,sA 4 4 2 0,sA 0 0 3 0,sI 1 x1],[(5,(zc r17.1)),(0,(fR (zL r16.2))),(4,[cL 3 ([]:List zX) zF,cL 1 ([]:List Int) zC])]⟩ (fun cx=>?_) ?_
    ·refine aA [(0,[4,8]),(1,[]),(2,[])] 6 [⟨[4,8],62,5,18⟩] fun cx=>bA 3<|vL [.lend,.rd] (zOz n r15.2 x1 r16 er16)<|fA<|bA 4<|vB [.rd,.rd] [.box 5] (zOq n (⟨y7,y8⟩:zm) r16.1 r17 er17) (.inr (zN (zDs _) (zN (zH zT zR) zS)))<|fA<|AT.movT tOk 5 (ty:=162) (t:=22) (d:=17) (g:=none) [(true,(zc r17.1)),(false,[cB r17.2])] _ kr kr kr (.inl rfl) kr kr kr kr rfl (fun cx=>?_)
     exact aA [(6,[]),(7,[])] 1 [⟨[4,8],62,5,18⟩] fun cx=>bA 8<|lA 1<|fA<|eE [6,5,4,0,1] [5,0,4]
    exact eA 3 115 49<|jB mo14 ((wI (y3-1)),r16.2.b,r16.2.i,r16.2.h,r17.1.Rows,r17.1.Pv) H [6,5,4,0,1] [0,5,4]
   refine tA h3<|bE H fun r18 er18 H=>bE H fun r19 er19 H=>qr zr 9 kr ⟨49,1,[sI 6 y3,sA 5 5 2 0,sA 4 4 2 0,sA 0 0 3 0,sI 1 x1],[(5,(zc r19.1)),(0,(fR (zL r18.2))),(4,[cL 3 ([]:List zX) zF,cL 1 ([]:List Int) zC])]⟩ (fun cx=>?_) ?_
   ·refine aA [(0,[4,8]),(1,[])] 7 [⟨[4,8],62,5,41⟩] fun cx=>bA 2<|vL [.lend,.rd] (zW n r15.2 2 r18 er18)<|fA<|aA [(3,[])] 5 [⟨[4,8],62,5,41⟩] fun cx=>bA 4<|vB [.rd,.rd] [.box 5] (zNu n (⟨y7,y8⟩:zm) (wI (2+r18.1)) r19 er19) (.inr (zN (zDs _) (zN (zH zT zR) zS)))<|fA<|AT.movT tOk 5 (ty:=162) (t:=45) (d:=40) (g:=none) [(true,(zc r19.1)),(false,[cB r19.2])] _ kr kr kr (.inl rfl) kr kr kr kr rfl (fun cx=>?_)
    exact aA [(6,[]),(7,[])] 1 [⟨[4,8],62,5,41⟩] fun cx=>bA 8<|lA 1<|fA<|eE [6,5,4,0,1] [5,0,4]
   exact eA 3 115 49<|jB mo14 ((wI (y3-1)),r18.2.b,r18.2.i,r18.2.h,r19.1.Rows,r19.1.Pv) H [6,5,4,0,1] [0,5,4]
  refine tA h2<|bE H fun r20 er20 H=>bE H fun r21 er21 H=>bE H fun r22 er22 H=>qr zr 12 kr ⟨49,1,[sI 6 y3,sA 5 5 2 0,sA 4 4 2 0,sA 0 0 3 0,sI 1 x1],[(5,(zc r22.1)),(0,(fR (zL r21.2))),(4,[cL 3 ([]:List zX) zF,cL 1 ([]:List Int) zC])]⟩ (fun cx=>?_) ?_
  ·refine mA zGH ([(0,[7,11])]++zl [1,2,4]) 8 [⟨[7,11],62,5,28⟩] fun cx=>mC zGH 3<|vL [.lend,.rd] (zW n r15.2 x1 r20 er20)<|fA<|mC zGH 5<|vL [.lend,.rd] (zW n r20.2 3 r21 er21)<|fA<|mA zGH [(6,[])] 5 [⟨[7,11],62,5,28⟩] fun cx=>mC zGH 7<|vB [.rd,.rd,.rd] [.box 5] (zNv n (⟨y7,y8⟩:zm) r20.1 (wI (1+r21.1)) r22 er22) (.inr (zN (zDs _) (zN (zH zT zR) zS)))<|fA<|AT.movT tOk 8 (ty:=162) (t:=35) (d:=27) (g:=none) [(true,(zc r22.1)),(false,[cB r22.2])] _ kr (oM zGH kr) (dM zGH kr) (.inl rfl) kr kr kr kr rfl (fun cx=>?_)
   exact mA zGH [(9,[]),(10,[])] 1 [⟨[7,11],62,5,28⟩] fun cx=>mC zGH 11<|lA 1<|fA<|mE zGH [6,5,4,0,1] [5,0,4]
  exact eA 3 115 49<|jB mo14 ((wI (y3-1)),r21.2.b,r21.2.i,r21.2.h,r22.1.Rows,r22.1.Pv) H [6,5,4,0,1] [0,5,4]
 rintro⟨y9,y10,y11,y12,y13⟩ H
 have H:(zCw n y9 y10 y11 y12 y13)=some r:=H
 unfold zCw at H
 exact gA 2 17 17<|te<|fY [(true,[cL 3 y12 zF,cL 1 y13 zC])] [(0,[cF 1 y9 qC,cI y10,cI y11])] H
def zAW(n:Nat)(x0:Src):Option (Int×Src):=
  ((zp n x0 [11,12,13,14]).bind fun r1=>(some (r1.1,r1.2)))
noncomputable abbrev zUm(k:Nat):=Rg Tryz.f159 k
theorem zGr(n:Nat)(x0:Src)(r:Int×Src)(H:zAW n x0=some r):zb Tryz.prog 159 [.ptr (fR (zL x0))] [.val false [.lit (.int .i64 r.1)]] [(0,(fR (zL r.2)))]:=by
 refine zu tOk Tryz.func159 rfl (c:=(.seq (zUm 0) (.seq (zUm 1) .ret))) kr (Nat.le_of_ble_eq_true kr) 1 (rs:=[.tmp 2]) rfl [] .nil [(false,[.lit (.int .i64 r.1)])] [] [(0,(fR (zL r.2)))] fun cx=>?_
 show Tr _ _ _ ⟨6,1,[sA 0 0 3 0],[(0,(fR (zL x0)))]⟩ _
 unfold zAW at H
 exact gA 1 1 1<|rA 2<|bE H fun r1 er1 H=>vL [.lend,.rd] (qH n x0 [11,12,13,14] r1 er1)<|uA 1 5 1<|te<|fY [(false,[cI r1.1])] [(0,(fR (zL r1.2)))] H
def zEZ(n:Nat):Option (Int):=
  (some (-1))
def Qz(n:Nat):Nat→(List zM)→Int→Int→Int→Option ((Unit)⊕(Int))
  |0,_,_,_,_=>none
  |mo2+1,x0,x1,x2,y1=>(bif (decide (y1<(x0.length:Int)))then((idx x0 y1).bind fun v3=>(bif (v3.Tag==x1)then((idx x0 y1).bind fun v4=>(bif (v4.Mac==x2)then(some (Sum.inr y1))else(Qz n mo2 x0 x1 x2 (wI (y1+1)))))else(Qz n mo2 x0 x1 x2 (wI (y1+1)))))else(some (Sum.inl ())))
def zCS(n:Nat)(x0:(List zM))(x1:Int)(x2:Int):Option (Int):=
  ((Qz n n x0 x1 x2 0).bind fun o=>match o with|.inl _=>(zEZ n)|.inr r=>some r)
theorem zNd(n:Nat)(x0:(List zM))(x1:Int)(x2:Int)(r:Int)(H:zCS n x0 x1 x2=some r):zb Tryz.prog 175 [.val false [.sl false 5 (zQ (x0.map zG))],.val false [.lit (.int .i64 x1)],.val false [.lit (.int .i64 x2)]] [.val false [.lit (.int .i64 r)]] []:=by
 refine cW Tryz.func175 (fun g d=>sl [g 0,sl [g 1] (.block 0 (.loop (sl [sl [g 2] (cn 11 .skip (.exit 0)),.block 1 (sl [g 4] (cn 29 (sl [g 5] .ret) .skip))] (g 3)))),g 6] .ret) [.tmp 6] fun cx=>?_
 unfold zCS at H
 refine gA 1 7 0<|tS<|gA 1 135 0 ?_
 obtain⟨o2,eo2,Ho2⟩:=bs H
 clear H
 refine zt (ι:=Unit) (fun v=>⟨31,0,[],[]⟩) (fun v=>zEZ n=some r) ?_ ?_
 ·refine tB<|Tr.loop (ι:=Nat×(Int)) (fun v=>⟨31,0,[sI 7 v.2,sC 0 (cF 5 x0 zG),sI 1 x1,sI 2 x2],[]⟩) (fun v=>Qz n v.1 x0 x1 x2 v.2=some o2) (fun v=>v.1) (n,0) eo2 (za [7,0,1,2] [] kr) ?_
  rintro⟨_|mo2,y1⟩ H
  ·exact nN H
  have H:Qz n (mo2+1) x0 x1 x2 y1=some o2:=H
  rw[Qz]at H
  refine tS<|rA 2<|kF x0 zG<|uA 1 2183 0 ?_
  obtain⟨h1,H⟩|⟨h1,H⟩:=bC H
  ·refine nA h1<|Tr.exit<|aJ ?_
   cases H
   exact jA () Ho2 [] []
  refine tA h1<|tK<|tS<|tB<|rA 2<|bE H fun v3 ev3 H=>iA zG ev3<|lA 5 ?_
  obtain⟨h2,H⟩|⟨h2,H⟩:=bC H
  ·exact qL 2097287 0 [21] h2<|uA 8 536871047 0<|nB_<|tK<|eA 3 135 0<|jB mo2 (wI (y1+1)) H [7,0,1,2] []
  refine qL 2097287 0 [21] h2<|lA 2<|bE H fun v4 ev4 H=>iA zG ev4<|uA 5 536871047 0 ?_
  obtain⟨h3,H⟩|⟨h3,H⟩:=bC H
  ·exact nA h3<|tK<|eA 3 135 0<|jB mo2 (wI (y1+1)) H [7,0,1,2] []
  refine tA h3<|gA 2 64 0<|te ?_
  cases H
  exact fJ [(false,[cI y1])] Ho2
 rintro _ H
 have H:(zEZ n)=some r:=H
 unfold zEZ at H
 exact gA 1 64 0<|te (fJ [(false,[cI (-1)])] H)
def zB1(n:Nat)(x1:zM)(y4:Bool)(y5:(List zM)):Option ((List zM)):=
  (bif (!y4)then(bif (decide (y5.length+ [x1].length≤268435456))then(some (y5++[x1]))else none)else(some y5))
def YU(n:Nat)(k:(Int×Bool×(List zM)→Option ((Bool×(List zM))⊕((List zM)))))(x0:(List zM))(x1:zM)(y1:Int)(y8:Bool)(y9:(List zM)):Option ((Bool×(List zM))⊕((List zM))):=
  ((idx x0 y1).bind fun v10=>(bif (v10.Tag != x1.Tag)then((idx x0 y1).bind fun v14=>(bif (decide (y9.length+ [v14].length≤268435456))then(k ((wI (y1+1)),y8,(y9++[v14])))else none))else((idx x0 y1).bind fun v11=>(bif (v11.Mac != x1.Mac)then((idx x0 y1).bind fun v12=>(bif (decide (y9.length+ [v12].length≤268435456))then(k ((wI (y1+1)),y8,(y9++[v12])))else none))else(k ((wI (y1+1)),y8,y9))))))
def ZT(n:Nat):Nat→(List zM)→zM→Int→Bool→(List zM)→Option ((Bool×(List zM))⊕((List zM)))
  |0,_,_,_,_,_=>none
  |mo7+1,x0,x1,y1,y2,y3=>(bif (decide (y1<(x0.length:Int)))then(bif (!y2)then((idx x0 y1).bind fun v16=>((QL n v16 x1.Tag x1.Mac).bind fun r17=>(bif (!r17)then(bif (decide (y3.length+ [x1].length≤268435456))then(YU n (fun v=>ZT n mo7 x0 x1 v.1 v.2.1 v.2.2) x0 x1 y1 true (y3++[x1]))else none)else(YU n (fun v=>ZT n mo7 x0 x1 v.1 v.2.1 v.2.2) x0 x1 y1 y2 y3))))else(YU n (fun v=>ZT n mo7 x0 x1 v.1 v.2.1 v.2.2) x0 x1 y1 y2 y3))else(some (Sum.inl (y2,y3))))
def Y6(n:Nat)(x0:(List zM))(x1:zM):Option ((List zM)):=
  ((ZT n n x0 x1 0 false ([]:List zM)).bind fun o=>match o with|.inl (y4,y5)=>(zB1 n x1 y4 y5)|.inr r=>some r)
def zTT:Tab:=⟨14,[0,1,2,4,4,28,36,4,132,4,516,1348,2052,4100],[0,1,2,4,4,28,36,4,132,4,516,1348,2052,4100],[0,1,3,7,7,31,63,7,135,7,519,2047,4095,8191]⟩
theorem zGI:qb (rg Tryz.f176 6) zTT=true:=kr
def zTU:Tab:=⟨18,[0,0,3,4,8,0,32,80,128,256,256,1792,2304,4352,256,16640,41216,65792],[0,0,3,4,8,0,32,80,128,256,256,1792,2304,4352,256,16640,41216,65792],[0,0,3,7,15,0,32,127,255,511,511,2047,4095,8191,511,16895,65535,131071]⟩
theorem zEx:qb (rg Tryz.f176 9) zTU=true:=kr
theorem zDn(n:Nat)(x0:(List zM))(x1:zM)(r:(List zM))(H:Y6 n x0 x1=some r):zb Tryz.prog 176 [.val false [.sl false 5 (zQ (x0.map zG))],.val true (fR (zG x1))] [.val false [.sl true 5 (r.map zG)]] []:=by
 refine cW Tryz.func176 (fun g d=>sl [g 0,g 1,g 2,sl [g 3] (.block 0 (.loop (sl [sl [g 4] (cn 12 .skip (.exit 0)),.block 1 (sl [sl [d 6] (cn 28 (sl [g 7] (g 8)) .skip),d 9] (cn 50 (g 10) .skip))] (g 5)))),sl [g 11] (cn 59 (g 12) .skip),g 13] .ret) [.tmp 4] fun cx=>?_
 unfold Y6 at H
 refine gA 2 9 8<|rA 1<|zY (T:=lk tab) (ty:=59) (x:=(.tmp 8)) (d:=5) (g:=none) false [cL 5 ([]:List zM) zG] kr kr kr kr kr<|dA 41 8<|gA 1 105 8<|tS<|gA 1 233 8 ?_
 obtain⟨o7,eo7,Ho7⟩:=bs H
 clear H
 refine zt (ι:=Bool×(List zM)) (fun v=>⟨65,0,[sB 6 v.1,sC 5 (cL 5 v.2 zG),sA 3 3 5 0],[(3,(zG x1))]⟩) (fun v=>zB1 n x1 v.1 v.2=some r) ?_ ?_
 ·refine tB<|Tr.loop (ι:=Nat×(Int×Bool×(List zM))) (fun v=>⟨65,0,[sI 7 v.2.1,sB 6 v.2.2.1,sC 5 (cL 5 v.2.2.2 zG),sA 3 3 5 0,sC 0 (cF 5 x0 zG)],[(3,(zG x1))]⟩) (fun v=>ZT n v.1 x0 x1 v.2.1 v.2.2.1 v.2.2.2=some o7) (fun v=>v.1) (n,(0,false,([]:List zM))) eo7 (za [7,6,5,3,0] [3] kr) ?_
  rintro⟨_|mo7,y1,y2,y3⟩ H
  ·exact nN H
  have H:ZT n (mo7+1) x0 x1 y1 y2 y3=some o7:=H
  rw[ZT]at H
  refine tS<|rA 2<|kF x0 zG<|uA 1 4329 8 ?_
  obtain⟨h2,H⟩|⟨h2,H⟩:=bC H
  ·refine nA h2<|Tr.exit<|aJ ?_
   cases H
   exact jA (y2,y3) Ho7 [6,5,3] [3]
  refine tA h2<|tK<|tS<|tB<|tS<|zt (ι:=Bool×(List zM)) (fun v=>⟨65,0,[sI 7 y1,sB 6 v.1,sC 5 (cL 5 v.2 zG),sA 3 3 5 0,sC 0 (cF 5 x0 zG)],[(3,(zG x1))]⟩) (fun v=>YU n (fun v=>ZT n mo7 x0 x1 v.1 v.2.1 v.2.2) x0 x1 y1 v.1 v.2=some o7) ?_ ?_
  ·refine tS<|sT ⟨65,0,[sB 12 (decide (y1<(x0.length:Int))),sI 7 y1,sB 6 y2,sC 5 (cL 5 y3 zG),sA 3 3 5 0,sC 0 (cF 5 x0 zG)],[(3,(zG x1))]⟩ ?_
   cases h5:(!y2)
   ·have H:=YA h5 H
    refine qr zr 14 kr ⟨65,0,[sB 28 false,sI 7 y1,sB 6 y2,sC 5 (cL 5 y3 zG),sA 3 3 5 0,sC 0 (cF 5 x0 zG)],[(3,(zG x1))]⟩ (fun cx=>?_) ?_
    ·exact mA zGI (zl [0,1,2]) 11 [] fun cx=>qA 131305 8 [17] h5<|mA zGI (zl [3,4,5,6,7,8,9,10,11,12,13]) 0 [] fun cx=>mE zGI [28,7,6,5,3,0] [3]
    exact nB_<|tK<|jA (y2,y3) H [7,6,5,3,0] [3]
   have H:=YB h5 H
   refine bE H fun v16 ev16 H=>bE H fun r17 er17 H=>qr zr 14 kr ⟨65,0,[sB 28 (!r17),sI 7 y1,sB 6 y2,sC 5 (cL 5 y3 zG),sA 3 3 5 0,sC 0 (cF 5 x0 zG)],[(3,(zG x1))]⟩ (fun cx=>?_) ?_
   ·exact mA zGI (zl [0,1,2]) 11 [] fun cx=>qA 131305 8 [17] h5<|mA zGI [(3,[]),(4,[])] 9 [] fun cx=>iN zGI 5 zG ev16 fun cx=>mA zGI [(6,[]),(7,[]),(8,[11]),(9,[]),(10,[11])] 3 [⟨[11],3,24,25⟩,⟨[11],3,22,23⟩] fun cx=>mC zGI 11<|vA [.rd,.rd,.rd] (zJD n v16 x1.Tag x1.Mac r17 er17)<|fA<|mA zGI [(12,[]),(13,[])] 0 [⟨[11],3,24,25⟩,⟨[11],3,22,23⟩] fun cx=>mE zGI [28,7,6,5,3,0] [3]
   obtain⟨h6,H⟩|⟨h6,H⟩:=bC H
   ·exact qT [28] h6<|nB_<|tK<|jA (y2,y3) H [7,6,5,3,0] [3]
   exact qT [28] h6<|tB_<|rA 3<|gE H fun hg18 H=>qO tOk (t:=59) (ty:=59) (e:=127) (x:=(.tmp 29)) (y:=(.tmp 31)) (d:=32) (g:=none) (tI 127) zG y3 [x1] kr kr kr kr kr kr kr kr kr kr hg18<|zY (T:=lk tab) (ty:=59) (x:=(.tmp 32)) (d:=5) (g:=none) false [cL 5 (y3++[x1]) zG] kr kr kr kr kr<|dA 169 8<|eA 1 233 8<|jA (true,(y3++[x1])) H [7,6,5,3,0] [3]
  rintro⟨y8,y9⟩ H
  have H:(YU n (fun v=>ZT n mo7 x0 x1 v.1 v.2.1 v.2.2) x0 x1 y1 y8 y9)=some o7:=H
  unfold YU at H
  refine tS<|bE H fun v10 ev10 H=>sT ⟨65,0,[sI 7 y1,sB 6 y8,sC 5 (cL 5 y9 zG),sA 3 3 5 0,sC 0 (cF 5 x0 zG)],[(3,(zG x1))]⟩ ?_
  cases h3:(v10.Tag != x1.Tag)
  ·have H:=YA h3 H
   refine bE H fun v11 ev11 H=>qr zr 18 kr ⟨65,0,[sB 50 (v11.Mac != x1.Mac),sI 7 y1,sB 6 y8,sC 5 (cL 5 y9 zG),sA 3 3 5 0,sC 0 (cF 5 x0 zG)],[(3,(zG x1))]⟩ (fun cx=>?_) ?_
   ·exact mA zEx [(0,[]),(1,[])] 16 [] fun cx=>iN zEx 2 zG ev10 fun cx=>mA zEx (zl [3,4,5,6,7,8]) 9 [⟨[],3,38,39⟩] fun cx=>qA 3023656976617 8 [41] h3<|mA zEx [(9,[]),(10,[])] 7 [⟨[],3,38,39⟩] fun cx=>iN zEx 11 zG ev11 fun cx=>mA zEx (zl [12,13,14,15,16,17]) 0 [⟨[],3,47,48⟩,⟨[],3,38,39⟩] fun cx=>mE zEx [50,7,6,5,3,0] [3]
   obtain⟨h4,H⟩|⟨h4,H⟩:=bC H
   ·exact qT [50] h4<|nB_<|tK<|eA 3 233 8<|jB mo7 ((wI (y1+1)),y8,y9) H [7,6,5,3,0] [3]
   exact qT [50] h4<|tB_<|Tr.at<|lA 3<|bE H fun v12 ev12 H=>iA zG ev12<|lA 2<|gE H fun hg13 H=>qO tOk (t:=59) (ty:=59) (e:=127) (x:=(.tmp 51)) (y:=(.tmp 56)) (d:=57) (g:=none) (tI 127) zG y9 [v12] kr kr kr kr kr kr kr kr kr kr hg13<|zY (T:=lk tab) (ty:=59) (x:=(.tmp 57)) (d:=5) (g:=none) false [cL 5 (y9++[v12]) zG] kr kr kr kr kr<|dA 233 8<|eA 3 233 8<|jB mo7 ((wI (y1+1)),y8,(y9++[v12])) H [7,6,5,3,0] [3]
  have H:=YB h3 H
  refine qr zr 18 kr ⟨65,0,[sB 50 true,sI 7 y1,sB 6 y8,sC 5 (cL 5 y9 zG),sA 3 3 5 0,sC 0 (cF 5 x0 zG)],[(3,(zG x1))]⟩ (fun cx=>?_) ?_
  ·exact mA zEx [(0,[]),(1,[])] 16 [] fun cx=>iN zEx 2 zG ev10 fun cx=>mA zEx (zl [3,4,5,6,7,8]) 9 [⟨[],3,38,39⟩] fun cx=>qA 3023656976617 8 [41] h3<|mA zEx (zl [9,10,11,12,13,14,15,16,17]) 0 [⟨[],3,38,39⟩] fun cx=>mE zEx [50,7,6,5,3,0] [3]
  exact tB_<|Tr.at<|lA 3<|bE H fun v14 ev14 H=>iA zG ev14<|lA 2<|gE H fun hg15 H=>qO tOk (t:=59) (ty:=59) (e:=127) (x:=(.tmp 51)) (y:=(.tmp 56)) (d:=57) (g:=none) (tI 127) zG y9 [v14] kr kr kr kr kr kr kr kr kr kr hg15<|zY (T:=lk tab) (ty:=59) (x:=(.tmp 57)) (d:=5) (g:=none) false [cL 5 (y9++[v14]) zG] kr kr kr kr kr<|dA 233 8<|eA 3 233 8<|jB mo7 ((wI (y1+1)),y8,(y9++[v14])) H [7,6,5,3,0] [3]
 rintro⟨y4,y5⟩ H
 have H:(zB1 n x1 y4 y5)=some r:=H
 unfold zB1 at H
 refine tS<|gA 2 0x800000000000028 8 ?_
 obtain⟨h1,H⟩|⟨h1,H⟩:=bC H
 ·exact nA h1<|tK<|gA 2 48 0<|te (fJ [(false,[cL 5 y5 zG])] H)
 exact tA h1<|Tr.at<|lA 3<|gE H fun hg6 H=>qO tOk (t:=59) (ty:=59) (e:=127) (x:=(.tmp 60)) (y:=(.tmp 62)) (d:=63) (g:=none) (tI 127) zG y5 [x1] kr kr kr kr kr kr kr kr kr kr hg6<|zY (T:=lk tab) (ty:=59) (x:=(.tmp 63)) (d:=5) (g:=none) false [cL 5 (y5++[x1]) zG] kr kr kr kr kr<|dA 32 0<|gA 2 48 0<|te (fJ [(false,[cL 5 (y5++[x1]) zG])] H)
def zCV(n:Nat)(x0:(List zM))(x1:Int)(x2:Int)(x3:Int):Option ((List zM)):=
  ((zCS n x0 x1 x2).bind fun r1=>((Zr n x0).bind fun r2=>(bif (!r2)then((ZO n x0).bind fun r13=>(some r13))else((Zt n (⟨x1,x2,x3,0,false⟩:zM)).bind fun r3=>(bif (!r3)then((ZO n x0).bind fun r12=>(some r12))else(bif (decide (r1≥0))then((idx x0 r1).bind fun v7=>(bif v7.Sc then((ZO n x0).bind fun r11=>(some r11))else(bif (decide (r1<0))then(bif (decide ((x0.length:Int)≥12))then((ZO n x0).bind fun r10=>(some r10))else((Y6 n x0 (⟨x1,x2,x3,0,false⟩:zM)).bind fun r9=>(some r9)))else((Y6 n x0 (⟨x1,x2,x3,0,false⟩:zM)).bind fun r8=>(some r8)))))else(bif (decide (r1<0))then(bif (decide ((x0.length:Int)≥12))then((ZO n x0).bind fun r6=>(some r6))else((Y6 n x0 (⟨x1,x2,x3,0,false⟩:zM)).bind fun r5=>(some r5)))else((Y6 n x0 (⟨x1,x2,x3,0,false⟩:zM)).bind fun r4=>(some r4)))))))))
theorem zMH(n:Nat)(x0:(List zM))(x1:Int)(x2:Int)(x3:Int)(r:(List zM))(H:zCV n x0 x1 x2 x3=some r):zb Tryz.prog 158 [.val false [.sl false 5 (zQ (x0.map zG))],.val false [.lit (.int .i64 x1)],.val false [.lit (.int .i64 x2)],.val false [.lit (.int .i64 x3)]] [.val false [.sl true 5 (r.map zG)]] []:=by
 refine cW Tryz.func158 (fun g d=>sl [g 0,g 1,g 2,sl [g 3] (cn 46 (sl [g 4] .ret) .skip),g 5] .ret) [.tmp 8] fun cx=>?_
 unfold zCV at H
 refine gA 1 15 0<|gA 6 519 512<|rA 3<|bE H fun r1 er1 H=>vA [.rd,.rd,.rd] (zNd n x0 x1 x2 r1 er1)<|uA 1 1537 512<|tS<|rA 1<|bE H fun r2 er2 H=>vA [.rd] (zIZ n x0 r2 er2)<|lA 2 ?_
 obtain⟨h1,H⟩|⟨h1,H⟩:=bC H
 ·refine qL 4195841 512 [22] h1<|lA 1<|bE H fun r3 er3 H=>vA [.rd] (zFB n (⟨x1,x2,x3,0,false⟩:zM) r3 er3)<|lA 3 ?_
  obtain⟨h2,H⟩|⟨h2,H⟩:=bC H
  ·refine qL 134219265 512 [27] h2<|lA 3 ?_
   obtain⟨h3,H⟩|⟨h3,H⟩:=bC H
   ·refine qL 1207961089 512 [30] h3<|lA 11 ?_
    obtain⟨h4,H⟩|⟨h4,H⟩:=bC H
    ·exact qL 2473901163009 512 [41] h4<|uA 5 70368744178177 512<|nB_<|tK<|rA 2<|bE H fun r4 er4 H=>vA [.rd,.rd] (zDn n x0 (⟨x1,x2,x3,0,false⟩:zM) r4 er4)<|zY (T:=lk tab) (ty:=59) (x:=(.tmp 51)) (d:=8) (g:=none) false [cL 5 r4 zG] kr kr kr kr kr<|dA 256 0<|te (fJ [(false,[cL 5 r4 zG])] H)
    refine qL 2473901163009 512 [41] h4<|lA 1<|kF x0 zG<|uA 3 70368744178177 512 ?_
    obtain⟨h5,H⟩|⟨h5,H⟩:=bC H
    ·exact nA h5<|tK<|rA 2<|bE H fun r5 er5 H=>vA [.rd,.rd] (zDn n x0 (⟨x1,x2,x3,0,false⟩:zM) r5 er5)<|zY (T:=lk tab) (ty:=59) (x:=(.tmp 51)) (d:=8) (g:=none) false [cL 5 r5 zG] kr kr kr kr kr<|dA 256 0<|te (fJ [(false,[cL 5 r5 zG])] H)
    exact tA h5<|rA 1<|bE H fun r6 er6 H=>vA [.rd] (Jk n x0 r6 er6)<|zY (T:=lk tab) (ty:=59) (x:=(.tmp 48)) (d:=8) (g:=none) false [cL 5 r6 zG] kr kr kr kr kr<|dA 256 0<|te (fJ [(false,[cL 5 r6 zG])] H)
   refine qL 1207961089 512 [30] h3<|lA 2<|bE H fun v7 ev7 H=>iA zG ev7<|lA 5 ?_
   obtain⟨h6,H⟩|⟨h6,H⟩:=bC H
   ·refine qL 274877908481 512 [38] h6<|lA 3 ?_
    obtain⟨h7,H⟩|⟨h7,H⟩:=bC H
    ·exact qL 2473901163009 512 [41] h7<|uA 5 70368744178177 512<|nB_<|tK<|rA 2<|bE H fun r8 er8 H=>vA [.rd,.rd] (zDn n x0 (⟨x1,x2,x3,0,false⟩:zM) r8 er8)<|zY (T:=lk tab) (ty:=59) (x:=(.tmp 51)) (d:=8) (g:=none) false [cL 5 r8 zG] kr kr kr kr kr<|dA 256 0<|te (fJ [(false,[cL 5 r8 zG])] H)
    refine qL 2473901163009 512 [41] h7<|lA 1<|kF x0 zG<|uA 3 70368744178177 512 ?_
    obtain⟨h8,H⟩|⟨h8,H⟩:=bC H
    ·exact nA h8<|tK<|rA 2<|bE H fun r9 er9 H=>vA [.rd,.rd] (zDn n x0 (⟨x1,x2,x3,0,false⟩:zM) r9 er9)<|zY (T:=lk tab) (ty:=59) (x:=(.tmp 51)) (d:=8) (g:=none) false [cL 5 r9 zG] kr kr kr kr kr<|dA 256 0<|te (fJ [(false,[cL 5 r9 zG])] H)
    exact tA h8<|rA 1<|bE H fun r10 er10 H=>vA [.rd] (Jk n x0 r10 er10)<|zY (T:=lk tab) (ty:=59) (x:=(.tmp 48)) (d:=8) (g:=none) false [cL 5 r10 zG] kr kr kr kr kr<|dA 256 0<|te (fJ [(false,[cL 5 r10 zG])] H)
   exact qL 274877908481 512 [38] h6<|uA 8 70368744178177 512<|tB_<|rA 1<|bE H fun r11 er11 H=>vA [.rd] (Jk n x0 r11 er11)<|zY (T:=lk tab) (ty:=59) (x:=(.tmp 48)) (d:=8) (g:=none) false [cL 5 r11 zG] kr kr kr kr kr<|dA 256 0<|te (fJ [(false,[cL 5 r11 zG])] H)
  exact qL 134219265 512 [27] h2<|uA 19 70368744178177 512<|tB_<|rA 1<|bE H fun r12 er12 H=>vA [.rd] (Jk n x0 r12 er12)<|zY (T:=lk tab) (ty:=59) (x:=(.tmp 48)) (d:=8) (g:=none) false [cL 5 r12 zG] kr kr kr kr kr<|dA 256 0<|te (fJ [(false,[cL 5 r12 zG])] H)
 exact qL 4195841 512 [22] h1<|uA 24 70368744178177 512<|tB_<|rA 1<|bE H fun r13 er13 H=>vA [.rd] (Jk n x0 r13 er13)<|zY (T:=lk tab) (ty:=59) (x:=(.tmp 48)) (d:=8) (g:=none) false [cL 5 r13 zG] kr kr kr kr kr<|dA 256 0<|te (fJ [(false,[cL 5 r13 zG])] H)
def JP(n:Nat)(x0:(List zM))(x1:Int)(x2:Int)(x3:Int):Option ((List zM)×Bool):=
  ((Zr n x0).bind fun r1=>(bif (!r1)then((ZO n x0).bind fun r8=>(some (r8,false)))else((Zt n (⟨x1,x2,x3,0,true⟩:zM)).bind fun r2=>(bif (!r2)then((ZO n x0).bind fun r7=>(some (r7,false)))else((zCS n x0 x1 x2).bind fun r3=>(bif (decide (r3<0))then(bif (decide ((x0.length:Int)≥12))then((ZO n x0).bind fun r6=>(some (r6,false)))else((Y6 n x0 (⟨x1,x2,x3,0,true⟩:zM)).bind fun r5=>(some (r5,true))))else((Y6 n x0 (⟨x1,x2,x3,0,true⟩:zM)).bind fun r4=>(some (r4,true)))))))))
theorem zHR(n:Nat)(x0:(List zM))(x1:Int)(x2:Int)(x3:Int)(r:(List zM)×Bool)(H:JP n x0 x1 x2 x3=some r):zb Tryz.prog 160 [.val false [.sl false 5 (zQ (x0.map zG))],.val false [.lit (.int .i64 x1)],.val false [.lit (.int .i64 x2)],.val false [.lit (.int .i64 x3)]] [.val false [.sl true 5 (r.1.map zG)],.val false [.lit (.bool r.2)]] []:=by
 refine cW Tryz.func160 (fun g d=>sl [g 0,g 1,sl [g 2] (cn 34 (sl [g 3] .ret) .skip),g 4] .ret) [.tmp 8,.tmp 9] fun cx=>?_
 unfold JP at H
 refine gA 2 15 0<|gA 6 1031 1024<|tS<|rA 1<|bE H fun r1 er1 H=>vA [.rd] (zIZ n x0 r1 er1)<|lA 2 ?_
 obtain⟨h1,H⟩|⟨h1,H⟩:=bC H
 ·refine qL 263175 1024 [18] h1<|lA 1<|bE H fun r2 er2 H=>vA [.rd] (zFB n (⟨x1,x2,x3,0,true⟩:zM) r2 er2)<|lA 3 ?_
  obtain⟨h2,H⟩|⟨h2,H⟩:=bC H
  ·refine qL 8389639 1024 [23] h2<|lA 3<|bE H fun r3 er3 H=>vA [.rd,.rd,.rd] (zNd n x0 x1 x2 r3 er3)<|lA 2 ?_
   obtain⟨h3,H⟩|⟨h3,H⟩:=bC H
   ·exact qL 545260545 1024 [29] h3<|uA 5 17179870209 1024<|nB_<|tK<|rA 2<|bE H fun r4 er4 H=>vA [.rd,.rd] (zDn n x0 (⟨x1,x2,x3,0,true⟩:zM) r4 er4)<|zY (T:=lk tab) (ty:=59) (x:=(.tmp 39)) (d:=8) (g:=none) false [cL 5 r4 zG] kr kr kr kr kr<|uA 1 768 0<|te (fJ [(false,[cL 5 r4 zG]),(false,[cB true])] H)
   refine qL 545260545 1024 [29] h3<|lA 1<|kF x0 zG<|uA 3 17179870209 1024 ?_
   obtain⟨h4,H⟩|⟨h4,H⟩:=bC H
   ·exact nA h4<|tK<|rA 2<|bE H fun r5 er5 H=>vA [.rd,.rd] (zDn n x0 (⟨x1,x2,x3,0,true⟩:zM) r5 er5)<|zY (T:=lk tab) (ty:=59) (x:=(.tmp 39)) (d:=8) (g:=none) false [cL 5 r5 zG] kr kr kr kr kr<|uA 1 768 0<|te (fJ [(false,[cL 5 r5 zG]),(false,[cB true])] H)
   exact tA h4<|rA 1<|bE H fun r6 er6 H=>vA [.rd] (Jk n x0 r6 er6)<|zY (T:=lk tab) (ty:=59) (x:=(.tmp 36)) (d:=8) (g:=none) false [cL 5 r6 zG] kr kr kr kr kr<|uA 1 768 0<|te (fJ [(false,[cL 5 r6 zG]),(false,[cB false])] H)
  exact qL 8389639 1024 [23] h2<|uA 11 17179870209 1024<|tB_<|rA 1<|bE H fun r7 er7 H=>vA [.rd] (Jk n x0 r7 er7)<|zY (T:=lk tab) (ty:=59) (x:=(.tmp 36)) (d:=8) (g:=none) false [cL 5 r7 zG] kr kr kr kr kr<|uA 1 768 0<|te (fJ [(false,[cL 5 r7 zG]),(false,[cB false])] H)
 exact qL 263175 1024 [18] h1<|uA 16 17179870209 1024<|tB_<|rA 1<|bE H fun r8 er8 H=>vA [.rd] (Jk n x0 r8 er8)<|zY (T:=lk tab) (ty:=59) (x:=(.tmp 36)) (d:=8) (g:=none) false [cL 5 r8 zG] kr kr kr kr kr<|uA 1 768 0<|te (fJ [(false,[cL 5 r8 zG]),(false,[cB false])] H)
end Go.Proofs.YticeglbllcelaaaGreat.Tw
