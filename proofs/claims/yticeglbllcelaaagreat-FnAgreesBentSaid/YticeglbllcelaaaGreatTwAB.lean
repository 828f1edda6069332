import Derived.Test.YticeglbllcelaaaGreatProg
import Derived.Test.YticeglbllcelaaaGreatTlRule
import Derived.Test.YticeglbllcelaaaGreatTlU16
import Derived.Test.YticeglbllcelaaaGreatTwAB2
import Derived.WalkKit
set_option linter.unusedVariables false
set_option linter.unusedSimpArgs false
set_option maxRecDepth 100000
set_option maxHeartbeats 1000000
namespace Go.Proofs.YticeglbllcelaaaGreat.Tw
open Go Go.TL Go.Proofs
def zCF(n:Nat)(y4:(List Int)):Option ((List Int)):=
  (some y4)
def Yg(n:Nat)(k:(Int×(List Int)→Option (((List Int))⊕((List Int)))))(v9:Link)(y10:(List Int))(y2:Int)(y11:Bool):Option (((List Int))⊕((List Int))):=
  (bif y11 then(bif (decide (y10.length+ [v9.A].length≤268435456))then(k ((wI (y2+1)),(y10++[v9.A])))else none)else(k ((wI (y2+1)),y10)))
def Yf(n:Nat)(k:(Int×(List Int)→Option (((List Int))⊕((List Int)))))(v9:Link)(x0:Net)(y2:Int)(y10:(List Int)):Option (((List Int))⊕((List Int))):=
  ((YV n y10 v9.B).bind fun r13=>(bif r13 then((YV n y10 v9.A).bind fun r14=>(bif (!r14)then((ze n v9.A 0 (wI ((x0.Bs.length:Int)-1))).bind fun r15=>(Yg n k v9 y10 y2 r15))else(Yg n k v9 y10 y2 false)))else(Yg n k v9 y10 y2 false)))
def Yh(n:Nat)(k:(Int×(List Int)→Option (((List Int))⊕((List Int)))))(v9:Link)(x0:Net)(y2:Int)(y3:(List Int))(y16:Bool):Option (((List Int))⊕((List Int))):=
  (bif y16 then(bif (decide (y3.length+ [v9.B].length≤268435456))then(Yf n k v9 x0 y2 (y3++[v9.B]))else none)else(Yf n k v9 x0 y2 y3))
def qG(n:Nat):Nat→Net→(List Int)→Int→(List Int)→Option (((List Int))⊕((List Int)))
  |0,_,_,_,_=>none
  |mo5+1,x0,x1,y2,y3=>(bif (decide (y2<(x1.length:Int)))then((idx x1 y2).bind fun v6=>((ze n v6 0 (wI ((x0.Ls.length:Int)-1))).bind fun r7=>(bif (!r7)then(qG n mo5 x0 x1 (wI (y2+1)) y3)else((idx x1 y2).bind fun v8=>((idx x0.Ls v8).bind fun v9=>((YV n y3 v9.A).bind fun r18=>(bif r18 then((YV n y3 v9.B).bind fun r19=>(bif (!r19)then((ze n v9.B 0 (wI ((x0.Bs.length:Int)-1))).bind fun r20=>(Yh n (fun v=>qG n mo5 x0 x1 v.1 v.2) v9 x0 y2 y3 r20))else(Yh n (fun v=>qG n mo5 x0 x1 v.1 v.2) v9 x0 y2 y3 false)))else(Yh n (fun v=>qG n mo5 x0 x1 v.1 v.2) v9 x0 y2 y3 false))))))))else(some (Sum.inl y3)))
def zB0(n:Nat)(x0:Net)(x1:(List Int))(x2:(List Int)):Option ((List Int)):=
  (bif (decide (([]:List Int).length+x2.length≤268435456))then((qG n n x0 x1 0 (([]:List Int)++x2)).bind fun o=>match o with|.inl y4=>(zCF n y4)|.inr r=>some r)else none)
theorem zNz(n:Nat)(x0:Net)(x1:(List Int))(x2:(List Int))(r:(List Int))(H:zB0 n x0 x1 x2=some r):zb Tryz.prog 58 [.val true (fR (zD x0)),.val false [.sl false 1 (zQ (x1.map zC))],.val false [.sl false 1 (zQ (x2.map zC))]] [.val false [.sl true 1 (r.map zC)]] []:=by
 refine cW Tryz.func58 (fun g d=>sl [g 0,g 1,sl [g 2] (.block 0 (.loop (sl [sl [g 3] (cn 16 .skip (.exit 0)),.block 1 (sl [sl [d 5] (cn 28 (.exit 1) .skip),d 6,sl [g 7] (cn 56 (g 8) .skip),g 9] (cn 81 (g 10) .skip))] (g 4)))),g 11] .ret) [.tmp 6] fun cx=>?_
 unfold zB0 at H
 refine gA 2 14 8<|rA 2<|gE H fun hg1 H=>pD zC hg1<|zY (T:=lk tab) (ty:=30) (x:=(.tmp 12)) (d:=7) (g:=none) false [cL 1 (([]:List Int)++x2) zC] kr kr kr kr kr<|dA 138 8<|tS<|gA 1 394 8 ?_
 obtain⟨o5,eo5,Ho5⟩:=bs H
 clear H
 refine zt (ι:=(List Int)) (fun v=>⟨88,0,[sC 7 (cL 1 v zC)],[]⟩) (fun v=>zCF n v=some r) ?_ ?_
 ·refine tB<|Tr.loop (ι:=Nat×(Int×(List Int))) (fun v=>⟨88,0,[sI 8 v.2.1,sC 7 (cL 1 v.2.2 zC),sA 3 3 3 0,sC 1 (cF 1 x1 zC)],[(3,(fR (zD x0)))]⟩) (fun v=>qG n v.1 x0 x1 v.2.1 v.2.2=some o5) (fun v=>v.1) (n,(0,(([]:List Int)++x2))) eo5 (za [8,7,3,1] [3] kr) ?_
  rintro⟨_|mo5,y2,y3⟩ H
  ·exact nN H
  have H:qG n (mo5+1) x0 x1 y2 y3=some o5:=H
  rw[qG]at H
  refine tS<|rA 2<|kF x1 zC<|uA 1 65930 8 ?_
  obtain⟨h1,H⟩|⟨h1,H⟩:=bC H
  ·refine nA h1<|Tr.exit<|aJ ?_
   cases H
   exact jA y3 Ho5 [7] []
  refine tA h1<|tK<|tS<|tB<|tS<|bE H fun v6 ev6 H=>bE H fun r7 er7 H=>zd zr 10 kr ⟨88,0,[sB 28 (!r7),sI 8 y2,sC 7 (cL 1 y3 zC),sA 3 3 3 0,sC 1 (cF 1 x1 zC)],[(3,(fR (zD x0)))]⟩ (fun cx=>?_) ?_
  ·refine aA [(0,[]),(1,[])] 8 [] fun cx=>aI tOk 2 30 0 19 20 21 none ⟨(.slot 19),[],0,false,1,(zQ (x1.map zC))⟩ y2 [cI v6] _ kr kr kr kr kr kr rfl (zCa ev6) rfl (fun cx=>?_)
   refine aA [(3,[]),(4,[]),(5,[8])] 4 [⟨[8],25,23,24⟩] fun cx=>aL tOk 6 25 3 70 24 25 none ⟨(.box 3),[(0,0)],1,false,4,(zQ (x0.Ls.map zE))⟩ (x0.Ls).length _ kr kr kr kr kr kr kr (zH7 _ _) rfl (fun cx=>?_)
   exact aA [(7,[])] 2 [⟨[8],25,23,24⟩] fun cx=>bA 8<|vA [.rd,.rd,.rd] (zf n v6 0 (wI ((x0.Ls.length:Int)-1)) r7 er7)<|fA<|aA [(9,[])] 0 [⟨[8],25,23,24⟩] fun cx=>eE [28,8,7,3,1] [3]
  obtain⟨h2,H⟩|⟨h2,H⟩:=bC H
  ·refine qT [28] h2<|nB_<|tK<|bE H fun v8 ev8 H=>bE H fun v9 ev9 H=>zd zr 10 kr ⟨88,0,[sA 9 9 4 0,sI 8 y2,sC 7 (cL 1 y3 zC),sA 3 3 3 0,sC 1 (cF 1 x1 zC)],[(9,(zE v9)),(3,(fR (zD x0)))]⟩ (fun cx=>?_) ?_
   ·refine aA [(0,[]),(1,[9]),(2,[]),(3,[])] 6 [⟨[9],25,29,30⟩] fun cx=>aI tOk 4 30 0 31 32 33 none ⟨(.slot 31),[],0,false,1,(zQ (x1.map zC))⟩ y2 [cI v8] _ kr kr kr kr kr kr rfl (zCa ev8) rfl (fun cx=>?_)
    refine aA [(5,[])] 4 [⟨[9],25,29,30⟩] fun cx=>aI tOk 6 25 0 30 34 35 none ⟨(.box 3),[(0,0)],1,false,4,(zQ (x0.Ls.map zE))⟩ v8 (zE v9) _ kr kr kr kr kr kr rfl (zCa ev9) rfl (fun cx=>?_)
    exact aA [(7,[])] 2 [⟨[9],25,29,30⟩] fun cx=>bA 8<|lA 1<|fA<|bA 9<|lA 1<|fA<|eE [9,8,7,3,1] [9,3]
   refine tS<|zt (ι:=(List Int)) (fun v=>⟨88,0,[sA 9 9 4 0,sI 8 y2,sC 7 (cL 1 v zC),sA 3 3 3 0,sC 1 (cF 1 x1 zC)],[(9,(zE v9)),(3,(fR (zD x0)))]⟩) (fun v=>Yf n (fun v=>qG n mo5 x0 x1 v.1 v.2) v9 x0 y2 v=some o5) ?_ ?_
   ·refine tS<|zt (ι:=Bool) (fun v=>⟨88,0,[sB 56 v,sA 9 9 4 0,sI 8 y2,sC 7 (cL 1 y3 zC),sA 3 3 3 0,sC 1 (cF 1 x1 zC)],[(9,(zE v9)),(3,(fR (zD x0)))]⟩) (fun v=>Yh n (fun v=>qG n mo5 x0 x1 v.1 v.2) v9 x0 y2 y3 v=some o5) ?_ ?_
    ·refine Tr.at<|lA 3<|bE H fun r18 er18 H=>vB [.rd,.rd] [.slot 7] (zCX n y3 v9.A r18 er18) (.inr (zN (zH zT zR) zS))<|lA 1 ?_
     obtain⟨h7,H⟩|⟨h7,H⟩:=bC H
     ·exact qL 2199023256458 520 [41] h7<|uA 15 72057594037928842 520<|jA false H [56,9,8,7,3,1] [9,3]
     refine qL 2199023256458 520 [41] h7<|lA 3<|bE H fun r19 er19 H=>vB [.rd,.rd] [.slot 7] (zCX n y3 v9.B r19 er19) (.inr (zN (zH zT zR) zS))<|lA 3 ?_
     obtain⟨h8,H⟩|⟨h8,H⟩:=bC H
     ·exact qL 281474976711562 520 [48] h8<|uA 8 72057594037928842 520<|jA false H [56,9,8,7,3,1] [9,3]
     exact qL 281474976711562 520 [48] h8<|lA 4<|kF x0.Bs zB<|lA 1<|bE H fun r20 er20 H=>vA [.rd,.rd,.rd] (zf n v9.B 0 (wI ((x0.Bs.length:Int)-1)) r20 er20)<|uA 1 72057594037928842 520<|jA r20 H [56,9,8,7,3,1] [9,3]
    rintro y16 H
    have H:(Yh n (fun v=>qG n mo5 x0 x1 v.1 v.2) v9 x0 y2 y3 y16)=some o5:=H
    unfold Yh at H
    cases h6:y16
    ·have H:=YA h6 H
     exact nB_<|tK<|jA y3 H [9,8,7,3,1] [9,3]
    have H:=YB h6 H
    exact tB_<|Tr.at<|lA 4<|gE H fun hg17 H=>qO tOk (t:=30) (ty:=30) (e:=3) (x:=(.tmp 57)) (y:=(.tmp 60)) (d:=61) (g:=none) (tI 3) zC y3 [v9.B] kr kr kr kr kr kr kr kr kr kr hg17<|zY (T:=lk tab) (ty:=30) (x:=(.tmp 61)) (d:=7) (g:=none) false [cL 1 (y3++[v9.B]) zC] kr kr kr kr kr<|dA 906 520<|jA (y3++[v9.B]) H [9,8,7,3,1] [9,3]
   rintro y10 H
   have H:(Yf n (fun v=>qG n mo5 x0 x1 v.1 v.2) v9 x0 y2 y10)=some o5:=H
   unfold Yf at H
   refine tS<|zt (ι:=Bool) (fun v=>⟨88,0,[sB 81 v,sA 9 9 4 0,sI 8 y2,sC 7 (cL 1 y10 zC),sA 3 3 3 0,sC 1 (cF 1 x1 zC)],[(9,(zE v9)),(3,(fR (zD x0)))]⟩) (fun v=>Yg n (fun v=>qG n mo5 x0 x1 v.1 v.2) v9 y10 y2 v=some o5) ?_ ?_
   ·refine Tr.at<|lA 3<|bE H fun r13 er13 H=>vB [.rd,.rd] [.slot 7] (zCX n y10 v9.B r13 er13) (.inr (zN (zH zT zR) zS))<|lA 1 ?_
    obtain⟨h4,H⟩|⟨h4,H⟩:=bC H
    ·exact qL 0x4000000000000038a 520 [66] h4<|uA 15 0x20000000000000000038a 520<|jA false H [81,9,8,7,3,1] [9,3]
    refine qL 0x4000000000000038a 520 [66] h4<|lA 3<|bE H fun r14 er14 H=>vB [.rd,.rd] [.slot 7] (zCX n y10 v9.A r14 er14) (.inr (zN (zH zT zR) zS))<|lA 3 ?_
    obtain⟨h5,H⟩|⟨h5,H⟩:=bC H
    ·exact qL 0x200000000000000038a 520 [73] h5<|uA 8 0x20000000000000000038a 520<|jA false H [81,9,8,7,3,1] [9,3]
    exact qL 0x200000000000000038a 520 [73] h5<|lA 4<|kF x0.Bs zB<|lA 1<|bE H fun r15 er15 H=>vA [.rd,.rd,.rd] (zf n v9.A 0 (wI ((x0.Bs.length:Int)-1)) r15 er15)<|uA 1 0x20000000000000000038a 520<|jA r15 H [81,9,8,7,3,1] [9,3]
   rintro y11 H
   have H:(Yg n (fun v=>qG n mo5 x0 x1 v.1 v.2) v9 y10 y2 y11)=some o5:=H
   unfold Yg at H
   cases h3:y11
   ·have H:=YA h3 H
    exact nB_<|tK<|eA 3 394 8<|jB mo5 ((wI (y2+1)),y10) H [8,7,3,1] [3]
   have H:=YB h3 H
   exact tB_<|Tr.at<|lA 4<|gE H fun hg12 H=>qO tOk (t:=30) (ty:=30) (e:=3) (x:=(.tmp 82)) (y:=(.tmp 85)) (d:=86) (g:=none) (tI 3) zC y10 [v9.A] kr kr kr kr kr kr kr kr kr kr hg12<|zY (T:=lk tab) (ty:=30) (x:=(.tmp 86)) (d:=7) (g:=none) false [cL 1 (y10++[v9.A]) zC] kr kr kr kr kr<|dA 394 8<|eA 3 394 8<|jB mo5 ((wI (y2+1)),(y10++[v9.A])) H [8,7,3,1] [3]
  exact qT [28] h2<|tB_<|Tr.exit<|aJ<|eA 3 394 8<|jB mo5 ((wI (y2+1)),y3) H [8,7,3,1] [3]
 rintro y4 H
 have H:(zCF n y4)=some r:=H
 unfold zCF at H
 exact gA 2 192 0<|te (fJ [(false,[cL 1 y4 zC])] H)
def zCp(n:Nat)(y7:(List Int)):Option ((List Int)):=
  (some y7)
def Qu(n:Nat):Nat→Net→(List Int)→Int→(List Int)→Option (((List Int))⊕((List Int)))
  |0,_,_,_,_=>none
  |mo8+1,x0,y4,y5,y6=>(bif (decide (y5<(x0.Bs.length:Int)))then((YV n y4 y5).bind fun r9=>(bif r9 then(bif (decide (y6.length+ [y5].length≤268435456))then(Qu n mo8 x0 y4 (wI (y5+1)) (y6++[y5]))else none)else(Qu n mo8 x0 y4 (wI (y5+1)) y6)))else(some (Sum.inl y6)))
def zBK(n:Nat)(x0:Net)(y4:(List Int)):Option ((List Int)):=
  ((Qu n n x0 y4 0 ([]:List Int)).bind fun o=>match o with|.inl y7=>(zCp n y7)|.inr r=>some r)
def YW(n:Nat):Nat→Net→(List Int)→Int→(List Int)→Option (((List Int))⊕((List Int)))
  |0,_,_,_,_=>none
  |mo11+1,x0,x2,y2,y3=>(bif (decide (y2<(x0.Bs.length:Int)))then((zB0 n x0 x2 y3).bind fun r12=>(YW n mo11 x0 x2 (wI (y2+1)) r12))else(some (Sum.inl y3)))
def Z5(n:Nat)(x0:Net)(x1:Int)(x2:(List Int)):Option ((List Int)):=
  ((ze n x1 0 (wI ((x0.Bs.length:Int)-1))).bind fun r1=>(bif (!r1)then(some ([]:List Int))else((YW n n x0 x2 0 [x1]).bind fun o=>match o with|.inl y4=>(zBK n x0 y4)|.inr r=>some r)))
theorem zAS(n:Nat)(x0:Net)(x1:Int)(x2:(List Int))(r:(List Int))(H:Z5 n x0 x1 x2=some r):zb Tryz.prog 18 [.val true (fR (zD x0)),.val false [.lit (.int .i64 x1)],.val false [.sl false 1 (zQ (x2.map zC))]] [.val false [.sl true 1 (r.map zC)]] []:=by
 refine cW Tryz.func18 (fun g d=>sl [g 0,sl [g 1] (cn 17 (sl [g 2] .ret) .skip),g 3,sl [g 4] (.block 0 (.loop (sl [sl [g 5] (cn 25 .skip (.exit 0)),.block 1 (g 7)] (g 6)))),g 8,sl [g 9] (.block 2 (.loop (sl [sl [g 10] (cn 37 .skip (.exit 2)),.block 3 (sl [g 12] (cn 42 (g 13) .skip))] (g 11)))),g 14] .ret) [.tmp 6] fun cx=>?_
 unfold Z5 at H
 refine gA 2 14 8<|tS<|rA 3<|kF x0.Bs zB<|lA 1<|bE H fun r1 er1 H=>vA [.rd,.rd,.rd] (zf n x1 0 (wI ((x0.Bs.length:Int)-1)) r1 er1)<|uA 1 131086 8 ?_
 obtain⟨h1,H⟩|⟨h1,H⟩:=bC H
 ·refine nA h1<|tK<|rA 2<|zY (T:=lk tab) (ty:=30) (x:=(.tmp 20)) (d:=7) (g:=none) false [cL 1 [x1] zC] kr kr kr kr kr<|dA 140 8<|tS<|gA 1 396 8 ?_
  obtain⟨o11,eo11,Ho11⟩:=bs H
  clear H
  refine zt (ι:=(List Int)) (fun v=>⟨48,0,[sC 7 (cL 1 v zC),sA 3 3 3 0],[(3,(fR (zD x0)))]⟩) (fun v=>zBK n x0 v=some r) ?_ ?_
  ·refine tB<|Tr.loop (ι:=Nat×(Int×(List Int))) (fun v=>⟨48,0,[sI 8 v.2.1,sC 7 (cL 1 v.2.2 zC),sA 3 3 3 0,sC 2 (cF 1 x2 zC)],[(3,(fR (zD x0)))]⟩) (fun v=>YW n v.1 x0 x2 v.2.1 v.2.2=some o11) (fun v=>v.1) (n,(0,[x1])) eo11 (za [8,7,3,2] [3] kr) ?_
   rintro⟨_|mo11,y2,y3⟩ H
   ·exact nN H
   have H:YW n (mo11+1) x0 x2 y2 y3=some o11:=H
   rw[YW]at H
   refine tS<|rA 3<|kF x0.Bs zB<|uA 1 33554828 8 ?_
   obtain⟨h4,H⟩|⟨h4,H⟩:=bC H
   ·refine nA h4<|Tr.exit<|aJ ?_
    cases H
    exact jA y3 Ho11 [7,3] [3]
   exact tA h4<|tK<|tS<|tB<|Tr.at<|lA 3<|bE H fun r12 er12 H=>vB [.rd,.rd,.rd] [.slot 7] (zNz n x0 x2 y3 r12 er12) (.inr (zN (zH (qf (z7 zx _)) zR) zS))<|zY (T:=lk tab) (ty:=30) (x:=(.tmp 31)) (d:=7) (g:=none) false [cL 1 r12 zC] kr kr kr kr kr<|dA 396 8<|eA 3 396 8<|jB mo11 ((wI (y2+1)),r12) H [8,7,3,2] [3]
  rintro y4 H
  have H:(zBK n x0 y4)=some r:=H
  unfold zBK at H
  refine rA 1<|zY (T:=lk tab) (ty:=30) (x:=(.tmp 32)) (d:=9) (g:=none) false [cL 1 ([]:List Int) zC] kr kr kr kr kr<|dA 648 8<|tS<|gA 1 1672 8 ?_
  obtain⟨o8,eo8,Ho8⟩:=bs H
  clear H
  refine zt (ι:=(List Int)) (fun v=>⟨48,0,[sC 9 (cL 1 v zC)],[]⟩) (fun v=>zCp n v=some r) ?_ ?_
  ·refine tB<|Tr.loop (ι:=Nat×(Int×(List Int))) (fun v=>⟨48,0,[sI 10 v.2.1,sC 9 (cL 1 v.2.2 zC),sC 7 (cL 1 y4 zC),sA 3 3 3 0],[(3,(fR (zD x0)))]⟩) (fun v=>Qu n v.1 x0 y4 v.2.1 v.2.2=some o8) (fun v=>v.1) (n,(0,([]:List Int))) eo8 (za [10,9,7,3] [3] kr) ?_
   rintro⟨_|mo8,y5,y6⟩ H
   ·exact nN H
   have H:Qu n (mo8+1) x0 y4 y5 y6=some o8:=H
   rw[Qu]at H
   refine tS<|rA 3<|kF x0.Bs zB<|uA 1 137438955144 8 ?_
   obtain⟨h2,H⟩|⟨h2,H⟩:=bC H
   ·refine nA h2<|Tr.exit<|aJ ?_
    cases H
    exact jA y6 Ho8 [9] []
   refine tA h2<|tK<|tS<|tB<|rA 2<|bE H fun r9 er9 H=>vB [.rd,.rd] [.slot 7] (zCX n y4 y5 r9 er9) (.inr (zN (zH zT zR) zS))<|dA 4398046512776 8 ?_
   cases h3:r9
   ·have H:=YA h3 H
    exact nB_<|tK<|eA 3 1672 8<|jB mo8 ((wI (y5+1)),y6) H [10,9,7,3] [3]
   have H:=YB h3 H
   exact tB_<|Tr.at<|lA 3<|gE H fun hg10 H=>qO tOk (t:=30) (ty:=30) (e:=3) (x:=(.tmp 43)) (y:=(.tmp 45)) (d:=46) (g:=none) (tI 3) zC y6 [y5] kr kr kr kr kr kr kr kr kr kr hg10<|zY (T:=lk tab) (ty:=30) (x:=(.tmp 46)) (d:=9) (g:=none) false [cL 1 (y6++[y5]) zC] kr kr kr kr kr<|dA 1672 8<|eA 3 1672 8<|jB mo8 ((wI (y5+1)),(y6++[y5])) H [10,9,7,3] [3]
  rintro y7 H
  have H:(zCp n y7)=some r:=H
  unfold zCp at H
  exact gA 2 576 0<|te (fJ [(false,[cL 1 y7 zC])] H)
 exact tA h1<|rA 1<|zY (T:=lk tab) (ty:=30) (x:=(.tmp 18)) (d:=6) (g:=none) false [cL 1 ([]:List Int) zC] kr kr kr kr kr<|dA 64 0<|te (fJ [(false,[cL 1 ([]:List Int) zC])] H)
def JC(n:Nat)(x0:(List Int)):Option ((List Int)):=
  (bif (decide (([]:List Int).length+x0.length≤268435456))then(some (([]:List Int)++x0))else none)
theorem zFd(n:Nat)(x0:(List Int))(r:(List Int))(H:JC n x0=some r):zb Tryz.prog 60 [.val false [.sl false 1 (zQ (x0.map zC))]] [.val false [.sl true 1 (r.map zC)]] []:=by
 refine cW Tryz.func60 (fun g d=>sl [g 0,g 1] .ret) [.tmp 2] fun cx=>?_
 unfold JC at H
 exact gA 1 1 0<|rA 1<|gE H fun hg1 H=>zN1 tOk (t:=30) (ty:=30) (e:=3) (x:=(.const (.slice none 0 0))) (y:=(.tmp 3)) (d:=4) (g:=none) (tI 3) zC ([]:List Int) x0 ⟨(.slot 3),[],0,false,1,(zQ (x0.map zC))⟩ kr kr kr kr kr kr kr kr kr kr kr (.inr rfl) (fun _=>rfl) (fun _=>rfl) hg1<|zY (T:=lk tab) (ty:=30) (x:=(.tmp 4)) (d:=2) (g:=none) false [cL 1 (([]:List Int)++x0) zC] kr kr kr kr kr<|dA 4 0<|te (fJ [(false,[cL 1 (([]:List Int)++x0) zC])] H)
def zBJ(n:Nat):Option (Bool):=
  (some false)
def Qs(n:Nat):Nat→(List Int)→Int→Int→Option ((Unit)⊕(Bool))
  |0,_,_,_=>none
  |mo2+1,x0,x1,y1=>(bif (decide (y1<(x0.length:Int)))then((idx x0 y1).bind fun v3=>(bif (v3==x1)then(some (Sum.inr true))else(Qs n mo2 x0 x1 (wI (y1+1)))))else(some (Sum.inl ())))
def zC0(n:Nat)(x0:(List Int))(x1:Int):Option (Bool):=
  ((Qs n n x0 x1 0).bind fun o=>match o with|.inl _=>(zBJ n)|.inr r=>some r)
theorem zOe(n:Nat)(x0:(List Int))(x1:Int)(r:Bool)(H:zC0 n x0 x1=some r):zb Tryz.prog 61 [.val false [.sl false 1 (zQ (x0.map zC))],.val false [.lit (.int .i64 x1)]] [.val false [.lit (.bool r)]] []:=by
 refine cW Tryz.func61 (fun g d=>sl [g 0,sl [g 1] (.block 0 (.loop (sl [g 2,cn 10 .skip (.exit 0),.block 1 (sl [g 3,g 4] (cn 15 (sl [g 5] .ret) .skip))] (g 6)))),g 7] .ret) [.tmp 4] fun cx=>?_
 unfold zC0 at H
 refine gA 1 3 0<|tS<|rA 1<|kF x0 zC<|uA 1 898 0 ?_
 obtain⟨o2,eo2,Ho2⟩:=bs H
 clear H
 refine zt (ι:=Unit) (fun v=>⟨17,0,[],[]⟩) (fun v=>zBJ n=some r) ?_ ?_
 ·refine tB<|Tr.loop (ι:=Nat×(Int)) (fun v=>⟨17,0,[sI 9 v.2,sI 8 (x0.length:Int),sC 7 (cF 1 x0 zC),sI 1 x1],[]⟩) (fun v=>Qs n v.1 x0 x1 v.2=some o2) (fun v=>v.1) (n,0) eo2 (za [9,8,7,1] [] kr) ?_
  rintro⟨_|mo2,y1⟩ H
  ·exact nN H
  have H:Qs n (mo2+1) x0 x1 y1=some o2:=H
  rw[Qs]at H
  refine gA 1 1922 0<|tS ?_
  obtain⟨h1,H⟩|⟨h1,H⟩:=bC H
  ·refine nA h1<|Tr.exit<|aJ ?_
   cases H
   exact jA () Ho2 [] []
  refine tA h1<|tK<|tS<|tB<|tR<|bE H fun v3 ev3 H=>iA zC ev3<|uA 2 962 0<|gA 3 33666 0 ?_
  obtain⟨h2,H⟩|⟨h2,H⟩:=bC H
  ·exact nA h2<|tK<|eA 2 898 0<|jB mo2 (wI (y1+1)) H [9,8,7,1] []
  refine tA h2<|gA 1 16 0<|te ?_
  cases H
  exact fT Ho2
 rintro _ H
 have H:(zBJ n)=some r:=H
 unfold zBJ at H
 exact gA 1 16 0<|te (fF H)
def zDW(n:Nat):Option (Bool):=
  (some false)
def YM(n:Nat):Nat→Net→(List Int)→Int→Option ((Unit)⊕(Bool))
  |0,_,_,_=>none
  |mo2+1,x0,x1,y1=>(bif (decide (y1<(x1.length:Int)))then((idx x1 y1).bind fun v3=>((ql n v3 0 (wI ((x0.Ls.length:Int)-1))).bind fun r4=>(bif (!r4)then(YM n mo2 x0 x1 (wI (y1+1)))else(bif (decide ((0:Int)≤0)&&(decide ((0:Int)≤y1)&&decide ((y1:Int)≤(x1.length:Int))))then((JC n ((x1.drop ((0:Int)).toNat).take (((y1:Int)).toNat-((0:Int)).toNat))).bind fun r6=>(bif (decide ((0:Int)≤(wI (y1+1)))&&(decide (((wI (y1+1)):Int)≤(x1.length:Int))&&decide (((x1.length:Int):Int)≤(x1.length:Int))))then(bif (decide (r6.length+((x1.drop (((wI (y1+1)):Int)).toNat).take ((((x1.length:Int):Int)).toNat-(((wI (y1+1)):Int)).toNat)).length≤268435456))then((idx x0.Ls v3).bind fun v9=>((qg n x0 v9.A (r6++((x1.drop (((wI (y1+1)):Int)).toNat).take ((((x1.length:Int):Int)).toNat-(((wI (y1+1)):Int)).toNat)))).bind fun r10=>((idx x0.Ls v3).bind fun v11=>((zC0 n r10 v11.B).bind fun r12=>(bif r12 then(some (Sum.inr true))else(YM n mo2 x0 x1 (wI (y1+1))))))))else none)else none))else none))))else(some (Sum.inl ())))
def Y1(n:Nat)(x0:Net)(x1:(List Int)):Option (Bool):=
  ((YM n n x0 x1 0).bind fun o=>match o with|.inl _=>(zDW n)|.inr r=>some r)
def zT5:Tab:=⟨16,[0,0,2,0,12,16,32,0,193,0,512,0,3072,4096,8192,16640],[0,0,2,0,12,16,32,0,193,0,512,0,3072,4096,8192,16640],[0,0,2,0,14,30,62,0,255,0,512,0,3584,7680,15872,32767]⟩
theorem zLa:qb (rg Tryz.f19 6) zT5=true:=kr
theorem zE5(n:Nat)(x0:Net)(x1:(List Int))(r:Bool)(H:Y1 n x0 x1=some r):zb Tryz.prog 19 [.val true (fR (zD x0)),.val false [.sl false 1 (zQ (x1.map zC))]] [.val false [.lit (.bool r)]] []:=by
 refine cW Tryz.func19 (fun g d=>sl [g 0,sl [g 1] (.block 0 (.loop (sl [g 2,cn 11 .skip (.exit 0),.block 1 (sl [g 3,sl [g 4] (cn 21 (.exit 1) .skip),d 5,d 6] (cn 46 (sl [g 7] .ret) .skip))] (g 8)))),g 9] .ret) [.tmp 4] fun cx=>?_
 unfold Y1 at H
 refine gA 2 6 4<|tS<|rA 1<|kF x1 zC<|uA 1 1798 4 ?_
 obtain⟨o2,eo2,Ho2⟩:=bs H
 clear H
 refine zt (ι:=Unit) (fun v=>⟨48,0,[],[]⟩) (fun v=>zDW n=some r) ?_ ?_
 ·refine tB<|Tr.loop (ι:=Nat×(Int)) (fun v=>⟨48,0,[sI 10 v.2,sI 9 (x1.length:Int),sC 8 (cF 1 x1 zC),sA 2 2 3 0,sC 1 (cF 1 x1 zC)],[(2,(fR (zD x0)))]⟩) (fun v=>YM n v.1 x0 x1 v.2=some o2) (fun v=>v.1) (n,0) eo2 (za [10,9,8,2,1] [2] kr) ?_
  rintro⟨_|mo2,y1⟩ H
  ·exact nN H
  have H:YM n (mo2+1) x0 x1 y1=some o2:=H
  rw[YM]at H
  refine gA 1 3846 4<|tS ?_
  obtain⟨h1,H⟩|⟨h1,H⟩:=bC H
  ·refine nA h1<|Tr.exit<|aJ ?_
   cases H
   exact jA () Ho2 [] []
  refine tA h1<|tK<|tS<|tB<|rA 1<|bE H fun v3 ev3 H=>iA zC ev3<|uA 3 1894 4<|tS<|rA 3<|kF x0.Ls zE<|lA 1<|bE H fun r4 er4 H=>vA [.rd,.rd,.rd] (Ys n v3 0 (wI ((x0.Ls.length:Int)-1)) r4 er4)<|uA 1 2099046 4 ?_
  obtain⟨h2,H⟩|⟨h2,H⟩:=bC H
  ·refine nA h2<|tK<|gE H fun hg5 H=>bE H fun r6 er6 H=>gE H fun hg7 H=>gE H fun hg8 H=>zd zr 10 kr ⟨48,0,[sC 7 (cL 1 (r6++((x1.drop (((wI (y1+1)):Int)).toNat).take ((((x1.length:Int):Int)).toNat-(((wI (y1+1)):Int)).toNat))) zC),sI 6 v3,sI 10 y1,sI 9 (x1.length:Int),sC 8 (cF 1 x1 zC),sA 2 2 3 0,sC 1 (cF 1 x1 zC)],[(2,(fR (zD x0)))]⟩ (fun cx=>?_) ?_
   ·refine aA (zl [0,1,4,5,6]) 5 [] fun cx=>YJ tOk 2 7 kr (And.intro kr ?_) (And.intro kr ?_)
    ·refine qd tOk (t:=30) (ty:=30) (e:=3) (x:=(.tmp 22)) (lo:=none) (hi:=(some (.tmp 23))) (d:=24) (g:=none) (tI 3) zC x1 ⟨(.slot 22),[],0,false,1,(zQ (x1.map zC))⟩ 0 y1 kr kr kr kr kr kr rfl kr rfl kr kr hg5<|fA<|YJ tOk 3 7 kr (And.intro kr ?_) (And.intro kr ?_)
     ·exact vA [.rd] (zFd n ((x1.drop ((0:Int)).toNat).take (((y1:Int)).toNat-((0:Int)).toNat)) r6 er6)<|fA<|bA 7<|qd tOk (t:=30) (ty:=30) (e:=3) (x:=(.tmp 26)) (lo:=(some (.tmp 28))) (hi:=none) (d:=29) (g:=none) (tI 3) zC x1 ⟨(.slot 26),[],0,false,1,(zQ (x1.map zC))⟩ (wI (y1+1)) (x1.length:Int) kr kr kr kr kr kr rfl kr rfl kr kr hg7<|fA<|bA 8<|pD zC hg8<|fA<|bA 9<|zY (T:=lk tab) (ty:=30) (x:=(.tmp 30)) (d:=7) (g:=none) false [cL 1 (r6++((x1.drop (((wI (y1+1)):Int)).toNat).take ((((x1.length:Int):Int)).toNat-(((wI (y1+1)):Int)).toNat))) zC] kr kr kr kr kr<|fA<|eE [7,6,10,9,8,2,1] [2]
     ·exact qd tOk (t:=30) (ty:=30) (e:=3) (x:=(.tmp 26)) (lo:=(some (.tmp 28))) (hi:=none) (d:=29) (g:=none) (tI 3) zC x1 ⟨(.slot 26),[],0,false,1,(zQ (x1.map zC))⟩ (wI (y1+1)) (x1.length:Int) kr kr kr kr kr kr rfl kr rfl kr kr hg7<|fA<|bA 3<|vA [.rd] (zFd n ((x1.drop ((0:Int)).toNat).take (((y1:Int)).toNat-((0:Int)).toNat)) r6 er6)<|fA<|bA 8<|pD zC hg8<|fA<|bA 9<|zY (T:=lk tab) (ty:=30) (x:=(.tmp 30)) (d:=7) (g:=none) false [cL 1 (r6++((x1.drop (((wI (y1+1)):Int)).toNat).take ((((x1.length:Int):Int)).toNat-(((wI (y1+1)):Int)).toNat))) zC] kr kr kr kr kr<|fA<|eE [7,6,10,9,8,2,1] [2]
    ·exact qd tOk (t:=30) (ty:=30) (e:=3) (x:=(.tmp 26)) (lo:=(some (.tmp 28))) (hi:=none) (d:=29) (g:=none) (tI 3) zC x1 ⟨(.slot 26),[],0,false,1,(zQ (x1.map zC))⟩ (wI (y1+1)) (x1.length:Int) kr kr kr kr kr kr rfl kr rfl kr kr hg7<|fA<|bA 2<|qd tOk (t:=30) (ty:=30) (e:=3) (x:=(.tmp 22)) (lo:=none) (hi:=(some (.tmp 23))) (d:=24) (g:=none) (tI 3) zC x1 ⟨(.slot 22),[],0,false,1,(zQ (x1.map zC))⟩ 0 y1 kr kr kr kr kr kr rfl kr rfl kr kr hg5<|fA<|bA 3<|vA [.rd] (zFd n ((x1.drop ((0:Int)).toNat).take (((y1:Int)).toNat-((0:Int)).toNat)) r6 er6)<|fA<|bA 8<|pD zC hg8<|fA<|bA 9<|zY (T:=lk tab) (ty:=30) (x:=(.tmp 30)) (d:=7) (g:=none) false [cL 1 (r6++((x1.drop (((wI (y1+1)):Int)).toNat).take ((((x1.length:Int):Int)).toNat-(((wI (y1+1)):Int)).toNat))) zC] kr kr kr kr kr<|fA<|eE [7,6,10,9,8,2,1] [2]
   refine bE H fun v9 ev9 H=>bE H fun r10 er10 H=>bE H fun v11 ev11 H=>bE H fun r12 er12 H=>zd zr 16 kr ⟨48,0,[sB 46 r12,sI 10 y1,sI 9 (x1.length:Int),sC 8 (cF 1 x1 zC),sA 2 2 3 0,sC 1 (cF 1 x1 zC)],[(2,(fR (zD x0)))]⟩ (fun cx=>?_) ?_
   ·exact mA zLa [(0,[8,15]),(1,[]),(2,[8,15]),(3,[])] 12 [⟨[8,15],25,32,33⟩,⟨[8,15],28,2,31⟩] fun cx=>iN zLa 4 zE ev9 fun cx=>mA zLa (zl [5,6,7,9]++[(10,[15]),(11,[])]) 5 [⟨[15],25,40,41⟩,⟨[8,15],25,32,33⟩,⟨[8,15],28,2,31⟩] fun cx=>iN zLa 12 zE ev11 fun cx=>mA zLa [(13,[]),(14,[])] 2 [⟨[15],25,40,41⟩,⟨[8,15],25,32,33⟩,⟨[8,15],28,2,31⟩] fun cx=>mC zLa 8<|vB [.rd,.rd,.rd] [.slot 7] (zAO n x0 v9.A (r6++((x1.drop (((wI (y1+1)):Int)).toNat).take ((((x1.length:Int):Int)).toNat-(((wI (y1+1)):Int)).toNat))) r10 er10) (.inr (zN (zH (qf (z7 zx _)) zR) zS))<|fA<|mC zLa 15<|vA [.rd,.rd] (zOe n r10 v11.B r12 er12)<|fA<|mE zLa [46,10,9,8,2,1] [2]
   cases h3:r12
   ·have H:=YA h3 H
    exact nB_<|tK<|eA 2 1798 4<|jB mo2 (wI (y1+1)) H [10,9,8,2,1] [2]
   have H:=YB h3 H
   refine tB_<|gA 1 16 0<|te ?_
   cases H
   exact fT Ho2
  exact tA h2<|Tr.exit<|aJ<|eA 2 1798 4<|jB mo2 (wI (y1+1)) H [10,9,8,2,1] [2]
 rintro _ H
 have H:(zDW n)=some r:=H
 unfold zDW at H
 exact gA 1 16 0<|te (fF H)
def zDe(n:Nat):Option (Bool):=
  (some false)
def YQ(n:Nat):Nat→Net→(List Int)→Int→Option ((Unit)⊕(Bool))
  |0,_,_,_=>none
  |mo2+1,x0,x1,y1=>(bif (decide (y1<(x1.length:Int)))then((idx x1 y1).bind fun v3=>((ze n v3 0 (wI ((x0.Ls.length:Int)-1))).bind fun r4=>(bif (!r4)then(YQ n mo2 x0 x1 (wI (y1+1)))else(bif (decide ((0:Int)≤0)&&(decide ((0:Int)≤y1)&&decide ((y1:Int)≤(x1.length:Int))))then(bif (decide (([]:List Int).length+((x1.drop ((0:Int)).toNat).take (((y1:Int)).toNat-((0:Int)).toNat)).length≤268435456))then(bif (decide ((0:Int)≤(wI (y1+1)))&&(decide (((wI (y1+1)):Int)≤(x1.length:Int))&&decide (((x1.length:Int):Int)≤(x1.length:Int))))then(bif (decide ((([]:List Int)++((x1.drop ((0:Int)).toNat).take (((y1:Int)).toNat-((0:Int)).toNat))).length+((x1.drop (((wI (y1+1)):Int)).toNat).take ((((x1.length:Int):Int)).toNat-(((wI (y1+1)):Int)).toNat)).length≤268435456))then((idx x1 y1).bind fun v9=>((idx x0.Ls v9).bind fun v10=>((Z5 n x0 v10.A ((([]:List Int)++((x1.drop ((0:Int)).toNat).take (((y1:Int)).toNat-((0:Int)).toNat)))++((x1.drop (((wI (y1+1)):Int)).toNat).take ((((x1.length:Int):Int)).toNat-(((wI (y1+1)):Int)).toNat)))).bind fun r11=>((idx x1 y1).bind fun v12=>((idx x0.Ls v12).bind fun v13=>((YV n r11 v13.B).bind fun r14=>(bif r14 then(some (Sum.inr true))else(YQ n mo2 x0 x1 (wI (y1+1))))))))))else none)else none)else none)else none))))else(some (Sum.inl ())))
def Y4(n:Nat)(x0:Net)(x1:(List Int)):Option (Bool):=
  ((YQ n n x0 x1 0).bind fun o=>match o with|.inl _=>(zDe n)|.inr r=>some r)
def zT6:Tab:=⟨22,[0,0,2,0,0,24,32,68,128,256,0,1537,0,4096,0,0,49152,65536,139264,262144,524288,1050624],[0,0,2,0,0,24,32,68,128,256,0,1537,0,4096,0,0,49152,65536,139264,262144,524288,1050624],[0,0,2,0,0,24,56,126,254,510,0,2047,0,4096,0,0,49152,114688,258048,520192,1044480,2097151]⟩
theorem zHn:qb (rg Tryz.f20 6) zT6=true:=kr
theorem zMx(n:Nat)(x1:(List Int))(y1:Int)(x0:Net)(hg5:(decide ((0:Int)≤0)&&(decide ((0:Int)≤y1)&&decide ((y1:Int)≤(x1.length:Int))))=true)(hg6:(decide (([]:List Int).length+((x1.drop ((0:Int)).toNat).take (((y1:Int)).toNat-((0:Int)).toNat)).length≤268435456))=true)(hg7:(decide ((0:Int)≤(wI (y1+1)))&&(decide (((wI (y1+1)):Int)≤(x1.length:Int))&&decide (((x1.length:Int):Int)≤(x1.length:Int))))=true)(hg8:(decide ((([]:List Int)++((x1.drop ((0:Int)).toNat).take (((y1:Int)).toNat-((0:Int)).toNat))).length+((x1.drop (((wI (y1+1)):Int)).toNat).take ((((x1.length:Int):Int)).toNat-(((wI (y1+1)):Int)).toNat)).length≤268435456))=true)(cx:Cx):AT Tryz.prog cx (rg Tryz.f20 5) [] 11 [] ⟨55,0,[sB 22 false,sI 5 y1,sA 2 2 3 0,sC 1 (cF 1 x1 zC)],[(2,(fR (zD x0)))]⟩ (fun s=>s=⟨55,0,[sC 6 (cL 1 ((([]:List Int)++((x1.drop ((0:Int)).toNat).take (((y1:Int)).toNat-((0:Int)).toNat)))++((x1.drop (((wI (y1+1)):Int)).toNat).take ((((x1.length:Int):Int)).toNat-(((wI (y1+1)):Int)).toNat))) zC),sI 5 y1,sA 2 2 3 0,sC 1 (cF 1 x1 zC)],[(2,(fR (zD x0)))]⟩):=by
 refine aA (zl [1,2,5,6,7]) 6 [] fun cx=>zMi tOk 0 3 8 kr (And.intro kr ?_) (And.intro kr ?_) (And.intro kr ?_)
 ·refine lA 1<|fA<|YJ tOk 3 8 kr (And.intro kr ?_) (And.intro kr ?_)
  ·refine qd tOk (t:=30) (ty:=30) (e:=3) (x:=(.tmp 24)) (lo:=none) (hi:=(some (.tmp 25))) (d:=26) (g:=none) (tI 3) zC x1 ⟨(.slot 24),[],0,false,1,(zQ (x1.map zC))⟩ 0 y1 kr kr kr kr kr kr rfl kr rfl kr kr hg5<|fA<|YJ tOk 4 8 kr (And.intro kr ?_) (And.intro kr ?_)
   ·exact pD zC hg6<|fA<|bA 8<|qd tOk (t:=30) (ty:=30) (e:=3) (x:=(.tmp 28)) (lo:=(some (.tmp 30))) (hi:=none) (d:=31) (g:=none) (tI 3) zC x1 ⟨(.slot 28),[],0,false,1,(zQ (x1.map zC))⟩ (wI (y1+1)) (x1.length:Int) kr kr kr kr kr kr rfl kr rfl kr kr hg7<|fA<|bA 9<|pD zC hg8<|fA<|bA 10<|zY (T:=lk tab) (ty:=30) (x:=(.tmp 32)) (d:=6) (g:=none) false [cL 1 ((([]:List Int)++((x1.drop ((0:Int)).toNat).take (((y1:Int)).toNat-((0:Int)).toNat)))++((x1.drop (((wI (y1+1)):Int)).toNat).take ((((x1.length:Int):Int)).toNat-(((wI (y1+1)):Int)).toNat))) zC] kr kr kr kr kr<|fA<|eE [6,5,2,1] [2]
   ·exact qd tOk (t:=30) (ty:=30) (e:=3) (x:=(.tmp 28)) (lo:=(some (.tmp 30))) (hi:=none) (d:=31) (g:=none) (tI 3) zC x1 ⟨(.slot 28),[],0,false,1,(zQ (x1.map zC))⟩ (wI (y1+1)) (x1.length:Int) kr kr kr kr kr kr rfl kr rfl kr kr hg7<|fA<|bA 4<|pD zC hg6<|fA<|bA 9<|pD zC hg8<|fA<|bA 10<|zY (T:=lk tab) (ty:=30) (x:=(.tmp 32)) (d:=6) (g:=none) false [cL 1 ((([]:List Int)++((x1.drop ((0:Int)).toNat).take (((y1:Int)).toNat-((0:Int)).toNat)))++((x1.drop (((wI (y1+1)):Int)).toNat).take ((((x1.length:Int):Int)).toNat-(((wI (y1+1)):Int)).toNat))) zC] kr kr kr kr kr<|fA<|eE [6,5,2,1] [2]
  ·exact qd tOk (t:=30) (ty:=30) (e:=3) (x:=(.tmp 28)) (lo:=(some (.tmp 30))) (hi:=none) (d:=31) (g:=none) (tI 3) zC x1 ⟨(.slot 28),[],0,false,1,(zQ (x1.map zC))⟩ (wI (y1+1)) (x1.length:Int) kr kr kr kr kr kr rfl kr rfl kr kr hg7<|fA<|bA 3<|qd tOk (t:=30) (ty:=30) (e:=3) (x:=(.tmp 24)) (lo:=none) (hi:=(some (.tmp 25))) (d:=26) (g:=none) (tI 3) zC x1 ⟨(.slot 24),[],0,false,1,(zQ (x1.map zC))⟩ 0 y1 kr kr kr kr kr kr rfl kr rfl kr kr hg5<|fA<|bA 4<|pD zC hg6<|fA<|bA 9<|pD zC hg8<|fA<|bA 10<|zY (T:=lk tab) (ty:=30) (x:=(.tmp 32)) (d:=6) (g:=none) false [cL 1 ((([]:List Int)++((x1.drop ((0:Int)).toNat).take (((y1:Int)).toNat-((0:Int)).toNat)))++((x1.drop (((wI (y1+1)):Int)).toNat).take ((((x1.length:Int):Int)).toNat-(((wI (y1+1)):Int)).toNat))) zC] kr kr kr kr kr<|fA<|eE [6,5,2,1] [2]
 ·refine qd tOk (t:=30) (ty:=30) (e:=3) (x:=(.tmp 24)) (lo:=none) (hi:=(some (.tmp 25))) (d:=26) (g:=none) (tI 3) zC x1 ⟨(.slot 24),[],0,false,1,(zQ (x1.map zC))⟩ 0 y1 kr kr kr kr kr kr rfl kr rfl kr kr hg5<|fA<|YJ tOk 0 8 kr (And.intro kr ?_) (And.intro kr ?_)
  ·refine lA 1<|fA<|YJ tOk 4 8 kr (And.intro kr ?_) (And.intro kr ?_)
   ·exact pD zC hg6<|fA<|bA 8<|qd tOk (t:=30) (ty:=30) (e:=3) (x:=(.tmp 28)) (lo:=(some (.tmp 30))) (hi:=none) (d:=31) (g:=none) (tI 3) zC x1 ⟨(.slot 28),[],0,false,1,(zQ (x1.map zC))⟩ (wI (y1+1)) (x1.length:Int) kr kr kr kr kr kr rfl kr rfl kr kr hg7<|fA<|bA 9<|pD zC hg8<|fA<|bA 10<|zY (T:=lk tab) (ty:=30) (x:=(.tmp 32)) (d:=6) (g:=none) false [cL 1 ((([]:List Int)++((x1.drop ((0:Int)).toNat).take (((y1:Int)).toNat-((0:Int)).toNat)))++((x1.drop (((wI (y1+1)):Int)).toNat).take ((((x1.length:Int):Int)).toNat-(((wI (y1+1)):Int)).toNat))) zC] kr kr kr kr kr<|fA<|eE [6,5,2,1] [2]
   ·exact qd tOk (t:=30) (ty:=30) (e:=3) (x:=(.tmp 28)) (lo:=(some (.tmp 30))) (hi:=none) (d:=31) (g:=none) (tI 3) zC x1 ⟨(.slot 28),[],0,false,1,(zQ (x1.map zC))⟩ (wI (y1+1)) (x1.length:Int) kr kr kr kr kr kr rfl kr rfl kr kr hg7<|fA<|bA 4<|pD zC hg6<|fA<|bA 9<|pD zC hg8<|fA<|bA 10<|zY (T:=lk tab) (ty:=30) (x:=(.tmp 32)) (d:=6) (g:=none) false [cL 1 ((([]:List Int)++((x1.drop ((0:Int)).toNat).take (((y1:Int)).toNat-((0:Int)).toNat)))++((x1.drop (((wI (y1+1)):Int)).toNat).take ((((x1.length:Int):Int)).toNat-(((wI (y1+1)):Int)).toNat))) zC] kr kr kr kr kr<|fA<|eE [6,5,2,1] [2]
  ·exact qd tOk (t:=30) (ty:=30) (e:=3) (x:=(.tmp 28)) (lo:=(some (.tmp 30))) (hi:=none) (d:=31) (g:=none) (tI 3) zC x1 ⟨(.slot 28),[],0,false,1,(zQ (x1.map zC))⟩ (wI (y1+1)) (x1.length:Int) kr kr kr kr kr kr rfl kr rfl kr kr hg7<|fA<|bA 0<|lA 1<|fA<|bA 4<|pD zC hg6<|fA<|bA 9<|pD zC hg8<|fA<|bA 10<|zY (T:=lk tab) (ty:=30) (x:=(.tmp 32)) (d:=6) (g:=none) false [cL 1 ((([]:List Int)++((x1.drop ((0:Int)).toNat).take (((y1:Int)).toNat-((0:Int)).toNat)))++((x1.drop (((wI (y1+1)):Int)).toNat).take ((((x1.length:Int):Int)).toNat-(((wI (y1+1)):Int)).toNat))) zC] kr kr kr kr kr<|fA<|eE [6,5,2,1] [2]
 ·refine qd tOk (t:=30) (ty:=30) (e:=3) (x:=(.tmp 28)) (lo:=(some (.tmp 30))) (hi:=none) (d:=31) (g:=none) (tI 3) zC x1 ⟨(.slot 28),[],0,false,1,(zQ (x1.map zC))⟩ (wI (y1+1)) (x1.length:Int) kr kr kr kr kr kr rfl kr rfl kr kr hg7<|fA<|YJ tOk 0 3 kr (And.intro kr ?_) (And.intro kr ?_)
  ·exact lA 1<|fA<|bA 3<|qd tOk (t:=30) (ty:=30) (e:=3) (x:=(.tmp 24)) (lo:=none) (hi:=(some (.tmp 25))) (d:=26) (g:=none) (tI 3) zC x1 ⟨(.slot 24),[],0,false,1,(zQ (x1.map zC))⟩ 0 y1 kr kr kr kr kr kr rfl kr rfl kr kr hg5<|fA<|bA 4<|pD zC hg6<|fA<|bA 9<|pD zC hg8<|fA<|bA 10<|zY (T:=lk tab) (ty:=30) (x:=(.tmp 32)) (d:=6) (g:=none) false [cL 1 ((([]:List Int)++((x1.drop ((0:Int)).toNat).take (((y1:Int)).toNat-((0:Int)).toNat)))++((x1.drop (((wI (y1+1)):Int)).toNat).take ((((x1.length:Int):Int)).toNat-(((wI (y1+1)):Int)).toNat))) zC] kr kr kr kr kr<|fA<|eE [6,5,2,1] [2]
  ·exact qd tOk (t:=30) (ty:=30) (e:=3) (x:=(.tmp 24)) (lo:=none) (hi:=(some (.tmp 25))) (d:=26) (g:=none) (tI 3) zC x1 ⟨(.slot 24),[],0,false,1,(zQ (x1.map zC))⟩ 0 y1 kr kr kr kr kr kr rfl kr rfl kr kr hg5<|fA<|bA 0<|lA 1<|fA<|bA 4<|pD zC hg6<|fA<|bA 9<|pD zC hg8<|fA<|bA 10<|zY (T:=lk tab) (ty:=30) (x:=(.tmp 32)) (d:=6) (g:=none) false [cL 1 ((([]:List Int)++((x1.drop ((0:Int)).toNat).take (((y1:Int)).toNat-((0:Int)).toNat)))++((x1.drop (((wI (y1+1)):Int)).toNat).take ((((x1.length:Int):Int)).toNat-(((wI (y1+1)):Int)).toNat))) zC] kr kr kr kr kr<|fA<|eE [6,5,2,1] [2]
theorem zE8(n:Nat)(x0:Net)(x1:(List Int))(r:Bool)(H:Y4 n x0 x1=some r):zb Tryz.prog 20 [.val true (fR (zD x0)),.val false [.sl false 1 (zQ (x1.map zC))]] [.val false [.lit (.bool r)]] []:=by
 refine cW Tryz.func20 (fun g d=>sl [g 0,sl [g 1] (.block 0 (.loop (sl [sl [g 2] (cn 10 .skip (.exit 0)),.block 1 (sl [sl [d 4] (cn 22 (.exit 1) .skip),d 5,d 6] (cn 54 (sl [g 7] .ret) .skip))] (g 3)))),g 8] .ret) [.tmp 4] fun cx=>?_
 unfold Y4 at H
 refine gA 2 6 4<|tS<|gA 1 38 4 ?_
 obtain⟨o2,eo2,Ho2⟩:=bs H
 clear H
 refine zt (ι:=Unit) (fun v=>⟨55,0,[],[]⟩) (fun v=>zDe n=some r) ?_ ?_
 ·refine tB<|Tr.loop (ι:=Nat×(Int)) (fun v=>⟨55,0,[sI 5 v.2,sA 2 2 3 0,sC 1 (cF 1 x1 zC)],[(2,(fR (zD x0)))]⟩) (fun v=>YQ n v.1 x0 x1 v.2=some o2) (fun v=>v.1) (n,0) eo2 (za [5,2,1] [2] kr) ?_
  rintro⟨_|mo2,y1⟩ H
  ·exact nN H
  have H:YQ n (mo2+1) x0 x1 y1=some o2:=H
  rw[YQ]at H
  refine tS<|rA 2<|kF x1 zC<|uA 1 1062 4 ?_
  obtain⟨h1,H⟩|⟨h1,H⟩:=bC H
  ·refine nA h1<|Tr.exit<|aJ ?_
   cases H
   exact jA () Ho2 [] []
  refine tA h1<|tK<|tS<|tB<|tS<|bE H fun v3 ev3 H=>bE H fun r4 er4 H=>zd zr 10 kr ⟨55,0,[sB 22 (!r4),sI 5 y1,sA 2 2 3 0,sC 1 (cF 1 x1 zC)],[(2,(fR (zD x0)))]⟩ (fun cx=>?_) ?_
  ·refine aA [(0,[]),(1,[])] 8 [] fun cx=>aI tOk 2 30 0 13 14 15 none ⟨(.slot 13),[],0,false,1,(zQ (x1.map zC))⟩ y1 [cI v3] _ kr kr kr kr kr kr rfl (zCa ev3) rfl (fun cx=>?_)
   refine aA [(3,[]),(4,[]),(5,[8])] 4 [⟨[8],25,17,18⟩] fun cx=>aL tOk 6 25 3 70 18 19 none ⟨(.box 2),[(0,0)],1,false,4,(zQ (x0.Ls.map zE))⟩ (x0.Ls).length _ kr kr kr kr kr kr kr (zH7 _ _) rfl (fun cx=>?_)
   exact aA [(7,[])] 2 [⟨[8],25,17,18⟩] fun cx=>bA 8<|vA [.rd,.rd,.rd] (zf n v3 0 (wI ((x0.Ls.length:Int)-1)) r4 er4)<|fA<|aA [(9,[])] 0 [⟨[8],25,17,18⟩] fun cx=>eE [22,5,2,1] [2]
  obtain⟨h2,H⟩|⟨h2,H⟩:=bC H
  ·refine qT [22] h2<|nB_<|tK<|gE H fun hg5 H=>gE H fun hg6 H=>gE H fun hg7 H=>gE H fun hg8 H=>sT ⟨55,0,[sB 22 false,sI 5 y1,sA 2 2 3 0,sC 1 (cF 1 x1 zC)],[(2,(fR (zD x0)))]⟩<|zd zr 11 kr ⟨55,0,[sC 6 (cL 1 ((([]:List Int)++((x1.drop ((0:Int)).toNat).take (((y1:Int)).toNat-((0:Int)).toNat)))++((x1.drop (((wI (y1+1)):Int)).toNat).take ((((x1.length:Int):Int)).toNat-(((wI (y1+1)):Int)).toNat))) zC),sI 5 y1,sA 2 2 3 0,sC 1 (cF 1 x1 zC)],[(2,(fR (zD x0)))]⟩ (zMx n x1 y1 x0 hg5 hg6 hg7 hg8)<|bE H fun v9 ev9 H=>bE H fun v10 ev10 H=>bE H fun r11 er11 H=>bE H fun v12 ev12 H=>bE H fun v13 ev13 H=>bE H fun r14 er14 H=>zd zr 22 kr ⟨55,0,[sB 54 r14,sI 5 y1,sA 2 2 3 0,sC 1 (cF 1 x1 zC)],[(2,(fR (zD x0)))]⟩ (fun cx=>?_) ?_
   ·exact mA zHn [(0,[11,21]),(1,[]),(2,[11,21]),(3,[]),(4,[])] 17 [⟨[11,21],25,34,35⟩,⟨[11,21],28,2,33⟩] fun cx=>iN zHn 5 zC ev9 fun cx=>mA zHn [(6,[])] 15 [⟨[11,21],25,34,35⟩,⟨[11,21],28,2,33⟩] fun cx=>iN zHn 7 zE ev10 fun cx=>mA zHn (zl [8,9,10,12]++[(13,[21]),(14,[]),(15,[])]) 7 [⟨[21],25,45,46⟩,⟨[11,21],25,34,35⟩,⟨[11,21],28,2,33⟩] fun cx=>iN zHn 16 zC ev12 fun cx=>mA zHn [(17,[])] 5 [⟨[21],25,45,46⟩,⟨[11,21],25,34,35⟩,⟨[11,21],28,2,33⟩] fun cx=>iN zHn 18 zE ev13 fun cx=>mA zHn [(19,[]),(20,[])] 2 [⟨[21],25,45,46⟩,⟨[11,21],25,34,35⟩,⟨[11,21],28,2,33⟩] fun cx=>mC zHn 11<|vB [.rd,.rd,.rd] [.slot 6] (zAS n x0 v10.A ((([]:List Int)++((x1.drop ((0:Int)).toNat).take (((y1:Int)).toNat-((0:Int)).toNat)))++((x1.drop (((wI (y1+1)):Int)).toNat).take ((((x1.length:Int):Int)).toNat-(((wI (y1+1)):Int)).toNat))) r11 er11) (.inr (zN (zH (qf (z7 zx _)) zR) zS))<|fA<|mC zHn 21<|vA [.rd,.rd] (zCX n r11 v13.B r14 er14)<|fA<|mE zHn [54,5,2,1] [2]
   cases h3:r14
   ·have H:=YA h3 H
    exact nB_<|tK<|eA 3 38 4<|jB mo2 (wI (y1+1)) H [5,2,1] [2]
   have H:=YB h3 H
   refine tB_<|gA 1 16 0<|te ?_
   cases H
   exact fT Ho2
  exact qT [22] h2<|tB_<|Tr.exit<|aJ<|eA 3 38 4<|jB mo2 (wI (y1+1)) H [5,2,1] [2]
 rintro _ H
 have H:(zDe n)=some r:=H
 unfold zDe at H
 exact gA 1 16 0<|te (fF H)
def zAb(n:Nat)(y3:(List Int)):Option ((List Int)):=
  (some y3)
def ZJ(n:Nat):Nat→Net→Int→(List Int)→Option (((List Int))⊕((List Int)))
  |0,_,_,_=>none
  |mo4+1,x0,y1,y2=>(bif (decide (y1<(x0.Ls.length:Int)))then((qD n x0 y1).bind fun r5=>(bif r5 then(bif (decide (y2.length+ [y1].length≤268435456))then(ZJ n mo4 x0 (wI (y1+1)) (y2++[y1]))else none)else(ZJ n mo4 x0 (wI (y1+1)) y2)))else(some (Sum.inl y2)))
def ZY(n:Nat)(x0:Net):Option ((List Int)):=
  ((ZJ n n x0 0 ([]:List Int)).bind fun o=>match o with|.inl y3=>(zAb n y3)|.inr r=>some r)
theorem zGS(n:Nat)(x0:Net)(r:(List Int))(H:ZY n x0=some r):zb Tryz.prog 27 [.val true (fR (zD x0))] [.val false [.sl true 1 (r.map zC)]] []:=by
 refine cW Tryz.func27 (fun g d=>sl [g 0,g 1,sl [g 2] (.block 0 (.loop (sl [g 3,cn 9 .skip (.exit 0),.block 1 (sl [g 4,g 5] (cn 13 (g 6) .skip))] (g 7)))),g 8] .ret) [.tmp 2] fun cx=>?_
 unfold ZY at H
 refine gA 2 2 2<|gA 1 10 2<|tS<|rA 2<|kF x0.Ls zE<|uA 1 394 2 ?_
 obtain⟨o4,eo4,Ho4⟩:=bs H
 clear H
 refine zt (ι:=(List Int)) (fun v=>⟨20,0,[sC 3 (cL 1 v zC)],[]⟩) (fun v=>zAb n v=some r) ?_ ?_
 ·refine tB<|Tr.loop (ι:=Nat×(Int×(List Int))) (fun v=>⟨20,0,[sI 8 v.2.1,sI 7 (x0.Ls.length:Int),sC 3 (cL 1 v.2.2 zC),sA 1 1 3 0],[(1,(fR (zD x0)))]⟩) (fun v=>ZJ n v.1 x0 v.2.1 v.2.2=some o4) (fun v=>v.1) (n,(0,([]:List Int))) eo4 (za [8,7,3,1] [1] kr) ?_
  rintro⟨_|mo4,y1,y2⟩ H
  ·exact nN H
  have H:ZJ n (mo4+1) x0 y1 y2=some o4:=H
  rw[ZJ]at H
  refine gA 1 906 2<|tS ?_
  obtain⟨h1,H⟩|⟨h1,H⟩:=bC H
  ·refine nA h1<|Tr.exit<|aJ ?_
   cases H
   exact jA y2 Ho4 [3] []
  refine tA h1<|tK<|tS<|tB<|gA 2 410 2<|rA 2<|bE H fun r5 er5 H=>vA [.rd,.rd] (zDv n x0 y1 r5 er5)<|dA 8602 2 ?_
  cases h2:r5
  ·have H:=YA h2 H
   exact nB_<|tK<|eA 2 394 2<|jB mo4 ((wI (y1+1)),y2) H [8,7,3,1] [1]
  have H:=YB h2 H
  exact tB_<|Tr.at<|lA 3<|gE H fun hg6 H=>qO tOk (t:=30) (ty:=30) (e:=3) (x:=(.tmp 14)) (y:=(.tmp 16)) (d:=17) (g:=none) (tI 3) zC y2 [y1] kr kr kr kr kr kr kr kr kr kr hg6<|zY (T:=lk tab) (ty:=30) (x:=(.tmp 17)) (d:=3) (g:=none) false [cL 1 (y2++[y1]) zC] kr kr kr kr kr<|dA 394 2<|eA 2 394 2<|jB mo4 ((wI (y1+1)),(y2++[y1])) H [8,7,3,1] [1]
 rintro y3 H
 have H:(zAb n y3)=some r:=H
 unfold zAb at H
 exact gA 2 12 0<|te (fJ [(false,[cL 1 y3 zC])] H)
def zCl(n:Nat)(y5:Int):Option (Int):=
  (some y5)
def QG(n:Nat):Nat→(List Int)→Net→Int→Int→Option ((Int)⊕(Int))
  |0,_,_,_,_=>none
  |mo6+1,r2,x0,y3,y4=>(bif (decide (y3<(r2.length:Int)))then((idx r2 y3).bind fun v7=>(bif (decide (y4<0))then(QG n mo6 r2 x0 (wI (y3+1)) v7)else((idx x0.Bs v7).bind fun v8=>((idx x0.Bs y4).bind fun v9=>(bif (decide (v8.Id<v9.Id))then(QG n mo6 r2 x0 (wI (y3+1)) v7)else(QG n mo6 r2 x0 (wI (y3+1)) y4))))))else(some (Sum.inl y4)))
def ZN(n:Nat)(x0:Net)(x1:Int):Option (Int):=
  ((ZY n x0).bind fun r1=>((qg n x0 x1 r1).bind fun r2=>((QG n n r2 x0 0 (-1)).bind fun o=>match o with|.inl y5=>(zCl n y5)|.inr r=>some r)))
def zUJ:Tab:=⟨17,[0,1,2,4,12,4,52,68,132,4,516,4,3076,4100,8196,16644,32772],[0,1,2,4,12,4,52,68,132,4,516,4,3076,4100,8196,16644,32772],[0,1,3,7,15,7,63,127,255,7,519,7,3591,7687,15879,32767,65535]⟩
theorem zJO:qb (rg Tryz.f62 5) zUJ=true:=kr
theorem zKL(n:Nat)(x0:Net)(x1:Int)(r:Int)(H:ZN n x0 x1=some r):zb Tryz.prog 62 [.val true (fR (zD x0)),.val false [.lit (.int .i64 x1)]] [.val false [.lit (.int .i64 r)]] []:=by
 refine cW Tryz.func62 (fun g d=>sl [g 0,g 1,sl [d 2] (.block 0 (.loop (sl [g 3,cn 15 .skip (.exit 0),.block 1 (sl [g 4,d 5] (cn 34 (g 6) .skip))] (g 7)))),g 8] .ret) [.tmp 4] fun cx=>?_
 unfold ZN at H
 refine gA 2 6 4<|gA 1 38 4<|tS<|bE H fun r1 er1 H=>bE H fun r2 er2 H=>zd zr 7 kr ⟨38,0,[sI 14 0,sI 13 (r2.length:Int),sC 12 (cL 1 r2 zC),sI 5 (-1),sA 2 2 3 0],[(2,(fR (zD x0)))]⟩ (fun cx=>?_) ?_
 ·refine aA [(0,[4]),(1,[]),(2,[3,4]),(6,[])] 3 [⟨[3,4],28,2,10⟩,⟨[4],28,2,8⟩] fun cx=>bA 3<|vA [.rd] (zGS n x0 r1 er1)<|fA<|bA 4<|vA [.rd,.rd,.rd] (zAO n x0 x1 r1 r2 er2)<|fA<|aL tOk 5 30 3 3 12 13 none ⟨(.slot 12),[],0,true,1,(r2.map zC)⟩ (r2).length _ kr kr kr kr kr kr kr (zL8 _ _) rfl (fun cx=>?_)
  exact eE [14,13,12,5,2] [2]
 obtain⟨o6,eo6,Ho6⟩:=bs H
 clear H
 refine zt (ι:=Int) (fun v=>⟨38,0,[sI 5 v],[]⟩) (fun v=>zCl n v=some r) ?_ ?_
 ·refine tB<|Tr.loop (ι:=Nat×(Int×Int)) (fun v=>⟨38,0,[sI 14 v.2.1,sI 13 (r2.length:Int),sC 12 (cL 1 r2 zC),sI 5 v.2.2,sA 2 2 3 0],[(2,(fR (zD x0)))]⟩) (fun v=>QG n v.1 r2 x0 v.2.1 v.2.2=some o6) (fun v=>v.1) (n,(0,(-1))) eo6 (za [14,13,12,5,2] [2] kr) ?_
  rintro⟨_|mo6,y3,y4⟩ H
  ·exact nN H
  have H:QG n (mo6+1) r2 x0 y3 y4=some o6:=H
  rw[QG]at H
  refine gA 1 61476 4<|tS ?_
  obtain⟨h1,H⟩|⟨h1,H⟩:=bC H
  ·refine nA h1<|Tr.exit<|aJ ?_
   cases H
   exact jA y4 Ho6 [5] []
  refine tA h1<|tK<|tS<|tB<|tR<|bE H fun v7 ev7 H=>oA zC ev7<|dE (tI 3) (.slot 12) [(0,(y3.toNat))] 1 0 [cL 1 r2 zC] (zC v7) (Qc rfl (zU ev7).2)<|uA 1 28836 4<|sT ⟨38,0,[sI 7 v7,sI 14 y3,sI 13 (r2.length:Int),sC 12 (cL 1 r2 zC),sI 5 y4,sA 2 2 3 0],[(2,(fR (zD x0)))]⟩ ?_
  cases h2:(decide (y4<0))
  ·have H:=YA h2 H
   refine bE H fun v8 ev8 H=>bE H fun v9 ev9 H=>zd zr 17 kr ⟨38,0,[sB 34 (decide (v8.Id<v9.Id)),sI 7 v7,sI 14 y3,sI 13 (r2.length:Int),sC 12 (cL 1 r2 zC),sI 5 y4,sA 2 2 3 0],[(2,(fR (zD x0)))]⟩ (fun cx=>?_) ?_
   ·exact mA zJO (zl [0,1,2]) 14 [] fun cx=>qA 1077412 4 [20] h2<|mA zJO (zl [3,4,5]) 11 [⟨[],24,21,22⟩] fun cx=>iN zJO 6 zB ev8 fun cx=>mA zJO (zl [7,8,9,10,11]) 5 [⟨[],24,27,28⟩,⟨[],24,21,22⟩] fun cx=>iN zJO 12 zB ev9 fun cx=>mA zJO (zl [13,14,15,16]) 0 [⟨[],24,27,28⟩,⟨[],24,21,22⟩] fun cx=>mE zJO [34,7,14,13,12,5,2] [2]
   obtain⟨h3,H⟩|⟨h3,H⟩:=bC H
   ·exact qT [34] h3<|nB_<|tK<|eA 2 28708 4<|jB mo6 ((wI (y3+1)),y4) H [14,13,12,5,2] [2]
   exact qT [34] h3<|tB_<|eA 2 28708 4<|eA 2 28708 4<|jB mo6 ((wI (y3+1)),v7) H [14,13,12,5,2] [2]
  have H:=YB h2 H
  refine zd zr 17 kr ⟨38,0,[sB 34 true,sI 7 v7,sI 14 y3,sI 13 (r2.length:Int),sC 12 (cL 1 r2 zC),sI 5 y4,sA 2 2 3 0],[(2,(fR (zD x0)))]⟩ (fun cx=>?_) ?_
  ·exact mA zJO (zl [0,1,2]) 14 [] fun cx=>qA 1077412 4 [20] h2<|mA zJO (zl [3,4,5,6,7,8,9,10,11,12,13,14,15,16]) 0 [] fun cx=>mE zJO [34,7,14,13,12,5,2] [2]
  exact tB_<|eA 2 28708 4<|eA 2 28708 4<|jB mo6 ((wI (y3+1)),v7) H [14,13,12,5,2] [2]
 rintro y5 H
 have H:(zCl n y5)=some r:=H
 unfold zCl at H
 exact gA 2 16 0<|te (fJ [(false,[cI y5])] H)
def qw(n:Nat)(x0:Net)(x1:Int):Option (Int):=
  ((ZN n x0 x1).bind fun r1=>(bif (decide (r1<0))then(some 0)else((idx x0.Bs r1).bind fun v2=>(some v2.Id))))
theorem zAp(n:Nat)(x0:Net)(x1:Int)(r:Int)(H:qw n x0 x1=some r):zb Tryz.prog 21 [.val true (fR (zD x0)),.val false [.lit (.int .i64 x1)]] [.val false [.lit (.int .i64 r)]] []:=by
 refine cW Tryz.func21 (fun g d=>sl [g 0,g 1,sl [g 2] (cn 10 (sl [g 3] .ret) .skip),g 4] .ret) [.tmp 4] fun cx=>?_
 unfold qw at H
 refine gA 2 6 4<|rA 2<|bE H fun r1 er1 H=>vA [.rd,.rd] (zKL n x0 x1 r1 er1)<|uA 1 36 4<|tS<|gA 2 1060 4 ?_
 obtain⟨h1,H⟩|⟨h1,H⟩:=bC H
 ·exact nA h1<|tK<|rA 3<|bE H fun v2 ev2 H=>iA zB ev2<|uA 3 16 0<|te (fJ [(false,[cI v2.Id])] H)
 exact tA h1<|gA 1 16 0<|te (fJ [(false,[cI 0])] H)
def zB8(n:Nat)(y3:(List Int)):Option ((List Int)):=
  (some y3)
def QN(n:Nat):Nat→Net→Int→(List Int)→Option (((List Int))⊕((List Int)))
  |0,_,_,_=>none
  |mo4+1,x0,y1,y2=>(bif (decide (y1<(x0.Ls.length:Int)))then((qV n x0 y1).bind fun r5=>(bif r5 then(bif (decide (y2.length+ [y1].length≤268435456))then(QN n mo4 x0 (wI (y1+1)) (y2++[y1]))else none)else(QN n mo4 x0 (wI (y1+1)) y2)))else(some (Sum.inl y2)))
def Jr(n:Nat)(x0:Net):Option ((List Int)):=
  ((QN n n x0 0 ([]:List Int)).bind fun o=>match o with|.inl y3=>(zB8 n y3)|.inr r=>some r)
theorem zI8(n:Nat)(x0:Net)(r:(List Int))(H:Jr n x0=some r):zb Tryz.prog 28 [.val true (fR (zD x0))] [.val false [.sl true 1 (r.map zC)]] []:=by
 refine cW Tryz.func28 (fun g d=>sl [g 0,g 1,sl [g 2] (.block 0 (.loop (sl [sl [g 3] (cn 10 .skip (.exit 0)),.block 1 (sl [g 5] (cn 15 (g 6) .skip))] (g 4)))),g 7] .ret) [.tmp 2] fun cx=>?_
 unfold Jr at H
 refine gA 2 2 2<|rA 1<|zY (T:=lk tab) (ty:=30) (x:=(.tmp 5)) (d:=3) (g:=none) false [cL 1 ([]:List Int) zC] kr kr kr kr kr<|dA 10 2<|tS<|gA 1 26 2 ?_
 obtain⟨o4,eo4,Ho4⟩:=bs H
 clear H
 refine zt (ι:=(List Int)) (fun v=>⟨21,0,[sC 3 (cL 1 v zC)],[]⟩) (fun v=>zB8 n v=some r) ?_ ?_
 ·refine tB<|Tr.loop (ι:=Nat×(Int×(List Int))) (fun v=>⟨21,0,[sI 4 v.2.1,sC 3 (cL 1 v.2.2 zC),sA 1 1 3 0],[(1,(fR (zD x0)))]⟩) (fun v=>QN n v.1 x0 v.2.1 v.2.2=some o4) (fun v=>v.1) (n,(0,([]:List Int))) eo4 (za [4,3,1] [1] kr) ?_
  rintro⟨_|mo4,y1,y2⟩ H
  ·exact nN H
  have H:QN n (mo4+1) x0 y1 y2=some o4:=H
  rw[QN]at H
  refine tS<|rA 3<|kF x0.Ls zE<|uA 1 1050 2 ?_
  obtain⟨h1,H⟩|⟨h1,H⟩:=bC H
  ·refine nA h1<|Tr.exit<|aJ ?_
   cases H
   exact jA y2 Ho4 [3] []
  refine tA h1<|tK<|tS<|tB<|rA 2<|bE H fun r5 er5 H=>vA [.rd,.rd] (zAT n x0 y1 r5 er5)<|dA 32794 2 ?_
  cases h2:r5
  ·have H:=YA h2 H
   exact nB_<|tK<|eA 3 26 2<|jB mo4 ((wI (y1+1)),y2) H [4,3,1] [1]
  have H:=YB h2 H
  exact tB_<|Tr.at<|lA 3<|gE H fun hg6 H=>qO tOk (t:=30) (ty:=30) (e:=3) (x:=(.tmp 16)) (y:=(.tmp 18)) (d:=19) (g:=none) (tI 3) zC y2 [y1] kr kr kr kr kr kr kr kr kr kr hg6<|zY (T:=lk tab) (ty:=30) (x:=(.tmp 19)) (d:=3) (g:=none) false [cL 1 (y2++[y1]) zC] kr kr kr kr kr<|dA 26 2<|eA 3 26 2<|jB mo4 ((wI (y1+1)),(y2++[y1])) H [4,3,1] [1]
 rintro y3 H
 have H:(zB8 n y3)=some r:=H
 unfold zB8 at H
 exact gA 2 12 0<|te (fJ [(false,[cL 1 y3 zC])] H)
def J2(n:Nat)(y5:Int):Option (Int):=
  (some y5)
def ZM(n:Nat):Nat→(List Int)→Net→Int→Int→Option ((Int)⊕(Int))
  |0,_,_,_,_=>none
  |mo6+1,r2,x0,y3,y4=>(bif (decide (y3<(r2.length:Int)))then((idx r2 y3).bind fun v7=>((idx x0.Bs v7).bind fun v8=>(bif (y4==0)then(ZM n mo6 r2 x0 (wI (y3+1)) v8.Id)else(bif (decide (v8.Id<y4))then(ZM n mo6 r2 x0 (wI (y3+1)) v8.Id)else(ZM n mo6 r2 x0 (wI (y3+1)) y4)))))else(some (Sum.inl y4)))
def ZE(n:Nat)(x0:Net)(x1:Int):Option (Int):=
  ((Jr n x0).bind fun r1=>((Z5 n x0 x1 r1).bind fun r2=>((ZM n n r2 x0 0 0).bind fun o=>match o with|.inl y5=>(J2 n y5)|.inr r=>some r)))
theorem Jq(n:Nat)(x0:Net)(x1:Int)(r:Int)(H:ZE n x0 x1=some r):zb Tryz.prog 22 [.val true (fR (zD x0)),.val false [.lit (.int .i64 x1)]] [.val false [.lit (.int .i64 r)]] []:=by
 refine cW Tryz.func22 (fun g d=>sl [g 0,d 1,g 2,sl [g 3] (.block 0 (.loop (sl [sl [g 4] (cn 17 .skip (.exit 0)),.block 1 (sl [d 6,g 7] (cn 35 (g 8) .skip))] (g 5)))),g 9] .ret) [.tmp 4] fun cx=>?_
 unfold ZE at H
 refine gA 2 6 4<|bE H fun r1 er1 H=>bE H fun r2 er2 H=>zd zr 6 kr ⟨38,0,[sC 5 (cL 1 r2 zC),sA 2 2 3 0],[(2,(fR (zD x0)))]⟩ (fun cx=>?_) ?_
 ·exact aA [(0,[4]),(1,[]),(2,[3,4])] 3 [⟨[3,4],28,2,11⟩,⟨[4],28,2,9⟩] fun cx=>bA 3<|vA [.rd] (zI8 n x0 r1 er1)<|fA<|bA 4<|vA [.rd,.rd,.rd] (zAS n x0 x1 r1 r2 er2)<|fA<|bA 5<|zY (T:=lk tab) (ty:=30) (x:=(.tmp 13)) (d:=5) (g:=none) false [cL 1 r2 zC] kr kr kr kr kr<|fA<|eE [5,2] [2]
 refine gA 1 100 4<|tS<|gA 1 228 4 ?_
 obtain⟨o6,eo6,Ho6⟩:=bs H
 clear H
 refine zt (ι:=Int) (fun v=>⟨38,0,[sI 6 v],[]⟩) (fun v=>J2 n v=some r) ?_ ?_
 ·refine tB<|Tr.loop (ι:=Nat×(Int×Int)) (fun v=>⟨38,0,[sI 7 v.2.1,sI 6 v.2.2,sC 5 (cL 1 r2 zC),sA 2 2 3 0],[(2,(fR (zD x0)))]⟩) (fun v=>ZM n v.1 r2 x0 v.2.1 v.2.2=some o6) (fun v=>v.1) (n,(0,0)) eo6 (za [7,6,5,2] [2] kr) ?_
  rintro⟨_|mo6,y3,y4⟩ H
  ·exact nN H
  have H:ZM n (mo6+1) r2 x0 y3 y4=some o6:=H
  rw[ZM]at H
  refine tS<|rA 2<|kO r2 zC<|uA 1 131300 4 ?_
  obtain⟨h1,H⟩|⟨h1,H⟩:=bC H
  ·refine nA h1<|Tr.exit<|aJ ?_
   cases H
   exact jA y4 Ho6 [6] []
  refine tA h1<|tK<|tS<|tB<|bE H fun v7 ev7 H=>bE H fun v8 ev8 H=>zd zr 10 kr ⟨38,0,[sI 8 v8.Id,sI 7 y3,sI 6 y4,sC 5 (cL 1 r2 zC),sA 2 2 3 0],[(2,(fR (zD x0)))]⟩ (fun cx=>?_) ?_
  ·refine aA (zl [0,1,2,3]) 6 [⟨[],24,20,21⟩] fun cx=>aO tOk 4 30 0 22 23 24 none ⟨(.slot 5),[],0,true,1,(r2.map zC)⟩ y3 (y3.toNat) (zC v7) _ kr kr kr kr kr kr rfl kr (JG ev7) rfl rfl (fun cx=>?_)
   refine bA 5<|dE (tI 3) (.slot 5) [(0,(y3.toNat))] 1 0 [cL 1 r2 zC] (zC v7) (Qc rfl (zU ev7).2)<|fA<|aI tOk 6 24 0 21 25 26 none ⟨(.box 2),[(0,0)],0,false,11,(zQ (x0.Bs.map zB))⟩ v7 (fR (zB v8)) _ kr kr kr kr kr kr rfl (zCa ev8) rfl (fun cx=>?_)
   exact aA (zl [7,8,9]) 0 [⟨[],24,20,21⟩] fun cx=>eE [8,7,6,5,2] [2]
  refine rA 3 ?_
  obtain⟨h2,H⟩|⟨h2,H⟩:=bC H
  ·refine qL 2147484132 4 [31] h2<|uA 4 34359738852 4 ?_
   obtain⟨h3,H⟩|⟨h3,H⟩:=bC H
   ·exact nA h3<|tK<|eA 3 228 4<|jB mo6 ((wI (y3+1)),y4) H [7,6,5,2] [2]
   exact tA h3<|eA 2 228 4<|eA 3 228 4<|jB mo6 ((wI (y3+1)),v8.Id) H [7,6,5,2] [2]
  exact qL 2147484132 4 [31] h2<|uA 4 34359738852 4<|tB_<|eA 2 228 4<|eA 3 228 4<|jB mo6 ((wI (y3+1)),v8.Id) H [7,6,5,2] [2]
 rintro y5 H
 have H:(J2 n y5)=some r:=H
 unfold J2 at H
 exact gA 2 16 0<|te (fJ [(false,[cI y5])] H)
def JN(n:Nat)(x0:Int)(x1:Int)(x2:Int)(x3:(List Int))(x4:Net):Option ((List Int)):=
  ((idx x3 x0).bind fun v1=>(bif (decide (v1<0))then(some x3)else((idx x4.Bs x1).bind fun v2=>((idx v2.Ps x2).bind fun v3=>((idx x3 x1).bind fun v4=>(bif (decide (v4<0))then(some (x3.set (x1.toNat) (wI (v1+v3.Co))))else(bif (decide ((wI (v1+v3.Co))<v4))then(some (x3.set (x1.toNat) (wI (v1+v3.Co))))else(some x3))))))))
def zUK:Tab:=⟨16,[0,0,3,4,0,16,0,96,128,256,0,1536,2048,4096,8200,32767],[0,0,3,4,0,16,0,96,128,256,0,1536,2048,4096,8200,16384],[0,0,3,7,0,16,0,112,240,496,0,2032,4080,8176,16383,32767]⟩
noncomputable abbrev G63(k:Nat):=Rg Tryz.f63 k
noncomputable abbrev D63(k:Nat):=Rd Tryz.f63 k
theorem zJP:qb (rg Tryz.f63 1) zUK=true:=kr
theorem zHM(n:Nat)(x0:Int)(x1:Int)(x2:Int)(x3:(List Int))(x4:Net)(r:(List Int))(H:JN n x0 x1 x2 x3 x4=some r):zb Tryz.prog 63 [.val false [.lit (.int .i64 x0)],.val false [.lit (.int .i64 x1)],.val false [.lit (.int .i64 x2)],.ptr [.sl true 1 (x3.map zC)],.fad (fR (zD x4))] [] [(3,[.sl true 1 (r.map zC)])]:=by
 refine zu tOk Tryz.func63 rfl (c:=(.seq (.seq (G63 0) (.cond (.tmp 13) .ret .skip)) (.seq (D63 1) (.seq (G63 2) (.cond (.tmp 41) (G63 3) .skip))))) kr (Nat.le_of_ble_eq_true kr) 4 (rs:=[]) rfl [] .nil [] [] [(3,[.sl true 1 (r.map zC)])] fun cx=>?_
 show Tr _ _ _ ⟨46,4,[sI 0 x0,sI 1 x1,sI 2 x2,sA 3 3 1 0,(4,.fad ((fR (zD x4))))],[(3,[cL 1 x3 zC])]⟩ _
 unfold JN at H
 refine tS<|rA 2<|bE H fun v1 ev1 H=>oA zC ev1<|dE (tI 3) (.box 3) [(0,0),(0,(x0.toNat))] 1 0 [.sl true 1 [[cL 1 x3 zC]]] (zC v1) (zq rfl (zU ev1).2)<|uA 1 8223 8 ?_
 obtain⟨h1,H⟩|⟨h1,H⟩:=bC H
 ·refine nA h1<|tK<|bE H fun v2 ev2 H=>bE H fun v3 ev3 H=>zd zr 16 kr ⟨46,4,[sI 8 (wI (v1+v3.Co)),sI 1 x1,sA 3 3 1 0],[(3,[cL 1 x3 zC])]⟩ (fun cx=>?_) ?_
  ·exact mA zJP [(0,[]),(1,[])] 14 [⟨[],30,3,14⟩] fun cx=>oN zJP 2 zC ev1 fun cx=>mA zJP (zl [4,5,6]) 10 [⟨[],30,3,14⟩] fun cx=>iN zJP 7 zB ev2 fun cx=>mA zJP (zl [8,9,10]) 6 [⟨[],30,3,14⟩] fun cx=>iN zJP 11 zJ ev3 fun cx=>mA zJP [(12,[]),(13,[])] 3 [⟨[],30,3,14⟩] fun cx=>mC zJP 3<|dE (tI 3) (.box 3) [(0,0),(0,(x0.toNat))] 1 0 [.sl true 1 [[cL 1 x3 zC]]] (zC v1) (zq rfl (zU ev1).2)<|fA<|mA zJP [(14,[]),(15,[])] 0 [⟨[],30,3,14⟩] fun cx=>mE zJP [8,1,3] [3]
  refine rA 2<|bE H fun v4 ev4 H=>oA zC ev4<|dE (tI 3) (.box 3) [(0,0),(0,(x1.toNat))] 1 0 [.sl true 1 [[cL 1 x3 zC]]] (zC v4) (zq rfl (zU ev4).2)<|lA 2 ?_
  obtain⟨h2,H⟩|⟨h2,H⟩:=bC H
  ·refine qL 17179869450 8 [34] h2<|lA 3<|oA zC ev4<|dE (tI 3) (.box 3) [(0,0),(0,(x1.toNat))] 1 0 [.sl true 1 [[cL 1 x3 zC]]] (zC v4) (zq rfl (zU ev4).2)<|uA 2 2199023255818 8 ?_
   obtain⟨h3,H⟩|⟨h3,H⟩:=bC H
   ·exact nA h3<|tK<|fY [] [(3,[cL 1 x3 zC])] H
   exact tA h3<|Tr.at<|lA 3<|oA zC ev4<|QR tOk (t:=3) (ty:=0) (ad:=(.tmp 45)) (x:=(.tmp 44)) (g:=none) (tI 3) false [cI (wI (v1+v3.Co))] 3 0 (x1.toNat) 1 0 1 x3 zC v4 (wI (v1+v3.Co)) kr kr kr kr kr kr kr kr (zU ev4).2 kr kr kr kr<|dA 8 8<|fY [] [(3,[cL 1 (x3.set (x1.toNat) (wI (v1+v3.Co))) zC])] H
  exact qL 17179869450 8 [34] h2<|uA 7 2199023255818 8<|tB_<|Tr.at<|lA 3<|oA zC ev4<|QR tOk (t:=3) (ty:=0) (ad:=(.tmp 45)) (x:=(.tmp 44)) (g:=none) (tI 3) false [cI (wI (v1+v3.Co))] 3 0 (x1.toNat) 1 0 1 x3 zC v4 (wI (v1+v3.Co)) kr kr kr kr kr kr kr kr (zU ev4).2 kr kr kr kr<|dA 8 8<|fY [] [(3,[cL 1 (x3.set (x1.toNat) (wI (v1+v3.Co))) zC])] H
 exact tA h1<|te<|fY [] [(3,[cL 1 x3 zC])] H
def Jy(n:Nat)(x1:Int)(y9:(List Int)):Option (Int):=
  ((idx y9 x1).bind fun v10=>(some v10))
def Jz(n:Nat)(k:(Int×(List Int)→Option (((List Int))⊕(Int))))(y7:Int)(y15:(List Int)):Option (((List Int))⊕(Int)):=
  (k ((wI (y7+1)),y15))
def qz(n:Nat):Nat→(List Int)→Net→Int→(List Int)→Option (((List Int))⊕(Int))
  |0,_,_,_,_=>none
  |mo16+1,r12,x0,y13,y14=>(bif (decide (y13<(r12.length:Int)))then((idx r12 y13).bind fun v17=>((idx x0.Ls v17).bind fun v18=>((JN n v18.A v18.B v18.Q y14 x0).bind fun r19=>((JN n v18.B v18.A v18.P r19 x0).bind fun r20=>(qz n mo16 r12 x0 (wI (y13+1)) r20)))))else(some (Sum.inl y14)))
def ZW(n:Nat):Nat→Net→Int→(List Int)→Option (((List Int))⊕(Int))
  |0,_,_,_=>none
  |mo11+1,x0,y7,y8=>(bif (decide (y7<(x0.Bs.length:Int)))then((ZY n x0).bind fun r12=>((qz n n r12 x0 0 y8).bind fun o=>match o with|.inl y15=>(Jz n (fun v=>ZW n mo11 x0 v.1 v.2) y7 y15)|.inr r=>some (Sum.inr r)))else(some (Sum.inl y8)))
def Jx(n:Nat)(r1:Int)(x0:Net)(x1:Int)(y5:(List Int)):Option (Int):=
  ((idx y5 r1).bind fun v6=>((ZW n n x0 0 (y5.set (r1.toNat) 0)).bind fun o=>match o with|.inl y9=>(Jy n x1 y9)|.inr r=>some r))
def QW(n:Nat):Nat→Net→Int→(List Int)→Option (((List Int))⊕(Int))
  |0,_,_,_=>none
  |mo21+1,x0,y3,y4=>(bif (decide (y3<((List.replicate ((x0.Bs.length:Int)).toNat (0:Int)).length:Int)))then((idx y4 y3).bind fun v22=>(QW n mo21 x0 (wI (y3+1)) (y4.set (y3.toNat) (-1))))else(some (Sum.inl y4)))
def ZP(n:Nat)(x0:Net)(x1:Int):Option (Int):=
  ((ZN n x0 x1).bind fun r1=>(bif (decide (r1<0))then(some (-1))else(bif (decide (0≤(x0.Bs.length:Int))&&decide ((x0.Bs.length:Int)≤268435456))then((QW n n x0 0 (List.replicate ((x0.Bs.length:Int)).toNat (0:Int))).bind fun o=>match o with|.inl y5=>(Jx n r1 x0 x1 y5)|.inr r=>some r)else none)))
theorem zDV(n:Nat)(x0:Net)(x1:Int)(r:Int)(H:ZP n x0 x1=some r):zb Tryz.prog 23 [.val true (fR (zD x0)),.val false [.lit (.int .i64 x1)]] [.val false [.lit (.int .i64 r)]] []:=by
 refine cW Tryz.func23 (fun g d=>sl [g 0,g 1,sl [g 2] (cn 16 (sl [g 3] .ret) .skip),g 4,sl [g 5] (.block 0 (.loop (sl [g 6,cn 24 .skip (.exit 0),.block 1 (sl [g 7] (g 8))] (g 9)))),g 10,g 11,sl [g 12] (.block 2 (.loop (sl [g 13,cn 38 .skip (.exit 2),.block 3 (sl [g 14] (.block 4 (.loop (sl [g 15,cn 43 .skip (.exit 4),.block 5 (sl [g 16,g 17,g 18] (g 19))] (g 20)))))] (g 21)))),g 22] .ret) [.tmp 4] fun cx=>?_
 unfold ZP at H
 refine gA 2 6 4<|rA 2<|bE H fun r1 er1 H=>vA [.rd,.rd] (zKL n x0 x1 r1 er1)<|uA 1 38 4<|tS<|gA 2 65574 4 ?_
 obtain⟨h1,H⟩|⟨h1,H⟩:=bC H
 ·refine nA h1<|tK<|rA 2<|kF x0.Bs zB<|gE H fun hg2 H=>zN4 tOk (t:=30) (ty:=30) (e:=3) (x:=(.tmp 19)) (d:=20) (g:=none) (tI 3) (x0.Bs.length:Int) ((List.replicate ((x0.Bs.length:Int)).toNat 0).map zC) _ kr kr kr kr kr kr hg2 kr (zQg _ rfl) rfl<|uA 2 102 68<|tS<|rA 1<|kO (List.replicate ((x0.Bs.length:Int)).toNat (0:Int)) zC<|uA 1 12583014 68 ?_
  obtain⟨o21,eo21,Ho21⟩:=bs H
  clear H
  refine zt (ι:=(List Int)) (fun v=>⟨73,0,[sA 6 6 1 0,sI 5 r1,sA 2 2 3 0,sI 1 x1],[(6,[cL 1 v zC]),(2,(fR (zD x0)))]⟩) (fun v=>Jx n r1 x0 x1 v=some r) ?_ ?_
  ·refine tB<|Tr.loop (ι:=Nat×(Int×(List Int))) (fun v=>⟨73,0,[sI 23 v.2.1,sI 22 ((List.replicate ((x0.Bs.length:Int)).toNat (0:Int)).length:Int),sA 6 6 1 0,sI 5 r1,sA 2 2 3 0,sI 1 x1],[(6,[cL 1 v.2.2 zC]),(2,(fR (zD x0)))]⟩) (fun v=>QW n v.1 x0 v.2.1 v.2.2=some o21) (fun v=>v.1) (n,(0,(List.replicate ((x0.Bs.length:Int)).toNat (0:Int)))) eo21 (za [23,22,6,5,2,1] [6,2] kr) ?_
   rintro⟨_|mo21,y3,y4⟩ H
   ·exact nN H
   have H:QW n (mo21+1) x0 y3 y4=some o21:=H
   rw[QW]at H
   refine gA 1 29360230 68<|tS ?_
   obtain⟨h4,H⟩|⟨h4,H⟩:=bC H
   ·refine nA h4<|Tr.exit<|aJ ?_
    cases H
    exact jA y4 Ho21 [6,5,2,1] [6,2]
   exact tA h4<|tK<|tS<|tB<|gA 2 12583142 68<|Tr.at<|lA 2<|bE H fun v22 ev22 H=>oA zC ev22<|QR tOk (t:=3) (ty:=0) (ad:=(.tmp 28)) (x:=(.const (.int .i64 (-1)))) (g:=none) (tI 3) false [cI (-1)] 6 0 (y3.toNat) 1 0 1 y4 zC v22 (-1) kr kr kr kr kr kr kr kr (zU ev22).2 kr kr kr kr<|dA 12583014 68<|eA 2 12583014 68<|jB mo21 ((wI (y3+1)),(y4.set (y3.toNat) (-1))) H [23,22,6,5,2,1] [6,2]
  rintro y5 H
  have H:(Jx n r1 x0 x1 y5)=some r:=H
  unfold Jx at H
  refine rA 2<|bE H fun v6 ev6 H=>oA zC ev6<|QR tOk (t:=3) (ty:=0) (ad:=(.tmp 32)) (x:=(.const (.int .i64 0))) (g:=none) (tI 3) false [cI 0] 6 0 (r1.toNat) 1 0 1 y5 zC v6 0 kr kr kr kr kr kr kr kr (zU ev6).2 kr kr kr kr<|dA 70 68<|Tr.fadB 2 2 (fR (zD x0))<|zR9 7 fun vs=>tR<|yF 63 [6,2]<|uA 1 326 64<|tS<|rA 2<|kF x0.Bs zB<|uA 1 206158430534 64 ?_
  obtain⟨o11,eo11,Ho11⟩:=bs H
  clear H
  refine zt (ι:=(List Int)) (fun v=>⟨73,7,[sA 6 6 1 0,sI 1 x1],[(6,[cL 1 v zC])]⟩) (fun v=>Jy n x1 v=some r) ?_ ?_
  ·refine tB<|Tr.loop (ι:=Nat×(Int×(List Int))) (fun v=>⟨73,7,[sI 37 v.2.1,sI 36 (x0.Bs.length:Int),sC 8 (.lit (zPA vs 63 [6,2])),(2,.fad ((fR (zD x0)))),sA 6 6 1 0,sI 1 x1],[(6,[cL 1 v.2.2 zC])]⟩) (fun v=>ZW n v.1 x0 v.2.1 v.2.2=some o11) (fun v=>v.1) (n,(0,(y5.set (r1.toNat) 0))) eo11 (za [37,36,8,2,6,1] [6] kr) ?_
   rintro⟨_|mo11,y7,y8⟩ H
   ·exact nN H
   have H:ZW n (mo11+1) x0 y7 y8=some o11:=H
   rw[ZW]at H
   refine gA 1 481036337478 64<|tS ?_
   obtain⟨h2,H⟩|⟨h2,H⟩:=bC H
   ·refine nA h2<|Tr.exit<|aJ ?_
    cases H
    exact jA y8 Ho11 [6,1] [6]
   refine tA h2<|tK<|tS<|tB<|rA 1<|bE H fun r12 er12 H=>vA [.rd] (zGS n x0 r12 er12)<|kO r12 zC<|uA 1 7902739824966 64 ?_
   obtain⟨o16,eo16,Ho16⟩:=bs H
   clear H
   refine zt (ι:=(List Int)) (fun v=>⟨73,7,[sI 37 y7,sI 36 (x0.Bs.length:Int),sC 8 (.lit (zPA vs 63 [6,2])),(2,.fad ((fR (zD x0)))),sA 6 6 1 0,sI 1 x1],[(6,[cL 1 v zC])]⟩) (fun v=>Jz n (fun v=>ZW n mo11 x0 v.1 v.2) y7 v=some o11) ?_ ?_
   ·refine tB<|Tr.loop (ι:=Nat×(Int×(List Int))) (fun v=>⟨73,7,[sI 42 v.2.1,sI 41 (r12.length:Int),sC 40 (cL 1 r12 zC),sI 37 y7,sI 36 (x0.Bs.length:Int),sC 8 (.lit (zPA vs 63 [6,2])),(2,.fad ((fR (zD x0)))),sA 6 6 1 0,sI 1 x1],[(6,[cL 1 v.2.2 zC])]⟩) (fun v=>qz n v.1 r12 x0 v.2.1 v.2.2=some o16) (fun v=>v.1) (n,(0,y8)) eo16 (za [42,41,40,37,36,8,2,6,1] [6] kr) ?_
    rintro⟨_|mo16,y13,y14⟩ H
    ·exact nN H
    have H:qz n (mo16+1) r12 x0 y13 y14=some o16:=H
    rw[qz]at H
    refine gA 1 0xf3000000146 64<|tS ?_
    obtain⟨h3,H⟩|⟨h3,H⟩:=bC H
    ·refine nA h3<|Tr.exit<|aJ ?_
     cases H
     exact jA y14 Ho16 [37,36,8,2,6,1] [6]
    exact tA h3<|tK<|tS<|tB<|tR<|bE H fun v17 ev17 H=>oA zC ev17<|dE (tI 3) (.slot 40) [(0,(y13.toNat))] 1 0 [cL 1 r12 zC] (zC v17) (Qc rfl (zU ev17).2)<|uA 1 7902739825990 64<|rA 3<|bE H fun v18 ev18 H=>iA zE ev18<|uA 3 7902739827014 2112<|rA 7<|bE H fun r19 er19 H=>yC 51 [6,2] [0,0] [.rd,.rd,.rd,.lend,.rd] (zHM n v18.A v18.B v18.Q y14 x0 r19 er19)<|dA 7902739827014 2112<|Tr.at<|lA 7<|bE H fun r20 er20 H=>yC 59 [6,2] [0,0] [.rd,.rd,.rd,.lend,.rd] (zHM n v18.B v18.A v18.P r19 x0 r20 er20)<|dA 7902739824966 64<|eA 2 7902739824966 64<|jB mo16 ((wI (y13+1)),r20) H [42,41,40,37,36,8,2,6,1] [6]
   rintro y15 H
   have H:(Jz n (fun v=>ZW n mo11 x0 v.1 v.2) y7 y15)=some o11:=H
   unfold Jz at H
   exact eA 2 206158430534 64<|jB mo11 ((wI (y7+1)),y15) H [37,36,8,2,6,1] [6]
  rintro y9 H
  have H:(Jy n x1 y9)=some r:=H
  unfold Jy at H
  exact zSA<|rA 2<|bE H fun v10 ev10 H=>oA zC ev10<|dE (tI 3) (.box 6) [(0,0),(0,(x1.toNat))] 1 0 [.sl true 1 [[cL 1 y9 zC]]] (zC v10) (zq rfl (zU ev10).2)<|uA 1 16 0<|te (fJ [(false,[cI v10])] H)
 exact tA h1<|gA 1 16 0<|te (fJ [(false,[cI (-1)])] H)
def zA8(n:Nat)(y4:(List Int)):Option ((List Int)):=
  (some y4)
def Qf(n:Nat)(k:(Int×(List Int)→Option (((List Int))⊕((List Int)))))(v11:Pt)(v7:Link)(x1:(List Int))(y12:(List Int))(y2:Int)(y13:Bool):Option (((List Int))⊕((List Int))):=
  (bif y13 then((idx x1 v7.B).bind fun v14=>((idx y12 v7.A).bind fun v15=>(k ((wI (y2+1)),(y12.set (v7.A.toNat) (wI (v14+v11.Co)))))))else(k ((wI (y2+1)),y12)))
def Qe(n:Nat)(k:(Int×(List Int)→Option (((List Int))⊕((List Int)))))(v11:Pt)(v7:Link)(x1:(List Int))(y2:Int)(y12:(List Int)):Option (((List Int))⊕((List Int))):=
  ((idx x1 v7.B).bind fun v16=>(bif (decide (v16≥0))then((idx y12 v7.A).bind fun v17=>(bif (decide (v17<0))then(Qf n k v11 v7 x1 y12 y2 true)else((idx x1 v7.B).bind fun v18=>(Qf n k v11 v7 x1 y12 y2 (decide ((wI (v18+v11.Co))<v17))))))else(Qf n k v11 v7 x1 y12 y2 false)))
def QB(n:Nat)(k:(Int×(List Int)→Option (((List Int))⊕((List Int)))))(v11:Pt)(v7:Link)(v9:Pt)(x1:(List Int))(y2:Int)(y3:(List Int))(y19:Bool):Option (((List Int))⊕((List Int))):=
  (bif y19 then((idx x1 v7.A).bind fun v20=>((idx y3 v7.B).bind fun v21=>(Qe n k v11 v7 x1 y2 (y3.set (v7.B.toNat) (wI (v20+v9.Co))))))else(Qe n k v11 v7 x1 y2 y3))
def zi(n:Nat):Nat→Net→(List Int)→Int→(List Int)→Option (((List Int))⊕((List Int)))
  |0,_,_,_,_=>none
  |mo5+1,x0,x1,y2,y3=>(bif (decide (y2<(x0.Ls.length:Int)))then((qV n x0 y2).bind fun r6=>(bif (!r6)then(zi n mo5 x0 x1 (wI (y2+1)) y3)else((idx x0.Ls y2).bind fun v7=>((idx x0.Bs v7.B).bind fun v8=>((idx v8.Ps v7.Q).bind fun v9=>((idx x0.Bs v7.A).bind fun v10=>((idx v10.Ps v7.P).bind fun v11=>((idx x1 v7.A).bind fun v22=>(bif (decide (v22≥0))then((idx y3 v7.B).bind fun v23=>(bif (decide (v23<0))then(QB n (fun v=>zi n mo5 x0 x1 v.1 v.2) v11 v7 v9 x1 y2 y3 true)else((idx x1 v7.A).bind fun v24=>(QB n (fun v=>zi n mo5 x0 x1 v.1 v.2) v11 v7 v9 x1 y2 y3 (decide ((wI (v24+v9.Co))<v23))))))else(QB n (fun v=>zi n mo5 x0 x1 v.1 v.2) v11 v7 v9 x1 y2 y3 false))))))))))else(some (Sum.inl y3)))
def QP(n:Nat)(x0:Net)(x1:(List Int)):Option ((List Int)):=
  (bif (decide (([]:List Int).length+x1.length≤268435456))then((zi n n x0 x1 0 (([]:List Int)++x1)).bind fun o=>match o with|.inl y4=>(zA8 n y4)|.inr r=>some r)else none)
def zUL:Tab:=⟨13,[0,1,0,4,10,16,32,0,128,320,512,1024,4095],[0,1,0,4,10,16,32,0,128,320,512,1024,2048],[0,1,0,4,15,31,63,0,128,511,1023,2047,4095]⟩
theorem zOP:qb (rg Tryz.f64 7) zUL=true:=kr
def zUM:Tab:=⟨13,[0,1,0,4,10,16,32,0,128,320,512,1024,4095],[0,1,0,4,10,16,32,0,128,320,512,1024,2048],[0,1,0,4,15,31,63,0,128,511,1023,2047,4095]⟩
theorem zOQ:qb (rg Tryz.f64 8) zUM=true:=kr
def zUN:Tab:=⟨29,[0,0,2,5,8,16,32,64,64,320,704,1088,2112,4160,8192,8192,40960,90112,139264,8192,794624,8192,8192,4202496,10493952,16785408,34611200,67117120,134217792],[0,0,2,5,8,16,32,64,64,320,704,1088,2112,4160,8192,8192,40960,90112,139264,8192,794624,8192,8192,4202496,10493952,16785408,34611200,67117120,134217792],[0,0,2,7,15,31,63,127,127,383,1023,2047,4095,8191,16383,16383,49151,131071,262143,16383,1048575,16383,16383,4210687,14696447,31473663,67108863,134217727,268435455]⟩
theorem zA0:qb (rg Tryz.f64 9) zUN=true:=kr
def zTX:Tab:=⟨12,[0,0,2,0,0,16,40,64,0,384,1023,2047],[0,0,2,0,0,16,40,64,0,384,5,1536],[0,0,2,0,0,16,56,120,0,504,1023,2047]⟩
theorem zK6:qb (rg Tryz.f64 10) zTX=true:=kr
def zTY:Tab:=⟨29,[0,0,2,5,8,16,32,64,64,320,704,1088,2112,4160,8192,8192,40960,90112,139264,8192,794624,8192,8192,4202496,10493952,16785408,34611200,67117120,134217792],[0,0,2,5,8,16,32,64,64,320,704,1088,2112,4160,8192,8192,40960,90112,139264,8192,794624,8192,8192,4202496,10493952,16785408,34611200,67117120,134217792],[0,0,2,7,15,31,63,127,127,383,1023,2047,4095,8191,16383,16383,49151,131071,262143,16383,1048575,16383,16383,4210687,14696447,31473663,67108863,134217727,268435455]⟩
theorem YZ:qb (rg Tryz.f64 11) zTY=true:=kr
def zTZ:Tab:=⟨12,[0,0,2,0,0,16,40,64,0,384,1023,2047],[0,0,2,0,0,16,40,64,0,384,5,1536],[0,0,2,0,0,16,56,120,0,504,1023,2047]⟩
theorem zK7:qb (rg Tryz.f64 12) zTZ=true:=kr
theorem zLW(n:Nat)(x0:Net)(x1:(List Int))(r:(List Int))(H:QP n x0 x1=some r):zb Tryz.prog 64 [.val true (fR (zD x0)),.val false [.sl false 1 (zQ (x1.map zC))]] [.val false [.sl true 1 (r.map zC)]] []:=by
 refine cW Tryz.func64 (fun g d=>sl [g 0,g 1,sl [g 2] (.block 0 (.loop (sl [sl [g 3] (cn 17 .skip (.exit 0)),.block 1 (sl [sl [g 5] (cn 23 (.exit 1) .skip),g 6,d 7,d 8,sl [d 9] (cn 81 (d 10) .skip),d 11] (cn 121 (d 12) .skip))] (g 4)))),g 13] .ret) [.tmp 4] fun cx=>?_
 unfold QP at H
 refine gA 2 6 4<|rA 2<|gE H fun hg1 H=>pD zC hg1<|zY (T:=lk tab) (ty:=30) (x:=(.tmp 12)) (d:=5) (g:=none) false [cL 1 (([]:List Int)++x1) zC] kr kr kr kr kr<|dA 38 4<|tS<|gA 1 102 4 ?_
 obtain⟨o5,eo5,Ho5⟩:=bs H
 clear H
 refine zt (ι:=(List Int)) (fun v=>⟨134,0,[sC 5 (cL 1 v zC)],[]⟩) (fun v=>zA8 n v=some r) ?_ ?_
 ·refine tB<|Tr.loop (ι:=Nat×(Int×(List Int))) (fun v=>⟨134,0,[sI 6 v.2.1,sC 5 (cL 1 v.2.2 zC),sA 2 2 3 0,sC 1 (cF 1 x1 zC)],[(2,(fR (zD x0)))]⟩) (fun v=>zi n v.1 x0 x1 v.2.1 v.2.2=some o5) (fun v=>v.1) (n,(0,(([]:List Int)++x1))) eo5 (za [6,5,2,1] [2] kr) ?_
  rintro⟨_|mo5,y2,y3⟩ H
  ·exact nN H
  have H:zi n (mo5+1) x0 x1 y2 y3=some o5:=H
  rw[zi]at H
  refine tS<|rA 3<|kF x0.Ls zE<|uA 1 131174 4 ?_
  obtain⟨h1,H⟩|⟨h1,H⟩:=bC H
  ·refine nA h1<|Tr.exit<|aJ ?_
   cases H
   exact jA y3 Ho5 [5] []
  refine tA h1<|tK<|tS<|tB<|tS<|rA 2<|bE H fun r6 er6 H=>vA [.rd,.rd] (zAT n x0 y2 r6 er6)<|uA 1 8388710 4 ?_
  obtain⟨h2,H⟩|⟨h2,H⟩:=bC H
  ·refine nA h2<|tK<|rA 3<|bE H fun v7 ev7 H=>iA zE ev7<|uA 3 230 132<|bE H fun v8 ev8 H=>bE H fun v9 ev9 H=>zd zr 13 kr ⟨134,0,[sI 8 v9.Co,sA 7 7 4 0,sI 6 y2,sC 5 (cL 1 y3 zC),sA 2 2 3 0,sC 1 (cF 1 x1 zC)],[(7,(zE v7)),(2,(fR (zD x0)))]⟩ (fun cx=>?_) ?_
   ·exact mA zOP (zl [0,1,2,3]) 9 [⟨[],3,31,32⟩,⟨[],24,29,30⟩] fun cx=>iN zOP 4 zB ev8 fun cx=>mA zOP (zl [5,6,7,8]) 4 [⟨[],3,36,37⟩,⟨[],3,31,32⟩,⟨[],24,29,30⟩] fun cx=>iN zOP 9 zJ ev9 fun cx=>mA zOP (zl [10,11,12]) 0 [⟨[],3,36,37⟩,⟨[],3,31,32⟩,⟨[],24,29,30⟩] fun cx=>mE zOP [8,7,6,5,2,1] [7,2]
   refine bE H fun v10 ev10 H=>bE H fun v11 ev11 H=>zd zr 13 kr ⟨134,0,[sI 9 v11.Co,sI 8 v9.Co,sA 7 7 4 0,sI 6 y2,sC 5 (cL 1 y3 zC),sA 2 2 3 0,sC 1 (cF 1 x1 zC)],[(7,(zE v7)),(2,(fR (zD x0)))]⟩ (fun cx=>?_) ?_
   ·exact mA zOQ (zl [0,1,2,3]) 9 [⟨[],3,43,44⟩,⟨[],24,41,42⟩] fun cx=>iN zOQ 4 zB ev10 fun cx=>mA zOQ (zl [5,6,7,8]) 4 [⟨[],3,48,49⟩,⟨[],3,43,44⟩,⟨[],24,41,42⟩] fun cx=>iN zOQ 9 zJ ev11 fun cx=>mA zOQ (zl [10,11,12]) 0 [⟨[],3,48,49⟩,⟨[],3,43,44⟩,⟨[],24,41,42⟩] fun cx=>mE zOQ [9,8,7,6,5,2,1] [7,2]
   refine tS<|zt (ι:=(List Int)) (fun v=>⟨134,0,[sI 9 v11.Co,sA 7 7 4 0,sI 6 y2,sC 5 (cL 1 v zC),sA 2 2 3 0,sC 1 (cF 1 x1 zC)],[(7,(zE v7)),(2,(fR (zD x0)))]⟩) (fun v=>Qe n (fun v=>zi n mo5 x0 x1 v.1 v.2) v11 v7 x1 y2 v=some o5) ?_ ?_
   ·refine tS<|zt (ι:=Bool) (fun v=>⟨134,0,[sB 81 v,sI 9 v11.Co,sI 8 v9.Co,sA 7 7 4 0,sI 6 y2,sC 5 (cL 1 y3 zC),sA 2 2 3 0,sC 1 (cF 1 x1 zC)],[(7,(zE v7)),(2,(fR (zD x0)))]⟩) (fun v=>QB n (fun v=>zi n mo5 x0 x1 v.1 v.2) v11 v7 v9 x1 y2 y3 v=some o5) ?_ ?_
    ·refine bE H fun v22 ev22 H=>sT ⟨134,0,[sI 9 v11.Co,sI 8 v9.Co,sA 7 7 4 0,sI 6 y2,sC 5 (cL 1 y3 zC),sA 2 2 3 0,sC 1 (cF 1 x1 zC)],[(7,(zE v7)),(2,(fR (zD x0)))]⟩ ?_
     cases h7:(decide (v22≥0))
     ·have H:=YA h7 H
      refine qr zr 29 kr ⟨134,0,[sB 81 false,sI 9 v11.Co,sI 8 v9.Co,sA 7 7 4 0,sI 6 y2,sC 5 (cL 1 y3 zC),sA 2 2 3 0,sC 1 (cF 1 x1 zC)],[(7,(zE v7)),(2,(fR (zD x0)))]⟩ (fun cx=>?_) ?_
      ·exact mA zA0 (zl [0,1,2]) 26 [⟨[],3,54,55⟩] fun cx=>iN zA0 3 zC ev22 fun cx=>mA zA0 (zl [4,5,6]) 22 [⟨[],3,54,55⟩] fun cx=>qA 0x8c00000000003e6 132 [59] h7<|mA zA0 (zl [7,8,9,10,11,12,13,14,15,16,17,18,19,20,21,22,23,24,25,26,27,28]) 0 [⟨[],3,54,55⟩] fun cx=>mE zA0 [81,9,8,7,6,5,2,1] [7,2]
      exact jA false H [81,9,8,7,6,5,2,1] [7,2]
     have H:=YB h7 H
     refine bE H fun v23 ev23 H=>sT ⟨134,0,[sI 9 v11.Co,sI 8 v9.Co,sA 7 7 4 0,sI 6 y2,sC 5 (cL 1 y3 zC),sA 2 2 3 0,sC 1 (cF 1 x1 zC)],[(7,(zE v7)),(2,(fR (zD x0)))]⟩ ?_
     cases h8:(decide (v23<0))
     ·have H:=YA h8 H
      refine bE H fun v24 ev24 H=>qr zr 29 kr ⟨134,0,[sB 81 (decide ((wI (v24+v9.Co))<v23)),sI 9 v11.Co,sI 8 v9.Co,sA 7 7 4 0,sI 6 y2,sC 5 (cL 1 y3 zC),sA 2 2 3 0,sC 1 (cF 1 x1 zC)],[(7,(zE v7)),(2,(fR (zD x0)))]⟩ (fun cx=>?_) ?_
      ·exact mA zA0 (zl [0,1,2]) 26 [⟨[],3,54,55⟩] fun cx=>iN zA0 3 zC ev22 fun cx=>mA zA0 (zl [4,5,6]) 22 [⟨[],3,54,55⟩] fun cx=>qA 0x8c00000000003e6 132 [59] h7<|mA zA0 (zl [7,8,9]) 19 [⟨[],3,61,62⟩,⟨[],3,54,55⟩] fun cx=>oN zA0 10 zC ev23 fun cx=>mC zA0 11<|dE (tI 3) (.slot 5) [(0,(v7.B.toNat))] 1 0 [cL 1 y3 zC] (zC v23) (Qc rfl (zU ev23).2)<|fA<|mA zA0 [(12,[]),(13,[])] 15 [⟨[],3,61,62⟩,⟨[],3,54,55⟩] fun cx=>qA 0x468c00000000003e6 132 [66] h8<|mA zA0 (zl [14,15,16]) 12 [⟨[],3,68,69⟩,⟨[],3,61,62⟩,⟨[],3,54,55⟩] fun cx=>iN zA0 17 zC ev24 fun cx=>mA zA0 (zl [18,19,20,21,22,23]) 5 [⟨[],3,75,76⟩,⟨[],3,68,69⟩,⟨[],3,61,62⟩,⟨[],3,54,55⟩] fun cx=>oN zA0 24 zC ev23 fun cx=>mC zA0 25<|dE (tI 3) (.slot 5) [(0,(v7.B.toNat))] 1 0 [cL 1 y3 zC] (zC v23) (Qc rfl (zU ev23).2)<|fA<|mA zA0 (zl [26,27,28]) 0 [⟨[],3,75,76⟩,⟨[],3,68,69⟩,⟨[],3,61,62⟩,⟨[],3,54,55⟩] fun cx=>mE zA0 [81,9,8,7,6,5,2,1] [7,2]
      exact jA (decide ((wI (v24+v9.Co))<v23)) H [81,9,8,7,6,5,2,1] [7,2]
     have H:=YB h8 H
     refine qr zr 29 kr ⟨134,0,[sB 81 true,sI 9 v11.Co,sI 8 v9.Co,sA 7 7 4 0,sI 6 y2,sC 5 (cL 1 y3 zC),sA 2 2 3 0,sC 1 (cF 1 x1 zC)],[(7,(zE v7)),(2,(fR (zD x0)))]⟩ (fun cx=>?_) ?_
     ·exact mA zA0 (zl [0,1,2]) 26 [⟨[],3,54,55⟩] fun cx=>iN zA0 3 zC ev22 fun cx=>mA zA0 (zl [4,5,6]) 22 [⟨[],3,54,55⟩] fun cx=>qA 0x8c00000000003e6 132 [59] h7<|mA zA0 (zl [7,8,9]) 19 [⟨[],3,61,62⟩,⟨[],3,54,55⟩] fun cx=>oN zA0 10 zC ev23 fun cx=>mC zA0 11<|dE (tI 3) (.slot 5) [(0,(v7.B.toNat))] 1 0 [cL 1 y3 zC] (zC v23) (Qc rfl (zU ev23).2)<|fA<|mA zA0 [(12,[]),(13,[])] 15 [⟨[],3,61,62⟩,⟨[],3,54,55⟩] fun cx=>qA 0x468c00000000003e6 132 [66] h8<|mA zA0 (zl [14,15,16,17,18,19,20,21,22,23,24,25,26,27,28]) 0 [⟨[],3,61,62⟩,⟨[],3,54,55⟩] fun cx=>mE zA0 [81,9,8,7,6,5,2,1] [7,2]
     exact jA true H [81,9,8,7,6,5,2,1] [7,2]
    rintro y19 H
    have H:(QB n (fun v=>zi n mo5 x0 x1 v.1 v.2) v11 v7 v9 x1 y2 y3 y19)=some o5:=H
    unfold QB at H
    cases h6:y19
    ·have H:=YA h6 H
     exact nB_<|tK<|jA y3 H [9,7,6,5,2,1] [7,2]
    have H:=YB h6 H
    refine tB_<|bE H fun v20 ev20 H=>bE H fun v21 ev21 H=>qr zr 12 kr ⟨134,0,[sC 5 (cL 1 (y3.set (v7.B.toNat) (wI (v20+v9.Co))) zC),sI 9 v11.Co,sA 7 7 4 0,sI 6 y2,sA 2 2 3 0,sC 1 (cF 1 x1 zC)],[(7,(zE v7)),(2,(fR (zD x0)))]⟩ (fun cx=>?_) ?_
    ·exact mA zK6 [(0,[]),(1,[]),(2,[11]),(3,[]),(4,[]),(5,[11])] 6 [⟨[11],3,86,87⟩,⟨[11],3,83,84⟩] fun cx=>iN zK6 6 zC ev20 fun cx=>mA zK6 (zl [7,8,9]) 2 [⟨[11],3,86,87⟩,⟨[11],3,83,84⟩] fun cx=>oN zK6 10 zC ev21 fun cx=>mC zK6 11<|sS (tI 3) false [cI (wI (v20+v9.Co))] 5 0 (v7.B.toNat) 1 0 1 zC (wI (v20+v9.Co)) (zU ev21).2<|fA<|mE zK6 [5,9,7,6,2,1] [7,2]
    exact jA (y3.set (v7.B.toNat) (wI (v20+v9.Co))) H [9,7,6,5,2,1] [7,2]
   rintro y12 H
   have H:(Qe n (fun v=>zi n mo5 x0 x1 v.1 v.2) v11 v7 x1 y2 y12)=some o5:=H
   unfold Qe at H
   refine tS<|zt (ι:=Bool) (fun v=>⟨134,0,[sB 121 v,sI 9 v11.Co,sA 7 7 4 0,sI 6 y2,sC 5 (cL 1 y12 zC),sA 2 2 3 0,sC 1 (cF 1 x1 zC)],[(7,(zE v7)),(2,(fR (zD x0)))]⟩) (fun v=>Qf n (fun v=>zi n mo5 x0 x1 v.1 v.2) v11 v7 x1 y12 y2 v=some o5) ?_ ?_
   ·refine bE H fun v16 ev16 H=>sT ⟨134,0,[sI 9 v11.Co,sA 7 7 4 0,sI 6 y2,sC 5 (cL 1 y12 zC),sA 2 2 3 0,sC 1 (cF 1 x1 zC)],[(7,(zE v7)),(2,(fR (zD x0)))]⟩ ?_
    cases h4:(decide (v16≥0))
    ·have H:=YA h4 H
     refine qr zr 29 kr ⟨134,0,[sB 121 false,sI 9 v11.Co,sA 7 7 4 0,sI 6 y2,sC 5 (cL 1 y12 zC),sA 2 2 3 0,sC 1 (cF 1 x1 zC)],[(7,(zE v7)),(2,(fR (zD x0)))]⟩ (fun cx=>?_) ?_
     ·exact mA YZ (zl [0,1,2]) 26 [⟨[],3,94,95⟩] fun cx=>iN YZ 3 zC ev16 fun cx=>mA YZ (zl [4,5,6]) 22 [⟨[],3,94,95⟩] fun cx=>qA 0x8c000000000000000000002e6 132 [99] h4<|mA YZ (zl [7,8,9,10,11,12,13,14,15,16,17,18,19,20,21,22,23,24,25,26,27,28]) 0 [⟨[],3,94,95⟩] fun cx=>mE YZ [121,9,7,6,5,2,1] [7,2]
     exact jA false H [121,9,7,6,5,2,1] [7,2]
    have H:=YB h4 H
    refine bE H fun v17 ev17 H=>sT ⟨134,0,[sI 9 v11.Co,sA 7 7 4 0,sI 6 y2,sC 5 (cL 1 y12 zC),sA 2 2 3 0,sC 1 (cF 1 x1 zC)],[(7,(zE v7)),(2,(fR (zD x0)))]⟩ ?_
    cases h5:(decide (v17<0))
    ·have H:=YA h5 H
     refine bE H fun v18 ev18 H=>qr zr 29 kr ⟨134,0,[sB 121 (decide ((wI (v18+v11.Co))<v17)),sI 9 v11.Co,sA 7 7 4 0,sI 6 y2,sC 5 (cL 1 y12 zC),sA 2 2 3 0,sC 1 (cF 1 x1 zC)],[(7,(zE v7)),(2,(fR (zD x0)))]⟩ (fun cx=>?_) ?_
     ·exact mA YZ (zl [0,1,2]) 26 [⟨[],3,94,95⟩] fun cx=>iN YZ 3 zC ev16 fun cx=>mA YZ (zl [4,5,6]) 22 [⟨[],3,94,95⟩] fun cx=>qA 0x8c000000000000000000002e6 132 [99] h4<|mA YZ (zl [7,8,9]) 19 [⟨[],3,101,102⟩,⟨[],3,94,95⟩] fun cx=>oN YZ 10 zC ev17 fun cx=>mC YZ 11<|dE (tI 3) (.slot 5) [(0,(v7.A.toNat))] 1 0 [cL 1 y12 zC] (zC v17) (Qc rfl (zU ev17).2)<|fA<|mA YZ [(12,[]),(13,[])] 15 [⟨[],3,101,102⟩,⟨[],3,94,95⟩] fun cx=>qA 0x468c000000000000000000002e6 132 [106] h5<|mA YZ (zl [14,15,16]) 12 [⟨[],3,108,109⟩,⟨[],3,101,102⟩,⟨[],3,94,95⟩] fun cx=>iN YZ 17 zC ev18 fun cx=>mA YZ (zl [18,19,20,21,22,23]) 5 [⟨[],3,115,116⟩,⟨[],3,108,109⟩,⟨[],3,101,102⟩,⟨[],3,94,95⟩] fun cx=>oN YZ 24 zC ev17 fun cx=>mC YZ 25<|dE (tI 3) (.slot 5) [(0,(v7.A.toNat))] 1 0 [cL 1 y12 zC] (zC v17) (Qc rfl (zU ev17).2)<|fA<|mA YZ (zl [26,27,28]) 0 [⟨[],3,115,116⟩,⟨[],3,108,109⟩,⟨[],3,101,102⟩,⟨[],3,94,95⟩] fun cx=>mE YZ [121,9,7,6,5,2,1] [7,2]
     exact jA (decide ((wI (v18+v11.Co))<v17)) H [121,9,7,6,5,2,1] [7,2]
    have H:=YB h5 H
    refine qr zr 29 kr ⟨134,0,[sB 121 true,sI 9 v11.Co,sA 7 7 4 0,sI 6 y2,sC 5 (cL 1 y12 zC),sA 2 2 3 0,sC 1 (cF 1 x1 zC)],[(7,(zE v7)),(2,(fR (zD x0)))]⟩ (fun cx=>?_) ?_
    ·exact mA YZ (zl [0,1,2]) 26 [⟨[],3,94,95⟩] fun cx=>iN YZ 3 zC ev16 fun cx=>mA YZ (zl [4,5,6]) 22 [⟨[],3,94,95⟩] fun cx=>qA 0x8c000000000000000000002e6 132 [99] h4<|mA YZ (zl [7,8,9]) 19 [⟨[],3,101,102⟩,⟨[],3,94,95⟩] fun cx=>oN YZ 10 zC ev17 fun cx=>mC YZ 11<|dE (tI 3) (.slot 5) [(0,(v7.A.toNat))] 1 0 [cL 1 y12 zC] (zC v17) (Qc rfl (zU ev17).2)<|fA<|mA YZ [(12,[]),(13,[])] 15 [⟨[],3,101,102⟩,⟨[],3,94,95⟩] fun cx=>qA 0x468c000000000000000000002e6 132 [106] h5<|mA YZ (zl [14,15,16,17,18,19,20,21,22,23,24,25,26,27,28]) 0 [⟨[],3,101,102⟩,⟨[],3,94,95⟩] fun cx=>mE YZ [121,9,7,6,5,2,1] [7,2]
    exact jA true H [121,9,7,6,5,2,1] [7,2]
   rintro y13 H
   have H:(Qf n (fun v=>zi n mo5 x0 x1 v.1 v.2) v11 v7 x1 y12 y2 y13)=some o5:=H
   unfold Qf at H
   cases h3:y13
   ·have H:=YA h3 H
    exact nB_<|tK<|eA 3 102 4<|jB mo5 ((wI (y2+1)),y12) H [6,5,2,1] [2]
   have H:=YB h3 H
   refine tB_<|bE H fun v14 ev14 H=>bE H fun v15 ev15 H=>qr zr 12 kr ⟨134,0,[sC 5 (cL 1 (y12.set (v7.A.toNat) (wI (v14+v11.Co))) zC),sI 6 y2,sA 2 2 3 0,sC 1 (cF 1 x1 zC)],[(2,(fR (zD x0)))]⟩ (fun cx=>?_) ?_
   ·exact mA zK7 [(0,[]),(1,[]),(2,[11]),(3,[]),(4,[]),(5,[11])] 6 [⟨[11],3,126,127⟩,⟨[11],3,123,124⟩] fun cx=>iN zK7 6 zC ev14 fun cx=>mA zK7 (zl [7,8,9]) 2 [⟨[11],3,126,127⟩,⟨[11],3,123,124⟩] fun cx=>oN zK7 10 zC ev15 fun cx=>mC zK7 11<|sS (tI 3) false [cI (wI (v14+v11.Co))] 5 0 (v7.A.toNat) 1 0 1 zC (wI (v14+v11.Co)) (zU ev15).2<|fA<|mE zK7 [5,6,2,1] [2]
   exact eA 3 102 4<|jB mo5 ((wI (y2+1)),(y12.set (v7.A.toNat) (wI (v14+v11.Co)))) H [6,5,2,1] [2]
  exact tA h2<|Tr.exit<|aJ<|eA 3 102 4<|jB mo5 ((wI (y2+1)),y3) H [6,5,2,1] [2]
 rintro y4 H
 have H:(zA8 n y4)=some r:=H
 unfold zA8 at H
 exact gA 2 48 0<|te (fJ [(false,[cL 1 y4 zC])] H)
def J1(n:Nat)(x1:Int)(y8:(List Int)):Option (Int):=
  ((idx y8 x1).bind fun v9=>(some v9))
def QX(n:Nat):Nat→Net→Int→(List Int)→Option (((List Int))⊕(Int))
  |0,_,_,_=>none
  |mo10+1,x0,y6,y7=>(bif (decide (y6<(x0.Bs.length:Int)))then((QP n x0 y7).bind fun r11=>(QX n mo10 x0 (wI (y6+1)) r11))else(some (Sum.inl y7)))
def J0(n:Nat)(x0:Net)(x1:Int)(y5:(List Int)):Option (Int):=
  ((QX n n x0 0 y5).bind fun o=>match o with|.inl y8=>(J1 n x1 y8)|.inr r=>some r)
def ZX(n:Nat):Nat→Int→Net→Int→(List Int)→Option (((List Int))⊕(Int))
  |0,_,_,_,_=>none
  |mo12+1,r2,x0,y3,y4=>(bif (decide (y3<(x0.Bs.length:Int)))then((idx x0.Bs y3).bind fun v13=>(bif (v13.Id==r2)then(bif (decide (y4.length+ [0].length≤268435456))then(ZX n mo12 r2 x0 (wI (y3+1)) (y4++[0]))else none)else(bif (decide (y4.length+ [(-1)].length≤268435456))then(ZX n mo12 r2 x0 (wI (y3+1)) (y4++[(-1)]))else none)))else(some (Sum.inl y4)))
def QH(n:Nat)(x0:Net)(x1:Int):Option (Int):=
  ((ze n x1 0 (wI ((x0.Bs.length:Int)-1))).bind fun r1=>(bif (!r1)then(some (-1))else((ZE n x0 x1).bind fun r2=>((ZX n n r2 x0 0 ([]:List Int)).bind fun o=>match o with|.inl y5=>(J0 n x0 x1 y5)|.inr r=>some r))))
theorem zDc(n:Nat)(x0:Net)(x1:Int)(r:Int)(H:QH n x0 x1=some r):zb Tryz.prog 24 [.val true (fR (zD x0)),.val false [.lit (.int .i64 x1)]] [.val false [.lit (.int .i64 r)]] []:=by
 refine cW Tryz.func24 (fun g d=>sl [g 0,sl [g 1] (cn 16 (sl [g 2] .ret) .skip),g 3,g 4,sl [g 5] (.block 0 (.loop (sl [sl [g 6] (cn 25 .skip (.exit 0)),.block 1 (sl [g 8,sl [g 9] (cn 35 (g 10) .skip)] (g 11))] (g 7)))),sl [g 12] (.block 2 (.loop (sl [sl [g 13] (cn 44 .skip (.exit 2)),.block 3 (g 15)] (g 14)))),g 16] .ret) [.tmp 4] fun cx=>?_
 unfold QH at H
 refine gA 2 6 4<|tS<|rA 3<|kF x0.Bs zB<|lA 1<|bE H fun r1 er1 H=>vA [.rd,.rd,.rd] (zf n x1 0 (wI ((x0.Bs.length:Int)-1)) r1 er1)<|uA 1 65542 4 ?_
 obtain⟨h1,H⟩|⟨h1,H⟩:=bC H
 ·refine nA h1<|tK<|rA 2<|bE H fun r2 er2 H=>vA [.rd,.rd] (Jq n x0 x1 r2 er2)<|uA 1 38 4<|rA 1<|zY (T:=lk tab) (ty:=30) (x:=(.tmp 20)) (d:=6) (g:=none) false [cL 1 ([]:List Int) zC] kr kr kr kr kr<|dA 102 4<|tS<|gA 1 230 4 ?_
  obtain⟨o12,eo12,Ho12⟩:=bs H
  clear H
  refine zt (ι:=(List Int)) (fun v=>⟨54,0,[sC 6 (cL 1 v zC),sA 2 2 3 0,sI 1 x1],[(2,(fR (zD x0)))]⟩) (fun v=>J0 n x0 x1 v=some r) ?_ ?_
  ·refine tB<|Tr.loop (ι:=Nat×(Int×(List Int))) (fun v=>⟨54,0,[sI 7 v.2.1,sC 6 (cL 1 v.2.2 zC),sI 5 r2,sA 2 2 3 0,sI 1 x1],[(2,(fR (zD x0)))]⟩) (fun v=>ZX n v.1 r2 x0 v.2.1 v.2.2=some o12) (fun v=>v.1) (n,(0,([]:List Int))) eo12 (za [7,6,5,2,1] [2] kr) ?_
   rintro⟨_|mo12,y3,y4⟩ H
   ·exact nN H
   have H:ZX n (mo12+1) r2 x0 y3 y4=some o12:=H
   rw[ZX]at H
   refine tS<|rA 3<|kF x0.Bs zB<|uA 1 33554662 4 ?_
   obtain⟨h3,H⟩|⟨h3,H⟩:=bC H
   ·refine nA h3<|Tr.exit<|aJ ?_
    cases H
    exact jA y4 Ho12 [6,2,1] [2]
   refine tA h3<|tK<|tS<|tB<|gA 1 486 4<|tS<|rA 3<|bE H fun v13 ev13 H=>iA zB ev13<|uA 4 34359738854 4 ?_
   obtain⟨h4,H⟩|⟨h4,H⟩:=bC H
   ·exact nA h4<|tK<|Tr.at<|lA 3<|gE H fun hg14 H=>qO tOk (t:=30) (ty:=30) (e:=3) (x:=(.tmp 36)) (y:=(.tmp 38)) (d:=39) (g:=none) (tI 3) zC y4 [(-1)] kr kr kr kr kr kr kr kr kr kr hg14<|zY (T:=lk tab) (ty:=30) (x:=(.tmp 39)) (d:=6) (g:=none) false [cL 1 (y4++[(-1)]) zC] kr kr kr kr kr<|dA 230 4<|eA 3 230 4<|jB mo12 ((wI (y3+1)),(y4++[(-1)])) H [7,6,5,2,1] [2]
   exact tA h4<|eA 1 486 4<|Tr.at<|lA 3<|gE H fun hg15 H=>qO tOk (t:=30) (ty:=30) (e:=3) (x:=(.tmp 36)) (y:=(.tmp 38)) (d:=39) (g:=none) (tI 3) zC y4 [0] kr kr kr kr kr kr kr kr kr kr hg15<|zY (T:=lk tab) (ty:=30) (x:=(.tmp 39)) (d:=6) (g:=none) false [cL 1 (y4++[0]) zC] kr kr kr kr kr<|dA 230 4<|eA 3 230 4<|jB mo12 ((wI (y3+1)),(y4++[0])) H [7,6,5,2,1] [2]
  rintro y5 H
  have H:(J0 n x0 x1 y5)=some r:=H
  unfold J0 at H
  refine tS<|gA 1 582 4 ?_
  obtain⟨o10,eo10,Ho10⟩:=bs H
  clear H
  refine zt (ι:=(List Int)) (fun v=>⟨54,0,[sC 6 (cL 1 v zC),sI 1 x1],[]⟩) (fun v=>J1 n x1 v=some r) ?_ ?_
  ·refine tB<|Tr.loop (ι:=Nat×(Int×(List Int))) (fun v=>⟨54,0,[sI 9 v.2.1,sC 6 (cL 1 v.2.2 zC),sA 2 2 3 0,sI 1 x1],[(2,(fR (zD x0)))]⟩) (fun v=>QX n v.1 x0 v.2.1 v.2.2=some o10) (fun v=>v.1) (n,(0,y5)) eo10 (za [9,6,2,1] [2] kr) ?_
   rintro⟨_|mo10,y6,y7⟩ H
   ·exact nN H
   have H:QX n (mo10+1) x0 y6 y7=some o10:=H
   rw[QX]at H
   refine tS<|rA 3<|kF x0.Bs zB<|uA 1 17592186044998 4 ?_
   obtain⟨h2,H⟩|⟨h2,H⟩:=bC H
   ·refine nA h2<|Tr.exit<|aJ ?_
    cases H
    exact jA y7 Ho10 [6,1] []
   exact tA h2<|tK<|tS<|tB<|Tr.at<|lA 2<|bE H fun r11 er11 H=>vB [.rd,.rd] [.slot 6] (zLW n x0 y7 r11 er11) (.inr (zN (zH (qf (z7 zx _)) zR) zS))<|zY (T:=lk tab) (ty:=30) (x:=(.tmp 49)) (d:=6) (g:=none) false [cL 1 r11 zC] kr kr kr kr kr<|dA 582 4<|eA 3 582 4<|jB mo10 ((wI (y6+1)),r11) H [9,6,2,1] [2]
  rintro y8 H
  have H:(J1 n x1 y8)=some r:=H
  unfold J1 at H
  exact rA 2<|bE H fun v9 ev9 H=>oA zC ev9<|dE (tI 3) (.slot 6) [(0,(x1.toNat))] 1 0 [cL 1 y8 zC] (zC v9) (Qc rfl (zU ev9).2)<|uA 1 16 0<|te (fJ [(false,[cI v9])] H)
 exact tA h1<|gA 1 16 0<|te (fJ [(false,[cI (-1)])] H)
def zBR(n:Nat)(x0:Net)(x1:Int):Option (Bool):=
  ((ql n x1 0 (wI ((x0.Bs.length:Int)-1))).bind fun r1=>(bif (!r1)then(some false)else((idx x0.Bs x1).bind fun v2=>((idx x0.Bs x1).bind fun v3=>((Jn n v2.Id v3.Ps).bind fun r4=>((qw n x0 x1).bind fun r5=>(bif (r4.1.Root==r5)then((ZP n x0 x1).bind fun r6=>(some (r4.1.Co==r6)))else(some false))))))))
def zT7:Tab:=⟨19,[0,1,0,6,8,16,0,64,0,384,512,1024,2080,4096,8192,8192,0,98303,262143],[0,1,0,6,8,16,0,64,0,384,512,1024,2080,4096,8192,8192,0,81920,32768],[0,1,0,7,15,31,0,64,0,448,960,1984,4095,8191,16383,16383,0,98303,262143]⟩
theorem zDN:qb (rg Tryz.f25 3) zT7=true:=kr
def zT8:Tab:=⟨15,[0,1,0,0,12,18,48,64,192,64,64,1600,2368,4160,16383],[0,1,0,0,12,18,32,64,192,64,64,1600,2368,4160,8192],[0,1,0,0,12,31,63,127,255,127,127,1663,4095,8191,16383]⟩
theorem zHo:qb (rg Tryz.f25 4) zT8=true:=kr
theorem zL1(n:Nat)(x0:Net)(x1:Int)(r:Bool)(H:zBR n x0 x1=some r):zb Tryz.prog 25 [.val true (fR (zD x0)),.val false [.lit (.int .i64 x1)]] [.val false [.lit (.bool r)]] []:=by
 refine cW Tryz.func25 (fun g d=>sl [g 0,sl [g 1] (cn 13 (sl [g 2] .ret) .skip),d 3,d 4] .ret) [.tmp 4] fun cx=>?_
 unfold zBR at H
 refine gA 2 6 4<|tS<|rA 3<|kF x0.Bs zB<|lA 1<|bE H fun r1 er1 H=>vA [.rd,.rd,.rd] (Ys n x1 0 (wI ((x0.Bs.length:Int)-1)) r1 er1)<|uA 1 8198 4 ?_
 obtain⟨h1,H⟩|⟨h1,H⟩:=bC H
 ·refine nA h1<|tK<|bE H fun v2 ev2 H=>bE H fun v3 ev3 H=>bE H fun r4 er4 H=>zd zr 19 kr ⟨44,0,[sA 5 5 5 0,sA 2 2 3 0,sI 1 x1],[(5,(zj r4.1)),(2,(fR (zD x0)))]⟩ (fun cx=>?_) ?_
  ·refine mA zDN [(0,[]),(1,[12,17]),(2,[])] 16 [⟨[12,17],24,15,16⟩] fun cx=>iN zDN 3 zB ev2 fun cx=>mA zDN (zl [4,5,6]++[(7,[12,17]),(8,[])]) 10 [⟨[12,17],24,21,22⟩,⟨[12,17],24,15,16⟩] fun cx=>iN zDN 9 zB ev3 fun cx=>mA zDN [(10,[]),(11,[])] 7 [⟨[12,17],24,21,22⟩,⟨[12,17],24,15,16⟩] fun cx=>mB2 tOk zDN 12 16 kr (And.intro kr ?_) (And.intro kr ?_)
   ·refine vA [.rd,.rd] (zES n v2.Id v3.Ps r4 er4)<|fA<|AT.movT tOk 13 (ty:=86) (t:=27) (d:=14) (g:=none) [(true,(zj r4.1)),(false,[cI r4.2])] _ kr (oM zDN kr) (dM zDN kr) (.inl rfl) kr kr kr kr rfl (fun cx=>?_)
    exact mA zDN [(14,[]),(15,[])] 3 [⟨[12,17],24,21,22⟩,⟨[12,17],24,15,16⟩] fun cx=>mC zDN 16<|lA 1<|fA<|mC zDN 17<|lA 1<|fA<|mA zDN [(18,[])] 0 [⟨[12,17],24,21,22⟩,⟨[12,17],24,15,16⟩] fun cx=>mE zDN [5,2,1] [5,2]
   ·refine lA 1<|fA<|mC zDN 12<|vA [.rd,.rd] (zES n v2.Id v3.Ps r4 er4)<|fA<|AT.movT tOk 13 (ty:=86) (t:=27) (d:=14) (g:=none) [(true,(zj r4.1)),(false,[cI r4.2])] _ kr (oM zDN kr) (dM zDN kr) (.inl rfl) kr kr kr kr rfl (fun cx=>?_)
    exact mA zDN [(14,[]),(15,[])] 2 [⟨[12,17],24,21,22⟩,⟨[12,17],24,15,16⟩] fun cx=>mC zDN 17<|lA 1<|fA<|mA zDN [(18,[])] 0 [⟨[12,17],24,21,22⟩,⟨[12,17],24,15,16⟩] fun cx=>mE zDN [5,2,1] [5,2]
  refine bE H fun r5 er5 H=>sT ⟨44,0,[sA 5 5 5 0,sA 2 2 3 0,sI 1 x1],[(5,(zj r4.1)),(2,(fR (zD x0)))]⟩ ?_
  cases h2:(r4.1.Root==r5)
  ·have H:=YA h2 H
   refine zd zr 15 kr ⟨44,0,[sB 4 false],[]⟩ (fun cx=>?_) ?_
   ·exact mA zHo [(0,[]),(1,[]),(2,[4]),(3,[])] 11 [⟨[4],28,2,32⟩,⟨[],3,30,31⟩] fun cx=>mC zHo 4<|vA [.rd,.rd] (zAp n x0 x1 r5 er5)<|fA<|mA zHo [(5,[]),(6,[])] 8 [⟨[4],28,2,32⟩,⟨[],3,30,31⟩] fun cx=>qA 76235669542 36 [36] h2<|mA zHo (zl [7,8,9,10,11,12,13,14]) 0 [⟨[4],28,2,32⟩,⟨[],3,30,31⟩] fun cx=>mE zHo [4] []
   exact te (fF H)
  have H:=YB h2 H
  refine bE H fun r6 er6 H=>zd zr 15 kr ⟨44,0,[sB 4 (r4.1.Co==r6)],[]⟩ (fun cx=>?_) ?_
  ·exact mA zHo [(0,[]),(1,[11]),(2,[4,11]),(3,[])] 11 [⟨[4,11],28,2,32⟩,⟨[11],3,30,31⟩] fun cx=>mC zHo 4<|vA [.rd,.rd] (zAp n x0 x1 r5 er5)<|fA<|mA zHo [(5,[]),(6,[])] 8 [⟨[4,11],28,2,32⟩,⟨[11],3,30,31⟩] fun cx=>qA 76235669542 36 [36] h2<|mA zHo [(7,[]),(8,[]),(9,[11]),(10,[])] 4 [⟨[11],28,2,39⟩,⟨[],3,37,38⟩,⟨[4,11],28,2,32⟩,⟨[11],3,30,31⟩] fun cx=>mC zHo 11<|vA [.rd,.rd] (zDV n x0 x1 r6 er6)<|fA<|mA zHo (zl [12,13,14]) 0 [⟨[11],28,2,39⟩,⟨[],3,37,38⟩,⟨[4,11],28,2,32⟩,⟨[11],3,30,31⟩] fun cx=>mE zHo [4] []
  exact te (fJ [(false,[cB (r4.1.Co==r6)])] H)
 exact tA h1<|gA 1 16 0<|te (fF H)
def zBT(n:Nat)(x0:Net)(x1:Int):Option (Bool):=
  ((ze n x1 0 (wI ((x0.Bs.length:Int)-1))).bind fun r1=>(bif (!r1)then(some false)else((idx x0.Bs x1).bind fun v2=>((idx x0.Bs x1).bind fun v3=>((Qm n v2.Id v3.Ps).bind fun r4=>((ZE n x0 x1).bind fun r5=>(bif (r4.1.Root==r5)then((QH n x0 x1).bind fun r6=>(some (r4.1.Co==r6)))else(some false))))))))
def zT9:Tab:=⟨19,[0,1,0,6,8,16,0,64,0,384,512,1024,2080,4096,8192,8192,0,98303,262143],[0,1,0,6,8,16,0,64,0,384,512,1024,2080,4096,8192,8192,0,81920,32768],[0,1,0,7,15,31,0,64,0,448,960,1984,4095,8191,16383,16383,0,98303,262143]⟩
theorem zDO:qb (rg Tryz.f26 3) zT9=true:=kr
def zUA:Tab:=⟨15,[0,1,0,0,12,18,48,64,192,64,64,1600,2368,4160,16383],[0,1,0,0,12,18,32,64,192,64,64,1600,2368,4160,8192],[0,1,0,0,12,31,63,127,255,127,127,1663,4095,8191,16383]⟩
theorem zHp:qb (rg Tryz.f26 4) zUA=true:=kr
theorem zMG(n:Nat)(x0:Net)(x1:Int)(r:Bool)(H:zBT n x0 x1=some r):zb Tryz.prog 26 [.val true (fR (zD x0)),.val false [.lit (.int .i64 x1)]] [.val false [.lit (.bool r)]] []:=by
 refine cW Tryz.func26 (fun g d=>sl [g 0,sl [g 1] (cn 13 (sl [g 2] .ret) .skip),d 3,d 4] .ret) [.tmp 4] fun cx=>?_
 unfold zBT at H
 refine gA 2 6 4<|tS<|rA 3<|kF x0.Bs zB<|lA 1<|bE H fun r1 er1 H=>vA [.rd,.rd,.rd] (zf n x1 0 (wI ((x0.Bs.length:Int)-1)) r1 er1)<|uA 1 8198 4 ?_
 obtain⟨h1,H⟩|⟨h1,H⟩:=bC H
 ·refine nA h1<|tK<|bE H fun v2 ev2 H=>bE H fun v3 ev3 H=>bE H fun r4 er4 H=>zd zr 19 kr ⟨44,0,[sA 5 5 5 0,sA 2 2 3 0,sI 1 x1],[(5,(zj r4.1)),(2,(fR (zD x0)))]⟩ (fun cx=>?_) ?_
  ·refine mA zDO [(0,[]),(1,[12,17]),(2,[])] 16 [⟨[12,17],24,15,16⟩] fun cx=>iN zDO 3 zB ev2 fun cx=>mA zDO (zl [4,5,6]++[(7,[12,17]),(8,[])]) 10 [⟨[12,17],24,21,22⟩,⟨[12,17],24,15,16⟩] fun cx=>iN zDO 9 zB ev3 fun cx=>mA zDO [(10,[]),(11,[])] 7 [⟨[12,17],24,21,22⟩,⟨[12,17],24,15,16⟩] fun cx=>mB2 tOk zDO 12 16 kr (And.intro kr ?_) (And.intro kr ?_)
   ·refine vA [.rd,.rd] (zEW n v2.Id v3.Ps r4 er4)<|fA<|AT.movT tOk 13 (ty:=86) (t:=27) (d:=14) (g:=none) [(true,(zj r4.1)),(false,[cI r4.2])] _ kr (oM zDO kr) (dM zDO kr) (.inl rfl) kr kr kr kr rfl (fun cx=>?_)
    exact mA zDO [(14,[]),(15,[])] 3 [⟨[12,17],24,21,22⟩,⟨[12,17],24,15,16⟩] fun cx=>mC zDO 16<|lA 1<|fA<|mC zDO 17<|lA 1<|fA<|mA zDO [(18,[])] 0 [⟨[12,17],24,21,22⟩,⟨[12,17],24,15,16⟩] fun cx=>mE zDO [5,2,1] [5,2]
   ·refine lA 1<|fA<|mC zDO 12<|vA [.rd,.rd] (zEW n v2.Id v3.Ps r4 er4)<|fA<|AT.movT tOk 13 (ty:=86) (t:=27) (d:=14) (g:=none) [(true,(zj r4.1)),(false,[cI r4.2])] _ kr (oM zDO kr) (dM zDO kr) (.inl rfl) kr kr kr kr rfl (fun cx=>?_)
    exact mA zDO [(14,[]),(15,[])] 2 [⟨[12,17],24,21,22⟩,⟨[12,17],24,15,16⟩] fun cx=>mC zDO 17<|lA 1<|fA<|mA zDO [(18,[])] 0 [⟨[12,17],24,21,22⟩,⟨[12,17],24,15,16⟩] fun cx=>mE zDO [5,2,1] [5,2]
  refine bE H fun r5 er5 H=>sT ⟨44,0,[sA 5 5 5 0,sA 2 2 3 0,sI 1 x1],[(5,(zj r4.1)),(2,(fR (zD x0)))]⟩ ?_
  cases h2:(r4.1.Root==r5)
  ·have H:=YA h2 H
   refine zd zr 15 kr ⟨44,0,[sB 4 false],[]⟩ (fun cx=>?_) ?_
   ·exact mA zHp [(0,[]),(1,[]),(2,[4]),(3,[])] 11 [⟨[4],28,2,32⟩,⟨[],3,30,31⟩] fun cx=>mC zHp 4<|vA [.rd,.rd] (Jq n x0 x1 r5 er5)<|fA<|mA zHp [(5,[]),(6,[])] 8 [⟨[4],28,2,32⟩,⟨[],3,30,31⟩] fun cx=>qA 76235669542 36 [36] h2<|mA zHp (zl [7,8,9,10,11,12,13,14]) 0 [⟨[4],28,2,32⟩,⟨[],3,30,31⟩] fun cx=>mE zHp [4] []
   exact te (fF H)
  have H:=YB h2 H
  refine bE H fun r6 er6 H=>zd zr 15 kr ⟨44,0,[sB 4 (r4.1.Co==r6)],[]⟩ (fun cx=>?_) ?_
  ·exact mA zHp [(0,[]),(1,[11]),(2,[4,11]),(3,[])] 11 [⟨[4,11],28,2,32⟩,⟨[11],3,30,31⟩] fun cx=>mC zHp 4<|vA [.rd,.rd] (Jq n x0 x1 r5 er5)<|fA<|mA zHp [(5,[]),(6,[])] 8 [⟨[4,11],28,2,32⟩,⟨[11],3,30,31⟩] fun cx=>qA 76235669542 36 [36] h2<|mA zHp [(7,[]),(8,[]),(9,[11]),(10,[])] 4 [⟨[11],28,2,39⟩,⟨[],3,37,38⟩,⟨[4,11],28,2,32⟩,⟨[11],3,30,31⟩] fun cx=>mC zHp 11<|vA [.rd,.rd] (zDc n x0 x1 r6 er6)<|fA<|mA zHp (zl [12,13,14]) 0 [⟨[11],28,2,39⟩,⟨[],3,37,38⟩,⟨[4,11],28,2,32⟩,⟨[11],3,30,31⟩] fun cx=>mE zHp [4] []
  exact te (fJ [(false,[cB (r4.1.Co==r6)])] H)
 exact tA h1<|gA 1 16 0<|te (fF H)
def zAI(n:Nat)(x0:(List Int)):Option (Bool):=
  ((zHv n x0).bind fun r1=>(bif r1 then(some true)else((zBb n x0).bind fun r2=>((zBc n x0).bind fun r3=>((zB7 n x0).bind fun r4=>((zAJ n x0).bind fun r5=>((zA4 n x0).bind fun r6=>((Zy n r2).bind fun r7=>((Z4 n r2).bind fun r8=>(bif (r7==r8)then((Yj n r2).bind fun r9=>((Yl n r2).bind fun r10=>((qM n r9 r10).bind fun r11=>(bif r11 then((qg n r3.1 r3.2.1 r3.2.2).bind fun r12=>((Z5 n r3.1 r3.2.1 r3.2.2).bind fun r13=>((qM n r12 r13).bind fun r14=>(bif r14 then((Y1 n r4.1 r4.2).bind fun r15=>((Y4 n r4.1 r4.2).bind fun r16=>(bif (r15==r16)then((qw n r5.1 r5.2).bind fun r17=>((ZE n r5.1 r5.2).bind fun r18=>(bif (r17==r18)then((ZP n r5.1 r5.2).bind fun r19=>((QH n r5.1 r5.2).bind fun r20=>(bif (r19==r20)then((zBR n r5.1 r5.2).bind fun r21=>((zBT n r5.1 r5.2).bind fun r22=>(bif (r21==r22)then((ZY n r6).bind fun r23=>((Jr n r6).bind fun r24=>((qM n r23 r24).bind fun r25=>(some r25))))else(some false))))else(some false))))else(some false))))else(some false))))else(some false)))))else(some false)))))else(some false)))))))))))
def T3x8:Tab:=⟨67,[0,1,0,6,10,24,32,96,32,416,672,1056,3072,4096,4096,4096,61440,4096,4096,4096,987136,1118208,2101248,6291456,8388608,8388608,58720256,8388608,8388608,478150656,612368384,1082130432,2684354560,4294967296,4294967296,30064771072,4294967296,4294967296,244813135872,313532612608,554050781184,1374389534720,2199023255552,2199023255552,0xe0000000000,2199023255552,2199023255552,0x720000000000,0x920000000000,283673999966208,703687441776640,0x4000000000000,0x4000000000000,7881299347898368,0x4000000000000,0x4000000000000,0xe4000000000000,82190693199511552,0x204000000000000,0x500000000000000,0x800000000000000,0x1800000000000000,0x800000000000000,0x6800000000000000,0xa800000000000000,0x10800000000000000,0x3ffffffffffffffff],[0,1,0,4,10,16,32,96,32,288,672,1056,2048,4096,4096,4096,61440,4096,4096,4096,921600,1118208,2101248,4194304,8388608,8388608,58720256,8388608,8388608,411041792,612368384,1082130432,2147483648,4294967296,4294967296,30064771072,4294967296,4294967296,210453397504,313532612608,554050781184,1099511627776,2199023255552,2199023255552,0xe0000000000,2199023255552,2199023255552,0x620000000000,0x920000000000,283673999966208,562949953421312,0x4000000000000,0x4000000000000,7881299347898368,0x4000000000000,0x4000000000000,0xc4000000000000,82190693199511552,0x204000000000000,0x400000000000000,0x800000000000000,0x1800000000000000,0x800000000000000,0x4800000000000000,0xa800000000000000,0x10800000000000000,0x20000000000000000],[0,1,0,7,15,31,63,127,63,511,1023,2047,4095,8191,8191,8191,65535,8191,8191,8191,1048575,2097151,4194303,8388607,16777215,16777215,67108863,16777215,16777215,536870911,1073741823,2147483647,4294967295,8589934591,8589934591,34359738367,8589934591,8589934591,274877906943,549755813887,0xffffffffff,2199023255551,4398046511103,4398046511103,0xfffffffffff,4398046511103,4398046511103,0x7fffffffffff,0xffffffffffff,562949953421311,0x3ffffffffffff,0x7ffffffffffff,0x7ffffffffffff,9007199254740991,0x7ffffffffffff,0x7ffffffffffff,0xffffffffffffff,0x1ffffffffffffff,0x3ffffffffffffff,0x7ffffffffffffff,0xfffffffffffffff,0x1fffffffffffffff,0xfffffffffffffff,0x7fffffffffffffff,0xffffffffffffffff,0x1ffffffffffffffff,0x3ffffffffffffffff]⟩
theorem qI:qb (rg Tryz.f3 8) T3x8=true:=kr
theorem zHA(n:Nat)(r2:Net)(r7:Bool)(r8:Bool)(r5:Net×Int)(r4:Net×(List Int))(r3:Net×Int×(List Int))(r6:Net)(er7:(Zy n r2)=some r7)(er8:(Z4 n r2)=some r8)(h2:(r7==r8)=false)(cx:Cx):AT Tryz.prog cx (rg Tryz.f3 8) [] 67 [] ⟨100,0,[sA 11 11 3 0,sI 10 r5.2,sA 9 9 3 0,sC 8 (cL 1 r4.2 zC),sA 7 7 3 0,sC 6 (cL 1 r3.2.2 zC),sI 5 r3.2.1,sA 4 4 3 0,sA 3 3 3 0],[(11,(zD r6)),(9,(zD r5.1)),(7,(zD r4.1)),(4,(zD r3.1)),(3,(zD r2))]⟩ (fun s=>s=⟨100,0,[sB 2 false],[]⟩):=by
 exact mA qI [(0,[1,3]),(2,[3])] 65 [⟨[3],28,3,36⟩,⟨[1,3],28,3,34⟩] fun cx=>mC qI 1<|vB [.rd] [.box 3] (zAN n r2 r7 er7) (.inr (zN (zH zT zR) zS))<|fA<|mC qI 3<|vB [.rd] [.box 3] (zAR n r2 r8 er8) (.inr (zN (zH zT zR) zS))<|fA<|mA qI [(4,[]),(5,[])] 61 [⟨[3],28,3,36⟩,⟨[1,3],28,3,34⟩] fun cx=>qA 635655163896 2712 [39] h2<|mA qI (zl [6,7,8,9,10,11,12,13,14,15,16,17,18,19,20,21,22,23,24,25,26,27,28,29,30,31,32,33,34,35,36,37,38,39,40,41,42,43,44,45,46,47,48,49,50,51,52,53,54,55,56,57,58,59,60,61,62,63,64,65,66]) 0 [⟨[3],28,3,36⟩,⟨[1,3],28,3,34⟩] fun cx=>mE qI [2] []
theorem zHB(n:Nat)(r2:Net)(r7:Bool)(r8:Bool)(r5:Net×Int)(r4:Net×(List Int))(r3:Net×Int×(List Int))(r6:Net)(r9:(List Int))(r10:(List Int))(r11:Bool)(er7:(Zy n r2)=some r7)(er8:(Z4 n r2)=some r8)(h2:(r7==r8)=true)(er9:(Yj n r2)=some r9)(er10:(Yl n r2)=some r10)(er11:(qM n r9 r10)=some r11)(h3:r11=false)(cx:Cx):AT Tryz.prog cx (rg Tryz.f3 8) [] 67 [] ⟨100,0,[sA 11 11 3 0,sI 10 r5.2,sA 9 9 3 0,sC 8 (cL 1 r4.2 zC),sA 7 7 3 0,sC 6 (cL 1 r3.2.2 zC),sI 5 r3.2.1,sA 4 4 3 0,sA 3 3 3 0],[(11,(zD r6)),(9,(zD r5.1)),(7,(zD r4.1)),(4,(zD r3.1)),(3,(zD r2))]⟩ (fun s=>s=⟨100,0,[sB 2 false],[]⟩):=by
 refine mA qI [(0,[1,3,7,9,10]),(2,[3,7,9,10])] 65 [⟨[3,7,9,10],28,3,36⟩,⟨[1,3,7,9,10],28,3,34⟩] fun cx=>mC qI 1<|vB [.rd] [.box 3] (zAN n r2 r7 er7) (.inr (zN (zH zT zR) zS))<|fA<|mC qI 3<|vB [.rd] [.box 3] (zAR n r2 r8 er8) (.inr (zN (zH zT zR) zS))<|fA<|mA qI [(4,[]),(5,[])] 61 [⟨[3,7,9,10],28,3,36⟩,⟨[1,3,7,9,10],28,3,34⟩] fun cx=>qA 635655163896 2712 [39] h2<|mA qI [(6,[7,9,10]),(8,[9,10])] 59 [⟨[9,10],28,3,42⟩,⟨[7,9,10],28,3,40⟩,⟨[3,7,9,10],28,3,36⟩,⟨[1,3,7,9,10],28,3,34⟩] fun cx=>mC qI 7<|vB [.rd] [.box 3] (zDo n r2 r9 er9) (.inr (zN (zH (qf (z7 zx _)) zR) zS))<|fA<|mC qI 9<|vB [.rd] [.box 3] (zDr n r2 r10 er10) (.inr (zN (zH (qf (z7 zx _)) zR) zS))<|fA<|mC qI 10<|vA [.rd,.rd] (ZS n r9 r10 r11 er11)<|fA<|mA qI [(11,[]),(12,[])] 54 [⟨[9,10],28,3,42⟩,⟨[7,9,10],28,3,40⟩,⟨[3,7,9,10],28,3,36⟩,⟨[1,3,7,9,10],28,3,34⟩] fun cx=>qA 75952201666552 2712 [46] h3<|mA qI (zl [13,14,15,16,17,18,19,20,21,22,23,24,25,26,27,28,29,30,31,32,33,34,35,36,37,38,39,40,41,42,43,44,45,46,47,48,49,50,51,52,53,54,55,56,57,58,59,60,61,62,63,64,65,66]) 0 [⟨[9,10],28,3,42⟩,⟨[7,9,10],28,3,40⟩,⟨[3,7,9,10],28,3,36⟩,⟨[1,3,7,9,10],28,3,34⟩] fun cx=>?_
 exact mE qI [2] []
theorem zHC(n:Nat)(r2:Net)(r7:Bool)(r8:Bool)(r5:Net×Int)(r4:Net×(List Int))(r3:Net×Int×(List Int))(r6:Net)(r9:(List Int))(r10:(List Int))(r11:Bool)(r12:(List Int))(r13:(List Int))(r14:Bool)(er7:(Zy n r2)=some r7)(er8:(Z4 n r2)=some r8)(h2:(r7==r8)=true)(er9:(Yj n r2)=some r9)(er10:(Yl n r2)=some r10)(er11:(qM n r9 r10)=some r11)(h3:r11=true)(er12:(qg n r3.1 r3.2.1 r3.2.2)=some r12)(er13:(Z5 n r3.1 r3.2.1 r3.2.2)=some r13)(er14:(qM n r12 r13)=some r14)(h4:r14=false)(cx:Cx):AT Tryz.prog cx (rg Tryz.f3 8) [] 67 [] ⟨100,0,[sA 11 11 3 0,sI 10 r5.2,sA 9 9 3 0,sC 8 (cL 1 r4.2 zC),sA 7 7 3 0,sC 6 (cL 1 r3.2.2 zC),sI 5 r3.2.1,sA 4 4 3 0,sA 3 3 3 0],[(11,(zD r6)),(9,(zD r5.1)),(7,(zD r4.1)),(4,(zD r3.1)),(3,(zD r2))]⟩ (fun s=>s=⟨100,0,[sB 2 false],[]⟩):=by
 refine mA qI [(0,[1,3,7,9,10,16,20,21]),(2,[3,7,9,10,16,20,21])] 65 [⟨[3,7,9,10,16,20,21],28,3,36⟩,⟨[1,3,7,9,10,16,20,21],28,3,34⟩] fun cx=>mC qI 1<|vB [.rd] [.box 3] (zAN n r2 r7 er7) (.inr (zN (zH zT zR) zS))<|fA<|mC qI 3<|vB [.rd] [.box 3] (zAR n r2 r8 er8) (.inr (zN (zH zT zR) zS))<|fA<|mA qI [(4,[]),(5,[])] 61 [⟨[3,7,9,10,16,20,21],28,3,36⟩,⟨[1,3,7,9,10,16,20,21],28,3,34⟩] fun cx=>qA 635655163896 2712 [39] h2<|mA qI [(6,[7,9,10,16,20,21]),(8,[9,10,16,20,21])] 59 [⟨[9,10,16,20,21],28,3,42⟩,⟨[7,9,10,16,20,21],28,3,40⟩,⟨[3,7,9,10,16,20,21],28,3,36⟩,⟨[1,3,7,9,10,16,20,21],28,3,34⟩] fun cx=>mC qI 7<|vB [.rd] [.box 3] (zDo n r2 r9 er9) (.inr (zN (zH (qf (z7 zx _)) zR) zS))<|fA<|mC qI 9<|vB [.rd] [.box 3] (zDr n r2 r10 er10) (.inr (zN (zH (qf (z7 zx _)) zR) zS))<|fA<|mC qI 10<|vA [.rd,.rd] (ZS n r9 r10 r11 er11)<|fA<|mA qI [(11,[]),(12,[])] 54 [⟨[9,10,16,20,21],28,3,42⟩,⟨[7,9,10,16,20,21],28,3,40⟩,⟨[3,7,9,10,16,20,21],28,3,36⟩,⟨[1,3,7,9,10,16,20,21],28,3,34⟩] fun cx=>qA 75952201666552 2712 [46] h3<|mA qI [(13,[16,20,21]),(14,[]),(15,[]),(17,[20,21]),(18,[]),(19,[])] 48 [⟨[20,21],28,4,51⟩,⟨[16,20,21],28,4,47⟩,⟨[9,10,16,20,21],28,3,42⟩,⟨[7,9,10,16,20,21],28,3,40⟩,⟨[3,7,9,10,16,20,21],28,3,36⟩,⟨[1,3,7,9,10,16,20,21],28,3,34⟩] fun cx=>mC qI 16<|vB [.rd,.rd,.rd] [.box 4,.slot 6] (zAO n r3.1 r3.2.1 r3.2.2 r12 er12) (.inr (zN (zH (qf (z7 zx _)) zR) zS)) ?_
 exact fA<|mC qI 20<|vB [.rd,.rd,.rd] [.box 4,.slot 6] (zAS n r3.1 r3.2.1 r3.2.2 r13 er13) (.inr (zN (zH (qf (z7 zx _)) zR) zS))<|fA<|mC qI 21<|vA [.rd,.rd] (ZS n r12 r13 r14 er14)<|fA<|mA qI [(22,[]),(23,[])] 43 [⟨[20,21],28,4,51⟩,⟨[16,20,21],28,4,47⟩,⟨[9,10,16,20,21],28,3,42⟩,⟨[7,9,10,16,20,21],28,3,40⟩,⟨[3,7,9,10,16,20,21],28,3,36⟩,⟨[1,3,7,9,10,16,20,21],28,3,34⟩] fun cx=>qA 0x208851400000f98 2712 [57] h4<|mA qI (zl [24,25,26,27,28,29,30,31,32,33,34,35,36,37,38,39,40,41,42,43,44,45,46,47,48,49,50,51,52,53,54,55,56,57,58,59,60,61,62,63,64,65,66]) 0 [⟨[20,21],28,4,51⟩,⟨[16,20,21],28,4,47⟩,⟨[9,10,16,20,21],28,3,42⟩,⟨[7,9,10,16,20,21],28,3,40⟩,⟨[3,7,9,10,16,20,21],28,3,36⟩,⟨[1,3,7,9,10,16,20,21],28,3,34⟩] fun cx=>mE qI [2] []
theorem zHD(n:Nat)(r2:Net)(r7:Bool)(r8:Bool)(r5:Net×Int)(r4:Net×(List Int))(r3:Net×Int×(List Int))(r6:Net)(r9:(List Int))(r10:(List Int))(r11:Bool)(r12:(List Int))(r13:(List Int))(r14:Bool)(r15:Bool)(r16:Bool)(er7:(Zy n r2)=some r7)(er8:(Z4 n r2)=some r8)(h2:(r7==r8)=true)(er9:(Yj n r2)=some r9)(er10:(Yl n r2)=some r10)(er11:(qM n r9 r10)=some r11)(h3:r11=true)(er12:(qg n r3.1 r3.2.1 r3.2.2)=some r12)(er13:(Z5 n r3.1 r3.2.1 r3.2.2)=some r13)(er14:(qM n r12 r13)=some r14)(h4:r14=true)(er15:(Y1 n r4.1 r4.2)=some r15)(er16:(Y4 n r4.1 r4.2)=some r16)(h5:(r15==r16)=false)(cx:Cx):AT Tryz.prog cx (rg Tryz.f3 8) [] 67 [] ⟨100,0,[sA 11 11 3 0,sI 10 r5.2,sA 9 9 3 0,sC 8 (cL 1 r4.2 zC),sA 7 7 3 0,sC 6 (cL 1 r3.2.2 zC),sI 5 r3.2.1,sA 4 4 3 0,sA 3 3 3 0],[(11,(zD r6)),(9,(zD r5.1)),(7,(zD r4.1)),(4,(zD r3.1)),(3,(zD r2))]⟩ (fun s=>s=⟨100,0,[sB 2 false],[]⟩):=by
 refine mA qI [(0,[1,3,7,9,10,16,20,21,26,29]),(2,[3,7,9,10,16,20,21,26,29])] 65 [⟨[3,7,9,10,16,20,21,26,29],28,3,36⟩,⟨[1,3,7,9,10,16,20,21,26,29],28,3,34⟩] fun cx=>mC qI 1<|vB [.rd] [.box 3] (zAN n r2 r7 er7) (.inr (zN (zH zT zR) zS))<|fA<|mC qI 3<|vB [.rd] [.box 3] (zAR n r2 r8 er8) (.inr (zN (zH zT zR) zS))<|fA<|mA qI [(4,[]),(5,[])] 61 [⟨[3,7,9,10,16,20,21,26,29],28,3,36⟩,⟨[1,3,7,9,10,16,20,21,26,29],28,3,34⟩] fun cx=>qA 635655163896 2712 [39] h2<|mA qI [(6,[7,9,10,16,20,21,26,29]),(8,[9,10,16,20,21,26,29])] 59 [⟨[9,10,16,20,21,26,29],28,3,42⟩,⟨[7,9,10,16,20,21,26,29],28,3,40⟩,⟨[3,7,9,10,16,20,21,26,29],28,3,36⟩,⟨[1,3,7,9,10,16,20,21,26,29],28,3,34⟩] fun cx=>mC qI 7<|vB [.rd] [.box 3] (zDo n r2 r9 er9) (.inr (zN (zH (qf (z7 zx _)) zR) zS))<|fA<|mC qI 9<|vB [.rd] [.box 3] (zDr n r2 r10 er10) (.inr (zN (zH (qf (z7 zx _)) zR) zS))<|fA<|mC qI 10<|vA [.rd,.rd] (ZS n r9 r10 r11 er11)<|fA<|mA qI [(11,[]),(12,[])] 54 [⟨[9,10,16,20,21,26,29],28,3,42⟩,⟨[7,9,10,16,20,21,26,29],28,3,40⟩,⟨[3,7,9,10,16,20,21,26,29],28,3,36⟩,⟨[1,3,7,9,10,16,20,21,26,29],28,3,34⟩] fun cx=>qA 75952201666552 2712 [46] h3<|mA qI [(13,[16,20,21,26,29]),(14,[]),(15,[]),(17,[20,21,26,29]),(18,[]),(19,[])] 48 [⟨[20,21,26,29],28,4,51⟩,⟨[16,20,21,26,29],28,4,47⟩,⟨[9,10,16,20,21,26,29],28,3,42⟩,⟨[7,9,10,16,20,21,26,29],28,3,40⟩,⟨[3,7,9,10,16,20,21,26,29],28,3,36⟩,⟨[1,3,7,9,10,16,20,21,26,29],28,3,34⟩] fun cx=>?_
 refine mC qI 16<|vB [.rd,.rd,.rd] [.box 4,.slot 6] (zAO n r3.1 r3.2.1 r3.2.2 r12 er12) (.inr (zN (zH (qf (z7 zx _)) zR) zS))<|fA<|mC qI 20<|vB [.rd,.rd,.rd] [.box 4,.slot 6] (zAS n r3.1 r3.2.1 r3.2.2 r13 er13) (.inr (zN (zH (qf (z7 zx _)) zR) zS))<|fA<|mC qI 21<|vA [.rd,.rd] (ZS n r12 r13 r14 er14)<|fA<|mA qI [(22,[]),(23,[])] 43 [⟨[20,21,26,29],28,4,51⟩,⟨[16,20,21,26,29],28,4,47⟩,⟨[9,10,16,20,21,26,29],28,3,42⟩,⟨[7,9,10,16,20,21,26,29],28,3,40⟩,⟨[3,7,9,10,16,20,21,26,29],28,3,36⟩,⟨[1,3,7,9,10,16,20,21,26,29],28,3,34⟩] fun cx=>qA 0x208851400000f98 2712 [57] h4<|mA qI [(24,[26,29]),(25,[]),(27,[29]),(28,[])] 39 [⟨[29],28,7,61⟩,⟨[26,29],28,7,58⟩,⟨[20,21,26,29],28,4,51⟩,⟨[16,20,21,26,29],28,4,47⟩,⟨[9,10,16,20,21,26,29],28,3,42⟩,⟨[7,9,10,16,20,21,26,29],28,3,40⟩,⟨[3,7,9,10,16,20,21,26,29],28,3,36⟩,⟨[1,3,7,9,10,16,20,21,26,29],28,3,34⟩] fun cx=>mC qI 26<|vB [.rd,.rd] [.box 7,.slot 8] (zE5 n r4.1 r4.2 r15 er15) (.inr (zN (zH zT zR) zS))<|fA<|mC qI 29<|vB [.rd,.rd] [.box 7,.slot 8] (zE8 n r4.1 r4.2 r16 er16) (.inr (zN (zH zT zR) zS))<|fA<|mA qI (zl [30,31,32]) 34 [⟨[29],28,7,61⟩,⟨[26,29],28,7,58⟩,⟨[20,21,26,29],28,4,51⟩,⟨[16,20,21,26,29],28,4,47⟩,⟨[9,10,16,20,21,26,29],28,3,42⟩,⟨[7,9,10,16,20,21,26,29],28,3,40⟩,⟨[3,7,9,10,16,20,21,26,29],28,3,36⟩,⟨[1,3,7,9,10,16,20,21,26,29],28,3,34⟩] fun cx=>?_
 exact qA 0x42408851400000e98 2712 [66] h5<|mA qI (zl [33,34,35,36,37,38,39,40,41,42,43,44,45,46,47,48,49,50,51,52,53,54,55,56,57,58,59,60,61,62,63,64,65,66]) 0 [⟨[29],28,7,61⟩,⟨[26,29],28,7,58⟩,⟨[20,21,26,29],28,4,51⟩,⟨[16,20,21,26,29],28,4,47⟩,⟨[9,10,16,20,21,26,29],28,3,42⟩,⟨[7,9,10,16,20,21,26,29],28,3,40⟩,⟨[3,7,9,10,16,20,21,26,29],28,3,36⟩,⟨[1,3,7,9,10,16,20,21,26,29],28,3,34⟩] fun cx=>mE qI [2] []
theorem zHE(n:Nat)(r2:Net)(r7:Bool)(r8:Bool)(r5:Net×Int)(r4:Net×(List Int))(r3:Net×Int×(List Int))(r6:Net)(r9:(List Int))(r10:(List Int))(r11:Bool)(r12:(List Int))(r13:(List Int))(r14:Bool)(r15:Bool)(r16:Bool)(r17:Int)(r18:Int)(er7:(Zy n r2)=some r7)(er8:(Z4 n r2)=some r8)(h2:(r7==r8)=true)(er9:(Yj n r2)=some r9)(er10:(Yl n r2)=some r10)(er11:(qM n r9 r10)=some r11)(h3:r11=true)(er12:(qg n r3.1 r3.2.1 r3.2.2)=some r12)(er13:(Z5 n r3.1 r3.2.1 r3.2.2)=some r13)(er14:(qM n r12 r13)=some r14)(h4:r14=true)(er15:(Y1 n r4.1 r4.2)=some r15)(er16:(Y4 n r4.1 r4.2)=some r16)(h5:(r15==r16)=true)(er17:(qw n r5.1 r5.2)=some r17)(er18:(ZE n r5.1 r5.2)=some r18)(h6:(r17==r18)=false)(cx:Cx):AT Tryz.prog cx (rg Tryz.f3 8) [] 67 [] ⟨100,0,[sA 11 11 3 0,sI 10 r5.2,sA 9 9 3 0,sC 8 (cL 1 r4.2 zC),sA 7 7 3 0,sC 6 (cL 1 r3.2.2 zC),sI 5 r3.2.1,sA 4 4 3 0,sA 3 3 3 0],[(11,(zD r6)),(9,(zD r5.1)),(7,(zD r4.1)),(4,(zD r3.1)),(3,(zD r2))]⟩ (fun s=>s=⟨100,0,[sB 2 false],[]⟩):=by
 refine mA qI [(0,[1,3,7,9,10,16,20,21,26,29,35,38]),(2,[3,7,9,10,16,20,21,26,29,35,38])] 65 [⟨[3,7,9,10,16,20,21,26,29,35,38],28,3,36⟩,⟨[1,3,7,9,10,16,20,21,26,29,35,38],28,3,34⟩] fun cx=>mC qI 1<|vB [.rd] [.box 3] (zAN n r2 r7 er7) (.inr (zN (zH zT zR) zS))<|fA<|mC qI 3<|vB [.rd] [.box 3] (zAR n r2 r8 er8) (.inr (zN (zH zT zR) zS))<|fA<|mA qI [(4,[]),(5,[])] 61 [⟨[3,7,9,10,16,20,21,26,29,35,38],28,3,36⟩,⟨[1,3,7,9,10,16,20,21,26,29,35,38],28,3,34⟩] fun cx=>qA 635655163896 2712 [39] h2<|mA qI [(6,[7,9,10,16,20,21,26,29,35,38]),(8,[9,10,16,20,21,26,29,35,38])] 59 [⟨[9,10,16,20,21,26,29,35,38],28,3,42⟩,⟨[7,9,10,16,20,21,26,29,35,38],28,3,40⟩,⟨[3,7,9,10,16,20,21,26,29,35,38],28,3,36⟩,⟨[1,3,7,9,10,16,20,21,26,29,35,38],28,3,34⟩] fun cx=>mC qI 7<|vB [.rd] [.box 3] (zDo n r2 r9 er9) (.inr (zN (zH (qf (z7 zx _)) zR) zS))<|fA<|mC qI 9<|vB [.rd] [.box 3] (zDr n r2 r10 er10) (.inr (zN (zH (qf (z7 zx _)) zR) zS))<|fA<|mC qI 10<|vA [.rd,.rd] (ZS n r9 r10 r11 er11)<|fA<|mA qI [(11,[]),(12,[])] 54 [⟨[9,10,16,20,21,26,29,35,38],28,3,42⟩,⟨[7,9,10,16,20,21,26,29,35,38],28,3,40⟩,⟨[3,7,9,10,16,20,21,26,29,35,38],28,3,36⟩,⟨[1,3,7,9,10,16,20,21,26,29,35,38],28,3,34⟩] fun cx=>qA 75952201666552 2712 [46] h3<|mA qI [(13,[16,20,21,26,29,35,38]),(14,[]),(15,[]),(17,[20,21,26,29,35,38]),(18,[]),(19,[])] 48 [⟨[20,21,26,29,35,38],28,4,51⟩,⟨[16,20,21,26,29,35,38],28,4,47⟩,⟨[9,10,16,20,21,26,29,35,38],28,3,42⟩,⟨[7,9,10,16,20,21,26,29,35,38],28,3,40⟩,⟨[3,7,9,10,16,20,21,26,29,35,38],28,3,36⟩,⟨[1,3,7,9,10,16,20,21,26,29,35,38],28,3,34⟩] fun cx=>?_
 refine mC qI 16<|vB [.rd,.rd,.rd] [.box 4,.slot 6] (zAO n r3.1 r3.2.1 r3.2.2 r12 er12) (.inr (zN (zH (qf (z7 zx _)) zR) zS))<|fA<|mC qI 20<|vB [.rd,.rd,.rd] [.box 4,.slot 6] (zAS n r3.1 r3.2.1 r3.2.2 r13 er13) (.inr (zN (zH (qf (z7 zx _)) zR) zS))<|fA<|mC qI 21<|vA [.rd,.rd] (ZS n r12 r13 r14 er14)<|fA<|mA qI [(22,[]),(23,[])] 43 [⟨[20,21,26,29,35,38],28,4,51⟩,⟨[16,20,21,26,29,35,38],28,4,47⟩,⟨[9,10,16,20,21,26,29,35,38],28,3,42⟩,⟨[7,9,10,16,20,21,26,29,35,38],28,3,40⟩,⟨[3,7,9,10,16,20,21,26,29,35,38],28,3,36⟩,⟨[1,3,7,9,10,16,20,21,26,29,35,38],28,3,34⟩] fun cx=>qA 0x208851400000f98 2712 [57] h4<|mA qI [(24,[26,29,35,38]),(25,[]),(27,[29,35,38]),(28,[])] 39 [⟨[29,35,38],28,7,61⟩,⟨[26,29,35,38],28,7,58⟩,⟨[20,21,26,29,35,38],28,4,51⟩,⟨[16,20,21,26,29,35,38],28,4,47⟩,⟨[9,10,16,20,21,26,29,35,38],28,3,42⟩,⟨[7,9,10,16,20,21,26,29,35,38],28,3,40⟩,⟨[3,7,9,10,16,20,21,26,29,35,38],28,3,36⟩,⟨[1,3,7,9,10,16,20,21,26,29,35,38],28,3,34⟩] fun cx=>mC qI 26<|vB [.rd,.rd] [.box 7,.slot 8] (zE5 n r4.1 r4.2 r15 er15) (.inr (zN (zH zT zR) zS))<|fA<|mC qI 29<|vB [.rd,.rd] [.box 7,.slot 8] (zE8 n r4.1 r4.2 r16 er16) (.inr (zN (zH zT zR) zS))<|fA<|mA qI (zl [30,31,32]) 34 [⟨[29,35,38],28,7,61⟩,⟨[26,29,35,38],28,7,58⟩,⟨[20,21,26,29,35,38],28,4,51⟩,⟨[16,20,21,26,29,35,38],28,4,47⟩,⟨[9,10,16,20,21,26,29,35,38],28,3,42⟩,⟨[7,9,10,16,20,21,26,29,35,38],28,3,40⟩,⟨[3,7,9,10,16,20,21,26,29,35,38],28,3,36⟩,⟨[1,3,7,9,10,16,20,21,26,29,35,38],28,3,34⟩] fun cx=>?_
 refine qA 0x42408851400000e98 2712 [66] h5<|mA qI [(33,[35,38]),(34,[]),(36,[38]),(37,[])] 30 [⟨[38],28,9,70⟩,⟨[35,38],28,9,67⟩,⟨[29,35,38],28,7,61⟩,⟨[26,29,35,38],28,7,58⟩,⟨[20,21,26,29,35,38],28,4,51⟩,⟨[16,20,21,26,29,35,38],28,4,47⟩,⟨[9,10,16,20,21,26,29,35,38],28,3,42⟩,⟨[7,9,10,16,20,21,26,29,35,38],28,3,40⟩,⟨[3,7,9,10,16,20,21,26,29,35,38],28,3,36⟩,⟨[1,3,7,9,10,16,20,21,26,29,35,38],28,3,34⟩] fun cx=>mC qI 35<|vB [.rd,.rd] [.box 9] (zAp n r5.1 r5.2 r17 er17) (.inr (zN (zH zT zR) zS))<|fA<|mC qI 38<|vB [.rd,.rd] [.box 9] (Jq n r5.1 r5.2 r18 er18) (.inr (zN (zH zT zR) zS))<|fA<|mA qI (zl [39,40,41]) 25 [⟨[38],28,9,70⟩,⟨[35,38],28,9,67⟩,⟨[29,35,38],28,7,61⟩,⟨[26,29,35,38],28,7,58⟩,⟨[20,21,26,29,35,38],28,4,51⟩,⟨[16,20,21,26,29,35,38],28,4,47⟩,⟨[9,10,16,20,21,26,29,35,38],28,3,42⟩,⟨[7,9,10,16,20,21,26,29,35,38],28,3,40⟩,⟨[3,7,9,10,16,20,21,26,29,35,38],28,3,36⟩,⟨[1,3,7,9,10,16,20,21,26,29,35,38],28,3,34⟩] fun cx=>qA 0x8482408851400000e98 2712 [75] h6<|mA qI (zl [42,43,44,45,46,47,48,49,50,51,52,53,54,55,56,57,58,59,60,61,62,63,64,65,66]) 0 [⟨[38],28,9,70⟩,⟨[35,38],28,9,67⟩,⟨[29,35,38],28,7,61⟩,⟨[26,29,35,38],28,7,58⟩,⟨[20,21,26,29,35,38],28,4,51⟩,⟨[16,20,21,26,29,35,38],28,4,47⟩,⟨[9,10,16,20,21,26,29,35,38],28,3,42⟩,⟨[7,9,10,16,20,21,26,29,35,38],28,3,40⟩,⟨[3,7,9,10,16,20,21,26,29,35,38],28,3,36⟩,⟨[1,3,7,9,10,16,20,21,26,29,35,38],28,3,34⟩] fun cx=>?_
 exact mE qI [2] []
theorem zHF(n:Nat)(r2:Net)(r7:Bool)(r8:Bool)(r5:Net×Int)(r4:Net×(List Int))(r3:Net×Int×(List Int))(r6:Net)(r9:(List Int))(r10:(List Int))(r11:Bool)(r12:(List Int))(r13:(List Int))(r14:Bool)(r15:Bool)(r16:Bool)(r17:Int)(r18:Int)(r19:Int)(r20:Int)(er7:(Zy n r2)=some r7)(er8:(Z4 n r2)=some r8)(h2:(r7==r8)=true)(er9:(Yj n r2)=some r9)(er10:(Yl n r2)=some r10)(er11:(qM n r9 r10)=some r11)(h3:r11=true)(er12:(qg n r3.1 r3.2.1 r3.2.2)=some r12)(er13:(Z5 n r3.1 r3.2.1 r3.2.2)=some r13)(er14:(qM n r12 r13)=some r14)(h4:r14=true)(er15:(Y1 n r4.1 r4.2)=some r15)(er16:(Y4 n r4.1 r4.2)=some r16)(h5:(r15==r16)=true)(er17:(qw n r5.1 r5.2)=some r17)(er18:(ZE n r5.1 r5.2)=some r18)(h6:(r17==r18)=true)(er19:(ZP n r5.1 r5.2)=some r19)(er20:(QH n r5.1 r5.2)=some r20)(h7:(r19==r20)=false)(cx:Cx):AT Tryz.prog cx (rg Tryz.f3 8) [] 67 [] ⟨100,0,[sA 11 11 3 0,sI 10 r5.2,sA 9 9 3 0,sC 8 (cL 1 r4.2 zC),sA 7 7 3 0,sC 6 (cL 1 r3.2.2 zC),sI 5 r3.2.1,sA 4 4 3 0,sA 3 3 3 0],[(11,(zD r6)),(9,(zD r5.1)),(7,(zD r4.1)),(4,(zD r3.1)),(3,(zD r2))]⟩ (fun s=>s=⟨100,0,[sB 2 false],[]⟩):=by
 refine mA qI [(0,[1,3,7,9,10,16,20,21,26,29,35,38,44,47]),(2,[3,7,9,10,16,20,21,26,29,35,38,44,47])] 65 [⟨[3,7,9,10,16,20,21,26,29,35,38,44,47],28,3,36⟩,⟨[1,3,7,9,10,16,20,21,26,29,35,38,44,47],28,3,34⟩] fun cx=>mC qI 1<|vB [.rd] [.box 3] (zAN n r2 r7 er7) (.inr (zN (zH zT zR) zS))<|fA<|mC qI 3<|vB [.rd] [.box 3] (zAR n r2 r8 er8) (.inr (zN (zH zT zR) zS))<|fA<|mA qI [(4,[]),(5,[])] 61 [⟨[3,7,9,10,16,20,21,26,29,35,38,44,47],28,3,36⟩,⟨[1,3,7,9,10,16,20,21,26,29,35,38,44,47],28,3,34⟩] fun cx=>qA 635655163896 2712 [39] h2<|mA qI [(6,[7,9,10,16,20,21,26,29,35,38,44,47]),(8,[9,10,16,20,21,26,29,35,38,44,47])] 59 [⟨[9,10,16,20,21,26,29,35,38,44,47],28,3,42⟩,⟨[7,9,10,16,20,21,26,29,35,38,44,47],28,3,40⟩,⟨[3,7,9,10,16,20,21,26,29,35,38,44,47],28,3,36⟩,⟨[1,3,7,9,10,16,20,21,26,29,35,38,44,47],28,3,34⟩] fun cx=>mC qI 7<|vB [.rd] [.box 3] (zDo n r2 r9 er9) (.inr (zN (zH (qf (z7 zx _)) zR) zS))<|fA<|mC qI 9<|vB [.rd] [.box 3] (zDr n r2 r10 er10) (.inr (zN (zH (qf (z7 zx _)) zR) zS))<|fA<|mC qI 10<|vA [.rd,.rd] (ZS n r9 r10 r11 er11)<|fA<|mA qI [(11,[]),(12,[])] 54 [⟨[9,10,16,20,21,26,29,35,38,44,47],28,3,42⟩,⟨[7,9,10,16,20,21,26,29,35,38,44,47],28,3,40⟩,⟨[3,7,9,10,16,20,21,26,29,35,38,44,47],28,3,36⟩,⟨[1,3,7,9,10,16,20,21,26,29,35,38,44,47],28,3,34⟩] fun cx=>qA 75952201666552 2712 [46] h3 ?_
 refine mA qI [(13,[16,20,21,26,29,35,38,44,47]),(14,[]),(15,[]),(17,[20,21,26,29,35,38,44,47]),(18,[]),(19,[])] 48 [⟨[20,21,26,29,35,38,44,47],28,4,51⟩,⟨[16,20,21,26,29,35,38,44,47],28,4,47⟩,⟨[9,10,16,20,21,26,29,35,38,44,47],28,3,42⟩,⟨[7,9,10,16,20,21,26,29,35,38,44,47],28,3,40⟩,⟨[3,7,9,10,16,20,21,26,29,35,38,44,47],28,3,36⟩,⟨[1,3,7,9,10,16,20,21,26,29,35,38,44,47],28,3,34⟩] fun cx=>mC qI 16<|vB [.rd,.rd,.rd] [.box 4,.slot 6] (zAO n r3.1 r3.2.1 r3.2.2 r12 er12) (.inr (zN (zH (qf (z7 zx _)) zR) zS))<|fA<|mC qI 20<|vB [.rd,.rd,.rd] [.box 4,.slot 6] (zAS n r3.1 r3.2.1 r3.2.2 r13 er13) (.inr (zN (zH (qf (z7 zx _)) zR) zS))<|fA<|mC qI 21<|vA [.rd,.rd] (ZS n r12 r13 r14 er14)<|fA<|mA qI [(22,[]),(23,[])] 43 [⟨[20,21,26,29,35,38,44,47],28,4,51⟩,⟨[16,20,21,26,29,35,38,44,47],28,4,47⟩,⟨[9,10,16,20,21,26,29,35,38,44,47],28,3,42⟩,⟨[7,9,10,16,20,21,26,29,35,38,44,47],28,3,40⟩,⟨[3,7,9,10,16,20,21,26,29,35,38,44,47],28,3,36⟩,⟨[1,3,7,9,10,16,20,21,26,29,35,38,44,47],28,3,34⟩] fun cx=>qA 0x208851400000f98 2712 [57] h4<|mA qI [(24,[26,29,35,38,44,47]),(25,[]),(27,[29,35,38,44,47]),(28,[])] 39 [⟨[29,35,38,44,47],28,7,61⟩,⟨[26,29,35,38,44,47],28,7,58⟩,⟨[20,21,26,29,35,38,44,47],28,4,51⟩,⟨[16,20,21,26,29,35,38,44,47],28,4,47⟩,⟨[9,10,16,20,21,26,29,35,38,44,47],28,3,42⟩,⟨[7,9,10,16,20,21,26,29,35,38,44,47],28,3,40⟩,⟨[3,7,9,10,16,20,21,26,29,35,38,44,47],28,3,36⟩,⟨[1,3,7,9,10,16,20,21,26,29,35,38,44,47],28,3,34⟩] fun cx=>?_
 refine mC qI 26<|vB [.rd,.rd] [.box 7,.slot 8] (zE5 n r4.1 r4.2 r15 er15) (.inr (zN (zH zT zR) zS))<|fA<|mC qI 29<|vB [.rd,.rd] [.box 7,.slot 8] (zE8 n r4.1 r4.2 r16 er16) (.inr (zN (zH zT zR) zS))<|fA<|mA qI (zl [30,31,32]) 34 [⟨[29,35,38,44,47],28,7,61⟩,⟨[26,29,35,38,44,47],28,7,58⟩,⟨[20,21,26,29,35,38,44,47],28,4,51⟩,⟨[16,20,21,26,29,35,38,44,47],28,4,47⟩,⟨[9,10,16,20,21,26,29,35,38,44,47],28,3,42⟩,⟨[7,9,10,16,20,21,26,29,35,38,44,47],28,3,40⟩,⟨[3,7,9,10,16,20,21,26,29,35,38,44,47],28,3,36⟩,⟨[1,3,7,9,10,16,20,21,26,29,35,38,44,47],28,3,34⟩] fun cx=>qA 0x42408851400000e98 2712 [66] h5<|mA qI [(33,[35,38,44,47]),(34,[]),(36,[38,44,47]),(37,[])] 30 [⟨[38,44,47],28,9,70⟩,⟨[35,38,44,47],28,9,67⟩,⟨[29,35,38,44,47],28,7,61⟩,⟨[26,29,35,38,44,47],28,7,58⟩,⟨[20,21,26,29,35,38,44,47],28,4,51⟩,⟨[16,20,21,26,29,35,38,44,47],28,4,47⟩,⟨[9,10,16,20,21,26,29,35,38,44,47],28,3,42⟩,⟨[7,9,10,16,20,21,26,29,35,38,44,47],28,3,40⟩,⟨[3,7,9,10,16,20,21,26,29,35,38,44,47],28,3,36⟩,⟨[1,3,7,9,10,16,20,21,26,29,35,38,44,47],28,3,34⟩] fun cx=>mC qI 35<|vB [.rd,.rd] [.box 9] (zAp n r5.1 r5.2 r17 er17) (.inr (zN (zH zT zR) zS))<|fA<|mC qI 38<|vB [.rd,.rd] [.box 9] (Jq n r5.1 r5.2 r18 er18) (.inr (zN (zH zT zR) zS))<|fA<|mA qI (zl [39,40,41]) 25 [⟨[38,44,47],28,9,70⟩,⟨[35,38,44,47],28,9,67⟩,⟨[29,35,38,44,47],28,7,61⟩,⟨[26,29,35,38,44,47],28,7,58⟩,⟨[20,21,26,29,35,38,44,47],28,4,51⟩,⟨[16,20,21,26,29,35,38,44,47],28,4,47⟩,⟨[9,10,16,20,21,26,29,35,38,44,47],28,3,42⟩,⟨[7,9,10,16,20,21,26,29,35,38,44,47],28,3,40⟩,⟨[3,7,9,10,16,20,21,26,29,35,38,44,47],28,3,36⟩,⟨[1,3,7,9,10,16,20,21,26,29,35,38,44,47],28,3,34⟩] fun cx=>?_
 refine qA 0x8482408851400000e98 2712 [75] h6<|mA qI [(42,[44,47]),(43,[]),(45,[47]),(46,[])] 21 [⟨[47],28,9,79⟩,⟨[44,47],28,9,76⟩,⟨[38,44,47],28,9,70⟩,⟨[35,38,44,47],28,9,67⟩,⟨[29,35,38,44,47],28,7,61⟩,⟨[26,29,35,38,44,47],28,7,58⟩,⟨[20,21,26,29,35,38,44,47],28,4,51⟩,⟨[16,20,21,26,29,35,38,44,47],28,4,47⟩,⟨[9,10,16,20,21,26,29,35,38,44,47],28,3,42⟩,⟨[7,9,10,16,20,21,26,29,35,38,44,47],28,3,40⟩,⟨[3,7,9,10,16,20,21,26,29,35,38,44,47],28,3,36⟩,⟨[1,3,7,9,10,16,20,21,26,29,35,38,44,47],28,3,34⟩] fun cx=>mC qI 44<|vB [.rd,.rd] [.box 9] (zDV n r5.1 r5.2 r19 er19) (.inr (zN (zH zT zR) zS))<|fA<|mC qI 47<|vB [.rd,.rd] [.box 9] (zDc n r5.1 r5.2 r20 er20) (.inr (zN (zH zT zR) zS))<|fA<|mA qI (zl [48,49,50]) 16 [⟨[47],28,9,79⟩,⟨[44,47],28,9,76⟩,⟨[38,44,47],28,9,70⟩,⟨[35,38,44,47],28,9,67⟩,⟨[29,35,38,44,47],28,7,61⟩,⟨[26,29,35,38,44,47],28,7,58⟩,⟨[20,21,26,29,35,38,44,47],28,4,51⟩,⟨[16,20,21,26,29,35,38,44,47],28,4,47⟩,⟨[9,10,16,20,21,26,29,35,38,44,47],28,3,42⟩,⟨[7,9,10,16,20,21,26,29,35,38,44,47],28,3,40⟩,⟨[3,7,9,10,16,20,21,26,29,35,38,44,47],28,3,36⟩,⟨[1,3,7,9,10,16,20,21,26,29,35,38,44,47],28,3,34⟩] fun cx=>qA 0x1090482408851400000e98 2712 [84] h7<|mA qI (zl [51,52,53,54,55,56,57,58,59,60,61,62,63,64,65,66]) 0 [⟨[47],28,9,79⟩,⟨[44,47],28,9,76⟩,⟨[38,44,47],28,9,70⟩,⟨[35,38,44,47],28,9,67⟩,⟨[29,35,38,44,47],28,7,61⟩,⟨[26,29,35,38,44,47],28,7,58⟩,⟨[20,21,26,29,35,38,44,47],28,4,51⟩,⟨[16,20,21,26,29,35,38,44,47],28,4,47⟩,⟨[9,10,16,20,21,26,29,35,38,44,47],28,3,42⟩,⟨[7,9,10,16,20,21,26,29,35,38,44,47],28,3,40⟩,⟨[3,7,9,10,16,20,21,26,29,35,38,44,47],28,3,36⟩,⟨[1,3,7,9,10,16,20,21,26,29,35,38,44,47],28,3,34⟩] fun cx=>?_
 exact mE qI [2] []
theorem zHG(n:Nat)(r2:Net)(r7:Bool)(r8:Bool)(r5:Net×Int)(r4:Net×(List Int))(r3:Net×Int×(List Int))(r6:Net)(r9:(List Int))(r10:(List Int))(r11:Bool)(r12:(List Int))(r13:(List Int))(r14:Bool)(r15:Bool)(r16:Bool)(r17:Int)(r18:Int)(r19:Int)(r20:Int)(r21:Bool)(r22:Bool)(er7:(Zy n r2)=some r7)(er8:(Z4 n r2)=some r8)(h2:(r7==r8)=true)(er9:(Yj n r2)=some r9)(er10:(Yl n r2)=some r10)(er11:(qM n r9 r10)=some r11)(h3:r11=true)(er12:(qg n r3.1 r3.2.1 r3.2.2)=some r12)(er13:(Z5 n r3.1 r3.2.1 r3.2.2)=some r13)(er14:(qM n r12 r13)=some r14)(h4:r14=true)(er15:(Y1 n r4.1 r4.2)=some r15)(er16:(Y4 n r4.1 r4.2)=some r16)(h5:(r15==r16)=true)(er17:(qw n r5.1 r5.2)=some r17)(er18:(ZE n r5.1 r5.2)=some r18)(h6:(r17==r18)=true)(er19:(ZP n r5.1 r5.2)=some r19)(er20:(QH n r5.1 r5.2)=some r20)(h7:(r19==r20)=true)(er21:(zBR n r5.1 r5.2)=some r21)(er22:(zBT n r5.1 r5.2)=some r22)(h8:(r21==r22)=false)(cx:Cx):AT Tryz.prog cx (rg Tryz.f3 8) [] 67 [] ⟨100,0,[sA 11 11 3 0,sI 10 r5.2,sA 9 9 3 0,sC 8 (cL 1 r4.2 zC),sA 7 7 3 0,sC 6 (cL 1 r3.2.2 zC),sI 5 r3.2.1,sA 4 4 3 0,sA 3 3 3 0],[(11,(zD r6)),(9,(zD r5.1)),(7,(zD r4.1)),(4,(zD r3.1)),(3,(zD r2))]⟩ (fun s=>s=⟨100,0,[sB 2 false],[]⟩):=by
 refine mA qI [(0,[1,3,7,9,10,16,20,21,26,29,35,38,44,47,53,56]),(2,[3,7,9,10,16,20,21,26,29,35,38,44,47,53,56])] 65 [⟨[3,7,9,10,16,20,21,26,29,35,38,44,47,53,56],28,3,36⟩,⟨[1,3,7,9,10,16,20,21,26,29,35,38,44,47,53,56],28,3,34⟩] fun cx=>mC qI 1<|vB [.rd] [.box 3] (zAN n r2 r7 er7) (.inr (zN (zH zT zR) zS))<|fA<|mC qI 3<|vB [.rd] [.box 3] (zAR n r2 r8 er8) (.inr (zN (zH zT zR) zS))<|fA<|mA qI [(4,[]),(5,[])] 61 [⟨[3,7,9,10,16,20,21,26,29,35,38,44,47,53,56],28,3,36⟩,⟨[1,3,7,9,10,16,20,21,26,29,35,38,44,47,53,56],28,3,34⟩] fun cx=>qA 635655163896 2712 [39] h2<|mA qI [(6,[7,9,10,16,20,21,26,29,35,38,44,47,53,56]),(8,[9,10,16,20,21,26,29,35,38,44,47,53,56])] 59 [⟨[9,10,16,20,21,26,29,35,38,44,47,53,56],28,3,42⟩,⟨[7,9,10,16,20,21,26,29,35,38,44,47,53,56],28,3,40⟩,⟨[3,7,9,10,16,20,21,26,29,35,38,44,47,53,56],28,3,36⟩,⟨[1,3,7,9,10,16,20,21,26,29,35,38,44,47,53,56],28,3,34⟩] fun cx=>mC qI 7<|vB [.rd] [.box 3] (zDo n r2 r9 er9) (.inr (zN (zH (qf (z7 zx _)) zR) zS))<|fA<|mC qI 9<|vB [.rd] [.box 3] (zDr n r2 r10 er10) (.inr (zN (zH (qf (z7 zx _)) zR) zS))<|fA<|mC qI 10<|vA [.rd,.rd] (ZS n r9 r10 r11 er11)<|fA<|mA qI [(11,[]),(12,[])] 54 [⟨[9,10,16,20,21,26,29,35,38,44,47,53,56],28,3,42⟩,⟨[7,9,10,16,20,21,26,29,35,38,44,47,53,56],28,3,40⟩,⟨[3,7,9,10,16,20,21,26,29,35,38,44,47,53,56],28,3,36⟩,⟨[1,3,7,9,10,16,20,21,26,29,35,38,44,47,53,56],28,3,34⟩] fun cx=>?_
 refine qA 75952201666552 2712 [46] h3<|mA qI [(13,[16,20,21,26,29,35,38,44,47,53,56]),(14,[]),(15,[]),(17,[20,21,26,29,35,38,44,47,53,56]),(18,[]),(19,[])] 48 [⟨[20,21,26,29,35,38,44,47,53,56],28,4,51⟩,⟨[16,20,21,26,29,35,38,44,47,53,56],28,4,47⟩,⟨[9,10,16,20,21,26,29,35,38,44,47,53,56],28,3,42⟩,⟨[7,9,10,16,20,21,26,29,35,38,44,47,53,56],28,3,40⟩,⟨[3,7,9,10,16,20,21,26,29,35,38,44,47,53,56],28,3,36⟩,⟨[1,3,7,9,10,16,20,21,26,29,35,38,44,47,53,56],28,3,34⟩] fun cx=>mC qI 16<|vB [.rd,.rd,.rd] [.box 4,.slot 6] (zAO n r3.1 r3.2.1 r3.2.2 r12 er12) (.inr (zN (zH (qf (z7 zx _)) zR) zS))<|fA<|mC qI 20<|vB [.rd,.rd,.rd] [.box 4,.slot 6] (zAS n r3.1 r3.2.1 r3.2.2 r13 er13) (.inr (zN (zH (qf (z7 zx _)) zR) zS))<|fA<|mC qI 21<|vA [.rd,.rd] (ZS n r12 r13 r14 er14)<|fA<|mA qI [(22,[]),(23,[])] 43 [⟨[20,21,26,29,35,38,44,47,53,56],28,4,51⟩,⟨[16,20,21,26,29,35,38,44,47,53,56],28,4,47⟩,⟨[9,10,16,20,21,26,29,35,38,44,47,53,56],28,3,42⟩,⟨[7,9,10,16,20,21,26,29,35,38,44,47,53,56],28,3,40⟩,⟨[3,7,9,10,16,20,21,26,29,35,38,44,47,53,56],28,3,36⟩,⟨[1,3,7,9,10,16,20,21,26,29,35,38,44,47,53,56],28,3,34⟩] fun cx=>qA 0x208851400000f98 2712 [57] h4<|mA qI [(24,[26,29,35,38,44,47,53,56]),(25,[]),(27,[29,35,38,44,47,53,56]),(28,[])] 39 [⟨[29,35,38,44,47,53,56],28,7,61⟩,⟨[26,29,35,38,44,47,53,56],28,7,58⟩,⟨[20,21,26,29,35,38,44,47,53,56],28,4,51⟩,⟨[16,20,21,26,29,35,38,44,47,53,56],28,4,47⟩,⟨[9,10,16,20,21,26,29,35,38,44,47,53,56],28,3,42⟩,⟨[7,9,10,16,20,21,26,29,35,38,44,47,53,56],28,3,40⟩,⟨[3,7,9,10,16,20,21,26,29,35,38,44,47,53,56],28,3,36⟩,⟨[1,3,7,9,10,16,20,21,26,29,35,38,44,47,53,56],28,3,34⟩] fun cx=>?_
 refine mC qI 26<|vB [.rd,.rd] [.box 7,.slot 8] (zE5 n r4.1 r4.2 r15 er15) (.inr (zN (zH zT zR) zS))<|fA<|mC qI 29<|vB [.rd,.rd] [.box 7,.slot 8] (zE8 n r4.1 r4.2 r16 er16) (.inr (zN (zH zT zR) zS))<|fA<|mA qI (zl [30,31,32]) 34 [⟨[29,35,38,44,47,53,56],28,7,61⟩,⟨[26,29,35,38,44,47,53,56],28,7,58⟩,⟨[20,21,26,29,35,38,44,47,53,56],28,4,51⟩,⟨[16,20,21,26,29,35,38,44,47,53,56],28,4,47⟩,⟨[9,10,16,20,21,26,29,35,38,44,47,53,56],28,3,42⟩,⟨[7,9,10,16,20,21,26,29,35,38,44,47,53,56],28,3,40⟩,⟨[3,7,9,10,16,20,21,26,29,35,38,44,47,53,56],28,3,36⟩,⟨[1,3,7,9,10,16,20,21,26,29,35,38,44,47,53,56],28,3,34⟩] fun cx=>qA 0x42408851400000e98 2712 [66] h5<|mA qI [(33,[35,38,44,47,53,56]),(34,[]),(36,[38,44,47,53,56]),(37,[])] 30 [⟨[38,44,47,53,56],28,9,70⟩,⟨[35,38,44,47,53,56],28,9,67⟩,⟨[29,35,38,44,47,53,56],28,7,61⟩,⟨[26,29,35,38,44,47,53,56],28,7,58⟩,⟨[20,21,26,29,35,38,44,47,53,56],28,4,51⟩,⟨[16,20,21,26,29,35,38,44,47,53,56],28,4,47⟩,⟨[9,10,16,20,21,26,29,35,38,44,47,53,56],28,3,42⟩,⟨[7,9,10,16,20,21,26,29,35,38,44,47,53,56],28,3,40⟩,⟨[3,7,9,10,16,20,21,26,29,35,38,44,47,53,56],28,3,36⟩,⟨[1,3,7,9,10,16,20,21,26,29,35,38,44,47,53,56],28,3,34⟩] fun cx=>mC qI 35<|vB [.rd,.rd] [.box 9] (zAp n r5.1 r5.2 r17 er17) (.inr (zN (zH zT zR) zS))<|fA<|mC qI 38<|vB [.rd,.rd] [.box 9] (Jq n r5.1 r5.2 r18 er18) (.inr (zN (zH zT zR) zS)) ?_
 refine fA<|mA qI (zl [39,40,41]) 25 [⟨[38,44,47,53,56],28,9,70⟩,⟨[35,38,44,47,53,56],28,9,67⟩,⟨[29,35,38,44,47,53,56],28,7,61⟩,⟨[26,29,35,38,44,47,53,56],28,7,58⟩,⟨[20,21,26,29,35,38,44,47,53,56],28,4,51⟩,⟨[16,20,21,26,29,35,38,44,47,53,56],28,4,47⟩,⟨[9,10,16,20,21,26,29,35,38,44,47,53,56],28,3,42⟩,⟨[7,9,10,16,20,21,26,29,35,38,44,47,53,56],28,3,40⟩,⟨[3,7,9,10,16,20,21,26,29,35,38,44,47,53,56],28,3,36⟩,⟨[1,3,7,9,10,16,20,21,26,29,35,38,44,47,53,56],28,3,34⟩] fun cx=>qA 0x8482408851400000e98 2712 [75] h6<|mA qI [(42,[44,47,53,56]),(43,[]),(45,[47,53,56]),(46,[])] 21 [⟨[47,53,56],28,9,79⟩,⟨[44,47,53,56],28,9,76⟩,⟨[38,44,47,53,56],28,9,70⟩,⟨[35,38,44,47,53,56],28,9,67⟩,⟨[29,35,38,44,47,53,56],28,7,61⟩,⟨[26,29,35,38,44,47,53,56],28,7,58⟩,⟨[20,21,26,29,35,38,44,47,53,56],28,4,51⟩,⟨[16,20,21,26,29,35,38,44,47,53,56],28,4,47⟩,⟨[9,10,16,20,21,26,29,35,38,44,47,53,56],28,3,42⟩,⟨[7,9,10,16,20,21,26,29,35,38,44,47,53,56],28,3,40⟩,⟨[3,7,9,10,16,20,21,26,29,35,38,44,47,53,56],28,3,36⟩,⟨[1,3,7,9,10,16,20,21,26,29,35,38,44,47,53,56],28,3,34⟩] fun cx=>mC qI 44<|vB [.rd,.rd] [.box 9] (zDV n r5.1 r5.2 r19 er19) (.inr (zN (zH zT zR) zS))<|fA<|mC qI 47<|vB [.rd,.rd] [.box 9] (zDc n r5.1 r5.2 r20 er20) (.inr (zN (zH zT zR) zS))<|fA<|mA qI (zl [48,49,50]) 16 [⟨[47,53,56],28,9,79⟩,⟨[44,47,53,56],28,9,76⟩,⟨[38,44,47,53,56],28,9,70⟩,⟨[35,38,44,47,53,56],28,9,67⟩,⟨[29,35,38,44,47,53,56],28,7,61⟩,⟨[26,29,35,38,44,47,53,56],28,7,58⟩,⟨[20,21,26,29,35,38,44,47,53,56],28,4,51⟩,⟨[16,20,21,26,29,35,38,44,47,53,56],28,4,47⟩,⟨[9,10,16,20,21,26,29,35,38,44,47,53,56],28,3,42⟩,⟨[7,9,10,16,20,21,26,29,35,38,44,47,53,56],28,3,40⟩,⟨[3,7,9,10,16,20,21,26,29,35,38,44,47,53,56],28,3,36⟩,⟨[1,3,7,9,10,16,20,21,26,29,35,38,44,47,53,56],28,3,34⟩] fun cx=>?_
 refine qA 0x1090482408851400000e98 2712 [84] h7<|mA qI [(51,[53,56]),(52,[]),(54,[56]),(55,[])] 12 [⟨[56],28,9,88⟩,⟨[53,56],28,9,85⟩,⟨[47,53,56],28,9,79⟩,⟨[44,47,53,56],28,9,76⟩,⟨[38,44,47,53,56],28,9,70⟩,⟨[35,38,44,47,53,56],28,9,67⟩,⟨[29,35,38,44,47,53,56],28,7,61⟩,⟨[26,29,35,38,44,47,53,56],28,7,58⟩,⟨[20,21,26,29,35,38,44,47,53,56],28,4,51⟩,⟨[16,20,21,26,29,35,38,44,47,53,56],28,4,47⟩,⟨[9,10,16,20,21,26,29,35,38,44,47,53,56],28,3,42⟩,⟨[7,9,10,16,20,21,26,29,35,38,44,47,53,56],28,3,40⟩,⟨[3,7,9,10,16,20,21,26,29,35,38,44,47,53,56],28,3,36⟩,⟨[1,3,7,9,10,16,20,21,26,29,35,38,44,47,53,56],28,3,34⟩] fun cx=>mC qI 53<|vB [.rd,.rd] [.box 9] (zL1 n r5.1 r5.2 r21 er21) (.inr (zN (zH zT zR) zS))<|fA<|mC qI 56<|vB [.rd,.rd] [.box 9] (zMG n r5.1 r5.2 r22 er22) (.inr (zN (zH zT zR) zS))<|fA<|mA qI (zl [57,58,59]) 7 [⟨[56],28,9,88⟩,⟨[53,56],28,9,85⟩,⟨[47,53,56],28,9,79⟩,⟨[44,47,53,56],28,9,76⟩,⟨[38,44,47,53,56],28,9,70⟩,⟨[35,38,44,47,53,56],28,9,67⟩,⟨[29,35,38,44,47,53,56],28,7,61⟩,⟨[26,29,35,38,44,47,53,56],28,7,58⟩,⟨[20,21,26,29,35,38,44,47,53,56],28,4,51⟩,⟨[16,20,21,26,29,35,38,44,47,53,56],28,4,47⟩,⟨[9,10,16,20,21,26,29,35,38,44,47,53,56],28,3,42⟩,⟨[7,9,10,16,20,21,26,29,35,38,44,47,53,56],28,3,40⟩,⟨[3,7,9,10,16,20,21,26,29,35,38,44,47,53,56],28,3,36⟩,⟨[1,3,7,9,10,16,20,21,26,29,35,38,44,47,53,56],28,3,34⟩] fun cx=>qA 0x212090482408851400000a98 2712 [93] h8<|mA qI (zl [60,61,62,63,64,65,66]) 0 [⟨[56],28,9,88⟩,⟨[53,56],28,9,85⟩,⟨[47,53,56],28,9,79⟩,⟨[44,47,53,56],28,9,76⟩,⟨[38,44,47,53,56],28,9,70⟩,⟨[35,38,44,47,53,56],28,9,67⟩,⟨[29,35,38,44,47,53,56],28,7,61⟩,⟨[26,29,35,38,44,47,53,56],28,7,58⟩,⟨[20,21,26,29,35,38,44,47,53,56],28,4,51⟩,⟨[16,20,21,26,29,35,38,44,47,53,56],28,4,47⟩,⟨[9,10,16,20,21,26,29,35,38,44,47,53,56],28,3,42⟩,⟨[7,9,10,16,20,21,26,29,35,38,44,47,53,56],28,3,40⟩,⟨[3,7,9,10,16,20,21,26,29,35,38,44,47,53,56],28,3,36⟩,⟨[1,3,7,9,10,16,20,21,26,29,35,38,44,47,53,56],28,3,34⟩] fun cx=>?_
 exact mE qI [2] []
theorem zHH(n:Nat)(r2:Net)(r7:Bool)(r8:Bool)(r5:Net×Int)(r4:Net×(List Int))(r3:Net×Int×(List Int))(r6:Net)(r9:(List Int))(r10:(List Int))(r11:Bool)(r12:(List Int))(r13:(List Int))(r14:Bool)(r15:Bool)(r16:Bool)(r17:Int)(r18:Int)(r19:Int)(r20:Int)(r21:Bool)(r22:Bool)(r23:(List Int))(r24:(List Int))(r25:Bool)(er7:(Zy n r2)=some r7)(er8:(Z4 n r2)=some r8)(h2:(r7==r8)=true)(er9:(Yj n r2)=some r9)(er10:(Yl n r2)=some r10)(er11:(qM n r9 r10)=some r11)(h3:r11=true)(er12:(qg n r3.1 r3.2.1 r3.2.2)=some r12)(er13:(Z5 n r3.1 r3.2.1 r3.2.2)=some r13)(er14:(qM n r12 r13)=some r14)(h4:r14=true)(er15:(Y1 n r4.1 r4.2)=some r15)(er16:(Y4 n r4.1 r4.2)=some r16)(h5:(r15==r16)=true)(er17:(qw n r5.1 r5.2)=some r17)(er18:(ZE n r5.1 r5.2)=some r18)(h6:(r17==r18)=true)(er19:(ZP n r5.1 r5.2)=some r19)(er20:(QH n r5.1 r5.2)=some r20)(h7:(r19==r20)=true)(er21:(zBR n r5.1 r5.2)=some r21)(er22:(zBT n r5.1 r5.2)=some r22)(h8:(r21==r22)=true)(er23:(ZY n r6)=some r23)(er24:(Jr n r6)=some r24)(er25:(qM n r23 r24)=some r25)(cx:Cx):AT Tryz.prog cx (rg Tryz.f3 8) [] 67 [] ⟨100,0,[sA 11 11 3 0,sI 10 r5.2,sA 9 9 3 0,sC 8 (cL 1 r4.2 zC),sA 7 7 3 0,sC 6 (cL 1 r3.2.2 zC),sI 5 r3.2.1,sA 4 4 3 0,sA 3 3 3 0],[(11,(zD r6)),(9,(zD r5.1)),(7,(zD r4.1)),(4,(zD r3.1)),(3,(zD r2))]⟩ (fun s=>s=⟨100,0,[sB 2 r25],[]⟩):=by
 refine mA qI [(0,[1,3,7,9,10,16,20,21,26,29,35,38,44,47,53,56,61,63,64]),(2,[3,7,9,10,16,20,21,26,29,35,38,44,47,53,56,61,63,64])] 65 [⟨[3,7,9,10,16,20,21,26,29,35,38,44,47,53,56,61,63,64],28,3,36⟩,⟨[1,3,7,9,10,16,20,21,26,29,35,38,44,47,53,56,61,63,64],28,3,34⟩] fun cx=>mC qI 1<|vB [.rd] [.box 3] (zAN n r2 r7 er7) (.inr (zN (zH zT zR) zS))<|fA<|mC qI 3<|vB [.rd] [.box 3] (zAR n r2 r8 er8) (.inr (zN (zH zT zR) zS))<|fA<|mA qI [(4,[]),(5,[])] 61 [⟨[3,7,9,10,16,20,21,26,29,35,38,44,47,53,56,61,63,64],28,3,36⟩,⟨[1,3,7,9,10,16,20,21,26,29,35,38,44,47,53,56,61,63,64],28,3,34⟩] fun cx=>qA 635655163896 2712 [39] h2<|mA qI [(6,[7,9,10,16,20,21,26,29,35,38,44,47,53,56,61,63,64]),(8,[9,10,16,20,21,26,29,35,38,44,47,53,56,61,63,64])] 59 [⟨[9,10,16,20,21,26,29,35,38,44,47,53,56,61,63,64],28,3,42⟩,⟨[7,9,10,16,20,21,26,29,35,38,44,47,53,56,61,63,64],28,3,40⟩,⟨[3,7,9,10,16,20,21,26,29,35,38,44,47,53,56,61,63,64],28,3,36⟩,⟨[1,3,7,9,10,16,20,21,26,29,35,38,44,47,53,56,61,63,64],28,3,34⟩] fun cx=>mC qI 7<|vB [.rd] [.box 3] (zDo n r2 r9 er9) (.inr (zN (zH (qf (z7 zx _)) zR) zS))<|fA<|mC qI 9<|vB [.rd] [.box 3] (zDr n r2 r10 er10) (.inr (zN (zH (qf (z7 zx _)) zR) zS))<|fA<|mC qI 10<|vA [.rd,.rd] (ZS n r9 r10 r11 er11)<|fA<|mA qI [(11,[]),(12,[])] 54 [⟨[9,10,16,20,21,26,29,35,38,44,47,53,56,61,63,64],28,3,42⟩,⟨[7,9,10,16,20,21,26,29,35,38,44,47,53,56,61,63,64],28,3,40⟩,⟨[3,7,9,10,16,20,21,26,29,35,38,44,47,53,56,61,63,64],28,3,36⟩,⟨[1,3,7,9,10,16,20,21,26,29,35,38,44,47,53,56,61,63,64],28,3,34⟩] fun cx=>?_
 refine qA 75952201666552 2712 [46] h3<|mA qI [(13,[16,20,21,26,29,35,38,44,47,53,56,61,63,64]),(14,[]),(15,[]),(17,[20,21,26,29,35,38,44,47,53,56,61,63,64]),(18,[]),(19,[])] 48 [⟨[20,21,26,29,35,38,44,47,53,56,61,63,64],28,4,51⟩,⟨[16,20,21,26,29,35,38,44,47,53,56,61,63,64],28,4,47⟩,⟨[9,10,16,20,21,26,29,35,38,44,47,53,56,61,63,64],28,3,42⟩,⟨[7,9,10,16,20,21,26,29,35,38,44,47,53,56,61,63,64],28,3,40⟩,⟨[3,7,9,10,16,20,21,26,29,35,38,44,47,53,56,61,63,64],28,3,36⟩,⟨[1,3,7,9,10,16,20,21,26,29,35,38,44,47,53,56,61,63,64],28,3,34⟩] fun cx=>mC qI 16<|vB [.rd,.rd,.rd] [.box 4,.slot 6] (zAO n r3.1 r3.2.1 r3.2.2 r12 er12) (.inr (zN (zH (qf (z7 zx _)) zR) zS))<|fA<|mC qI 20<|vB [.rd,.rd,.rd] [.box 4,.slot 6] (zAS n r3.1 r3.2.1 r3.2.2 r13 er13) (.inr (zN (zH (qf (z7 zx _)) zR) zS))<|fA<|mC qI 21<|vA [.rd,.rd] (ZS n r12 r13 r14 er14)<|fA<|mA qI [(22,[]),(23,[])] 43 [⟨[20,21,26,29,35,38,44,47,53,56,61,63,64],28,4,51⟩,⟨[16,20,21,26,29,35,38,44,47,53,56,61,63,64],28,4,47⟩,⟨[9,10,16,20,21,26,29,35,38,44,47,53,56,61,63,64],28,3,42⟩,⟨[7,9,10,16,20,21,26,29,35,38,44,47,53,56,61,63,64],28,3,40⟩,⟨[3,7,9,10,16,20,21,26,29,35,38,44,47,53,56,61,63,64],28,3,36⟩,⟨[1,3,7,9,10,16,20,21,26,29,35,38,44,47,53,56,61,63,64],28,3,34⟩] fun cx=>qA 0x208851400000f98 2712 [57] h4<|mA qI [(24,[26,29,35,38,44,47,53,56,61,63,64]),(25,[]),(27,[29,35,38,44,47,53,56,61,63,64]),(28,[])] 39 [⟨[29,35,38,44,47,53,56,61,63,64],28,7,61⟩,⟨[26,29,35,38,44,47,53,56,61,63,64],28,7,58⟩,⟨[20,21,26,29,35,38,44,47,53,56,61,63,64],28,4,51⟩,⟨[16,20,21,26,29,35,38,44,47,53,56,61,63,64],28,4,47⟩,⟨[9,10,16,20,21,26,29,35,38,44,47,53,56,61,63,64],28,3,42⟩,⟨[7,9,10,16,20,21,26,29,35,38,44,47,53,56,61,63,64],28,3,40⟩,⟨[3,7,9,10,16,20,21,26,29,35,38,44,47,53,56,61,63,64],28,3,36⟩,⟨[1,3,7,9,10,16,20,21,26,29,35,38,44,47,53,56,61,63,64],28,3,34⟩] fun cx=>?_
 refine mC qI 26<|vB [.rd,.rd] [.box 7,.slot 8] (zE5 n r4.1 r4.2 r15 er15) (.inr (zN (zH zT zR) zS))<|fA<|mC qI 29<|vB [.rd,.rd] [.box 7,.slot 8] (zE8 n r4.1 r4.2 r16 er16) (.inr (zN (zH zT zR) zS))<|fA<|mA qI (zl [30,31,32]) 34 [⟨[29,35,38,44,47,53,56,61,63,64],28,7,61⟩,⟨[26,29,35,38,44,47,53,56,61,63,64],28,7,58⟩,⟨[20,21,26,29,35,38,44,47,53,56,61,63,64],28,4,51⟩,⟨[16,20,21,26,29,35,38,44,47,53,56,61,63,64],28,4,47⟩,⟨[9,10,16,20,21,26,29,35,38,44,47,53,56,61,63,64],28,3,42⟩,⟨[7,9,10,16,20,21,26,29,35,38,44,47,53,56,61,63,64],28,3,40⟩,⟨[3,7,9,10,16,20,21,26,29,35,38,44,47,53,56,61,63,64],28,3,36⟩,⟨[1,3,7,9,10,16,20,21,26,29,35,38,44,47,53,56,61,63,64],28,3,34⟩] fun cx=>qA 0x42408851400000e98 2712 [66] h5<|mA qI [(33,[35,38,44,47,53,56,61,63,64]),(34,[]),(36,[38,44,47,53,56,61,63,64]),(37,[])] 30 [⟨[38,44,47,53,56,61,63,64],28,9,70⟩,⟨[35,38,44,47,53,56,61,63,64],28,9,67⟩,⟨[29,35,38,44,47,53,56,61,63,64],28,7,61⟩,⟨[26,29,35,38,44,47,53,56,61,63,64],28,7,58⟩,⟨[20,21,26,29,35,38,44,47,53,56,61,63,64],28,4,51⟩,⟨[16,20,21,26,29,35,38,44,47,53,56,61,63,64],28,4,47⟩,⟨[9,10,16,20,21,26,29,35,38,44,47,53,56,61,63,64],28,3,42⟩,⟨[7,9,10,16,20,21,26,29,35,38,44,47,53,56,61,63,64],28,3,40⟩,⟨[3,7,9,10,16,20,21,26,29,35,38,44,47,53,56,61,63,64],28,3,36⟩,⟨[1,3,7,9,10,16,20,21,26,29,35,38,44,47,53,56,61,63,64],28,3,34⟩] fun cx=>mC qI 35<|vB [.rd,.rd] [.box 9] (zAp n r5.1 r5.2 r17 er17) (.inr (zN (zH zT zR) zS)) ?_
 refine fA<|mC qI 38<|vB [.rd,.rd] [.box 9] (Jq n r5.1 r5.2 r18 er18) (.inr (zN (zH zT zR) zS))<|fA<|mA qI (zl [39,40,41]) 25 [⟨[38,44,47,53,56,61,63,64],28,9,70⟩,⟨[35,38,44,47,53,56,61,63,64],28,9,67⟩,⟨[29,35,38,44,47,53,56,61,63,64],28,7,61⟩,⟨[26,29,35,38,44,47,53,56,61,63,64],28,7,58⟩,⟨[20,21,26,29,35,38,44,47,53,56,61,63,64],28,4,51⟩,⟨[16,20,21,26,29,35,38,44,47,53,56,61,63,64],28,4,47⟩,⟨[9,10,16,20,21,26,29,35,38,44,47,53,56,61,63,64],28,3,42⟩,⟨[7,9,10,16,20,21,26,29,35,38,44,47,53,56,61,63,64],28,3,40⟩,⟨[3,7,9,10,16,20,21,26,29,35,38,44,47,53,56,61,63,64],28,3,36⟩,⟨[1,3,7,9,10,16,20,21,26,29,35,38,44,47,53,56,61,63,64],28,3,34⟩] fun cx=>qA 0x8482408851400000e98 2712 [75] h6<|mA qI [(42,[44,47,53,56,61,63,64]),(43,[]),(45,[47,53,56,61,63,64]),(46,[])] 21 [⟨[47,53,56,61,63,64],28,9,79⟩,⟨[44,47,53,56,61,63,64],28,9,76⟩,⟨[38,44,47,53,56,61,63,64],28,9,70⟩,⟨[35,38,44,47,53,56,61,63,64],28,9,67⟩,⟨[29,35,38,44,47,53,56,61,63,64],28,7,61⟩,⟨[26,29,35,38,44,47,53,56,61,63,64],28,7,58⟩,⟨[20,21,26,29,35,38,44,47,53,56,61,63,64],28,4,51⟩,⟨[16,20,21,26,29,35,38,44,47,53,56,61,63,64],28,4,47⟩,⟨[9,10,16,20,21,26,29,35,38,44,47,53,56,61,63,64],28,3,42⟩,⟨[7,9,10,16,20,21,26,29,35,38,44,47,53,56,61,63,64],28,3,40⟩,⟨[3,7,9,10,16,20,21,26,29,35,38,44,47,53,56,61,63,64],28,3,36⟩,⟨[1,3,7,9,10,16,20,21,26,29,35,38,44,47,53,56,61,63,64],28,3,34⟩] fun cx=>mC qI 44<|vB [.rd,.rd] [.box 9] (zDV n r5.1 r5.2 r19 er19) (.inr (zN (zH zT zR) zS)) ?_
 refine fA<|mC qI 47<|vB [.rd,.rd] [.box 9] (zDc n r5.1 r5.2 r20 er20) (.inr (zN (zH zT zR) zS))<|fA<|mA qI (zl [48,49,50]) 16 [⟨[47,53,56,61,63,64],28,9,79⟩,⟨[44,47,53,56,61,63,64],28,9,76⟩,⟨[38,44,47,53,56,61,63,64],28,9,70⟩,⟨[35,38,44,47,53,56,61,63,64],28,9,67⟩,⟨[29,35,38,44,47,53,56,61,63,64],28,7,61⟩,⟨[26,29,35,38,44,47,53,56,61,63,64],28,7,58⟩,⟨[20,21,26,29,35,38,44,47,53,56,61,63,64],28,4,51⟩,⟨[16,20,21,26,29,35,38,44,47,53,56,61,63,64],28,4,47⟩,⟨[9,10,16,20,21,26,29,35,38,44,47,53,56,61,63,64],28,3,42⟩,⟨[7,9,10,16,20,21,26,29,35,38,44,47,53,56,61,63,64],28,3,40⟩,⟨[3,7,9,10,16,20,21,26,29,35,38,44,47,53,56,61,63,64],28,3,36⟩,⟨[1,3,7,9,10,16,20,21,26,29,35,38,44,47,53,56,61,63,64],28,3,34⟩] fun cx=>qA 0x1090482408851400000e98 2712 [84] h7<|mA qI [(51,[53,56,61,63,64]),(52,[]),(54,[56,61,63,64]),(55,[])] 12 [⟨[56,61,63,64],28,9,88⟩,⟨[53,56,61,63,64],28,9,85⟩,⟨[47,53,56,61,63,64],28,9,79⟩,⟨[44,47,53,56,61,63,64],28,9,76⟩,⟨[38,44,47,53,56,61,63,64],28,9,70⟩,⟨[35,38,44,47,53,56,61,63,64],28,9,67⟩,⟨[29,35,38,44,47,53,56,61,63,64],28,7,61⟩,⟨[26,29,35,38,44,47,53,56,61,63,64],28,7,58⟩,⟨[20,21,26,29,35,38,44,47,53,56,61,63,64],28,4,51⟩,⟨[16,20,21,26,29,35,38,44,47,53,56,61,63,64],28,4,47⟩,⟨[9,10,16,20,21,26,29,35,38,44,47,53,56,61,63,64],28,3,42⟩,⟨[7,9,10,16,20,21,26,29,35,38,44,47,53,56,61,63,64],28,3,40⟩,⟨[3,7,9,10,16,20,21,26,29,35,38,44,47,53,56,61,63,64],28,3,36⟩,⟨[1,3,7,9,10,16,20,21,26,29,35,38,44,47,53,56,61,63,64],28,3,34⟩] fun cx=>?_
 refine mC qI 53<|vB [.rd,.rd] [.box 9] (zL1 n r5.1 r5.2 r21 er21) (.inr (zN (zH zT zR) zS))<|fA<|mC qI 56<|vB [.rd,.rd] [.box 9] (zMG n r5.1 r5.2 r22 er22) (.inr (zN (zH zT zR) zS))<|fA<|mA qI (zl [57,58,59]) 7 [⟨[56,61,63,64],28,9,88⟩,⟨[53,56,61,63,64],28,9,85⟩,⟨[47,53,56,61,63,64],28,9,79⟩,⟨[44,47,53,56,61,63,64],28,9,76⟩,⟨[38,44,47,53,56,61,63,64],28,9,70⟩,⟨[35,38,44,47,53,56,61,63,64],28,9,67⟩,⟨[29,35,38,44,47,53,56,61,63,64],28,7,61⟩,⟨[26,29,35,38,44,47,53,56,61,63,64],28,7,58⟩,⟨[20,21,26,29,35,38,44,47,53,56,61,63,64],28,4,51⟩,⟨[16,20,21,26,29,35,38,44,47,53,56,61,63,64],28,4,47⟩,⟨[9,10,16,20,21,26,29,35,38,44,47,53,56,61,63,64],28,3,42⟩,⟨[7,9,10,16,20,21,26,29,35,38,44,47,53,56,61,63,64],28,3,40⟩,⟨[3,7,9,10,16,20,21,26,29,35,38,44,47,53,56,61,63,64],28,3,36⟩,⟨[1,3,7,9,10,16,20,21,26,29,35,38,44,47,53,56,61,63,64],28,3,34⟩] fun cx=>qA 0x212090482408851400000a98 2712 [93] h8<|mA qI [(60,[61,63,64]),(62,[63,64])] 5 [⟨[63,64],28,11,96⟩,⟨[61,63,64],28,11,94⟩,⟨[56,61,63,64],28,9,88⟩,⟨[53,56,61,63,64],28,9,85⟩,⟨[47,53,56,61,63,64],28,9,79⟩,⟨[44,47,53,56,61,63,64],28,9,76⟩,⟨[38,44,47,53,56,61,63,64],28,9,70⟩,⟨[35,38,44,47,53,56,61,63,64],28,9,67⟩,⟨[29,35,38,44,47,53,56,61,63,64],28,7,61⟩,⟨[26,29,35,38,44,47,53,56,61,63,64],28,7,58⟩,⟨[20,21,26,29,35,38,44,47,53,56,61,63,64],28,4,51⟩,⟨[16,20,21,26,29,35,38,44,47,53,56,61,63,64],28,4,47⟩,⟨[9,10,16,20,21,26,29,35,38,44,47,53,56,61,63,64],28,3,42⟩,⟨[7,9,10,16,20,21,26,29,35,38,44,47,53,56,61,63,64],28,3,40⟩,⟨[3,7,9,10,16,20,21,26,29,35,38,44,47,53,56,61,63,64],28,3,36⟩,⟨[1,3,7,9,10,16,20,21,26,29,35,38,44,47,53,56,61,63,64],28,3,34⟩] fun cx=>?_
 exact mC qI 61<|vB [.rd] [.box 11] (zGS n r6 r23 er23) (.inr (zN (zH (qf (z7 zx _)) zR) zS))<|fA<|mC qI 63<|vB [.rd] [.box 11] (zI8 n r6 r24 er24) (.inr (zN (zH (qf (z7 zx _)) zR) zS))<|fA<|mC qI 64<|vA [.rd,.rd] (ZS n r23 r24 r25 er25)<|fA<|mA qI [(65,[]),(66,[])] 0 [⟨[63,64],28,11,96⟩,⟨[61,63,64],28,11,94⟩,⟨[56,61,63,64],28,9,88⟩,⟨[53,56,61,63,64],28,9,85⟩,⟨[47,53,56,61,63,64],28,9,79⟩,⟨[44,47,53,56,61,63,64],28,9,76⟩,⟨[38,44,47,53,56,61,63,64],28,9,70⟩,⟨[35,38,44,47,53,56,61,63,64],28,9,67⟩,⟨[29,35,38,44,47,53,56,61,63,64],28,7,61⟩,⟨[26,29,35,38,44,47,53,56,61,63,64],28,7,58⟩,⟨[20,21,26,29,35,38,44,47,53,56,61,63,64],28,4,51⟩,⟨[16,20,21,26,29,35,38,44,47,53,56,61,63,64],28,4,47⟩,⟨[9,10,16,20,21,26,29,35,38,44,47,53,56,61,63,64],28,3,42⟩,⟨[7,9,10,16,20,21,26,29,35,38,44,47,53,56,61,63,64],28,3,40⟩,⟨[3,7,9,10,16,20,21,26,29,35,38,44,47,53,56,61,63,64],28,3,36⟩,⟨[1,3,7,9,10,16,20,21,26,29,35,38,44,47,53,56,61,63,64],28,3,34⟩] fun cx=>mE qI [2] []
theorem zIf(n:Nat)(x0:(List Int))(r:Bool)(H:zAI n x0=some r):zb Tryz.prog 3 [.val false [.sl false 1 (zQ (x0.map qC))]] [.val false [.lit (.bool r)]] []:=by
 refine cW Tryz.func3 (fun g d=>sl [g 0,sl [g 1] (cn 13 (sl [g 2] .ret) .skip),g 3,g 4,g 5,g 6,g 7,d 8] .ret) [.tmp 2] fun cx=>?_
 unfold zAI at H
 refine gA 1 1 0<|tS<|rA 1<|bE H fun r1 er1 H=>vA [.rd] (zRg n x0 r1 er1)<|dA 8193 0 ?_
 cases h1:r1
 ·have H:=YA h1 H
  refine nB_<|tK<|rA 1<|bE H fun r2 er2 H=>vA [.rd] (zKm n x0 r2 er2)<|uA 2 9 8<|rA 1<|bE H fun r3 er3 H=>vA [.rd] (zKn n x0 r3 er3)<|LAt.movT tOk (ty:=31) (t:=18) (d:=16) (g:=none) [(true,(zD r3.1)),(false,[cI r3.2.1]),(false,[cL 1 r3.2.2 zC])] _ kr (.inl rfl) kr kr kr kr rfl<|lA 6<|zY (T:=lk tab) (ty:=30) (x:=(.tmp 21)) (d:=6) (g:=none) false [cL 1 r3.2.2 zC] kr kr kr kr kr<|dA 121 24<|rA 1<|bE H fun r4 er4 H=>vA [.rd] (zLN n x0 r4 er4)<|LAt.movT tOk (ty:=33) (t:=24) (d:=22) (g:=none) [(true,(zD r4.1)),(false,[cL 1 r4.2 zC])] _ kr (.inl rfl) kr kr kr kr rfl<|lA 4<|zY (T:=lk tab) (ty:=30) (x:=(.tmp 26)) (d:=8) (g:=none) false [cL 1 r4.2 zC] kr kr kr kr kr<|dA 505 152<|rA 1<|bE H fun r5 er5 H=>vA [.rd] (zIi n x0 r5 er5)<|LAt.movT tOk (ty:=35) (t:=29) (d:=27) (g:=none) [(true,(zD r5.1)),(false,[cI r5.2])] _ kr (.inl rfl) kr kr kr kr rfl<|uA 5 2041 664<|rA 1<|bE H fun r6 er6 H=>vA [.rd] (zJf n x0 r6 er6)<|uA 2 4088 2712<|bE H fun r7 er7 H=>bE H fun r8 er8 H=>sT ⟨100,0,[sA 11 11 3 0,sI 10 r5.2,sA 9 9 3 0,sC 8 (cL 1 r4.2 zC),sA 7 7 3 0,sC 6 (cL 1 r3.2.2 zC),sI 5 r3.2.1,sA 4 4 3 0,sA 3 3 3 0],[(11,(zD r6)),(9,(zD r5.1)),(7,(zD r4.1)),(4,(zD r3.1)),(3,(zD r2))]⟩ ?_
  cases h2:(r7==r8)
  ·have H:=YA h2 H
   exact sT ⟨100,0,[sA 11 11 3 0,sI 10 r5.2,sA 9 9 3 0,sC 8 (cL 1 r4.2 zC),sA 7 7 3 0,sC 6 (cL 1 r3.2.2 zC),sI 5 r3.2.1,sA 4 4 3 0,sA 3 3 3 0],[(11,(zD r6)),(9,(zD r5.1)),(7,(zD r4.1)),(4,(zD r3.1)),(3,(zD r2))]⟩<|zd zr 67 kr ⟨100,0,[sB 2 false],[]⟩ (zHA n r2 r7 r8 r5 r4 r3 r6 er7 er8 h2)<|te (fF H)
  have H:=YB h2 H
  refine bE H fun r9 er9 H=>bE H fun r10 er10 H=>bE H fun r11 er11 H=>sT ⟨100,0,[sA 11 11 3 0,sI 10 r5.2,sA 9 9 3 0,sC 8 (cL 1 r4.2 zC),sA 7 7 3 0,sC 6 (cL 1 r3.2.2 zC),sI 5 r3.2.1,sA 4 4 3 0,sA 3 3 3 0],[(11,(zD r6)),(9,(zD r5.1)),(7,(zD r4.1)),(4,(zD r3.1)),(3,(zD r2))]⟩ ?_
  cases h3:r11
  ·have H:=YA h3 H
   exact sT ⟨100,0,[sA 11 11 3 0,sI 10 r5.2,sA 9 9 3 0,sC 8 (cL 1 r4.2 zC),sA 7 7 3 0,sC 6 (cL 1 r3.2.2 zC),sI 5 r3.2.1,sA 4 4 3 0,sA 3 3 3 0],[(11,(zD r6)),(9,(zD r5.1)),(7,(zD r4.1)),(4,(zD r3.1)),(3,(zD r2))]⟩<|zd zr 67 kr ⟨100,0,[sB 2 false],[]⟩ (zHB n r2 r7 r8 r5 r4 r3 r6 r9 r10 r11 er7 er8 h2 er9 er10 er11 h3)<|te (fF H)
  have H:=YB h3 H
  refine bE H fun r12 er12 H=>bE H fun r13 er13 H=>bE H fun r14 er14 H=>sT ⟨100,0,[sA 11 11 3 0,sI 10 r5.2,sA 9 9 3 0,sC 8 (cL 1 r4.2 zC),sA 7 7 3 0,sC 6 (cL 1 r3.2.2 zC),sI 5 r3.2.1,sA 4 4 3 0,sA 3 3 3 0],[(11,(zD r6)),(9,(zD r5.1)),(7,(zD r4.1)),(4,(zD r3.1)),(3,(zD r2))]⟩ ?_
  cases h4:r14
  ·have H:=YA h4 H
   exact sT ⟨100,0,[sA 11 11 3 0,sI 10 r5.2,sA 9 9 3 0,sC 8 (cL 1 r4.2 zC),sA 7 7 3 0,sC 6 (cL 1 r3.2.2 zC),sI 5 r3.2.1,sA 4 4 3 0,sA 3 3 3 0],[(11,(zD r6)),(9,(zD r5.1)),(7,(zD r4.1)),(4,(zD r3.1)),(3,(zD r2))]⟩<|zd zr 67 kr ⟨100,0,[sB 2 false],[]⟩ (zHC n r2 r7 r8 r5 r4 r3 r6 r9 r10 r11 r12 r13 r14 er7 er8 h2 er9 er10 er11 h3 er12 er13 er14 h4)<|te (fF H)
  have H:=YB h4 H
  refine bE H fun r15 er15 H=>bE H fun r16 er16 H=>sT ⟨100,0,[sA 11 11 3 0,sI 10 r5.2,sA 9 9 3 0,sC 8 (cL 1 r4.2 zC),sA 7 7 3 0,sC 6 (cL 1 r3.2.2 zC),sI 5 r3.2.1,sA 4 4 3 0,sA 3 3 3 0],[(11,(zD r6)),(9,(zD r5.1)),(7,(zD r4.1)),(4,(zD r3.1)),(3,(zD r2))]⟩ ?_
  cases h5:(r15==r16)
  ·have H:=YA h5 H
   exact sT ⟨100,0,[sA 11 11 3 0,sI 10 r5.2,sA 9 9 3 0,sC 8 (cL 1 r4.2 zC),sA 7 7 3 0,sC 6 (cL 1 r3.2.2 zC),sI 5 r3.2.1,sA 4 4 3 0,sA 3 3 3 0],[(11,(zD r6)),(9,(zD r5.1)),(7,(zD r4.1)),(4,(zD r3.1)),(3,(zD r2))]⟩<|zd zr 67 kr ⟨100,0,[sB 2 false],[]⟩ (zHD n r2 r7 r8 r5 r4 r3 r6 r9 r10 r11 r12 r13 r14 r15 r16 er7 er8 h2 er9 er10 er11 h3 er12 er13 er14 h4 er15 er16 h5)<|te (fF H)
  have H:=YB h5 H
  refine bE H fun r17 er17 H=>bE H fun r18 er18 H=>sT ⟨100,0,[sA 11 11 3 0,sI 10 r5.2,sA 9 9 3 0,sC 8 (cL 1 r4.2 zC),sA 7 7 3 0,sC 6 (cL 1 r3.2.2 zC),sI 5 r3.2.1,sA 4 4 3 0,sA 3 3 3 0],[(11,(zD r6)),(9,(zD r5.1)),(7,(zD r4.1)),(4,(zD r3.1)),(3,(zD r2))]⟩ ?_
  cases h6:(r17==r18)
  ·have H:=YA h6 H
   exact sT ⟨100,0,[sA 11 11 3 0,sI 10 r5.2,sA 9 9 3 0,sC 8 (cL 1 r4.2 zC),sA 7 7 3 0,sC 6 (cL 1 r3.2.2 zC),sI 5 r3.2.1,sA 4 4 3 0,sA 3 3 3 0],[(11,(zD r6)),(9,(zD r5.1)),(7,(zD r4.1)),(4,(zD r3.1)),(3,(zD r2))]⟩<|zd zr 67 kr ⟨100,0,[sB 2 false],[]⟩ (zHE n r2 r7 r8 r5 r4 r3 r6 r9 r10 r11 r12 r13 r14 r15 r16 r17 r18 er7 er8 h2 er9 er10 er11 h3 er12 er13 er14 h4 er15 er16 h5 er17 er18 h6)<|te (fF H)
  have H:=YB h6 H
  refine bE H fun r19 er19 H=>bE H fun r20 er20 H=>sT ⟨100,0,[sA 11 11 3 0,sI 10 r5.2,sA 9 9 3 0,sC 8 (cL 1 r4.2 zC),sA 7 7 3 0,sC 6 (cL 1 r3.2.2 zC),sI 5 r3.2.1,sA 4 4 3 0,sA 3 3 3 0],[(11,(zD r6)),(9,(zD r5.1)),(7,(zD r4.1)),(4,(zD r3.1)),(3,(zD r2))]⟩ ?_
  cases h7:(r19==r20)
  ·have H:=YA h7 H
   exact sT ⟨100,0,[sA 11 11 3 0,sI 10 r5.2,sA 9 9 3 0,sC 8 (cL 1 r4.2 zC),sA 7 7 3 0,sC 6 (cL 1 r3.2.2 zC),sI 5 r3.2.1,sA 4 4 3 0,sA 3 3 3 0],[(11,(zD r6)),(9,(zD r5.1)),(7,(zD r4.1)),(4,(zD r3.1)),(3,(zD r2))]⟩<|zd zr 67 kr ⟨100,0,[sB 2 false],[]⟩ (zHF n r2 r7 r8 r5 r4 r3 r6 r9 r10 r11 r12 r13 r14 r15 r16 r17 r18 r19 r20 er7 er8 h2 er9 er10 er11 h3 er12 er13 er14 h4 er15 er16 h5 er17 er18 h6 er19 er20 h7)<|te (fF H)
  have H:=YB h7 H
  refine bE H fun r21 er21 H=>bE H fun r22 er22 H=>sT ⟨100,0,[sA 11 11 3 0,sI 10 r5.2,sA 9 9 3 0,sC 8 (cL 1 r4.2 zC),sA 7 7 3 0,sC 6 (cL 1 r3.2.2 zC),sI 5 r3.2.1,sA 4 4 3 0,sA 3 3 3 0],[(11,(zD r6)),(9,(zD r5.1)),(7,(zD r4.1)),(4,(zD r3.1)),(3,(zD r2))]⟩ ?_
  cases h8:(r21==r22)
  ·have H:=YA h8 H
   exact sT ⟨100,0,[sA 11 11 3 0,sI 10 r5.2,sA 9 9 3 0,sC 8 (cL 1 r4.2 zC),sA 7 7 3 0,sC 6 (cL 1 r3.2.2 zC),sI 5 r3.2.1,sA 4 4 3 0,sA 3 3 3 0],[(11,(zD r6)),(9,(zD r5.1)),(7,(zD r4.1)),(4,(zD r3.1)),(3,(zD r2))]⟩<|zd zr 67 kr ⟨100,0,[sB 2 false],[]⟩ (zHG n r2 r7 r8 r5 r4 r3 r6 r9 r10 r11 r12 r13 r14 r15 r16 r17 r18 r19 r20 r21 r22 er7 er8 h2 er9 er10 er11 h3 er12 er13 er14 h4 er15 er16 h5 er17 er18 h6 er19 er20 h7 er21 er22 h8)<|te (fF H)
  have H:=YB h8 H
  exact bE H fun r23 er23 H=>bE H fun r24 er24 H=>bE H fun r25 er25 H=>sT ⟨100,0,[sA 11 11 3 0,sI 10 r5.2,sA 9 9 3 0,sC 8 (cL 1 r4.2 zC),sA 7 7 3 0,sC 6 (cL 1 r3.2.2 zC),sI 5 r3.2.1,sA 4 4 3 0,sA 3 3 3 0],[(11,(zD r6)),(9,(zD r5.1)),(7,(zD r4.1)),(4,(zD r3.1)),(3,(zD r2))]⟩<|zd zr 67 kr ⟨100,0,[sB 2 r25],[]⟩ (zHH n r2 r7 r8 r5 r4 r3 r6 r9 r10 r11 r12 r13 r14 r15 r16 r17 r18 r19 r20 r21 r22 r23 r24 r25 er7 er8 h2 er9 er10 er11 h3 er12 er13 er14 h4 er15 er16 h5 er17 er18 h6 er19 er20 h7 er21 er22 h8 er23 er24 er25)<|te (fJ [(false,[cB r25])] H)
 have H:=YB h1 H
 exact tB_<|gA 1 4 0<|te (fT H)
def zIB(n:Nat)(x0:(List zM)):Option ((List zM)):=
  (bif (decide (([]:List zM).length+x0.length≤268435456))then(some (([]:List zM)++x0))else none)
def zEq(n:Nat)(x0:zm):Option (zm):=
  (bif (decide (([]:List zX).length+x0.Rows.length≤268435456))then((JC n x0.Pv).bind fun r2=>(some (⟨(([]:List zX)++x0.Rows),r2⟩:zm)))else none)
def YC(n:Nat)(x0:zA):Option (zA):=
  (bif (decide (([]:List Pt).length+x0.Ps.length≤268435456))then((zIB n x0.F).bind fun r2=>((zEq n x0.V).bind fun r3=>(some (⟨x0.Id,x0.Name,(([]:List Pt)++x0.Ps),r2,r3,x0.Tk,x0.Pa,x0.Wo,x0.Dr,x0.Ve⟩:zA))))else none)
def zKj(n:Nat)(x0:Net)(y5:(List zA)):Option (Net):=
  (some (⟨y5,(([]:List Link)++x0.Ls),(([]:List Say)++x0.Said)⟩:Net))
def zAc(n:Nat):Nat→Net→Int→(List zA)→Option (((List zA))⊕(Net))
  |0,_,_,_=>none
  |mo6+1,x0,y3,y4=>(bif (decide (y3<(x0.Bs.length:Int)))then((idx x0.Bs y3).bind fun v7=>((YC n v7).bind fun r8=>(bif (decide (y4.length+ [r8].length≤268435456))then(zAc n mo6 x0 (wI (y3+1)) (y4++[r8]))else none)))else(some (Sum.inl y4)))
def zBu(n:Nat)(x0:Net):Option (Net):=
  (bif (decide (([]:List Link).length+x0.Ls.length≤268435456))then(bif (decide (([]:List Say).length+x0.Said.length≤268435456))then((zAc n n x0 0 ([]:List zA)).bind fun o=>match o with|.inl y5=>(zKj n x0 y5)|.inr r=>some r)else none)else none)
def zIV(n:Nat)(x0:Pt):Option (Bool):=
  ((ql n x0.Co 1 1000).bind fun r1=>(bif (!r1)then(some false)else(bif x0.Has then(bif (!x0.Up)then(some false)else((zAQ n x0.Hd).bind fun r2=>(some r2)))else(some ((x0.Hd.Root==0)&&((x0.Hd.Co==0)&&((x0.Hd.Hops==0)&&((x0.Hd.Bridge==0)&&((x0.Hd.Port==0)&&true)))))))))
def zIz(n:Nat)(x0:zM):Option (Bool):=
  ((ql n x0.Tag 1 99).bind fun r1=>(bif r1 then((ql n x0.Mac 1 9999).bind fun r2=>(bif r2 then((ql n x0.Port 0 7).bind fun r3=>(bif r3 then((ql n x0.Age 0 4).bind fun r4=>(bif r4 then(bif (!x0.Sc)then(some true)else(some (x0.Age==0)))else(some false)))else(some false)))else(some false)))else(some false)))
def zGU(n:Nat)(x0:zM)(x1:Int)(x2:Int):Option (Bool):=
  (bif (decide (x0.Tag>x1))then(some true)else(bif (x0.Tag==x1)then(some (decide (x0.Mac>x2)))else(some false)))
def zMq(n:Nat)(x0:(List zM)):Option (Bool):=
  (some (decide ((x0.length:Int)≤12)))
def zAn(n:Nat):Nat→(List zM)→Int→Option ((Unit)⊕(Bool))
  |0,_,_=>none
  |mo2+1,x0,y1=>(bif (decide (y1<(x0.length:Int)))then((idx x0 y1).bind fun v3=>((zIz n v3).bind fun r4=>(bif (!r4)then(some (Sum.inr false))else(bif (decide (y1>0))then((idx x0 (wI (y1-1))).bind fun v5=>((idx x0 (wI (y1-1))).bind fun v6=>((zGU n v3 v5.Tag v6.Mac).bind fun r7=>(bif (!r7)then(some (Sum.inr false))else(zAn n mo2 x0 (wI (y1+1)))))))else(zAn n mo2 x0 (wI (y1+1)))))))else(some (Sum.inl ())))
def zHT(n:Nat)(x0:(List zM)):Option (Bool):=
  ((zAn n n x0 0).bind fun o=>match o with|.inl _=>(zMq n x0)|.inr r=>some r)
def zCk(n:Nat)(x0:Int):Option (Int):=
  (bif (decide ((0:Int)≤x0))then(some (wI ((wI (1*2^min ((x0:Int)).toNat (IntKind.bits .i64)))-1)))else none)
def zMt(n:Nat):Option (Int):=
  (some (-1))
def zDX(n:Nat):Nat→zm→Int→Int→Option ((Unit)⊕(Int))
  |0,_,_,_=>none
  |mo2+1,x0,x1,y1=>(bif (decide (y1<(x0.Rows.length:Int)))then((idx x0.Rows y1).bind fun v3=>(bif (v3.Id==x1)then(some (Sum.inr y1))else(zDX n mo2 x0 x1 (wI (y1+1)))))else(some (Sum.inl ())))
def zHV(n:Nat)(x0:zm)(x1:Int):Option (Int):=
  ((zDX n n x0 x1 0).bind fun o=>match o with|.inl _=>(zMt n)|.inr r=>some r)
def zLM(n:Nat):Option (Bool):=
  (some true)
def zBI(n:Nat):Nat→zm→Int→Option ((Unit)⊕(Bool))
  |0,_,_=>none
  |mo4+1,x0,y3=>(bif (decide (y3<(x0.Pv.length:Int)))then((idx x0.Pv y3).bind fun v5=>((zHV n x0 v5).bind fun r6=>(bif (decide (r6<0))then(some (Sum.inr false))else(zBI n mo4 x0 (wI (y3+1))))))else(some (Sum.inl ())))
def zHN(n:Nat)(x0:zm):Option (Bool):=
  ((zBI n n x0 0).bind fun o=>match o with|.inl _=>(zLM n)|.inr r=>some r)
def zAA(n:Nat):Nat→zm→Int→Int→Option ((Unit)⊕(Bool))
  |0,_,_,_=>none
  |mo7+1,x0,x1,y2=>(bif (decide (y2<(x0.Rows.length:Int)))then((idx x0.Rows y2).bind fun v8=>((ql n v8.Id 1 99).bind fun r9=>(bif (!r9)then(some (Sum.inr false))else(bif (decide (y2>0))then((idx x0.Rows (wI (y2-1))).bind fun v12=>(bif (decide (v12.Id≥v8.Id))then(some (Sum.inr false))else((zCk n x1).bind fun r13=>((ql n v8.Members 0 r13).bind fun r14=>(bif (!r14)then(some (Sum.inr false))else(bif ((wI (bO v8.Bare&&& ~~~bO v8.Members).toNat) != 0)then(some (Sum.inr false))else(zAA n mo7 x0 x1 (wI (y2+1)))))))))else((zCk n x1).bind fun r10=>((ql n v8.Members 0 r10).bind fun r11=>(bif (!r11)then(some (Sum.inr false))else(bif ((wI (bO v8.Bare&&& ~~~bO v8.Members).toNat) != 0)then(some (Sum.inr false))else(zAA n mo7 x0 x1 (wI (y2+1)))))))))))else(some (Sum.inl ())))
def zGT(n:Nat)(x0:zm)(x1:Int):Option (Bool):=
  ((ql n x1 1 6).bind fun r1=>(bif (!r1)then(some false)else(bif ((x0.Pv.length:Int) != x1)then(some false)else(bif (decide ((x0.Rows.length:Int)>6))then(some false)else((zAA n n x0 x1 0).bind fun o=>match o with|.inl _=>(zHN n x0)|.inr r=>some r)))))
def zAr(n:Nat)(x0:Int):Option (Bool):=
  ((ql n x0 0 1000000).bind fun r1=>(some r1))
def zFq(n:Nat)(x0:zA):Option (Bool):=
  ((ql n x0.Id 1 99).bind fun r2=>(bif (!r2)then(some false)else(bif (decide ((x0.Name.size:Int)>10))then(some false)else((ql n (x0.Ps.length:Int) 1 6).bind fun r3=>(bif (!r3)then(some false)else((zHT n x0.F).bind fun r4=>(bif (!r4)then(some false)else((zGT n x0.V (x0.Ps.length:Int)).bind fun r5=>(bif (!r5)then(some false)else((zAr n x0.Tk).bind fun r6=>(bif r6 then((zAr n x0.Pa).bind fun r7=>(bif r7 then((zAr n x0.Wo).bind fun r8=>(bif r8 then((zAr n x0.Dr).bind fun r9=>(bif r9 then((zAr n x0.Ve).bind fun r10=>(some r10))else(some false)))else(some false)))else(some false)))else(some false))))))))))))
def zBW(n:Nat):Nat→zA→Int→Option ((Unit)⊕(Bool))
  |0,_,_=>none
  |mo11+1,x0,y1=>(bif (decide (y1<(x0.Ps.length:Int)))then((idx x0.Ps y1).bind fun v12=>((zIV n v12).bind fun r13=>(bif (!r13)then(some (Sum.inr false))else(zBW n mo11 x0 (wI (y1+1))))))else(some (Sum.inl ())))
def J8(n:Nat)(x0:zA):Option (Bool):=
  ((zBW n n x0 0).bind fun o=>match o with|.inl _=>(zFq n x0)|.inr r=>some r)
def zNo(n:Nat):Option (Bool):=
  (some false)
def Jb(n:Nat):Nat→(List Link)→Int→Int→Int→Option ((Unit)⊕(Bool))
  |0,_,_,_,_=>none
  |mo2+1,x0,x1,x2,y1=>(bif (decide (y1<(x0.length:Int)))then((idx x0 y1).bind fun v3=>(bif (v3.A==x1)then(bif (v3.P==x2)then(some (Sum.inr true))else(bif (v3.B==x1)then(bif (v3.Q==x2)then(some (Sum.inr true))else(Jb n mo2 x0 x1 x2 (wI (y1+1))))else(Jb n mo2 x0 x1 x2 (wI (y1+1)))))else(bif (v3.B==x1)then(bif (v3.Q==x2)then(some (Sum.inr true))else(Jb n mo2 x0 x1 x2 (wI (y1+1))))else(Jb n mo2 x0 x1 x2 (wI (y1+1))))))else(some (Sum.inl ())))
def zE6(n:Nat)(x0:(List Link))(x1:Int)(x2:Int):Option (Bool):=
  ((Jb n n x0 x1 x2 0).bind fun o=>match o with|.inl _=>(zNo n)|.inr r=>some r)
def zKl(n:Nat):Option (Bool):=
  (some true)
def Zj(n:Nat):Nat→Net→Int→Option ((Unit)⊕(Bool))
  |0,_,_=>none
  |mo2+1,x0,y1=>(bif (decide (y1<(x0.Ls.length:Int)))then((idx x0.Ls y1).bind fun v3=>((Zz n x0 v3.A v3.P).bind fun r4=>((Zz n x0 v3.B v3.Q).bind fun r5=>(bif (decide (y1≥9))then(some (Sum.inr false))else(bif (!r4.2)then(some (Sum.inr false))else(bif (!r5.2)then(some (Sum.inr false))else(bif (v3.A==v3.B)then(some (Sum.inr false))else(bif (!(r4.1.Up==r5.1.Up))then(some (Sum.inr false))else(bif (decide ((0:Int)≤0)&&(decide ((0:Int)≤y1)&&decide ((y1:Int)≤(x0.Ls.length:Int))))then((zE6 n ((x0.Ls.drop ((0:Int)).toNat).take (((y1:Int)).toNat-((0:Int)).toNat)) v3.A v3.P).bind fun r7=>(bif r7 then(some (Sum.inr false))else(bif (decide ((0:Int)≤0)&&(decide ((0:Int)≤y1)&&decide ((y1:Int)≤(x0.Ls.length:Int))))then((zE6 n ((x0.Ls.drop ((0:Int)).toNat).take (((y1:Int)).toNat-((0:Int)).toNat)) v3.B v3.Q).bind fun r9=>(bif r9 then(some (Sum.inr false))else(Zj n mo2 x0 (wI (y1+1)))))else none)))else none)))))))))else(some (Sum.inl ())))
def zFe(n:Nat)(x0:Net):Option (Bool):=
  ((Zj n n x0 0).bind fun o=>match o with|.inl _=>(zKl n)|.inr r=>some r)
def zH8(n:Nat)(x0:Net):Option (Bool):=
  ((zFe n x0).bind fun r4=>(some r4))
def YN(n:Nat):Nat→Net→Int→Option ((Unit)⊕(Bool))
  |0,_,_=>none
  |mo5+1,x0,y3=>(bif (decide (y3<(x0.Said.length:Int)))then((idx x0.Said y3).bind fun v6=>((ql n v6.Link 0 (wI ((x0.Ls.length:Int)-1))).bind fun r7=>(bif (!r7)then(some (Sum.inr false))else((zAQ n v6.V).bind fun r8=>(bif (!r8)then(some (Sum.inr false))else(YN n mo5 x0 (wI (y3+1))))))))else(some (Sum.inl ())))
def zFc(n:Nat)(x0:Net):Option (Bool):=
  ((YN n n x0 0).bind fun o=>match o with|.inl _=>(zH8 n x0)|.inr r=>some r)
def zIA(n:Nat)(k:(Int→Option ((Unit)⊕(Bool))))(y2:Int)(y16:Int):Option ((Unit)⊕(Bool)):=
  (k (wI (y2+1)))
def Yr(n:Nat):Nat→zA→Net→Int→Int→Option ((Int)⊕(Bool))
  |0,_,_,_,_=>none
  |mo17+1,v10,x0,y2,y15=>(bif (decide (y15<(v10.Ps.length:Int)))then((idx v10.Ps y15).bind fun v18=>(bif v18.Has then((zE6 n x0.Ls y2 y15).bind fun r19=>(bif (!r19)then(some (Sum.inr false))else(Yr n mo17 v10 x0 y2 (wI (y15+1)))))else(Yr n mo17 v10 x0 y2 (wI (y15+1)))))else(some (Sum.inl y15)))
def zH9(n:Nat)(k:(Int→Option ((Unit)⊕(Bool))))(v10:zA)(x0:Net)(y2:Int)(y14:Int):Option ((Unit)⊕(Bool)):=
  ((Yr n n v10 x0 y2 0).bind fun o=>match o with|.inl y16=>(zIA n k y2 y16)|.inr r=>some (Sum.inr r))
def Jo(n:Nat):Nat→zA→Net→Int→Int→Option ((Int)⊕(Bool))
  |0,_,_,_,_=>none
  |mo20+1,v10,x0,y2,y13=>(bif (decide (y13<(((x0.Bs.drop ((0:Int)).toNat).take (((y2:Int)).toNat-((0:Int)).toNat)).length:Int)))then((idx ((x0.Bs.drop ((0:Int)).toNat).take (((y2:Int)).toNat-((0:Int)).toNat)) y13).bind fun v21=>(bif (v21.Id==v10.Id)then(some (Sum.inr false))else(Jo n mo20 v10 x0 y2 (wI (y13+1)))))else(some (Sum.inl y13)))
def Qi(n:Nat):Nat→Net→Int→Option ((Unit)⊕(Bool))
  |0,_,_=>none
  |mo9+1,x0,y2=>(bif (decide (y2<(x0.Bs.length:Int)))then((idx x0.Bs y2).bind fun v10=>((J8 n v10).bind fun r11=>(bif (!r11)then(some (Sum.inr false))else(bif (decide ((0:Int)≤0)&&(decide ((0:Int)≤y2)&&decide ((y2:Int)≤(x0.Bs.length:Int))))then((Jo n n v10 x0 y2 0).bind fun o=>match o with|.inl y14=>(zH9 n (fun v=>Qi n mo9 x0 v) v10 x0 y2 y14)|.inr r=>some (Sum.inr r))else none))))else(some (Sum.inl ())))
def zAP(n:Nat)(x0:Net):Option (Bool):=
  ((ql n (x0.Bs.length:Int) 1 6).bind fun r1=>(bif (!r1)then(some false)else(bif (decide ((x0.Said.length:Int)>40))then(some false)else((Qi n n x0 0).bind fun o=>match o with|.inl _=>(zFc n x0)|.inr r=>some r))))
def zIc(n:Nat)(x0:Net)(y3:(List Say)):Option (Net):=
  (some (⟨x0.Bs,x0.Ls,y3⟩:Net))
def Zb(n:Nat):Nat→Net→Int→Int→(List Say)→Option (((List Say))⊕(Net))
  |0,_,_,_,_=>none
  |mo4+1,x0,x1,y1,y2=>(bif (decide (y1<(x0.Ls.length:Int)))then((idx x0.Ls y1).bind fun v5=>((qD n (⟨x0.Bs,x0.Ls,y2⟩:Net) y1).bind fun r6=>(bif (!r6)then(Zb n mo4 x0 x1 (wI (y1+1)) y2)else(bif (decide ((y2.length:Int)≥40))then(Zb n mo4 x0 x1 (wI (y1+1)) y2)else(bif (v5.A==x1)then((Yk n (⟨x0.Bs,x0.Ls,y2⟩:Net) x1 v5.P).bind fun r9=>(bif (decide (y2.length+ [(⟨y1,false,r9⟩:Say)].length≤268435456))then(Zb n mo4 x0 x1 (wI (y1+1)) (y2++[(⟨y1,false,r9⟩:Say)]))else none))else(bif (v5.B==x1)then((Yk n (⟨x0.Bs,x0.Ls,y2⟩:Net) x1 v5.Q).bind fun r7=>(bif (decide (y2.length+ [(⟨y1,true,r7⟩:Say)].length≤268435456))then(Zb n mo4 x0 x1 (wI (y1+1)) (y2++[(⟨y1,true,r7⟩:Say)]))else none))else(Zb n mo4 x0 x1 (wI (y1+1)) y2)))))))else(some (Sum.inl y2)))
def zD6(n:Nat)(x0:Net)(x1:Int):Option (Net):=
  ((Zb n n x0 x1 0 x0.Said).bind fun o=>match o with|.inl y3=>(zIc n x0 y3)|.inr r=>some r)
def zGf(n:Nat)(x0:Int):Option (Int):=
  (some (if 1000000<(wI (x0+1))then 1000000 else(wI (x0+1))))
def zLJ(n:Nat)(y3:(List zM)):Option ((List zM)):=
  (some y3)
def JB(n:Nat):Nat→(List zM)→Int→(List zM)→Option (((List zM))⊕((List zM)))
  |0,_,_,_=>none
  |mo4+1,x0,y1,y2=>(bif (decide (y1<(x0.length:Int)))then((idx x0 y1).bind fun v5=>(bif (!v5.Sc)then(bif (decide (v5.Age≥4))then(JB n mo4 x0 (wI (y1+1)) y2)else(bif (decide (y2.length+ [(⟨v5.Tag,v5.Mac,v5.Port,(wI (v5.Age+1)),v5.Sc⟩:zM)].length≤268435456))then(JB n mo4 x0 (wI (y1+1)) (y2++[(⟨v5.Tag,v5.Mac,v5.Port,(wI (v5.Age+1)),v5.Sc⟩:zM)]))else none))else(bif (decide (y2.length+ [v5].length≤268435456))then(JB n mo4 x0 (wI (y1+1)) (y2++[v5]))else none)))else(some (Sum.inl y2)))
def zGR(n:Nat)(x0:(List zM)):Option ((List zM)):=
  ((JB n n x0 0 ([]:List zM)).bind fun o=>match o with|.inl y3=>(zLJ n y3)|.inr r=>some r)
def zFD(n:Nat)(y3:(List zM)):Option ((List zM)):=
  (some y3)
def QA(n:Nat):Nat→(List zM)→Int→Int→(List zM)→Option (((List zM))⊕((List zM)))
  |0,_,_,_,_=>none
  |mo4+1,x0,x1,y1,y2=>(bif (decide (y1<(x0.length:Int)))then((idx x0 y1).bind fun v5=>(bif v5.Sc then(bif (decide (y2.length+ [v5].length≤268435456))then(QA n mo4 x0 x1 (wI (y1+1)) (y2++[v5]))else none)else(bif (v5.Port != x1)then(bif (decide (y2.length+ [v5].length≤268435456))then(QA n mo4 x0 x1 (wI (y1+1)) (y2++[v5]))else none)else(QA n mo4 x0 x1 (wI (y1+1)) y2))))else(some (Sum.inl y2)))
def zD5(n:Nat)(x0:(List zM))(x1:Int):Option ((List zM)):=
  ((QA n n x0 x1 0 ([]:List zM)).bind fun o=>match o with|.inl y3=>(zFD n y3)|.inr r=>some r)
def zHd(n:Nat)(r1:Int)(x0:zA)(y5:(List zM)):Option (zA):=
  (some (⟨x0.Id,x0.Name,x0.Ps,y5,x0.V,x0.Tk,x0.Pa,x0.Wo,x0.Dr,r1⟩:zA))
def Qh(n:Nat):Nat→Int→zA→Int→(List zM)→Option (((List zM))⊕(zA))
  |0,_,_,_,_=>none
  |mo6+1,r2,x0,y3,y4=>(bif (decide (y3<(x0.Ps.length:Int)))then((YO n r2 y3).bind fun r7=>(bif (!r7)then((zD5 n y4 y3).bind fun r8=>(Qh n mo6 r2 x0 (wI (y3+1)) r8))else(Qh n mo6 r2 x0 (wI (y3+1)) y4)))else(some (Sum.inl y4)))
def Z9(n:Nat)(x0:zA):Option (zA):=
  ((zGf n x0.Ve).bind fun r1=>((zBS n x0.Id x0.Ps).bind fun r2=>((Qh n n r2 x0 0 x0.F).bind fun o=>match o with|.inl y5=>(zHd n r1 x0 y5)|.inr r=>some r)))
def zGe(n:Nat)(x0:zA):Option (zA):=
  ((YC n x0).bind fun r1=>((J8 n x0).bind fun r2=>(bif r2 then((zGf n x0.Tk).bind fun r3=>((zGR n x0.F).bind fun r4=>((Z9 n (⟨r1.Id,r1.Name,r1.Ps,r4,r1.V,r3,r1.Pa,r1.Wo,r1.Dr,r1.Ve⟩:zA)).bind fun r5=>(some r5))))else(some r1))))
def zEV(n:Nat)(x0:zA)(x1:Int):Option (Bool):=
  ((J8 n x0).bind fun r1=>(bif r1 then((ql n x1 0 (wI ((x0.Ps.length:Int)-1))).bind fun r2=>(some r2))else(some false)))
def zAa(n:Nat)(r1:zA)(x1:Int)(x2:Vec)(y2:Bool):Option (zA):=
  (bif y2 then((idx r1.Ps x1).bind fun v3=>((idx (r1.Ps.set (x1.toNat) (⟨v3.Up,v3.Co,true,v3.Hd⟩:Pt)) x1).bind fun v4=>((Z9 n (⟨r1.Id,r1.Name,((r1.Ps.set (x1.toNat) (⟨v3.Up,v3.Co,true,v3.Hd⟩:Pt)).set (x1.toNat) (⟨v4.Up,v4.Co,v4.Has,x2⟩:Pt)),r1.F,r1.V,r1.Tk,r1.Pa,r1.Wo,r1.Dr,r1.Ve⟩:zA)).bind fun r5=>(some r5))))else(some r1))
def YL(n:Nat)(x0:zA)(x1:Int)(x2:Vec):Option (zA):=
  ((YC n x0).bind fun r1=>((zEV n x0 x1).bind fun r6=>(bif r6 then((idx x0.Ps x1).bind fun v7=>(bif v7.Up then((zAQ n x2).bind fun r8=>(zAa n r1 x1 x2 r8))else(zAa n r1 x1 x2 false)))else(zAa n r1 x1 x2 false))))
def QF(n:Nat)(x0:Net)(x1:Int)(x2:Int)(x3:Vec):Option (Net):=
  ((idx x0.Bs x1).bind fun v1=>((YL n v1 x2 x3).bind fun r2=>(some (⟨(x0.Bs.set (x1.toNat) r2),x0.Ls,x0.Said⟩:Net))))
def zBX(n:Nat)(x0:Net)(x1:Int)(x2:Bool):Option (Net):=
  ((idx x0.Said x1).bind fun v1=>(bif (decide ((0:Int)≤0)&&(decide ((0:Int)≤x1)&&decide ((x1:Int)≤(x0.Said.length:Int))))then(bif (decide (([]:List Say).length+((x0.Said.drop ((0:Int)).toNat).take (((x1:Int)).toNat-((0:Int)).toNat)).length≤268435456))then(bif (decide ((0:Int)≤(wI (x1+1)))&&(decide (((wI (x1+1)):Int)≤(x0.Said.length:Int))&&decide (((x0.Said.length:Int):Int)≤(x0.Said.length:Int))))then(bif (decide ((([]:List Say)++((x0.Said.drop ((0:Int)).toNat).take (((x1:Int)).toNat-((0:Int)).toNat))).length+((x0.Said.drop (((wI (x1+1)):Int)).toNat).take ((((x0.Said.length:Int):Int)).toNat-(((wI (x1+1)):Int)).toNat)).length≤268435456))then(bif (!x2)then(some (⟨x0.Bs,x0.Ls,((([]:List Say)++((x0.Said.drop ((0:Int)).toNat).take (((x1:Int)).toNat-((0:Int)).toNat)))++((x0.Said.drop (((wI (x1+1)):Int)).toNat).take ((((x0.Said.length:Int):Int)).toNat-(((wI (x1+1)):Int)).toNat)))⟩:Net))else((qD n (⟨x0.Bs,x0.Ls,((([]:List Say)++((x0.Said.drop ((0:Int)).toNat).take (((x1:Int)).toNat-((0:Int)).toNat)))++((x0.Said.drop (((wI (x1+1)):Int)).toNat).take ((((x0.Said.length:Int):Int)).toNat-(((wI (x1+1)):Int)).toNat)))⟩:Net) v1.Link).bind fun r6=>(bif (!r6)then(some (⟨x0.Bs,x0.Ls,((([]:List Say)++((x0.Said.drop ((0:Int)).toNat).take (((x1:Int)).toNat-((0:Int)).toNat)))++((x0.Said.drop (((wI (x1+1)):Int)).toNat).take ((((x0.Said.length:Int):Int)).toNat-(((wI (x1+1)):Int)).toNat)))⟩:Net))else((idx x0.Ls v1.Link).bind fun v7=>(bif v1.Back then((QF n (⟨x0.Bs,x0.Ls,((([]:List Say)++((x0.Said.drop ((0:Int)).toNat).take (((x1:Int)).toNat-((0:Int)).toNat)))++((x0.Said.drop (((wI (x1+1)):Int)).toNat).take ((((x0.Said.length:Int):Int)).toNat-(((wI (x1+1)):Int)).toNat)))⟩:Net) v7.A v7.P v1.V).bind fun r9=>(some r9))else((QF n (⟨x0.Bs,x0.Ls,((([]:List Say)++((x0.Said.drop ((0:Int)).toNat).take (((x1:Int)).toNat-((0:Int)).toNat)))++((x0.Said.drop (((wI (x1+1)):Int)).toNat).take ((((x0.Said.length:Int):Int)).toNat-(((wI (x1+1)):Int)).toNat)))⟩:Net) v7.B v7.Q v1.V).bind fun r8=>(some r8)))))))else none)else none)else none)else none))
def zAo(n:Nat)(x0:zA)(x1:Int)(x2:Bool):Option (zA):=
  ((YC n x0).bind fun r1=>((zEV n x0 x1).bind fun r2=>(bif r2 then((idx x0.Ps x1).bind fun v3=>((idx r1.Ps x1).bind fun v4=>((Z9 n (⟨r1.Id,r1.Name,(r1.Ps.set (x1.toNat) (⟨x2,v3.Co,false,(⟨0,0,0,0,0⟩:Vec)⟩:Pt)),r1.F,r1.V,r1.Tk,r1.Pa,r1.Wo,r1.Dr,r1.Ve⟩:zA)).bind fun r5=>(some r5))))else(some r1))))
def zEp(n:Nat)(x0:Net)(x1:Int)(x2:Bool):Option (Net):=
  ((qD n x0 x1).bind fun r1=>(bif (r1==x2)then(some x0)else((idx x0.Ls x1).bind fun v2=>((idx x0.Bs v2.A).bind fun v3=>((zAo n v3 v2.P x2).bind fun r4=>((idx (x0.Bs.set (v2.A.toNat) r4) v2.B).bind fun v5=>((zAo n v5 v2.Q x2).bind fun r6=>(some (⟨((x0.Bs.set (v2.A.toNat) r4).set (v2.B.toNat) r6),x0.Ls,x0.Said⟩:Net)))))))))
def zEU(n:Nat)(r1:Net)(x1:Event)(y5:Bool):Option (Net×Bool):=
  (bif y5 then((zBX n r1 x1.At (x1.Ki==2)).bind fun r7=>(some (r7,true)))else((zEp n r1 x1.At (x1.Ki==5)).bind fun r6=>(some (r6,true))))
def Qy(n:Nat)(r1:Net)(x0:Net)(x1:Event)(y3:Int):Option (Net×Bool):=
  ((ql n x1.At 0 (wI (y3-1))).bind fun r4=>(bif (!r4)then(some (r1,false))else(bif (x1.Ki==1)then((zD6 n r1 x1.At).bind fun r11=>(some (r11,true)))else(bif (x1.Ki==6)then((idx x0.Bs x1.At).bind fun v8=>((zGe n v8).bind fun r9=>((idx r1.Bs x1.At).bind fun v10=>(some ((⟨(r1.Bs.set (x1.At.toNat) r9),r1.Ls,r1.Said⟩:Net),true)))))else(bif (x1.Ki==2)then(zEU n r1 x1 true)else(zEU n r1 x1 (x1.Ki==3)))))))
def zCz(n:Nat)(r1:Net)(x0:Net)(x1:Event)(y13:Bool):Option (Net×Bool):=
  (bif y13 then(Qy n r1 x0 x1 (x0.Said.length:Int))else(bif (x1.Ki==4)then(Qy n r1 x0 x1 (x0.Ls.length:Int))else(bif (x1.Ki==5)then(Qy n r1 x0 x1 (x0.Ls.length:Int))else(Qy n r1 x0 x1 0))))
def Yn(n:Nat)(r1:Net)(x0:Net)(x1:Event)(y12:Bool):Option (Net×Bool):=
  (bif y12 then(Qy n r1 x0 x1 (x0.Bs.length:Int))else(bif (x1.Ki==2)then(zCz n r1 x0 x1 true)else(zCz n r1 x0 x1 (x1.Ki==3))))
def zL2(n:Nat)(x0:Net)(x1:Event):Option (Net×Bool):=
  ((zBu n x0).bind fun r1=>((zAP n x0).bind fun r2=>(bif (!r2)then(some (r1,false))else(bif (x1.Ki==1)then(Yn n r1 x0 x1 true)else(Yn n r1 x0 x1 (x1.Ki==6))))))
def zIp(n:Nat)(y7:(List Event))(y8:(List Int))(y9:Int)(y10:Int):Option ((List Event)×Src):=
  (some (y7,(⟨y8,y9,y10⟩:Src)))
def zFM(n:Nat):Nat→Int→(List Event)→(List Int)→Int→Int→Option (((List Event)×(List Int)×Int×Int)⊕((List Event)×Src))
  |0,_,_,_,_,_=>none
  |mo11+1,y2,y3,y4,y5,y6=>(bif (decide (y2>0))then((zp n (⟨y4,y5,y6⟩:Src) [1,1,1,2,2,2,2,3,4,5,6]).bind fun r12=>((zP n r12.2 4).bind fun r13=>(bif (decide (y3.length+ [(⟨r12.1,r13.1⟩:Event)].length≤268435456))then(zFM n mo11 (wI (y2-1)) (y3++[(⟨r12.1,r13.1⟩:Event)]) r13.2.b r13.2.i r13.2.h)else none)))else(some (Sum.inl (y3,y4,y5,y6))))
def zRS(n:Nat)(x0:Src)(x1:Int):Option ((List Event)×Src):=
  ((zP n x0 x1).bind fun r1=>((zFM n n r1.1 ([]:List Event) r1.2.b r1.2.i r1.2.h).bind fun o=>match o with|.inl (y7,y8,y9,y10)=>(zIp n y7 y8 y9 y10)|.inr r=>some r))
def zMs(n:Nat)(y7:(List zA))(y8:(List Link))(y9:(List Say)):Option (Net):=
  (some (⟨y7,y8,y9⟩:Net))
def zAq(n:Nat):Nat→Net→Int→(List zA)→(List Link)→(List Say)→Option (((List zA)×(List Link)×(List Say))⊕(Net))
  |0,_,_,_,_,_=>none
  |mo10+1,x0,y3,y4,y5,y6=>(bif (decide (y3<(x0.Ls.length:Int)))then((idx x0.Ls y3).bind fun v11=>((qD n x0 y3).bind fun r12=>(bif r12 then((Yk n x0 v11.B v11.Q).bind fun r13=>((QF n (⟨y4,y5,y6⟩:Net) v11.A v11.P r13).bind fun r14=>((Yk n x0 v11.A v11.P).bind fun r15=>((QF n r14 v11.B v11.Q r15).bind fun r16=>(zAq n mo10 x0 (wI (y3+1)) r16.Bs r16.Ls r16.Said)))))else(zAq n mo10 x0 (wI (y3+1)) y4 y5 y6))))else(some (Sum.inl (y4,y5,y6))))
def zHU(n:Nat)(x0:Net):Option (Net):=
  ((zBu n x0).bind fun r1=>((zAP n x0).bind fun r2=>(bif (!r2)then(some r1)else((zAq n n x0 0 r1.Bs r1.Ls ([]:List Say)).bind fun o=>match o with|.inl (y7,y8,y9)=>(zMs n y7 y8 y9)|.inr r=>some r))))
def zLK(n:Nat)(y6:(List zA))(y7:(List Link))(y8:(List Say)):Option (Net):=
  (some (⟨y6,y7,y8⟩:Net))
def zBH(n:Nat):Nat→Int→Int→(List zA)→(List Link)→(List Say)→Option (((List zA)×(List Link)×(List Say))⊕(Net))
  |0,_,_,_,_,_=>none
  |mo9+1,x1,y2,y3,y4,y5=>(bif (decide (y2<(if(if 30<x1 then 30 else x1)>0 then(if 30<x1 then 30 else x1)else 0)))then((zHU n (⟨y3,y4,y5⟩:Net)).bind fun r10=>(zBH n mo9 x1 (wI (y2+1)) r10.Bs r10.Ls r10.Said))else(some (Sum.inl (y3,y4,y5))))
def zIy(n:Nat)(x0:Net)(x1:Int):Option (Net):=
  ((zBu n x0).bind fun r1=>((zBH n n x1 0 r1.Bs r1.Ls r1.Said).bind fun o=>match o with|.inl (y6,y7,y8)=>(zLK n y6 y7 y8)|.inr r=>some r))
end Go.Proofs.YticeglbllcelaaaGreat.Tw
