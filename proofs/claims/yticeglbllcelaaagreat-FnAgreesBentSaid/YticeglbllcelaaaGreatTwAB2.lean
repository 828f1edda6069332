import Derived.Test.YticeglbllcelaaaGreatProg
import Derived.Test.YticeglbllcelaaaGreatTlRule
import Derived.Test.YticeglbllcelaaaGreatTlU16
import Derived.Test.YticeglbllcelaaaGreatTwAB1
import Derived.WalkKit
set_option linter.unusedVariables false
set_option linter.unusedSimpArgs false
set_option maxRecDepth 100000
set_option maxHeartbeats 1000000
namespace Go.Proofs.YticeglbllcelaaaGreat.Tw
open Go Go.TL Go.Proofs
def Yd(n:Nat)(r3:zA)(r4:ByteArray×Src)(r5:(List Pt)×Src)(r6:zm×Src)(y17:(List Int))(y18:Int)(y19:Int)(y20:(List zM)):Option (zA×Src):=
  ((zP n (⟨y17,y18,y19⟩:Src) 5).bind fun r21=>((zp n r21.2 [0,1,5,1000000]).bind fun r22=>(some ((⟨r3.Id,r4.1,r5.1,y20,r6.1,r21.1,r3.Pa,r3.Wo,r3.Dr,r22.1⟩:zA),r22.2))))
def JR(n:Nat)(r1:Int×Src)(r3:zA)(r4:ByteArray×Src)(r5:(List Pt)×Src)(r6:zm×Src)(y13:(List Int))(y14:Int)(y15:Int)(y16:(List zM)):Option (zA×Src):=
  ((Z6 n (⟨y13,y14,y15⟩:Src) 3).bind fun r23=>(bif r23.1 then((zAW n r23.2).bind fun r24=>((zP n r24.2 (wI (1+r1.1))).bind fun r25=>((JP n y16 1 r24.1 r25.1).bind fun r26=>(Yd n r3 r4 r5 r6 r25.2.b r25.2.i r25.2.h r26.1))))else(Yd n r3 r4 r5 r6 r23.2.b r23.2.i r23.2.h y16)))
def Q4(n:Nat):Nat→Int×Src→Int→(List Int)→Int→Int→(List zM)→Option (((List Int)×Int×Int×(List zM))⊕(zA×Src))
  |0,_,_,_,_,_,_=>none
  |mo27+1,r1,y8,y9,y10,y11,y12=>(bif (decide (y8>0))then((zP n (⟨y9,y10,y11⟩:Src) 3).bind fun r28=>((zAW n r28.2).bind fun r29=>((zP n r29.2 (wI (1+r1.1))).bind fun r30=>((zCV n y12 (wI (1+r28.1)) r29.1 r30.1).bind fun r31=>(Q4 n mo27 r1 (wI (y8-1)) r30.2.b r30.2.i r30.2.h r31)))))else(some (Sum.inl (y9,y10,y11,y12))))
def zBy(n:Nat)(x0:Src):Option (zA×Src):=
  ((zP n x0 4).bind fun r1=>((zP n r1.2 5).bind fun r2=>((q9 n (wI (1+r2.1)) (wI (1+r1.1))).bind fun r3=>((zAV n r2.2 [(⟨#[]⟩:ByteArray),(⟨#[121,97,114,100]⟩:ByteArray),(⟨#[98,49]⟩:ByteArray)]).bind fun r4=>((Yv n r4.2 (wI (1+r1.1))).bind fun r5=>((zBm n r5.2 (wI (1+r1.1))).bind fun r6=>((zP n r6.2 6).bind fun r7=>((Q4 n n r1 r7.1 r7.2.b r7.2.i r7.2.h r3.F).bind fun o=>match o with|.inl (y13,y14,y15,y16)=>(JR n r1 r3 r4 r5 r6 y13 y14 y15 y16)|.inr r=>some r))))))))
def zTM:Tab:=⟨13,[0,1,0,4,8,0,40,0,0,448,594,2047,4095],[0,1,0,4,8,0,32,0,0,384,594,0,3072],[0,1,0,4,12,0,44,0,0,492,1023,2047,4095]⟩
noncomputable abbrev zMk(k:Nat):=Rg Tryz.f132 k
noncomputable abbrev zUi(k:Nat):=Rd Tryz.f132 k
theorem zG7:qb (rg Tryz.f132 9) zTM=true:=kr
def zSc:Tab:=⟨13,[0,1,0,4,0,0,56,74,128,256,256,1023,3071],[0,1,0,4,0,0,48,74,128,256,256,0,2560],[0,1,0,4,0,0,60,127,255,511,511,1023,3071]⟩
theorem zE2:qb (rg Tryz.f132 11) zSc=true:=kr
theorem zNw(n:Nat)(x0:Src)(r:zA×Src)(H:zBy n x0=some r):zb Tryz.prog 132 [.ptr (fR (zL x0))] [.val true (zB r.1)] [(0,(fR (zL r.2)))]:=by
 refine zu tOk Tryz.func132 rfl (c:=(.seq (zMk 0) (.seq (zMk 1) (.seq (zMk 2) (.seq (zMk 3) (.seq (zMk 4) (.seq (zMk 5) (.seq (.seq (zMk 6) (.block 0 (.loop (.seq (.seq (zMk 7) (.cond (.tmp 29) .skip (.exit 0))) (.seq (.block 1 (zUi 9)) (zMk 8)))))) (.seq (.seq (zMk 10) (.cond (.tmp 45) (zUi 11) .skip)) (.seq (zMk 12) (.seq (zMk 13) (.seq (zMk 14) .ret)))))))))))) kr (Nat.le_of_ble_eq_true kr) 1 (rs:=[.cell 2 64]) rfl [] .nil [(true,(zB r.1))] [] [(0,(fR (zL r.2)))] fun cx=>?_
 show Tr _ _ _ ⟨66,1,[sA 0 0 3 0],[(0,(fR (zL x0)))]⟩ _
 unfold zBy at H
 refine gA 1 5 5<|rA 1<|bE H fun r1 er1 H=>vL [.lend,.rd] (zW n x0 4 r1 er1)<|uA 2 13 5<|rA 1<|bE H fun r2 er2 H=>vL [.lend,.rd] (zW n r1.2 5 r2 er2)<|lA 2<|bE H fun r3 er3 H=>vA [.rd,.rd] (zHP n (wI (1+r2.1)) (wI (1+r1.1)) r3 er3)<|uA 2 29 21<|rA 2<|bE H fun r4 er4 H=>vL [.lend,.rd] (zML n r2.2 [(⟨#[]⟩:ByteArray),(⟨#[121,97,114,100]⟩:ByteArray),(⟨#[98,49]⟩:ByteArray)] r4 er4)<|uA 2 29 21<|rA 2<|bE H fun r5 er5 H=>vL [.lend,.rd] (zJA n r4.2 (wI (1+r1.1)) r5 er5)<|uA 2 29 21<|rA 2<|bE H fun r6 er6 H=>vL [.lend,.rd] (zKY n r5.2 (wI (1+r1.1)) r6 er6)<|uA 2 29 21<|tS<|rA 1<|bE H fun r7 er7 H=>vL [.lend,.rd] (zW n r6.2 6 r7 er7)<|uA 1 61 21 ?_
 obtain⟨o27,eo27,Ho27⟩:=bs H
 clear H
 refine zt (ι:=(List Int)×Int×Int×(List zM)) (fun v=>⟨66,1,[sA 4 4 11 0,sI 3 (wI (1+r1.1)),sA 2 2 11 0,sA 0 0 3 0],[(0,[cF 1 v.1 qC,cI v.2.1,cI v.2.2.1]),(4,[cI r3.Id,cS r4.1,cL 8 r5.1 zJ,cL 5 v.2.2.2 zG,cL 3 r6.1.Rows zF,cL 1 r6.1.Pv zC,cI r3.Tk,cI r3.Pa,cI r3.Wo,cI r3.Dr,cI r3.Ve]),(2,[cI 0,cS (⟨#[]⟩:ByteArray),cL 8 ([]:List Pt) zJ,cL 5 ([]:List zM) zG,cL 3 ([]:List zX) zF,cL 1 ([]:List Int) zC,cI 0,cI 0,cI 0,cI 0,cI 0])]⟩) (fun v=>JR n r1 r3 r4 r5 r6 v.1 v.2.1 v.2.2.1 v.2.2.2=some r) ?_ ?_
 ·refine tB<|Tr.loop (ι:=Nat×(Int×(List Int)×Int×Int×(List zM))) (fun v=>⟨66,1,[sI 5 v.2.1,sA 4 4 11 0,sI 3 (wI (1+r1.1)),sA 2 2 11 0,sA 0 0 3 0],[(0,[cF 1 v.2.2.1 qC,cI v.2.2.2.1,cI v.2.2.2.2.1]),(4,[cI r3.Id,cS r4.1,cL 8 r5.1 zJ,cL 5 v.2.2.2.2.2 zG,cL 3 r6.1.Rows zF,cL 1 r6.1.Pv zC,cI r3.Tk,cI r3.Pa,cI r3.Wo,cI r3.Dr,cI r3.Ve]),(2,[cI 0,cS (⟨#[]⟩:ByteArray),cL 8 ([]:List Pt) zJ,cL 5 ([]:List zM) zG,cL 3 ([]:List zX) zF,cL 1 ([]:List Int) zC,cI 0,cI 0,cI 0,cI 0,cI 0])]⟩) (fun v=>Q4 n v.1 r1 v.2.1 v.2.2.1 v.2.2.2.1 v.2.2.2.2.1 v.2.2.2.2.2=some o27) (fun v=>v.1) (n,(r7.1,r7.2.b,r7.2.i,r7.2.h,r3.F)) eo27 (za [5,4,3,2,0] [0,4,2] kr) ?_
  rintro⟨_|mo27,y8,y9,y10,y11,y12⟩ H
  ·exact nN H
  have H:Q4 n (mo27+1) r1 y8 y9 y10 y11 y12=some o27:=H
  rw[Q4]at H
  refine tS<|gA 2 536870973 21 ?_
  obtain⟨h2,H⟩|⟨h2,H⟩:=bC H
  ·refine nA h2<|Tr.exit<|aJ ?_
   cases H
   exact jA (y9,y10,y11,y12) Ho27 [4,3,2,0] [0,4,2]
  refine tA h2<|tK<|tS<|tB<|bE H fun r28 er28 H=>bE H fun r29 er29 H=>bE H fun r30 er30 H=>bE H fun r31 er31 H=>qr zr 13 kr ⟨66,1,[sI 5 y8,sA 4 4 11 0,sI 3 (wI (1+r1.1)),sA 2 2 11 0,sA 0 0 3 0],[(4,[cI r3.Id,cS r4.1,cL 8 r5.1 zJ,cL 5 r31 zG,cL 3 r6.1.Rows zF,cL 1 r6.1.Pv zC,cI r3.Tk,cI r3.Pa,cI r3.Wo,cI r3.Dr,cI r3.Ve]),(0,(fR (zL r30.2))),(2,[cI 0,cS (⟨#[]⟩:ByteArray),cL 8 ([]:List Pt) zJ,cL 5 ([]:List zM) zG,cL 3 ([]:List zX) zF,cL 1 ([]:List Int) zC,cI 0,cI 0,cI 0,cI 0,cI 0])]⟩ (fun cx=>?_) ?_
  ·exact mA zG7 ([(0,[]),(1,[10,12])]++zl [2,5,7,8]) 7 [⟨[10,12],59,32,33⟩] fun cx=>mC zG7 3<|vL [.lend,.rd] (zW n (⟨y9,y10,y11⟩:Src) 3 r28 er28)<|fA<|mA zG7 [(4,[])] 5 [⟨[10,12],59,32,33⟩] fun cx=>mC zG7 6<|vL [.lend] (zGr n r28.2 r29 er29)<|fA<|mC zG7 9<|vL [.lend,.rd] (zW n r29.2 (wI (1+r1.1)) r30 er30)<|fA<|mC zG7 10<|vB [.rd,.rd,.rd,.rd] [.box 4] (zMH n y12 (wI (1+r28.1)) r29.1 r30.1 r31 er31) (.inr (zN (zH (qf (z7 Jw _)) zR) zS))<|fA<|mA zG7 [(11,[])] 1 [⟨[10,12],59,32,33⟩] fun cx=>mC zG7 12<|lA 1<|fA<|mE zG7 [5,4,3,2,0] [4,0,2]
  exact eA 3 61 21<|jB mo27 ((wI (y8-1)),r30.2.b,r30.2.i,r30.2.h,r31) H [5,4,3,2,0] [0,4,2]
 rintro⟨y13,y14,y15,y16⟩ H
 have H:(JR n r1 r3 r4 r5 r6 y13 y14 y15 y16)=some r:=H
 unfold JR at H
 refine tS<|zt (ι:=(List Int)×Int×Int×(List zM)) (fun v=>⟨66,1,[sA 4 4 11 0,sA 2 2 11 0,sA 0 0 3 0],[(0,[cF 1 v.1 qC,cI v.2.1,cI v.2.2.1]),(4,[cI r3.Id,cS r4.1,cL 8 r5.1 zJ,cL 5 v.2.2.2 zG,cL 3 r6.1.Rows zF,cL 1 r6.1.Pv zC,cI r3.Tk,cI r3.Pa,cI r3.Wo,cI r3.Dr,cI r3.Ve]),(2,[cI 0,cS (⟨#[]⟩:ByteArray),cL 8 ([]:List Pt) zJ,cL 5 ([]:List zM) zG,cL 3 ([]:List zX) zF,cL 1 ([]:List Int) zC,cI 0,cI 0,cI 0,cI 0,cI 0])]⟩) (fun v=>Yd n r3 r4 r5 r6 v.1 v.2.1 v.2.2.1 v.2.2.2=some r) ?_ ?_
 ·refine rA 1<|bE H fun r23 er23 H=>vL [.lend,.rd] (zBU n (⟨y13,y14,y15⟩:Src) 3 r23 er23)<|dA 35184372088861 21 ?_
  cases h1:r23.1
  ·have H:=YA h1 H
   exact nB_<|tK<|jA (r23.2.b,r23.2.i,r23.2.h,y16) H [4,2,0] [0,4,2]
  have H:=YB h1 H
  refine tB_<|bE H fun r24 er24 H=>bE H fun r25 er25 H=>bE H fun r26 er26 H=>qr zr 13 kr ⟨66,1,[sA 4 4 11 0,sA 2 2 11 0,sA 0 0 3 0],[(4,[cI r3.Id,cS r4.1,cL 8 r5.1 zJ,cL 5 r26.1 zG,cL 3 r6.1.Rows zF,cL 1 r6.1.Pv zC,cI r3.Tk,cI r3.Pa,cI r3.Wo,cI r3.Dr,cI r3.Ve]),(0,(fR (zL r25.2))),(2,[cI 0,cS (⟨#[]⟩:ByteArray),cL 8 ([]:List Pt) zJ,cL 5 ([]:List zM) zG,cL 3 ([]:List zX) zF,cL 1 ([]:List Int) zC,cI 0,cI 0,cI 0,cI 0,cI 0])]⟩ (fun cx=>?_) ?_
  ·refine mA zE2 ([(0,[]),(1,[7,12])]++zl [2,4,5]) 8 [⟨[7,12],59,47,48⟩] fun cx=>mC zE2 3<|vL [.lend] (zGr n r23.2 r24 er24)<|fA<|mC zE2 6<|vL [.lend,.rd] (zW n r24.2 (wI (1+r1.1)) r25 er25)<|fA<|mC zE2 7<|vB [.rd,.rd,.rd,.rd] [.box 4] (zHR n y16 1 r24.1 r25.1 r26 er26) (.inr (zN (zH (qf (z7 Jw _)) zR) (zN (zH zT zR) zS)))<|fA<|AT.movT tOk 8 (ty:=155) (t:=54) (d:=46) (g:=none) [(false,[cL 5 r26.1 zG]),(false,[cB r26.2])] _ kr (oM zE2 kr) (dM zE2 kr) (.inl rfl) kr kr kr kr rfl (fun cx=>?_)
   exact mA zE2 (zl [9,10,11]) 1 [⟨[7,12],59,47,48⟩] fun cx=>mC zE2 12<|lA 1<|fA<|mE zE2 [4,2,0] [4,0,2]
  exact jA (r25.2.b,r25.2.i,r25.2.h,r26.1) H [4,2,0] [0,4,2]
 rintro⟨y17,y18,y19,y20⟩ H
 have H:(Yd n r3 r4 r5 r6 y17 y18 y19 y20)=some r:=H
 unfold Yd at H
 exact rA 1<|bE H fun r21 er21 H=>vL [.lend,.rd] (zW n (⟨y17,y18,y19⟩:Src) 5 r21 er21)<|uA 2 21 21<|rA 2<|bE H fun r22 er22 H=>vL [.lend,.rd] (qH n r21.2 [0,1,5,1000000] r22 er22)<|uA 2 21 21<|gA 2 5 5<|te<|fY [(true,[cI r3.Id,cS r4.1,cL 8 r5.1 zJ,cL 5 y20 zG,cL 3 r6.1.Rows zF,cL 1 r6.1.Pv zC,cI r21.1,cI r3.Pa,cI r3.Wo,cI r3.Dr,cI r22.1])] [(0,(fR (zL r22.2)))] H
def zCY(n:Nat)(x0:Src):Option (Vec×Src):=
  ((zBl n x0).bind fun r1=>((zP n r1.2 12).bind fun r2=>(bif (r2.1==0)then((zp n r2.2 [0,99,100]).bind fun r6=>(some ((⟨r6.1,r1.1.Co,r1.1.Hops,r1.1.Bridge,r1.1.Port⟩:Vec),r6.2)))else(bif (r2.1==1)then((zp n r2.2 [(-1),99999,100000,100001]).bind fun r5=>(some ((⟨r1.1.Root,r5.1,r1.1.Hops,r1.1.Bridge,r1.1.Port⟩:Vec),r5.2)))else(bif (r2.1==2)then((zp n r2.2 [(-1),11]).bind fun r4=>(some ((⟨r1.1.Root,r1.1.Co,r4.1,r1.1.Bridge,r1.1.Port⟩:Vec),r4.2)))else(bif (r2.1==3)then((zp n r2.2 [(-1),7,8]).bind fun r3=>(some ((⟨r1.1.Root,r1.1.Co,r1.1.Hops,r1.1.Bridge,r3.1⟩:Vec),r3.2)))else(some (r1.1,r2.2))))))))
noncomputable abbrev zNB(k:Nat):=Rg Tryz.f102 k
theorem zMM(n:Nat)(x0:Src)(r:Vec×Src)(H:zCY n x0=some r):zb Tryz.prog 102 [.ptr (fR (zL x0))] [.val true (zj r.1)] [(0,(fR (zL r.2)))]:=by
 refine zu tOk Tryz.func102 rfl (c:=(.seq (zNB 0) (.seq (zNB 1) (.seq (.seq (zNB 2) (.block 0 (.seq (zNB 3) (.cond (.tmp 8) (zNB 4) (.seq (zNB 5) (.cond (.tmp 14) (zNB 6) (.seq (zNB 7) (.cond (.tmp 20) (zNB 8) (.seq (zNB 9) (.cond (.tmp 26) (zNB 10) .skip)))))))))) (.seq (zNB 11) .ret))))) kr (Nat.le_of_ble_eq_true kr) 1 (rs:=[.cell 2 73]) rfl [] .nil [(true,(zj r.1))] [] [(0,(fR (zL r.2)))] fun cx=>?_
 show Tr _ _ _ ⟨33,1,[sA 0 0 3 0],[(0,(fR (zL x0)))]⟩ _
 unfold zCY at H
 refine gA 1 5 5<|rA 1<|bE H fun r1 er1 H=>vL [.lend] (zKX n x0 r1 er1)<|uA 2 13 13<|tS<|rA 1<|bE H fun r2 er2 H=>vL [.lend,.rd] (zW n r1.2 12 r2 er2)<|dA 141 13<|tB<|gA 2 397 13 ?_
 obtain⟨h1,H⟩|⟨h1,H⟩:=bC H
 ·refine nA h1<|gA 2 16525 13 ?_
  obtain⟨h2,H⟩|⟨h2,H⟩:=bC H
  ·refine nA h2<|gA 2 1048717 13 ?_
   obtain⟨h3,H⟩|⟨h3,H⟩:=bC H
   ·refine nA h3<|gA 2 67108877 13 ?_
    obtain⟨h4,H⟩|⟨h4,H⟩:=bC H
    ·exact nA h4<|tK<|gA 2 5 5<|te<|fY [(true,(zj r1.1))] [(0,(fR (zL r2.2)))] H
    exact tA h4<|Tr.at<|lA 2<|bE H fun r3 er3 H=>vL [.lend,.rd] (qH n r2.2 [(-1),7,8] r3 er3)<|uA 2 13 13<|gA 2 5 5<|te<|fY [(true,[cI r1.1.Root,cI r1.1.Co,cI r1.1.Hops,cI r1.1.Bridge,cI r3.1])] [(0,(fR (zL r3.2)))] H
   exact tA h3<|Tr.at<|lA 2<|bE H fun r4 er4 H=>vL [.lend,.rd] (qH n r2.2 [(-1),11] r4 er4)<|uA 2 13 13<|gA 2 5 5<|te<|fY [(true,[cI r1.1.Root,cI r1.1.Co,cI r4.1,cI r1.1.Bridge,cI r1.1.Port])] [(0,(fR (zL r4.2)))] H
  exact tA h2<|Tr.at<|lA 2<|bE H fun r5 er5 H=>vL [.lend,.rd] (qH n r2.2 [(-1),99999,100000,100001] r5 er5)<|uA 2 13 13<|gA 2 5 5<|te<|fY [(true,[cI r1.1.Root,cI r5.1,cI r1.1.Hops,cI r1.1.Bridge,cI r1.1.Port])] [(0,(fR (zL r5.2)))] H
 exact tA h1<|Tr.at<|lA 2<|bE H fun r6 er6 H=>vL [.lend,.rd] (qH n r2.2 [0,99,100] r6 er6)<|uA 2 13 13<|gA 2 5 5<|te<|fY [(true,[cI r6.1,cI r1.1.Co,cI r1.1.Hops,cI r1.1.Bridge,cI r1.1.Port])] [(0,(fR (zL r6.2)))] H
def zC5(n:Nat)(x0:Src):Option ((List Pt)×Src):=
  ((zP n x0 4).bind fun r1=>((Yv n r1.2 (wI (1+r1.1))).bind fun r2=>((zP n r2.2 12).bind fun r3=>(bif (r3.1==0)then((zCY n r3.2).bind fun r7=>((idx r2.1 0).bind fun v8=>(some ((r2.1.set (((0:Int)).toNat) (⟨v8.Up,v8.Co,v8.Has,r7.1⟩:Pt)),r7.2))))else(bif (r3.1==1)then((zp n r3.2 [0,1000,1001]).bind fun r5=>((idx r2.1 0).bind fun v6=>(some ((r2.1.set (((0:Int)).toNat) (⟨v6.Up,r5.1,v6.Has,v6.Hd⟩:Pt)),r5.2))))else(bif (r3.1==2)then((idx r2.1 0).bind fun v4=>(some ((r2.1.set (((0:Int)).toNat) (⟨false,v4.Co,v4.Has,v4.Hd⟩:Pt)),r3.2)))else(some (r2.1,r3.2))))))))
noncomputable abbrev zO6(k:Nat):=Rg Tryz.f134 k
theorem zOt(n:Nat)(x0:Src)(r:(List Pt)×Src)(H:zC5 n x0=some r):zb Tryz.prog 134 [.ptr (fR (zL x0))] [.val false [.sl true 8 (r.1.map zJ)]] [(0,(fR (zL r.2)))]:=by
 refine zu tOk Tryz.func134 rfl (c:=(.seq (zO6 0) (.seq (zO6 1) (.seq (.seq (zO6 2) (.block 0 (.seq (zO6 3) (.cond (.tmp 11) (zO6 4) (.seq (zO6 5) (.cond (.tmp 18) (zO6 6) (.seq (zO6 7) (.cond (.tmp 26) (zO6 8) .skip)))))))) (.seq (zO6 9) .ret))))) kr (Nat.le_of_ble_eq_true kr) 1 (rs:=[.tmp 2]) rfl [] .nil [(false,[.sl true 8 (r.1.map zJ)])] [] [(0,(fR (zL r.2)))] fun cx=>?_
 show Tr _ _ _ ⟨32,1,[sA 0 0 3 0],[(0,(fR (zL x0)))]⟩ _
 unfold zC5 at H
 refine gA 1 1 1<|rA 2<|bE H fun r1 er1 H=>vL [.lend,.rd] (zW n x0 4 r1 er1)<|lA 1<|bE H fun r2 er2 H=>vL [.lend,.rd] (zJA n r1.2 (wI (1+r1.1)) r2 er2)<|zY (T:=lk tab) (ty:=58) (x:=(.tmp 8)) (d:=3) (g:=none) false [cL 8 r2.1 zJ] kr kr kr kr kr<|dA 9 1<|tS<|rA 1<|bE H fun r3 er3 H=>vL [.lend,.rd] (zW n r2.2 12 r3 er3)<|dA 1033 1<|tB<|gA 2 3081 1 ?_
 obtain⟨h1,H⟩|⟨h1,H⟩:=bC H
 ·refine nA h1<|gA 2 263177 1 ?_
  obtain⟨h2,H⟩|⟨h2,H⟩:=bC H
  ·refine nA h2<|gA 2 67108873 1 ?_
   obtain⟨h3,H⟩|⟨h3,H⟩:=bC H
   ·exact nA h3<|tK<|gA 2 13 1<|te<|fY [(false,[cL 8 r2.1 zJ])] [(0,(fR (zL r3.2)))] H
   exact tA h3<|Tr.at<|lA 1<|bE H fun v4 ev4 H=>oA zJ ev4<|lA 1<|sS (tI 4) false [cB false] 3 0 (((0:Int)).toNat) 8 0 8 zJ (⟨false,v4.Co,v4.Has,v4.Hd⟩:Pt) (zU ev4).2<|dA 9 1<|gA 2 13 1<|te<|fY [(false,[cL 8 (r2.1.set (((0:Int)).toNat) (⟨false,v4.Co,v4.Has,v4.Hd⟩:Pt)) zJ])] [(0,(fR (zL r3.2)))] H
  exact tA h2<|Tr.at<|lA 3<|bE H fun r5 er5 H=>vL [.lend,.rd] (qH n r3.2 [0,1000,1001] r5 er5)<|bE H fun v6 ev6 H=>oA zJ ev6<|lA 1<|sS (tI 3) false [cI r5.1] 3 0 (((0:Int)).toNat) 8 1 8 zJ (⟨v6.Up,r5.1,v6.Has,v6.Hd⟩:Pt) (zU ev6).2<|dA 9 1<|gA 2 13 1<|te<|fY [(false,[cL 8 (r2.1.set (((0:Int)).toNat) (⟨v6.Up,r5.1,v6.Has,v6.Hd⟩:Pt)) zJ])] [(0,(fR (zL r5.2)))] H
 exact tA h1<|Tr.at<|lA 2<|bE H fun r7 er7 H=>vL [.lend] (zMM n r3.2 r7 er7)<|bE H fun v8 ev8 H=>oA zJ ev8<|lA 1<|sS (tI 73) true (zj r7.1) 3 0 (((0:Int)).toNat) 8 3 8 zJ (⟨v8.Up,v8.Co,v8.Has,r7.1⟩:Pt) (zU ev8).2<|dA 9 1<|gA 2 13 1<|te<|fY [(false,[cL 8 (r2.1.set (((0:Int)).toNat) (⟨v8.Up,v8.Co,v8.Has,r7.1⟩:Pt)) zJ])] [(0,(fR (zL r7.2)))] H
def zCv(n:Nat)(y7:(List zM))(y8:(List Int))(y9:Int)(y10:Int):Option ((List zM)×Src):=
  (some (y7,(⟨y8,y9,y10⟩:Src)))
def QK(n:Nat):Nat→Int→(List zM)→(List Int)→Int→Int→Option (((List zM)×(List Int)×Int×Int)⊕((List zM)×Src))
  |0,_,_,_,_,_=>none
  |mo11+1,y2,y3,y4,y5,y6=>(bif (decide (y2>0))then((zP n (⟨y4,y5,y6⟩:Src) 6).bind fun r12=>(bif (r12.1==0)then((zP n r12.2 3).bind fun r19=>((zAW n r19.2).bind fun r20=>((zP n r20.2 4).bind fun r21=>((JP n y3 (wI (1+r19.1)) r20.1 r21.1).bind fun r22=>(QK n mo11 (wI (y2-1)) r22.1 r21.2.b r21.2.i r21.2.h)))))else(bif (r12.1==1)then((Jc n y3).bind fun r18=>(QK n mo11 (wI (y2-1)) r18 r12.2.b r12.2.i r12.2.h))else((zP n r12.2 3).bind fun r13=>((zAW n r13.2).bind fun r14=>((zP n r14.2 3).bind fun r15=>((zP n r15.2 4).bind fun r16=>((zCV n y3 (wI (1+r13.1)) (wI (r14.1+r15.1)) r16.1).bind fun r17=>(QK n mo11 (wI (y2-1)) r17 r16.2.b r16.2.i r16.2.h)))))))))else(some (Sum.inl (y3,y4,y5,y6))))
def zDA(n:Nat)(x0:Src):Option ((List zM)×Src):=
  ((zP n x0 10).bind fun r1=>((QK n n r1.1 ([]:List zM) r1.2.b r1.2.i r1.2.h).bind fun o=>match o with|.inl (y7,y8,y9,y10)=>(zCv n y7 y8 y9 y10)|.inr r=>some r))
noncomputable abbrev zNC(k:Nat):=Rg Tryz.f161 k
theorem zOy(n:Nat)(x0:Src)(r:(List zM)×Src)(H:zDA n x0=some r):zb Tryz.prog 161 [.ptr (fR (zL x0))] [.val false [.sl true 5 (r.1.map zG)]] [(0,(fR (zL r.2)))]:=by
 refine zu tOk Tryz.func161 rfl (c:=(.seq (zNC 0) (.seq (zNC 1) (.seq (.seq (zNC 2) (.block 0 (.loop (.seq (.seq (zNC 3) (.cond (.tmp 9) .skip (.exit 0))) (.seq (.block 1 (.seq (zNC 5) (.block 2 (.seq (zNC 7) (.cond (.tmp 26) (zNC 8) (.seq (zNC 9) (.cond (.tmp 40) (zNC 10) (zNC 6)))))))) (zNC 4)))))) (.seq (zNC 11) .ret))))) kr (Nat.le_of_ble_eq_true kr) 1 (rs:=[.tmp 2]) rfl [] .nil [(false,[.sl true 5 (r.1.map zG)])] [] [(0,(fR (zL r.2)))] fun cx=>?_
 show Tr _ _ _ ⟨45,1,[sA 0 0 3 0],[(0,(fR (zL x0)))]⟩ _
 unfold zDA at H
 refine gA 1 1 1<|rA 1<|zY (T:=lk tab) (ty:=59) (x:=(.tmp 5)) (d:=3) (g:=none) false [cL 5 ([]:List zM) zG] kr kr kr kr kr<|dA 9 1<|tS<|rA 1<|bE H fun r1 er1 H=>vL [.lend,.rd] (zW n x0 10 r1 er1)<|uA 1 25 1 ?_
 obtain⟨o11,eo11,Ho11⟩:=bs H
 clear H
 refine zt (ι:=(List zM)×(List Int)×Int×Int) (fun v=>⟨45,1,[sC 3 (cL 5 v.1 zG),sA 0 0 3 0],[(0,[cF 1 v.2.1 qC,cI v.2.2.1,cI v.2.2.2])]⟩) (fun v=>zCv n v.1 v.2.1 v.2.2.1 v.2.2.2=some r) ?_ ?_
 ·refine tB<|Tr.loop (ι:=Nat×(Int×(List zM)×(List Int)×Int×Int)) (fun v=>⟨45,1,[sI 4 v.2.1,sC 3 (cL 5 v.2.2.1 zG),sA 0 0 3 0],[(0,[cF 1 v.2.2.2.1 qC,cI v.2.2.2.2.1,cI v.2.2.2.2.2])]⟩) (fun v=>QK n v.1 v.2.1 v.2.2.1 v.2.2.2.1 v.2.2.2.2.1 v.2.2.2.2.2=some o11) (fun v=>v.1) (n,(r1.1,([]:List zM),r1.2.b,r1.2.i,r1.2.h)) eo11 (za [4,3,0] [0] kr) ?_
  rintro⟨_|mo11,y2,y3,y4,y5,y6⟩ H
  ·exact nN H
  have H:QK n (mo11+1) y2 y3 y4 y5 y6=some o11:=H
  rw[QK]at H
  refine tS<|gA 2 537 1 ?_
  obtain⟨h1,H⟩|⟨h1,H⟩:=bC H
  ·refine nA h1<|Tr.exit<|aJ ?_
   cases H
   exact jA (y3,y4,y5,y6) Ho11 [3,0] [0]
  refine tA h1<|tK<|tS<|tB<|rA 1<|bE H fun r12 er12 H=>vL [.lend,.rd] (zW n (⟨y4,y5,y6⟩:Src) 6 r12 er12)<|dA 8217 1<|tB<|gA 2 67117081 1 ?_
  obtain⟨h2,H⟩|⟨h2,H⟩:=bC H
  ·refine nA h2<|gA 2 1099511627801 1 ?_
   obtain⟨h3,H⟩|⟨h3,H⟩:=bC H
   ·exact nA h3<|Tr.at<|lA 2<|bE H fun r13 er13 H=>vL [.lend,.rd] (zW n r12.2 3 r13 er13)<|lA 2<|bE H fun r14 er14 H=>vL [.lend] (zGr n r13.2 r14 er14)<|lA 1<|bE H fun r15 er15 H=>vL [.lend,.rd] (zW n r14.2 3 r15 er15)<|lA 2<|bE H fun r16 er16 H=>vL [.lend,.rd] (zW n r15.2 4 r16 er16)<|bE H fun r17 er17 H=>vB [.rd,.rd,.rd,.rd] [.slot 3] (zMH n y3 (wI (1+r13.1)) (wI (r14.1+r15.1)) r16.1 r17 er17) (.inr (zN (zH (qf (z7 Jw _)) zR) zS))<|zY (T:=lk tab) (ty:=59) (x:=(.tmp 25)) (d:=3) (g:=none) false [cL 5 r17 zG] kr kr kr kr kr<|dA 25 1<|eA 3 25 1<|jB mo11 ((wI (y2-1)),r17,r16.2.b,r16.2.i,r16.2.h) H [4,3,0] [0]
   exact tA h3<|Tr.at<|lA 1<|bE H fun r18 er18 H=>vB [.rd] [.slot 3] (zKV n y3 r18 er18) (.inr (zN (zH (qf (z7 Jw _)) zR) zS))<|zY (T:=lk tab) (ty:=59) (x:=(.tmp 43)) (d:=3) (g:=none) false [cL 5 r18 zG] kr kr kr kr kr<|dA 25 1<|eA 3 25 1<|jB mo11 ((wI (y2-1)),r18,r12.2.b,r12.2.i,r12.2.h) H [4,3,0] [0]
  exact tA h2<|Tr.at<|lA 2<|bE H fun r19 er19 H=>vL [.lend,.rd] (zW n r12.2 3 r19 er19)<|lA 2<|bE H fun r20 er20 H=>vL [.lend] (zGr n r19.2 r20 er20)<|lA 1<|bE H fun r21 er21 H=>vL [.lend,.rd] (zW n r20.2 4 r21 er21)<|bE H fun r22 er22 H=>vB [.rd,.rd,.rd,.rd] [.slot 3] (zHR n y3 (wI (1+r19.1)) r20.1 r21.1 r22 er22) (.inr (zN (zH (qf (z7 Jw _)) zR) (zN (zH zT zR) zS)))<|LAt.movT tOk (ty:=155) (t:=37) (d:=28) (g:=none) [(false,[cL 5 r22.1 zG]),(false,[cB r22.2])] _ kr (.inl rfl) kr kr kr kr rfl<|lA 2<|zY (T:=lk tab) (ty:=59) (x:=(.tmp 38)) (d:=3) (g:=none) false [cL 5 r22.1 zG] kr kr kr kr kr<|dA 25 1<|eA 3 25 1<|jB mo11 ((wI (y2-1)),r22.1,r21.2.b,r21.2.i,r21.2.h) H [4,3,0] [0]
 rintro⟨y7,y8,y9,y10⟩ H
 have H:(zCv n y7 y8 y9 y10)=some r:=H
 unfold zCv at H
 exact gA 2 13 1<|te<|fY [(false,[cL 5 y7 zG])] [(0,[cF 1 y8 qC,cI y9,cI y10])] H
def zDm(n:Nat)(y8:(List zM))(y9:(List Int))(y10:Int)(y11:Int):Option ((List zM)×Src):=
  (some (y8,(⟨y9,y10,y11⟩:Src)))
def Yy(n:Nat):Nat→Int→(List zM)→(List Int)→Int→Int→Option (((List zM)×(List Int)×Int×Int)⊕((List zM)×Src))
  |0,_,_,_,_,_=>none
  |mo12+1,y3,y4,y5,y6,y7=>((zP n (⟨y5,y6,y7⟩:Src) 3).bind fun r13=>(bif (decide (y3<(wI (11+r13.1))))then(bif (decide (y4.length+ [(⟨50,(wI (100+y3)),1,0,false⟩:zM)].length≤268435456))then(Yy n mo12 (wI (y3+1)) (y4++[(⟨50,(wI (100+y3)),1,0,false⟩:zM)]) r13.2.b r13.2.i r13.2.h)else none)else(some (Sum.inl (y4,r13.2.b,r13.2.i,r13.2.h)))))
def zD2(n:Nat)(x0:Src):Option ((List zM)×Src):=
  ((zDA n x0).bind fun r1=>((zP n r1.2 12).bind fun r2=>(bif (r2.1==0)then((zp n r2.2 [0,1,99,100]).bind fun r15=>((zp n r15.2 [0,1,9999]).bind fun r16=>((zp n r16.2 [(-1),7,8]).bind fun r17=>((zp n r17.2 [(-1),4,5]).bind fun r18=>(bif (decide (r1.1.length+ [(⟨r15.1,r16.1,r17.1,r18.1,false⟩:zM)].length≤268435456))then(some ((r1.1++[(⟨r15.1,r16.1,r17.1,r18.1,false⟩:zM)]),r18.2))else none)))))else(bif (r2.1==1)then((Yy n n 0 r1.1 r2.2.b r2.2.i r2.2.h).bind fun o=>match o with|.inl (y8,y9,y10,y11)=>(zDm n y8 y9 y10 y11)|.inr r=>some r)else(some (r1.1,r2.2))))))
noncomputable abbrev zN9(k:Nat):=Rg Tryz.f135 k
theorem zPw(n:Nat)(x0:Src)(r:(List zM)×Src)(H:zD2 n x0=some r):zb Tryz.prog 135 [.ptr (fR (zL x0))] [.val false [.sl true 5 (r.1.map zG)]] [(0,(fR (zL r.2)))]:=by
 refine zu tOk Tryz.func135 rfl (c:=(.seq (zN9 0) (.seq (zN9 1) (.seq (.seq (zN9 2) (.block 0 (.seq (zN9 3) (.cond (.tmp 9) (zN9 4) (.seq (zN9 5) (.cond (.tmp 27) (.seq (zN9 6) (.block 1 (.loop (.seq (.seq (zN9 7) (.cond (.tmp 33) .skip (.exit 1))) (.seq (.block 2 (zN9 9)) (zN9 8)))))) .skip)))))) (.seq (zN9 10) .ret))))) kr (Nat.le_of_ble_eq_true kr) 1 (rs:=[.tmp 2]) rfl [] .nil [(false,[.sl true 5 (r.1.map zG)])] [] [(0,(fR (zL r.2)))] fun cx=>?_
 show Tr _ _ _ ⟨43,1,[sA 0 0 3 0],[(0,(fR (zL x0)))]⟩ _
 unfold zD2 at H
 refine gA 1 1 1<|rA 1<|bE H fun r1 er1 H=>vL [.lend] (zOy n x0 r1 er1)<|zY (T:=lk tab) (ty:=59) (x:=(.tmp 6)) (d:=3) (g:=none) false [cL 5 r1.1 zG] kr kr kr kr kr<|dA 9 1<|tS<|rA 1<|bE H fun r2 er2 H=>vL [.lend,.rd] (zW n r1.2 12 r2 er2)<|dA 265 1<|tB<|gA 2 777 1 ?_
 obtain⟨h1,H⟩|⟨h1,H⟩:=bC H
 ·refine nA h1<|gA 2 134217737 1 ?_
  obtain⟨h2,H⟩|⟨h2,H⟩:=bC H
  ·exact nA h2<|tK<|gA 2 13 1<|te<|fY [(false,[cL 5 r1.1 zG])] [(0,(fR (zL r2.2)))] H
  refine tA h2<|gA 1 25 1 ?_
  obtain⟨o12,eo12,Ho12⟩:=bs H
  clear H
  refine zt (ι:=(List zM)×(List Int)×Int×Int) (fun v=>⟨43,1,[sC 3 (cL 5 v.1 zG),sA 0 0 3 0],[(0,[cF 1 v.2.1 qC,cI v.2.2.1,cI v.2.2.2])]⟩) (fun v=>zDm n v.1 v.2.1 v.2.2.1 v.2.2.2=some r) ?_ ?_
  ·refine tB<|Tr.loop (ι:=Nat×(Int×(List zM)×(List Int)×Int×Int)) (fun v=>⟨43,1,[sI 4 v.2.1,sC 3 (cL 5 v.2.2.1 zG),sA 0 0 3 0],[(0,[cF 1 v.2.2.2.1 qC,cI v.2.2.2.2.1,cI v.2.2.2.2.2])]⟩) (fun v=>Yy n v.1 v.2.1 v.2.2.1 v.2.2.2.1 v.2.2.2.2.1 v.2.2.2.2.2=some o12) (fun v=>v.1) (n,(0,r1.1,r2.2.b,r2.2.i,r2.2.h)) eo12 (za [4,3,0] [0] kr) ?_
   rintro⟨_|mo12,y3,y4,y5,y6,y7⟩ H
   ·exact nN H
   have H:Yy n (mo12+1) y3 y4 y5 y6 y7=some o12:=H
   rw[Yy]at H
   refine tS<|rA 2<|bE H fun r13 er13 H=>vL [.lend,.rd] (zW n (⟨y5,y6,y7⟩:Src) 3 r13 er13)<|uA 2 8589934617 1 ?_
   obtain⟨h3,H⟩|⟨h3,H⟩:=bC H
   ·refine nA h3<|Tr.exit<|aJ ?_
    cases H
    exact jA (y4,r13.2.b,r13.2.i,r13.2.h) Ho12 [3,0] [0]
   exact tA h3<|tK<|tS<|tB<|Tr.at<|lA 5<|gE H fun hg14 H=>qO tOk (t:=59) (ty:=59) (e:=127) (x:=(.tmp 36)) (y:=(.tmp 40)) (d:=41) (g:=none) (tI 127) zG y4 [(⟨50,(wI (100+y3)),1,0,false⟩:zM)] kr kr kr kr kr kr kr kr kr kr hg14<|zY (T:=lk tab) (ty:=59) (x:=(.tmp 41)) (d:=3) (g:=none) false [cL 5 (y4++[(⟨50,(wI (100+y3)),1,0,false⟩:zM)]) zG] kr kr kr kr kr<|dA 25 1<|eA 3 25 1<|jB mo12 ((wI (y3+1)),(y4++[(⟨50,(wI (100+y3)),1,0,false⟩:zM)]),r13.2.b,r13.2.i,r13.2.h) H [4,3,0] [0]
  rintro⟨y8,y9,y10,y11⟩ H
  have H:(zDm n y8 y9 y10 y11)=some r:=H
  unfold zDm at H
  exact gA 2 13 1<|te<|fY [(false,[cL 5 y8 zG])] [(0,[cF 1 y9 qC,cI y10,cI y11])] H
 exact tA h1<|Tr.at<|lA 3<|bE H fun r15 er15 H=>vL [.lend,.rd] (qH n r2.2 [0,1,99,100] r15 er15)<|lA 2<|bE H fun r16 er16 H=>vL [.lend,.rd] (qH n r15.2 [0,1,9999] r16 er16)<|lA 2<|bE H fun r17 er17 H=>vL [.lend,.rd] (qH n r16.2 [(-1),7,8] r17 er17)<|lA 2<|bE H fun r18 er18 H=>vL [.lend,.rd] (qH n r17.2 [(-1),4,5] r18 er18)<|lA 2<|gE H fun hg19 H=>qO tOk (t:=59) (ty:=59) (e:=127) (x:=(.tmp 11)) (y:=(.tmp 25)) (d:=26) (g:=none) (tI 127) zG r1.1 [(⟨r15.1,r16.1,r17.1,r18.1,false⟩:zM)] kr kr kr kr kr kr kr kr kr kr hg19<|zY (T:=lk tab) (ty:=59) (x:=(.tmp 26)) (d:=3) (g:=none) false [cL 5 (r1.1++[(⟨r15.1,r16.1,r17.1,r18.1,false⟩:zM)]) zG] kr kr kr kr kr<|dA 9 1<|gA 2 13 1<|te<|fY [(false,[cL 5 (r1.1++[(⟨r15.1,r16.1,r17.1,r18.1,false⟩:zM)]) zG])] [(0,(fR (zL r18.2)))] H
def zB2(n:Nat)(r1:Int×Src)(r3:Int×Src)(y7:(List zX))(y8:(List Int)):Option (zm×Int×Src):=
  (some ((⟨y7,y8⟩:zm),(wI (1+r1.1)),r3.2))
def Yz(n:Nat):Nat→Int→(List zX)→(List Int)→Option (((List zX)×(List Int))⊕(zm×Int×Src))
  |0,_,_,_=>none
  |mo9+1,y4,y5,y6=>(bif (decide (y4<6))then((zCZ n (⟨y5,y6⟩:zm) (⟨(wI (10+y4)),0,0⟩:zX)).bind fun r10=>(Yz n mo9 (wI (y4+1)) r10.Rows r10.Pv))else(some (Sum.inl (y5,y6))))
def zD3(n:Nat)(x0:Src):Option (zm×Int×Src):=
  ((zP n x0 4).bind fun r1=>((zBm n r1.2 (wI (1+r1.1))).bind fun r2=>((zP n r2.2 12).bind fun r3=>(bif (r3.1==0)then((zp n r3.2 [0,1,9,100]).bind fun r14=>((zp n r14.2 [(-1),0,1,64]).bind fun r15=>((zP n r15.2 3).bind fun r16=>(bif (decide (r2.1.Rows.length+ [(⟨r14.1,r15.1,r16.1⟩:zX)].length≤268435456))then(some ((⟨(r2.1.Rows++[(⟨r14.1,r15.1,r16.1⟩:zX)]),r2.1.Pv⟩:zm),(wI (1+r1.1)),r16.2))else none))))else(bif (r3.1==1)then((zp n r3.2 [0,7]).bind fun r12=>((idx r2.1.Pv 0).bind fun v13=>(some ((⟨r2.1.Rows,(r2.1.Pv.set (((0:Int)).toNat) r12.1)⟩:zm),(wI (1+r1.1)),r12.2))))else(bif (r3.1==2)then((zp n r3.2 [0,6,7]).bind fun r11=>(some (r2.1,r11.1,r11.2)))else(bif (r3.1==3)then((Yz n n 0 r2.1.Rows r2.1.Pv).bind fun o=>match o with|.inl (y7,y8)=>(zB2 n r1 r3 y7 y8)|.inr r=>some r)else(some (r2.1,(wI (1+r1.1)),r3.2)))))))))
def zTN:Tab:=⟨15,[0,1,0,0,12,0,0,112,0,384,656,1024,2562,8191,16383],[0,1,0,0,12,0,0,96,0,256,656,1024,2050,0,12288],[0,1,0,0,12,0,0,124,0,508,1020,2044,4095,8191,16383]⟩
noncomputable abbrev zLZ(k:Nat):=Rg Tryz.f136 k
noncomputable abbrev zUj(k:Nat):=Rd Tryz.f136 k
theorem Q8:qb (rg Tryz.f136 5) zTN=true:=kr
theorem zM2(n:Nat)(r3:Int×Src)(r14:Int×Src)(r15:Int×Src)(r16:Int×Src)(r2:zm×Src)(r1:Int×Src)(er14:(zp n r3.2 [0,1,9,100])=some r14)(er15:(zp n r14.2 [(-1),0,1,64])=some r15)(er16:(zP n r15.2 3)=some r16)(hg17:(decide (r2.1.Rows.length+ [(⟨r14.1,r15.1,r16.1⟩:zX)].length≤268435456))=true)(cx:Cx):AT Tryz.prog cx (rg Tryz.f136 5) [] 15 [] ⟨57,1,[sB 15 (r3.1==0),sI 14 r3.1,sA 5 5 2 0,sI 4 (wI (1+r1.1)),sA 2 2 2 0,sA 0 0 3 0],[(0,(fR (zL r3.2))),(5,(zc r2.1)),(2,[cL 3 ([]:List zX) zF,cL 1 ([]:List Int) zC])]⟩ (fun s=>s=⟨57,1,[sA 5 5 2 0,sI 4 (wI (1+r1.1)),sA 2 2 2 0,sA 0 0 3 0],[(5,[cL 3 (r2.1.Rows++[(⟨r14.1,r15.1,r16.1⟩:zX)]) zF,cL 1 r2.1.Pv zC]),(0,(fR (zL r16.2))),(2,[cL 3 ([]:List zX) zF,cL 1 ([]:List Int) zC])]⟩):=by
 refine mA Q8 ([(0,[]),(1,[12,14])]++zl [2,5,8]) 10 [⟨[12,14],60,17,18⟩] fun cx=>mB2 tOk Q8 3 6 kr (And.intro kr ?_) (And.intro kr ?_)
 ·refine lA 1<|fA<|mB2 tOk Q8 4 6 kr (And.intro kr ?_) (And.intro kr ?_)
  ·exact vL [.lend,.rd] (qH n r3.2 [0,1,9,100] r14 er14)<|fA<|mC Q8 6<|lA 1<|fA<|mC Q8 7<|vL [.lend,.rd] (qH n r14.2 [(-1),0,1,64] r15 er15)<|fA<|mC Q8 9<|vL [.lend,.rd] (zW n r15.2 3 r16 er16)<|fA<|mC Q8 10<|lA 1<|fA<|mC Q8 11<|lA 1<|fA<|mC Q8 12<|qO tOk (t:=60) (ty:=60) (e:=150) (x:=(.tmp 18)) (y:=(.tmp 28)) (d:=29) (g:=none) (tI 150) zF r2.1.Rows [(⟨r14.1,r15.1,r16.1⟩:zX)] kr kr kr kr kr kr kr kr kr kr hg17<|fA<|mA Q8 [(13,[])] 1 [⟨[12,14],60,17,18⟩] fun cx=>mC Q8 14<|lA 1<|fA<|mE Q8 [5,4,2,0] [5,0,2]
  ·exact lA 1<|fA<|mC Q8 4<|vL [.lend,.rd] (qH n r3.2 [0,1,9,100] r14 er14)<|fA<|mC Q8 7<|vL [.lend,.rd] (qH n r14.2 [(-1),0,1,64] r15 er15)<|fA<|mC Q8 9<|vL [.lend,.rd] (zW n r15.2 3 r16 er16)<|fA<|mC Q8 10<|lA 1<|fA<|mC Q8 11<|lA 1<|fA<|mC Q8 12<|qO tOk (t:=60) (ty:=60) (e:=150) (x:=(.tmp 18)) (y:=(.tmp 28)) (d:=29) (g:=none) (tI 150) zF r2.1.Rows [(⟨r14.1,r15.1,r16.1⟩:zX)] kr kr kr kr kr kr kr kr kr kr hg17<|fA<|mA Q8 [(13,[])] 1 [⟨[12,14],60,17,18⟩] fun cx=>mC Q8 14<|lA 1<|fA<|mE Q8 [5,4,2,0] [5,0,2]
 ·exact lA 1<|fA<|mC Q8 3<|lA 1<|fA<|mC Q8 4<|vL [.lend,.rd] (qH n r3.2 [0,1,9,100] r14 er14)<|fA<|mC Q8 7<|vL [.lend,.rd] (qH n r14.2 [(-1),0,1,64] r15 er15)<|fA<|mC Q8 9<|vL [.lend,.rd] (zW n r15.2 3 r16 er16)<|fA<|mC Q8 10<|lA 1<|fA<|mC Q8 11<|lA 1<|fA<|mC Q8 12<|qO tOk (t:=60) (ty:=60) (e:=150) (x:=(.tmp 18)) (y:=(.tmp 28)) (d:=29) (g:=none) (tI 150) zF r2.1.Rows [(⟨r14.1,r15.1,r16.1⟩:zX)] kr kr kr kr kr kr kr kr kr kr hg17<|fA<|mA Q8 [(13,[])] 1 [⟨[12,14],60,17,18⟩] fun cx=>mC Q8 14<|lA 1<|fA<|mE Q8 [5,4,2,0] [5,0,2]
theorem zPx(n:Nat)(x0:Src)(r:zm×Int×Src)(H:zD3 n x0=some r):zb Tryz.prog 136 [.ptr (fR (zL x0))] [.val true (zc r.1),.val false [.lit (.int .i64 r.2.1)]] [(0,(fR (zL r.2.2)))]:=by
 refine zu tOk Tryz.func136 rfl (c:=(.seq (zLZ 0) (.seq (zLZ 1) (.seq (zLZ 2) (.seq (.seq (zLZ 3) (.block 0 (.seq (zLZ 4) (.cond (.tmp 15) (zUj 5) (.seq (zLZ 6) (.cond (.tmp 31) (zUj 7) (.seq (zLZ 8) (.cond (.tmp 39) (zLZ 9) (.seq (zLZ 10) (.cond (.tmp 44) (.seq (zLZ 11) (.block 1 (.loop (.seq (.seq (zLZ 12) (.cond (.tmp 47) .skip (.exit 1))) (.seq (.block 2 (zLZ 14)) (zLZ 13)))))) .skip)))))))))) (.seq (zLZ 15) .ret)))))) kr (Nat.le_of_ble_eq_true kr) 1 (rs:=[.cell 2 62,.tmp 3]) rfl [] .nil [(true,(zc r.1)),(false,[.lit (.int .i64 r.2.1)])] [] [(0,(fR (zL r.2.2)))] fun cx=>?_
 show Tr _ _ _ ⟨57,1,[sA 0 0 3 0],[(0,(fR (zL x0)))]⟩ _
 unfold zD3 at H
 refine gA 2 5 5<|rA 1<|bE H fun r1 er1 H=>vL [.lend,.rd] (zW n x0 4 r1 er1)<|uA 2 21 5<|rA 2<|bE H fun r2 er2 H=>vL [.lend,.rd] (zKY n r1.2 (wI (1+r1.1)) r2 er2)<|uA 2 53 37<|tS<|rA 1<|bE H fun r3 er3 H=>vL [.lend,.rd] (zW n r2.2 12 r3 er3)<|dA 16437 37<|tB<|gA 2 49205 37 ?_
 obtain⟨h1,H⟩|⟨h1,H⟩:=bC H
 ·refine nA h1<|gA 2 2147500085 37 ?_
  obtain⟨h2,H⟩|⟨h2,H⟩:=bC H
  ·refine nA h2<|gA 2 549755830325 37 ?_
   obtain⟨h3,H⟩|⟨h3,H⟩:=bC H
   ·refine nA h3<|gA 2 17592186044469 37 ?_
    obtain⟨h4,H⟩|⟨h4,H⟩:=bC H
    ·exact nA h4<|tK<|gA 4 13 5<|te<|fY [(true,(zc r2.1)),(false,[cI (wI (1+r1.1))])] [(0,(fR (zL r3.2)))] H
    refine tA h4<|gA 1 117 37 ?_
    obtain⟨o9,eo9,Ho9⟩:=bs H
    clear H
    refine zt (ι:=(List zX)×(List Int)) (fun v=>⟨57,1,[sA 5 5 2 0,sI 4 (wI (1+r1.1)),sA 2 2 2 0,sA 0 0 3 0],[(0,(fR (zL r3.2))),(5,[cL 3 v.1 zF,cL 1 v.2 zC]),(2,[cL 3 ([]:List zX) zF,cL 1 ([]:List Int) zC])]⟩) (fun v=>zB2 n r1 r3 v.1 v.2=some r) ?_ ?_
    ·refine tB<|Tr.loop (ι:=Nat×(Int×(List zX)×(List Int))) (fun v=>⟨57,1,[sI 6 v.2.1,sA 5 5 2 0,sI 4 (wI (1+r1.1)),sA 2 2 2 0,sA 0 0 3 0],[(0,(fR (zL r3.2))),(5,[cL 3 v.2.2.1 zF,cL 1 v.2.2.2 zC]),(2,[cL 3 ([]:List zX) zF,cL 1 ([]:List Int) zC])]⟩) (fun v=>Yz n v.1 v.2.1 v.2.2.1 v.2.2.2=some o9) (fun v=>v.1) (n,(0,r2.1.Rows,r2.1.Pv)) eo9 (za [6,5,4,2,0] [0,5,2] kr) ?_
     rintro⟨_|mo9,y4,y5,y6⟩ H
     ·exact nN H
     have H:Yz n (mo9+1) y4 y5 y6=some o9:=H
     rw[Yz]at H
     refine tS<|gA 2 0x800000000075 37 ?_
     obtain⟨h5,H⟩|⟨h5,H⟩:=bC H
     ·refine nA h5<|Tr.exit<|aJ ?_
      cases H
      exact jA (y5,y6) Ho9 [5,4,2,0] [0,5,2]
     exact tA h5<|tK<|tS<|tB<|Tr.at<|lA 4<|bE H fun r10 er10 H=>vB [.rd,.rd] [.box 5] (zMO n (⟨y5,y6⟩:zm) (⟨(wI (10+y4)),0,0⟩:zX) r10 er10) (.inr (zN (zDs _) zS))<|uA 1 117 37<|eA 3 117 37<|jB mo9 ((wI (y4+1)),r10.Rows,r10.Pv) H [6,5,4,2,0] [0,5,2]
    rintro⟨y7,y8⟩ H
    have H:(zB2 n r1 r3 y7 y8)=some r:=H
    unfold zB2 at H
    exact gA 4 13 5<|te<|fY [(true,[cL 3 y7 zF,cL 1 y8 zC]),(false,[cI (wI (1+r1.1))])] [(0,(fR (zL r3.2)))] H
   exact tA h3<|Tr.at<|lA 2<|bE H fun r11 er11 H=>vL [.lend,.rd] (qH n r3.2 [0,6,7] r11 er11)<|uA 1 53 37<|gA 4 13 5<|te<|fY [(true,(zc r2.1)),(false,[cI r11.1])] [(0,(fR (zL r11.2)))] H
  refine tA h2<|bE H fun r12 er12 H=>bE H fun v13 ev13 H=>qr zr 7 kr ⟨57,1,[sA 5 5 2 0,sI 4 (wI (1+r1.1)),sA 2 2 2 0,sA 0 0 3 0],[(5,[cL 3 r2.1.Rows zF,cL 1 (r2.1.Pv.set (((0:Int)).toNat) r12.1) zC]),(0,(fR (zL r12.2))),(2,[cL 3 ([]:List zX) zF,cL 1 ([]:List Int) zC])]⟩ (fun cx=>?_) ?_
  ·refine aA [(0,[]),(1,[6]),(2,[])] 4 [⟨[6],30,33,34⟩] fun cx=>bA 3<|lA 1<|fA<|bA 4<|vL [.lend,.rd] (qH n r3.2 [0,7] r12 er12)<|fA<|zKc tOk 5 (t:=30) (ty:=0) (x:=(.tmp 34)) (y:=(.const (.int .i64 0))) (d:=38) (g:=none) ⟨(.box 5),[(0,0)],1,true,1,(r2.1.Pv.map zC)⟩ 0 (((0:Int)).toNat) (zC v13) _ kr kr kr kr kr kr rfl kr (JG ev13) rfl rfl (fun cx=>?_)
   exact bA 6<|QR tOk (t:=3) (ty:=0) (ad:=(.tmp 38)) (x:=(.tmp 37)) (g:=none) (tI 3) false [cI r12.1] 5 1 (((0:Int)).toNat) 1 0 1 r2.1.Pv zC v13 r12.1 kr kr kr kr kr kr kr kr (zU ev13).2 kr kr kr kr<|fA<|eE [5,4,2,0] [5,0,2]
  exact gA 4 13 5<|te<|fY [(true,[cL 3 r2.1.Rows zF,cL 1 (r2.1.Pv.set (((0:Int)).toNat) r12.1) zC]),(false,[cI (wI (1+r1.1))])] [(0,(fR (zL r12.2)))] H
 exact tA h1<|bE H fun r14 er14 H=>bE H fun r15 er15 H=>bE H fun r16 er16 H=>gE H fun hg17 H=>sT ⟨57,1,[sB 15 (r3.1==0),sI 14 r3.1,sA 5 5 2 0,sI 4 (wI (1+r1.1)),sA 2 2 2 0,sA 0 0 3 0],[(0,(fR (zL r3.2))),(5,(zc r2.1)),(2,[cL 3 ([]:List zX) zF,cL 1 ([]:List Int) zC])]⟩<|qr zr 15 kr ⟨57,1,[sA 5 5 2 0,sI 4 (wI (1+r1.1)),sA 2 2 2 0,sA 0 0 3 0],[(5,[cL 3 (r2.1.Rows++[(⟨r14.1,r15.1,r16.1⟩:zX)]) zF,cL 1 r2.1.Pv zC]),(0,(fR (zL r16.2))),(2,[cL 3 ([]:List zX) zF,cL 1 ([]:List Int) zC])]⟩ (zM2 n r3 r14 r15 r16 r2 r1 er14 er15 er16 hg17)<|gA 4 13 5<|te<|fY [(true,[cL 3 (r2.1.Rows++[(⟨r14.1,r15.1,r16.1⟩:zX)]) zF,cL 1 r2.1.Pv zC]),(false,[cI (wI (1+r1.1))])] [(0,(fR (zL r16.2)))] H
def zC6(n:Nat)(x0:Src):Option (zA×Src):=
  ((zBy n x0).bind fun r1=>((zP n r1.2 16).bind fun r2=>(bif (r2.1==0)then((zp n r2.2 [0,99,100]).bind fun r8=>(some ((⟨r8.1,r1.1.Name,r1.1.Ps,r1.1.F,r1.1.V,r1.1.Tk,r1.1.Pa,r1.1.Wo,r1.1.Dr,r1.1.Ve⟩:zA),r8.2)))else(bif (r2.1==1)then((zAV n r2.2 [(⟨#[116,101,110,45,98,121,116,101,115,45]⟩:ByteArray),(⟨#[101,108,101,118,101,110,45,98,121,116,101]⟩:ByteArray)]).bind fun r7=>(some ((⟨r1.1.Id,r7.1,r1.1.Ps,r1.1.F,r1.1.V,r1.1.Tk,r1.1.Pa,r1.1.Wo,r1.1.Dr,r1.1.Ve⟩:zA),r7.2)))else(bif (r2.1==2)then((zC5 n r2.2).bind fun r6=>(some ((⟨r1.1.Id,r1.1.Name,r6.1,r1.1.F,r1.1.V,r1.1.Tk,r1.1.Pa,r1.1.Wo,r1.1.Dr,r1.1.Ve⟩:zA),r6.2)))else(bif (r2.1==3)then((zD2 n r2.2).bind fun r5=>(some ((⟨r1.1.Id,r1.1.Name,r1.1.Ps,r5.1,r1.1.V,r1.1.Tk,r1.1.Pa,r1.1.Wo,r1.1.Dr,r1.1.Ve⟩:zA),r5.2)))else(bif (r2.1==4)then((zD3 n r2.2).bind fun r4=>(some ((⟨r1.1.Id,r1.1.Name,r1.1.Ps,r1.1.F,r4.1,r1.1.Tk,r1.1.Pa,r1.1.Wo,r1.1.Dr,r1.1.Ve⟩:zA),r4.2.2)))else(bif (r2.1==5)then((zp n r2.2 [(-1),1000000,1000001]).bind fun r3=>(some ((⟨r1.1.Id,r1.1.Name,r1.1.Ps,r1.1.F,r1.1.V,r1.1.Tk,r1.1.Pa,r1.1.Wo,r3.1,r1.1.Ve⟩:zA),r3.2)))else(some (r1.1,r2.2))))))))))
noncomputable abbrev zKC(k:Nat):=Rg Tryz.f101 k
theorem zOu(n:Nat)(x0:Src)(r:zA×Src)(H:zC6 n x0=some r):zb Tryz.prog 101 [.ptr (fR (zL x0))] [.val true (zB r.1)] [(0,(fR (zL r.2)))]:=by
 refine zu tOk Tryz.func101 rfl (c:=(.seq (zKC 0) (.seq (zKC 1) (.seq (.seq (zKC 2) (.block 0 (.seq (zKC 3) (.cond (.tmp 8) (zKC 4) (.seq (zKC 5) (.cond (.tmp 14) (zKC 6) (.seq (zKC 7) (.cond (.tmp 20) (zKC 8) (.seq (zKC 9) (.cond (.tmp 25) (zKC 10) (.seq (zKC 11) (.cond (.tmp 30) (zKC 12) (.seq (zKC 13) (.cond (.tmp 38) (zKC 14) .skip)))))))))))))) (.seq (zKC 15) .ret))))) kr (Nat.le_of_ble_eq_true kr) 1 (rs:=[.cell 2 64]) rfl [] .nil [(true,(zB r.1))] [] [(0,(fR (zL r.2)))] fun cx=>?_
 show Tr _ _ _ ⟨45,1,[sA 0 0 3 0],[(0,(fR (zL x0)))]⟩ _
 unfold zC6 at H
 refine gA 1 5 5<|rA 1<|bE H fun r1 er1 H=>vL [.lend] (zNw n x0 r1 er1)<|uA 2 13 13<|tS<|rA 1<|bE H fun r2 er2 H=>vL [.lend,.rd] (zW n r1.2 16 r2 er2)<|dA 141 13<|tB<|gA 2 397 13 ?_
 obtain⟨h1,H⟩|⟨h1,H⟩:=bC H
 ·refine nA h1<|gA 2 16525 13 ?_
  obtain⟨h2,H⟩|⟨h2,H⟩:=bC H
  ·refine nA h2<|gA 2 1048717 13 ?_
   obtain⟨h3,H⟩|⟨h3,H⟩:=bC H
   ·refine nA h3<|gA 2 33554573 13 ?_
    obtain⟨h4,H⟩|⟨h4,H⟩:=bC H
    ·refine nA h4<|gA 2 1073741965 13 ?_
     obtain⟨h5,H⟩|⟨h5,H⟩:=bC H
     ·refine nA h5<|gA 2 274877906957 13 ?_
      obtain⟨h6,H⟩|⟨h6,H⟩:=bC H
      ·exact nA h6<|tK<|gA 2 5 5<|te<|fY [(true,(zB r1.1))] [(0,(fR (zL r2.2)))] H
      exact tA h6<|Tr.at<|lA 2<|bE H fun r3 er3 H=>vL [.lend,.rd] (qH n r2.2 [(-1),1000000,1000001] r3 er3)<|uA 2 13 13<|gA 2 5 5<|te<|fY [(true,[cI r1.1.Id,cS r1.1.Name,cL 8 r1.1.Ps zJ,cL 5 r1.1.F zG,cL 3 r1.1.V.Rows zF,cL 1 r1.1.V.Pv zC,cI r1.1.Tk,cI r1.1.Pa,cI r1.1.Wo,cI r3.1,cI r1.1.Ve])] [(0,(fR (zL r3.2)))] H
     exact tA h5<|Tr.at<|lA 1<|bE H fun r4 er4 H=>vL [.lend] (zPx n r2.2 r4 er4)<|LAt.movT tOk (ty:=138) (t:=34) (d:=32) (g:=none) [(true,(zc r4.1)),(false,[cI r4.2.1])] _ kr (.inl rfl) kr kr kr kr rfl<|uA 4 13 13<|gA 2 5 5<|te<|fY [(true,[cI r1.1.Id,cS r1.1.Name,cL 8 r1.1.Ps zJ,cL 5 r1.1.F zG,cL 3 r4.1.Rows zF,cL 1 r4.1.Pv zC,cI r1.1.Tk,cI r1.1.Pa,cI r1.1.Wo,cI r1.1.Dr,cI r1.1.Ve])] [(0,(fR (zL r4.2.2)))] H
    exact tA h4<|Tr.at<|lA 1<|bE H fun r5 er5 H=>vL [.lend] (zPw n r2.2 r5 er5)<|uA 2 13 13<|gA 2 5 5<|te<|fY [(true,[cI r1.1.Id,cS r1.1.Name,cL 8 r1.1.Ps zJ,cL 5 r5.1 zG,cL 3 r1.1.V.Rows zF,cL 1 r1.1.V.Pv zC,cI r1.1.Tk,cI r1.1.Pa,cI r1.1.Wo,cI r1.1.Dr,cI r1.1.Ve])] [(0,(fR (zL r5.2)))] H
   exact tA h3<|Tr.at<|lA 1<|bE H fun r6 er6 H=>vL [.lend] (zOt n r2.2 r6 er6)<|uA 2 13 13<|gA 2 5 5<|te<|fY [(true,[cI r1.1.Id,cS r1.1.Name,cL 8 r6.1 zJ,cL 5 r1.1.F zG,cL 3 r1.1.V.Rows zF,cL 1 r1.1.V.Pv zC,cI r1.1.Tk,cI r1.1.Pa,cI r1.1.Wo,cI r1.1.Dr,cI r1.1.Ve])] [(0,(fR (zL r6.2)))] H
  exact tA h2<|Tr.at<|lA 2<|bE H fun r7 er7 H=>vL [.lend,.rd] (zML n r2.2 [(⟨#[116,101,110,45,98,121,116,101,115,45]⟩:ByteArray),(⟨#[101,108,101,118,101,110,45,98,121,116,101]⟩:ByteArray)] r7 er7)<|uA 2 13 13<|gA 2 5 5<|te<|fY [(true,[cI r1.1.Id,cS r7.1,cL 8 r1.1.Ps zJ,cL 5 r1.1.F zG,cL 3 r1.1.V.Rows zF,cL 1 r1.1.V.Pv zC,cI r1.1.Tk,cI r1.1.Pa,cI r1.1.Wo,cI r1.1.Dr,cI r1.1.Ve])] [(0,(fR (zL r7.2)))] H
 exact tA h1<|Tr.at<|lA 2<|bE H fun r8 er8 H=>vL [.lend,.rd] (qH n r2.2 [0,99,100] r8 er8)<|uA 2 13 13<|gA 2 5 5<|te<|fY [(true,[cI r8.1,cS r1.1.Name,cL 8 r1.1.Ps zJ,cL 5 r1.1.F zG,cL 3 r1.1.V.Rows zF,cL 1 r1.1.V.Pv zC,cI r1.1.Tk,cI r1.1.Pa,cI r1.1.Wo,cI r1.1.Dr,cI r1.1.Ve])] [(0,(fR (zL r8.2)))] H
def zC7(n:Nat)(x0:Src)(x1:Int):Option (Net×Src):=
  ((zAw n x0 x1).bind fun r1=>(bif ((r1.1.Bs.length:Int)==0)then(some (r1.1,r1.2))else((zP n r1.2 (r1.1.Bs.length:Int)).bind fun r2=>((zP n r2.2 20).bind fun r3=>(bif (r3.1==0)then((zC6 n r3.2).bind fun r14=>((idx r1.1.Bs r2.1).bind fun v15=>(some ((⟨(r1.1.Bs.set (r2.1.toNat) r14.1),r1.1.Ls,r1.1.Said⟩:Net),r14.2))))else(bif (r3.1==1)then((zP n r3.2 3).bind fun r9=>((zP n r9.2 3).bind fun r10=>((zP n r10.2 7).bind fun r11=>((zP n r11.2 7).bind fun r12=>(bif (decide (r1.1.Ls.length+ [(⟨r9.1,r10.1,(wI (r11.1-1)),r12.1⟩:Link)].length≤268435456))then(some ((⟨r1.1.Bs,(r1.1.Ls++[(⟨r9.1,r10.1,(wI (r11.1-1)),r12.1⟩:Link)]),r1.1.Said⟩:Net),r12.2))else none)))))else(bif (r3.1==2)then((zp n r3.2 [(-1),0,8,9]).bind fun r6=>((zCY n r6.2).bind fun r7=>(bif (decide (r1.1.Said.length+ [(⟨r6.1,false,r7.1⟩:Say)].length≤268435456))then(some ((⟨r1.1.Bs,r1.1.Ls,(r1.1.Said++[(⟨r6.1,false,r7.1⟩:Say)])⟩:Net),r7.2))else none)))else(bif (r3.1==3)then((idx r1.1.Bs r2.1).bind fun v4=>((idx v4.Ps 0).bind fun v5=>(some ((⟨(r1.1.Bs.set (r2.1.toNat) (⟨v4.Id,v4.Name,(v4.Ps.set (((0:Int)).toNat) (⟨(!v5.Up),v5.Co,v5.Has,v5.Hd⟩:Pt)),v4.F,v4.V,v4.Tk,v4.Pa,v4.Wo,v4.Dr,v4.Ve⟩:zA)),r1.1.Ls,r1.1.Said⟩:Net),r3.2))))else(some (r1.1,r3.2))))))))))
def zTb:Tab:=⟨19,[0,1,0,6,8,16,0,64,0,384,512,1024,2048,4096,8192,16384,65535,131071,196607],[0,1,0,6,8,16,0,64,0,384,512,1024,2048,4096,8192,16384,32,65536,163840],[0,1,0,7,15,31,0,64,0,448,960,1984,4032,8128,16320,32704,65535,131071,262143]⟩
noncomputable abbrev G67(k:Nat):=Rg Tryz.f67 k
noncomputable abbrev D67(k:Nat):=Rd Tryz.f67 k
theorem Zl:qb (rg Tryz.f67 13) zTb=true:=kr
def zTa:Tab:=⟨12,[0,1,0,0,12,0,48,80,128,322,1023,2047],[0,1,0,0,12,0,32,80,128,258,0,1536],[0,1,0,0,12,0,60,124,252,511,1023,2047]⟩
theorem zGJ:qb (rg Tryz.f67 11) zTa=true:=kr
def zUP:Tab:=⟨16,[0,1,0,4,0,24,0,96,128,0,640,1320,2048,5122,16383,32767],[0,1,0,4,0,16,0,64,128,0,512,1320,2048,4098,0,24576],[0,1,0,4,0,28,0,124,252,0,764,2044,4092,8191,16383,32767]⟩
theorem zHq:qb (rg Tryz.f67 9) zUP=true:=kr
theorem zLU(n:Nat)(r2:Int×Src)(r1:Net×Src)(v4:zA)(v5:Pt)(r3:Int×Src)(ev4:(idx r1.1.Bs r2.1)=some v4)(ev5:(idx v4.Ps 0)=some v5)(cx:Cx):AT Tryz.prog cx (rg Tryz.f67 13) [] 19 [] ⟨81,1,[sB 60 (r3.1==3),sI 6 r2.1,sA 5 5 3 0,sA 4 4 3 0,sA 0 0 3 0],[(0,(fR (zL r3.2))),(5,(zD r1.1)),(4,[cL 11 ([]:List zA) zB,cL 4 ([]:List Link) zE,cL 7 ([]:List Say) zI])]⟩ (fun s=>s=⟨81,1,[sA 5 5 3 0,sA 4 4 3 0,sA 0 0 3 0],[(5,[cL 11 (r1.1.Bs.set (r2.1.toNat) (⟨v4.Id,v4.Name,(v4.Ps.set (((0:Int)).toNat) (⟨(!v5.Up),v5.Co,v5.Has,v5.Hd⟩:Pt)),v4.F,v4.V,v4.Tk,v4.Pa,v4.Wo,v4.Dr,v4.Ve⟩:zA)) zB,cL 4 r1.1.Ls zE,cL 7 r1.1.Said zI]),(0,(fR (zL r3.2))),(4,[cL 11 ([]:List zA) zB,cL 4 ([]:List Link) zE,cL 7 ([]:List Say) zI])]⟩):=by
 refine mA Zl [(0,[]),(1,[18]),(2,[])] 16 [⟨[18],24,62,63⟩] fun cx=>oN Zl 3 zB ev4 fun cx=>mA Zl [(4,[]),(6,[]),(7,[18]),(8,[])] 11 [⟨[18],24,68,69⟩,⟨[18],24,62,63⟩] fun cx=>oN Zl 9 zB ev4 fun cx=>mA Zl [(10,[])] 9 [⟨[18],24,68,69⟩,⟨[18],24,62,63⟩] fun cx=>mB2 tOk Zl 5 11 kr (And.intro kr ?_) (And.intro kr ?_)
 ·refine dE (tI 58) (.box 5) [(0,0),(0,(r2.1.toNat))] 11 2 [.sl true 3 [(zD r1.1)]] (zB v4) (zq rfl (zU ev4).2)<|fA<|mC Zl 11<|dE (tI 58) (.box 5) [(0,0),(0,(r2.1.toNat))] 11 2 [.sl true 3 [(zD r1.1)]] (zB v4) (zq rfl (zU ev4).2)<|fA<|mC Zl 12<|zAF tOk (t:=58) (ty:=0) (et:=83) (x:=(.tmp 73)) (y:=(.const (.int .i64 0))) (d:=74) (g:=none) (tI 83) ⟨(.box 5),[(0,0),(0,(r2.1.toNat))],2,true,8,(v4.Ps.map zJ)⟩ .i64 0 (((0:Int)).toNat) (zJ v5) kr kr kr kr kr kr kr (zFi (row:=[.sl true 3 [(zD r1.1)]]) (e:=zB v4) kr kr (zq rfl (zU ev4).2) rfl rfl) rfl kr (JG ev5) rfl<|fA<|mA Zl [(13,[])] 5 [⟨[18],24,68,69⟩,⟨[18],24,62,63⟩] fun cx=>mC Zl 14<|dE (tI 4) (.box 5) [(0,0),(0,(r2.1.toNat)),(2,(((0:Int)).toNat))] 8 0 [.sl true 3 [(zD r1.1)]] (zJ v5) (zFb rfl (zU ev4).2 rfl (zU ev5).2)<|fA<|mA Zl [(15,[])] 3 [⟨[18],24,68,69⟩,⟨[18],24,62,63⟩] fun cx=>mC Zl 16<|zAF tOk (t:=58) (ty:=0) (et:=83) (x:=(.tmp 67)) (y:=(.const (.int .i64 0))) (d:=78) (g:=none) (tI 83) ⟨(.box 5),[(0,0),(0,(r2.1.toNat))],2,true,8,(v4.Ps.map zJ)⟩ .i64 0 (((0:Int)).toNat) (zJ v5) kr kr kr kr kr kr kr (zFi (row:=[.sl true 3 [(zD r1.1)]]) (e:=zB v4) kr kr (zq rfl (zU ev4).2) rfl rfl) rfl kr (JG ev5) rfl<|fA<|mA Zl [(17,[])] 1 [⟨[18],24,68,69⟩,⟨[18],24,62,63⟩] fun cx=>sA_ 0xa030c000000000000031 49 ⟨81,1,[(79,.adr (.box 5) [(0,0),(0,(r2.1.toNat)),(2,(((0:Int)).toNat))] 8 0),sB 77 (!v5.Up),sR 69 5 3 0 1 false,sA 68 5 3 0,sR 63 5 3 0 1 false,sA 62 5 3 0,sA 5 5 3 0,sA 4 4 3 0,sA 0 0 3 0],[(0,(fR (zL r3.2))),(5,(zD r1.1)),(4,[cL 11 ([]:List zA) zB,cL 4 ([]:List Link) zE,cL 7 ([]:List Say) zI])]⟩ ?_
  exact mC Zl 18<|zAz tOk (t:=4) (ty:=0) (ad:=(.tmp 79)) (x:=(.tmp 77)) (g:=none) (tI 4) false [cB (!v5.Up)] (.box 5) [(0,0),(0,(r2.1.toNat)),(2,(((0:Int)).toNat))] [(0,(r2.1.toNat)),(2,(((0:Int)).toNat))] 8 0 [.sl true 3 [(zD r1.1)]] (zJ v5) (zD r1.1) [cL 11 (r1.1.Bs.set (r2.1.toNat) (⟨v4.Id,v4.Name,(v4.Ps.set (((0:Int)).toNat) (⟨(!v5.Up),v5.Co,v5.Has,v5.Hd⟩:Pt)),v4.F,v4.V,v4.Tk,v4.Pa,v4.Wo,v4.Dr,v4.Ve⟩:zA)) zB,cL 4 r1.1.Ls zE,cL 7 r1.1.Said zI] kr kr kr kr kr kr (zFb rfl (zU ev4).2 rfl (zU ev5).2) rfl (by intro h;cases h) kr kr rfl (zM8 (new:=(⟨v4.Id,v4.Name,(v4.Ps.set (((0:Int)).toNat) (⟨(!v5.Up),v5.Co,v5.Has,v5.Hd⟩:Pt)),v4.F,v4.V,v4.Tk,v4.Pa,v4.Wo,v4.Dr,v4.Ve⟩:zA)) (new2:=(⟨(!v5.Up),v5.Co,v5.Has,v5.Hd⟩:Pt)) rfl (zU ev4).2 rfl (zU ev5).2 kr kr) kr<|fA<|mE Zl [5,4,0] [5,0,4]
 ·refine dE (tI 58) (.box 5) [(0,0),(0,(r2.1.toNat))] 11 2 [.sl true 3 [(zD r1.1)]] (zB v4) (zq rfl (zU ev4).2)<|fA<|mB2 tOk Zl 5 12 kr (And.intro kr ?_) (And.intro kr ?_)
  ·refine dE (tI 58) (.box 5) [(0,0),(0,(r2.1.toNat))] 11 2 [.sl true 3 [(zD r1.1)]] (zB v4) (zq rfl (zU ev4).2)<|fA<|mC Zl 12<|zAF tOk (t:=58) (ty:=0) (et:=83) (x:=(.tmp 73)) (y:=(.const (.int .i64 0))) (d:=74) (g:=none) (tI 83) ⟨(.box 5),[(0,0),(0,(r2.1.toNat))],2,true,8,(v4.Ps.map zJ)⟩ .i64 0 (((0:Int)).toNat) (zJ v5) kr kr kr kr kr kr kr (zFi (row:=[.sl true 3 [(zD r1.1)]]) (e:=zB v4) kr kr (zq rfl (zU ev4).2) rfl rfl) rfl kr (JG ev5) rfl<|fA<|mA Zl [(13,[])] 5 [⟨[18],24,68,69⟩,⟨[18],24,62,63⟩] fun cx=>mC Zl 14<|dE (tI 4) (.box 5) [(0,0),(0,(r2.1.toNat)),(2,(((0:Int)).toNat))] 8 0 [.sl true 3 [(zD r1.1)]] (zJ v5) (zFb rfl (zU ev4).2 rfl (zU ev5).2)<|fA<|mA Zl [(15,[])] 3 [⟨[18],24,68,69⟩,⟨[18],24,62,63⟩] fun cx=>mC Zl 16<|zAF tOk (t:=58) (ty:=0) (et:=83) (x:=(.tmp 67)) (y:=(.const (.int .i64 0))) (d:=78) (g:=none) (tI 83) ⟨(.box 5),[(0,0),(0,(r2.1.toNat))],2,true,8,(v4.Ps.map zJ)⟩ .i64 0 (((0:Int)).toNat) (zJ v5) kr kr kr kr kr kr kr (zFi (row:=[.sl true 3 [(zD r1.1)]]) (e:=zB v4) kr kr (zq rfl (zU ev4).2) rfl rfl) rfl kr (JG ev5) rfl<|fA<|mA Zl [(17,[])] 1 [⟨[18],24,68,69⟩,⟨[18],24,62,63⟩] fun cx=>sA_ 0xa030c000000000000031 49 ⟨81,1,[(79,.adr (.box 5) [(0,0),(0,(r2.1.toNat)),(2,(((0:Int)).toNat))] 8 0),sB 77 (!v5.Up),sR 69 5 3 0 1 false,sA 68 5 3 0,sR 63 5 3 0 1 false,sA 62 5 3 0,sA 5 5 3 0,sA 4 4 3 0,sA 0 0 3 0],[(0,(fR (zL r3.2))),(5,(zD r1.1)),(4,[cL 11 ([]:List zA) zB,cL 4 ([]:List Link) zE,cL 7 ([]:List Say) zI])]⟩ ?_
   exact mC Zl 18<|zAz tOk (t:=4) (ty:=0) (ad:=(.tmp 79)) (x:=(.tmp 77)) (g:=none) (tI 4) false [cB (!v5.Up)] (.box 5) [(0,0),(0,(r2.1.toNat)),(2,(((0:Int)).toNat))] [(0,(r2.1.toNat)),(2,(((0:Int)).toNat))] 8 0 [.sl true 3 [(zD r1.1)]] (zJ v5) (zD r1.1) [cL 11 (r1.1.Bs.set (r2.1.toNat) (⟨v4.Id,v4.Name,(v4.Ps.set (((0:Int)).toNat) (⟨(!v5.Up),v5.Co,v5.Has,v5.Hd⟩:Pt)),v4.F,v4.V,v4.Tk,v4.Pa,v4.Wo,v4.Dr,v4.Ve⟩:zA)) zB,cL 4 r1.1.Ls zE,cL 7 r1.1.Said zI] kr kr kr kr kr kr (zFb rfl (zU ev4).2 rfl (zU ev5).2) rfl (by intro h;cases h) kr kr rfl (zM8 (new:=(⟨v4.Id,v4.Name,(v4.Ps.set (((0:Int)).toNat) (⟨(!v5.Up),v5.Co,v5.Has,v5.Hd⟩:Pt)),v4.F,v4.V,v4.Tk,v4.Pa,v4.Wo,v4.Dr,v4.Ve⟩:zA)) (new2:=(⟨(!v5.Up),v5.Co,v5.Has,v5.Hd⟩:Pt)) rfl (zU ev4).2 rfl (zU ev5).2 kr kr) kr<|fA<|mE Zl [5,4,0] [5,0,4]
  ·refine zAF tOk (t:=58) (ty:=0) (et:=83) (x:=(.tmp 73)) (y:=(.const (.int .i64 0))) (d:=74) (g:=none) (tI 83) ⟨(.box 5),[(0,0),(0,(r2.1.toNat))],2,true,8,(v4.Ps.map zJ)⟩ .i64 0 (((0:Int)).toNat) (zJ v5) kr kr kr kr kr kr kr (zFi (row:=[.sl true 3 [(zD r1.1)]]) (e:=zB v4) kr kr (zq rfl (zU ev4).2) rfl rfl) rfl kr (JG ev5) rfl<|fA<|mA Zl [(13,[])] 6 [⟨[18],24,68,69⟩,⟨[18],24,62,63⟩] fun cx=>mB2 tOk Zl 5 14 kr (And.intro kr ?_) (And.intro kr ?_)
   ·refine dE (tI 58) (.box 5) [(0,0),(0,(r2.1.toNat))] 11 2 [.sl true 3 [(zD r1.1)]] (zB v4) (zq rfl (zU ev4).2)<|fA<|mC Zl 14<|dE (tI 4) (.box 5) [(0,0),(0,(r2.1.toNat)),(2,(((0:Int)).toNat))] 8 0 [.sl true 3 [(zD r1.1)]] (zJ v5) (zFb rfl (zU ev4).2 rfl (zU ev5).2)<|fA<|mA Zl [(15,[])] 3 [⟨[18],24,68,69⟩,⟨[18],24,62,63⟩] fun cx=>mC Zl 16<|zAF tOk (t:=58) (ty:=0) (et:=83) (x:=(.tmp 67)) (y:=(.const (.int .i64 0))) (d:=78) (g:=none) (tI 83) ⟨(.box 5),[(0,0),(0,(r2.1.toNat))],2,true,8,(v4.Ps.map zJ)⟩ .i64 0 (((0:Int)).toNat) (zJ v5) kr kr kr kr kr kr kr (zFi (row:=[.sl true 3 [(zD r1.1)]]) (e:=zB v4) kr kr (zq rfl (zU ev4).2) rfl rfl) rfl kr (JG ev5) rfl<|fA<|mA Zl [(17,[])] 1 [⟨[18],24,68,69⟩,⟨[18],24,62,63⟩] fun cx=>sA_ 0xa030c000000000000031 49 ⟨81,1,[(79,.adr (.box 5) [(0,0),(0,(r2.1.toNat)),(2,(((0:Int)).toNat))] 8 0),sB 77 (!v5.Up),sR 69 5 3 0 1 false,sA 68 5 3 0,sR 63 5 3 0 1 false,sA 62 5 3 0,sA 5 5 3 0,sA 4 4 3 0,sA 0 0 3 0],[(0,(fR (zL r3.2))),(5,(zD r1.1)),(4,[cL 11 ([]:List zA) zB,cL 4 ([]:List Link) zE,cL 7 ([]:List Say) zI])]⟩<|mC Zl 18<|zAz tOk (t:=4) (ty:=0) (ad:=(.tmp 79)) (x:=(.tmp 77)) (g:=none) (tI 4) false [cB (!v5.Up)] (.box 5) [(0,0),(0,(r2.1.toNat)),(2,(((0:Int)).toNat))] [(0,(r2.1.toNat)),(2,(((0:Int)).toNat))] 8 0 [.sl true 3 [(zD r1.1)]] (zJ v5) (zD r1.1) [cL 11 (r1.1.Bs.set (r2.1.toNat) (⟨v4.Id,v4.Name,(v4.Ps.set (((0:Int)).toNat) (⟨(!v5.Up),v5.Co,v5.Has,v5.Hd⟩:Pt)),v4.F,v4.V,v4.Tk,v4.Pa,v4.Wo,v4.Dr,v4.Ve⟩:zA)) zB,cL 4 r1.1.Ls zE,cL 7 r1.1.Said zI] kr kr kr kr kr kr (zFb rfl (zU ev4).2 rfl (zU ev5).2) rfl (by intro h;cases h) kr kr rfl (zM8 (new:=(⟨v4.Id,v4.Name,(v4.Ps.set (((0:Int)).toNat) (⟨(!v5.Up),v5.Co,v5.Has,v5.Hd⟩:Pt)),v4.F,v4.V,v4.Tk,v4.Pa,v4.Wo,v4.Dr,v4.Ve⟩:zA)) (new2:=(⟨(!v5.Up),v5.Co,v5.Has,v5.Hd⟩:Pt)) rfl (zU ev4).2 rfl (zU ev5).2 kr kr) kr ?_
    exact fA<|mE Zl [5,4,0] [5,0,4]
   ·refine dE (tI 4) (.box 5) [(0,0),(0,(r2.1.toNat)),(2,(((0:Int)).toNat))] 8 0 [.sl true 3 [(zD r1.1)]] (zJ v5) (zFb rfl (zU ev4).2 rfl (zU ev5).2)<|fA<|mA Zl [(15,[])] 4 [⟨[18],24,68,69⟩,⟨[18],24,62,63⟩] fun cx=>mC Zl 5<|dE (tI 58) (.box 5) [(0,0),(0,(r2.1.toNat))] 11 2 [.sl true 3 [(zD r1.1)]] (zB v4) (zq rfl (zU ev4).2)<|fA<|mC Zl 16<|zAF tOk (t:=58) (ty:=0) (et:=83) (x:=(.tmp 67)) (y:=(.const (.int .i64 0))) (d:=78) (g:=none) (tI 83) ⟨(.box 5),[(0,0),(0,(r2.1.toNat))],2,true,8,(v4.Ps.map zJ)⟩ .i64 0 (((0:Int)).toNat) (zJ v5) kr kr kr kr kr kr kr (zFi (row:=[.sl true 3 [(zD r1.1)]]) (e:=zB v4) kr kr (zq rfl (zU ev4).2) rfl rfl) rfl kr (JG ev5) rfl<|fA<|mA Zl [(17,[])] 1 [⟨[18],24,68,69⟩,⟨[18],24,62,63⟩] fun cx=>sA_ 0xa030c000000000000031 49 ⟨81,1,[(79,.adr (.box 5) [(0,0),(0,(r2.1.toNat)),(2,(((0:Int)).toNat))] 8 0),sB 77 (!v5.Up),sR 69 5 3 0 1 false,sA 68 5 3 0,sR 63 5 3 0 1 false,sA 62 5 3 0,sA 5 5 3 0,sA 4 4 3 0,sA 0 0 3 0],[(0,(fR (zL r3.2))),(5,(zD r1.1)),(4,[cL 11 ([]:List zA) zB,cL 4 ([]:List Link) zE,cL 7 ([]:List Say) zI])]⟩<|mC Zl 18<|zAz tOk (t:=4) (ty:=0) (ad:=(.tmp 79)) (x:=(.tmp 77)) (g:=none) (tI 4) false [cB (!v5.Up)] (.box 5) [(0,0),(0,(r2.1.toNat)),(2,(((0:Int)).toNat))] [(0,(r2.1.toNat)),(2,(((0:Int)).toNat))] 8 0 [.sl true 3 [(zD r1.1)]] (zJ v5) (zD r1.1) [cL 11 (r1.1.Bs.set (r2.1.toNat) (⟨v4.Id,v4.Name,(v4.Ps.set (((0:Int)).toNat) (⟨(!v5.Up),v5.Co,v5.Has,v5.Hd⟩:Pt)),v4.F,v4.V,v4.Tk,v4.Pa,v4.Wo,v4.Dr,v4.Ve⟩:zA)) zB,cL 4 r1.1.Ls zE,cL 7 r1.1.Said zI] kr kr kr kr kr kr (zFb rfl (zU ev4).2 rfl (zU ev5).2) rfl (by intro h;cases h) kr kr rfl (zM8 (new:=(⟨v4.Id,v4.Name,(v4.Ps.set (((0:Int)).toNat) (⟨(!v5.Up),v5.Co,v5.Has,v5.Hd⟩:Pt)),v4.F,v4.V,v4.Tk,v4.Pa,v4.Wo,v4.Dr,v4.Ve⟩:zA)) (new2:=(⟨(!v5.Up),v5.Co,v5.Has,v5.Hd⟩:Pt)) rfl (zU ev4).2 rfl (zU ev5).2 kr kr) kr ?_
    exact fA<|mE Zl [5,4,0] [5,0,4]
theorem zOv(n:Nat)(x0:Src)(x1:Int)(r:Net×Src)(H:zC7 n x0 x1=some r):zb Tryz.prog 67 [.ptr (fR (zL x0)),.val false [.lit (.int .i64 x1)]] [.val true (zD r.1)] [(0,(fR (zL r.2)))]:=by
 refine zu tOk Tryz.func67 rfl (c:=(.seq (G67 0) (.seq (G67 1) (.seq (.seq (G67 2) (.cond (.tmp 13) (.seq (G67 3) .ret) .skip)) (.seq (G67 4) (.seq (.seq (G67 5) (.block 0 (.seq (G67 6) (.cond (.tmp 22) (D67 7) (.seq (G67 8) (.cond (.tmp 30) (D67 9) (.seq (G67 10) (.cond (.tmp 47) (D67 11) (.seq (G67 12) (.cond (.tmp 60) (D67 13) .skip)))))))))) (.seq (G67 14) .ret))))))) kr (Nat.le_of_ble_eq_true kr) 1 (rs:=[.cell 4 28]) rfl [] .nil [(true,(zD r.1))] [] [(0,(fR (zL r.2)))] fun cx=>?_
 show Tr _ _ _ ⟨81,1,[sA 0 0 3 0,sI 1 x1],[(0,(fR (zL x0)))]⟩ _
 unfold zC7 at H
 refine gA 1 19 17<|rA 2<|bE H fun r1 er1 H=>vL [.lend,.rd] (zJB n x0 x1 r1 er1)<|uA 2 49 49<|tS<|rA 2<|kO r1.1.Bs zB<|uA 1 8241 49 ?_
 obtain⟨h1,H⟩|⟨h1,H⟩:=bC H
 ·refine nA h1<|tK<|rA 3<|kO r1.1.Bs zB<|bE H fun r2 er2 H=>vL [.lend,.rd] (zW n r1.2 (r1.1.Bs.length:Int) r2 er2)<|uA 1 113 49<|tS<|rA 1<|bE H fun r3 er3 H=>vL [.lend,.rd] (zW n r2.2 20 r3 er3)<|dA 2097265 49<|tB<|gA 2 6291569 49 ?_
  obtain⟨h2,H⟩|⟨h2,H⟩:=bC H
  ·refine nA h2<|gA 2 1075839089 49 ?_
   obtain⟨h3,H⟩|⟨h3,H⟩:=bC H
   ·refine nA h3<|gA 2 0x800000200071 49 ?_
    obtain⟨h4,H⟩|⟨h4,H⟩:=bC H
    ·refine nA h4<|gA 2 0x1000000000000071 49 ?_
     obtain⟨h5,H⟩|⟨h5,H⟩:=bC H
     ·exact nA h5<|tK<|gA 2 17 17<|te<|fY [(true,(zD r1.1))] [(0,(fR (zL r3.2)))] H
     exact tA h5<|bE H fun v4 ev4 H=>bE H fun v5 ev5 H=>sT ⟨81,1,[sB 60 (r3.1==3),sI 6 r2.1,sA 5 5 3 0,sA 4 4 3 0,sA 0 0 3 0],[(0,(fR (zL r3.2))),(5,(zD r1.1)),(4,[cL 11 ([]:List zA) zB,cL 4 ([]:List Link) zE,cL 7 ([]:List Say) zI])]⟩<|qr zr 19 kr ⟨81,1,[sA 5 5 3 0,sA 4 4 3 0,sA 0 0 3 0],[(5,[cL 11 (r1.1.Bs.set (r2.1.toNat) (⟨v4.Id,v4.Name,(v4.Ps.set (((0:Int)).toNat) (⟨(!v5.Up),v5.Co,v5.Has,v5.Hd⟩:Pt)),v4.F,v4.V,v4.Tk,v4.Pa,v4.Wo,v4.Dr,v4.Ve⟩:zA)) zB,cL 4 r1.1.Ls zE,cL 7 r1.1.Said zI]),(0,(fR (zL r3.2))),(4,[cL 11 ([]:List zA) zB,cL 4 ([]:List Link) zE,cL 7 ([]:List Say) zI])]⟩ (zLU n r2 r1 v4 v5 r3 ev4 ev5)<|gA 2 17 17<|te<|fY [(true,[cL 11 (r1.1.Bs.set (r2.1.toNat) (⟨v4.Id,v4.Name,(v4.Ps.set (((0:Int)).toNat) (⟨(!v5.Up),v5.Co,v5.Has,v5.Hd⟩:Pt)),v4.F,v4.V,v4.Tk,v4.Pa,v4.Wo,v4.Dr,v4.Ve⟩:zA)) zB,cL 4 r1.1.Ls zE,cL 7 r1.1.Said zI])] [(0,(fR (zL r3.2)))] H
    refine tA h4<|bE H fun r6 er6 H=>bE H fun r7 er7 H=>gE H fun hg8 H=>qr zr 12 kr ⟨81,1,[sA 5 5 3 0,sA 4 4 3 0,sA 0 0 3 0],[(5,[cL 11 r1.1.Bs zB,cL 4 r1.1.Ls zE,cL 7 (r1.1.Said++[(⟨r6.1,false,r7.1⟩:Say)]) zI]),(0,(fR (zL r7.2))),(4,[cL 11 ([]:List zA) zB,cL 4 ([]:List Link) zE,cL 7 ([]:List Say) zI])]⟩ (fun cx=>?_) ?_
    ·exact mA zGJ [(0,[]),(1,[9,11]),(2,[]),(5,[])] 8 [⟨[9,11],26,49,50⟩] fun cx=>mC zGJ 3<|lA 1<|fA<|mC zGJ 4<|vL [.lend,.rd] (qH n r3.2 [(-1),0,8,9] r6 er6)<|fA<|mC zGJ 6<|vL [.lend] (zMM n r6.2 r7 er7)<|fA<|mC zGJ 7<|lA 1<|fA<|mC zGJ 8<|lA 1<|fA<|mC zGJ 9<|qO tOk (t:=26) (ty:=26) (e:=101) (x:=(.tmp 50)) (y:=(.tmp 57)) (d:=58) (g:=none) (tI 101) zI r1.1.Said [(⟨r6.1,false,r7.1⟩:Say)] kr kr kr kr kr kr kr kr kr kr hg8<|fA<|mA zGJ [(10,[])] 1 [⟨[9,11],26,49,50⟩] fun cx=>mC zGJ 11<|lA 1<|fA<|mE zGJ [5,4,0] [5,0,4]
    exact gA 2 17 17<|te<|fY [(true,[cL 11 r1.1.Bs zB,cL 4 r1.1.Ls zE,cL 7 (r1.1.Said++[(⟨r6.1,false,r7.1⟩:Say)]) zI])] [(0,(fR (zL r7.2)))] H
   refine tA h3<|bE H fun r9 er9 H=>bE H fun r10 er10 H=>bE H fun r11 er11 H=>bE H fun r12 er12 H=>gE H fun hg13 H=>qr zr 16 kr ⟨81,1,[sA 5 5 3 0,sA 4 4 3 0,sA 0 0 3 0],[(5,[cL 11 r1.1.Bs zB,cL 4 (r1.1.Ls++[(⟨r9.1,r10.1,(wI (r11.1-1)),r12.1⟩:Link)]) zE,cL 7 r1.1.Said zI]),(0,(fR (zL r12.2))),(4,[cL 11 ([]:List zA) zB,cL 4 ([]:List Link) zE,cL 7 ([]:List Say) zI])]⟩ (fun cx=>?_) ?_
   ·exact mA zHq ([(0,[]),(1,[13,15])]++zl [2,4,6,9]) 10 [⟨[13,15],25,32,33⟩] fun cx=>mC zHq 3<|vL [.lend,.rd] (zW n r3.2 3 r9 er9)<|fA<|mC zHq 5<|vL [.lend,.rd] (zW n r9.2 3 r10 er10)<|fA<|mC zHq 7<|vL [.lend,.rd] (zW n r10.2 7 r11 er11)<|fA<|mA zHq [(8,[])] 6 [⟨[13,15],25,32,33⟩] fun cx=>mC zHq 10<|vL [.lend,.rd] (zW n r11.2 7 r12 er12)<|fA<|mC zHq 11<|lA 1<|fA<|mC zHq 12<|lA 1<|fA<|mC zHq 13<|qO tOk (t:=25) (ty:=25) (e:=70) (x:=(.tmp 33)) (y:=(.tmp 44)) (d:=45) (g:=none) (tI 70) zE r1.1.Ls [(⟨r9.1,r10.1,(wI (r11.1-1)),r12.1⟩:Link)] kr kr kr kr kr kr kr kr kr kr hg13<|fA<|mA zHq [(14,[])] 1 [⟨[13,15],25,32,33⟩] fun cx=>mC zHq 15<|lA 1<|fA<|mE zHq [5,4,0] [5,0,4]
   exact gA 2 17 17<|te<|fY [(true,[cL 11 r1.1.Bs zB,cL 4 (r1.1.Ls++[(⟨r9.1,r10.1,(wI (r11.1-1)),r12.1⟩:Link)]) zE,cL 7 r1.1.Said zI])] [(0,(fR (zL r12.2)))] H
  refine tA h2<|bE H fun r14 er14 H=>bE H fun v15 ev15 H=>qr zr 7 kr ⟨81,1,[sA 5 5 3 0,sA 4 4 3 0,sA 0 0 3 0],[(5,[cL 11 (r1.1.Bs.set (r2.1.toNat) r14.1) zB,cL 4 r1.1.Ls zE,cL 7 r1.1.Said zI]),(0,(fR (zL r14.2))),(4,[cL 11 ([]:List zA) zB,cL 4 ([]:List Link) zE,cL 7 ([]:List Say) zI])]⟩ (fun cx=>?_) ?_
  ·refine aA [(0,[]),(1,[6]),(2,[]),(3,[])] 3 [⟨[6],24,24,25⟩] fun cx=>bA 4<|vL [.lend] (zOu n r3.2 r14 er14)<|fA<|aO tOk 5 24 0 25 26 29 none ⟨(.box 5),[(0,0)],0,true,11,(r1.1.Bs.map zB)⟩ r2.1 (r2.1.toNat) (zB v15) _ kr kr kr kr kr kr rfl kr (JG ev15) rfl rfl (fun cx=>?_)
   exact bA 6<|QR tOk (t:=64) (ty:=0) (ad:=(.tmp 29)) (x:=(.tmp 28)) (g:=none) (tI 64) true (zB r14.1) 5 0 (r2.1.toNat) 11 0 11 r1.1.Bs zB v15 r14.1 kr kr kr kr kr kr kr kr (zU ev15).2 kr kr kr kr<|fA<|eE [5,4,0] [5,0,4]
  exact gA 2 17 17<|te<|fY [(true,[cL 11 (r1.1.Bs.set (r2.1.toNat) r14.1) zB,cL 4 r1.1.Ls zE,cL 7 r1.1.Said zI])] [(0,(fR (zL r14.2)))] H
 exact tA h1<|gA 2 17 17<|te<|fY [(true,(zD r1.1))] [(0,(fR (zL r1.2)))] H
def zDg(n:Nat)(y7:(List zA))(y8:(List Link))(y9:(List Say)):Option (Net):=
  (some (⟨y7,y8,y9⟩:Net))
def YR(n:Nat):Nat→Net→Int→(List zA)→(List Link)→(List Say)→Option (((List zA)×(List Link)×(List Say))⊕(Net))
  |0,_,_,_,_,_=>none
  |mo10+1,x0,y3,y4,y5,y6=>(bif (decide (y3<(x0.Ls.length:Int)))then((qV n x0 y3).bind fun r11=>(bif r11 then((QV n x0 y3 true).bind fun r12=>((YT n (⟨y4,y5,y6⟩:Net) y3 true r12).bind fun r13=>((QV n x0 y3 false).bind fun r14=>((YT n r13 y3 false r14).bind fun r15=>(YR n mo10 x0 (wI (y3+1)) r15.Bs r15.Ls r15.Said)))))else(YR n mo10 x0 (wI (y3+1)) y4 y5 y6)))else(some (Sum.inl (y4,y5,y6))))
def zDz(n:Nat)(x0:Net):Option (Net):=
  ((Js n x0).bind fun r1=>((Qb n x0).bind fun r2=>(bif (!r2)then(some r1)else((YR n n x0 0 r1.Bs r1.Ls ([]:List Say)).bind fun o=>match o with|.inl (y7,y8,y9)=>(zDg n y7 y8 y9)|.inr r=>some r))))
theorem zPv(n:Nat)(x0:Net)(r:Net)(H:zDz n x0=some r):zb Tryz.prog 39 [.val true (fR (zD x0))] [.val true (zD r)] []:=by
 refine cW Tryz.func39 (fun g d=>sl [g 0,g 1,sl [g 2] (cn 9 (sl [g 3] .ret) .skip),g 4,sl [g 5] (.block 0 (.loop (sl [sl [g 6] (cn 17 .skip (.exit 0)),.block 1 (sl [g 8] (cn 22 (sl [g 9] (g 10)) .skip))] (g 7)))),g 11] .ret) [.cell 2 28] fun cx=>?_
 unfold zDz at H
 refine gA 2 6 6<|rA 1<|bE H fun r1 er1 H=>vA [.rd] (zGX n x0 r1 er1)<|uA 2 14 14<|tS<|rA 1<|bE H fun r2 er2 H=>vA [.rd] (zGo n x0 r2 er2)<|uA 1 526 14 ?_
 obtain⟨h1,H⟩|⟨h1,H⟩:=bC H
 ·refine nA h1<|tK<|gA 3 14 14<|tS<|gA 1 30 14 ?_
  obtain⟨o10,eo10,Ho10⟩:=bs H
  clear H
  refine zt (ι:=(List zA)×(List Link)×(List Say)) (fun v=>⟨34,0,[sA 3 3 3 0,sA 2 2 3 0],[(3,[cL 11 v.1 zB,cL 4 v.2.1 zE,cL 7 v.2.2 zI]),(2,[cL 11 ([]:List zA) zB,cL 4 ([]:List Link) zE,cL 7 ([]:List Say) zI])]⟩) (fun v=>zDg n v.1 v.2.1 v.2.2=some r) ?_ ?_
  ·refine tB<|Tr.loop (ι:=Nat×(Int×(List zA)×(List Link)×(List Say))) (fun v=>⟨34,0,[sI 4 v.2.1,sA 3 3 3 0,sA 2 2 3 0,sA 1 1 3 0],[(3,[cL 11 v.2.2.1 zB,cL 4 v.2.2.2.1 zE,cL 7 v.2.2.2.2 zI]),(2,[cL 11 ([]:List zA) zB,cL 4 ([]:List Link) zE,cL 7 ([]:List Say) zI]),(1,(fR (zD x0)))]⟩) (fun v=>YR n v.1 x0 v.2.1 v.2.2.1 v.2.2.2.1 v.2.2.2.2=some o10) (fun v=>v.1) (n,(0,r1.Bs,r1.Ls,([]:List Say))) eo10 (za [4,3,2,1] [3,2,1] kr) ?_
   rintro⟨_|mo10,y3,y4,y5,y6⟩ H
   ·exact nN H
   have H:YR n (mo10+1) x0 y3 y4 y5 y6=some o10:=H
   rw[YR]at H
   refine tS<|rA 3<|kF x0.Ls zE<|uA 1 131102 14 ?_
   obtain⟨h2,H⟩|⟨h2,H⟩:=bC H
   ·refine nA h2<|Tr.exit<|aJ ?_
    cases H
    exact jA (y4,y5,y6) Ho10 [3,2] [3,2]
   refine tA h2<|tK<|tS<|tB<|rA 2<|bE H fun r11 er11 H=>vA [.rd,.rd] (zAT n x0 y3 r11 er11)<|dA 4194334 14 ?_
   cases h3:r11
   ·have H:=YA h3 H
    exact nB_<|tK<|eA 3 30 14<|jB mo10 ((wI (y3+1)),y4,y5,y6) H [4,3,2,1] [3,2,1]
   have H:=YB h3 H
   exact tB_<|rA 3<|bE H fun r12 er12 H=>vA [.rd,.rd,.rd] (zCW n x0 y3 true r12 er12)<|bE H fun r13 er13 H=>vL [.lend,.rd,.rd,.rd] (zGY n (⟨y4,y5,y6⟩:Net) y3 true r12 r13 er13)<|dA 30 14<|Tr.at<|lA 3<|bE H fun r14 er14 H=>vA [.rd,.rd,.rd] (zCW n x0 y3 false r14 er14)<|bE H fun r15 er15 H=>vL [.lend,.rd,.rd,.rd] (zGY n r13 y3 false r14 r15 er15)<|dA 30 14<|eA 3 30 14<|jB mo10 ((wI (y3+1)),r15.Bs,r15.Ls,r15.Said) H [4,3,2,1] [3,2,1]
  rintro⟨y7,y8,y9⟩ H
  have H:(zDg n y7 y8 y9)=some r:=H
  unfold zDg at H
  exact gA 2 4 4<|te (fJ [(true,[cL 11 y7 zB,cL 4 y8 zE,cL 7 y9 zI])] H)
 exact tA h1<|gA 2 4 4<|te (fJ [(true,(zD r1))] H)
def zCr(n:Nat)(y6:(List zA))(y7:(List Link))(y8:(List Say)):Option (Net):=
  (some (⟨y6,y7,y8⟩:Net))
def YX(n:Nat):Nat→Int→Int→(List zA)→(List Link)→(List Say)→Option (((List zA)×(List Link)×(List Say))⊕(Net))
  |0,_,_,_,_,_=>none
  |mo9+1,x1,y2,y3,y4,y5=>(bif (decide (y2<x1))then(bif (decide (y2<30))then((zDz n (⟨y3,y4,y5⟩:Net)).bind fun r10=>(YX n mo9 x1 (wI (y2+1)) r10.Bs r10.Ls r10.Said))else(some (Sum.inl (y3,y4,y5))))else(some (Sum.inl (y3,y4,y5))))
def zC4(n:Nat)(x0:Net)(x1:Int):Option (Net):=
  ((Js n x0).bind fun r1=>((YX n n x1 0 r1.Bs r1.Ls r1.Said).bind fun o=>match o with|.inl (y6,y7,y8)=>(zCr n y6 y7 y8)|.inr r=>some r))
theorem zOs(n:Nat)(x0:Net)(x1:Int)(r:Net)(H:zC4 n x0 x1=some r):zb Tryz.prog 41 [.val true (fR (zD x0)),.val false [.lit (.int .i64 x1)]] [.val true (zD r)] []:=by
 refine cW Tryz.func41 (fun g d=>sl [g 0,g 1,sl [g 2] (.block 0 (.loop (sl [sl [g 3] (cn 15 .skip (.exit 0)),.block 1 (g 5)] (g 4)))),g 6] .ret) [.cell 4 28] fun cx=>?_
 unfold zC4 at H
 refine gA 2 22 20<|rA 1<|bE H fun r1 er1 H=>vA [.rd] (zGX n x0 r1 er1)<|uA 2 50 48<|tS<|gA 1 114 48 ?_
 obtain⟨o9,eo9,Ho9⟩:=bs H
 clear H
 refine zt (ι:=(List zA)×(List Link)×(List Say)) (fun v=>⟨21,0,[sA 5 5 3 0,sA 4 4 3 0],[(5,[cL 11 v.1 zB,cL 4 v.2.1 zE,cL 7 v.2.2 zI]),(4,[cL 11 ([]:List zA) zB,cL 4 ([]:List Link) zE,cL 7 ([]:List Say) zI])]⟩) (fun v=>zCr n v.1 v.2.1 v.2.2=some r) ?_ ?_
 ·refine tB<|Tr.loop (ι:=Nat×(Int×(List zA)×(List Link)×(List Say))) (fun v=>⟨21,0,[sI 6 v.2.1,sA 5 5 3 0,sA 4 4 3 0,sI 1 x1],[(5,[cL 11 v.2.2.1 zB,cL 4 v.2.2.2.1 zE,cL 7 v.2.2.2.2 zI]),(4,[cL 11 ([]:List zA) zB,cL 4 ([]:List Link) zE,cL 7 ([]:List Say) zI])]⟩) (fun v=>YX n v.1 x1 v.2.1 v.2.2.1 v.2.2.2.1 v.2.2.2.2=some o9) (fun v=>v.1) (n,(0,r1.Bs,r1.Ls,r1.Said)) eo9 (za [6,5,4,1] [5,4] kr) ?_
  rintro⟨_|mo9,y2,y3,y4,y5⟩ H
  ·exact nN H
  have H:YX n (mo9+1) x1 y2 y3 y4 y5=some o9:=H
  rw[YX]at H
  refine tS<|rA 4 ?_
  obtain⟨h1,H⟩|⟨h1,H⟩:=bC H
  ·refine qL 4210 48 [12] h1<|uA 3 32882 48<|nB_<|Tr.exit<|aJ ?_
   cases H
   exact jA (y3,y4,y5) Ho9 [5,4] [5,4]
  refine qL 4210 48 [12] h1<|uA 3 32882 48 ?_
  obtain⟨h2,H⟩|⟨h2,H⟩:=bC H
  ·refine nA h2<|Tr.exit<|aJ ?_
   cases H
   exact jA (y3,y4,y5) Ho9 [5,4] [5,4]
  exact tA h2<|tK<|tS<|tB<|Tr.at<|lA 1<|bE H fun r10 er10 H=>vB [.rd] [.box 5] (zPv n (⟨y3,y4,y5⟩:Net) r10 er10) (.inr (zN (zJL _) zS))<|uA 1 114 48<|eA 3 114 48<|jB mo9 ((wI (y2+1)),r10.Bs,r10.Ls,r10.Said) H [6,5,4,1] [5,4]
 rintro⟨y6,y7,y8⟩ H
 have H:(zCr n y6 y7 y8)=some r:=H
 unfold zCr at H
 exact gA 2 16 16<|te (fJ [(true,[cL 11 y6 zB,cL 4 y7 zE,cL 7 y8 zI])] H)
def Jg(n:Nat)(x0:(List Int)):Option (Net):=
  ((Jj n x0).bind fun r1=>((zC9 n x0 10).bind fun r2=>((zC7 n r1 r2).bind fun r3=>((Z6 n r3.2 2).bind fun r4=>(bif r4.1 then((zp n r4.2 [1,3,20]).bind fun r5=>((zC4 n r3.1 r5.1).bind fun r6=>(some r6)))else(some r3.1))))))
theorem zFX(n:Nat)(x0:(List Int))(r:Net)(H:Jg n x0=some r):zb Tryz.prog 46 [.val false [.sl false 1 (zQ (x0.map qC))]] [.val true (zD r)] []:=by
 refine cW Tryz.func46 (fun g d=>sl [g 0,g 1,g 2,sl [g 3] (cn 12 (d 4) .skip),g 5] .ret) [.cell 2 28] fun cx=>?_
 unfold Jg at H
 refine gA 1 5 4<|rA 1<|bE H fun r1 er1 H=>vA [.rd] (zFA n x0 r1 er1)<|uA 1 13 68<|rA 2<|bE H fun r2 er2 H=>vA [.rd,.rd] (zOx n x0 10 r2 er2)<|bE H fun r3 er3 H=>vL [.lend,.rd] (zOv n r1 r2 r3 er3)<|uA 2 28 84<|tS<|rA 1<|bE H fun r4 er4 H=>vL [.lend,.rd] (zBU n r3.2 2 r4 er4)<|dA 4124 84 ?_
 cases h1:r4.1
 ·have H:=YA h1 H
  exact nB_<|tK<|gA 2 4 4<|te (fJ [(true,(zD r3.1))] H)
 have H:=YB h1 H
 refine tB_<|bE H fun r5 er5 H=>bE H fun r6 er6 H=>qr zr 6 kr ⟨19,0,[sA 4 4 3 0,sA 2 2 3 0],[(4,(zD r6)),(2,[cL 11 ([]:List zA) zB,cL 4 ([]:List Link) zE,cL 7 ([]:List Say) zI])]⟩ (fun cx=>?_) ?_
 ·exact aA [(0,[4,5]),(1,[])] 4 [⟨[4,5],28,4,13⟩] fun cx=>bA 2<|lA 1<|fA<|bA 3<|vL [.lend,.rd] (qH n r4.2 [1,3,20] r5 er5)<|fA<|bA 4<|vB [.rd,.rd] [.box 4] (zOs n r3.1 r5.1 r6 er6) (.inr (zN (zJL _) zS))<|fA<|bA 5<|lA 1<|fA<|eE [4,2] [4,2]
 exact gA 2 4 4<|te (fJ [(true,(zD r6))] H)
def zAD(n:Nat)(x0:(List Int)):Option (Net):=
  ((Jg n x0).bind fun r1=>((Qb n r1).bind fun r2=>(bif (!r2)then((Jj n x0).bind fun r3=>((zAw n r3 4).bind fun r4=>(some r4.1)))else(some r1))))
theorem zIL(n:Nat)(x0:(List Int))(r:Net)(H:zAD n x0=some r):zb Tryz.prog 44 [.val false [.sl false 1 (zQ (x0.map qC))]] [.val true (zD r)] []:=by
 refine cW Tryz.func44 (fun g d=>sl [g 0,g 1,sl [g 2] (cn 9 (sl [g 3,g 4] .ret) .skip),g 5] .ret) [.cell 2 28] fun cx=>?_
 unfold zAD at H
 refine gA 1 5 4<|rA 1<|bE H fun r1 er1 H=>vA [.rd] (zFX n x0 r1 er1)<|uA 2 13 12<|tS<|rA 1<|bE H fun r2 er2 H=>vB [.rd] [.box 3] (zGo n r1 r2 er2) (.inr (zN (zH zT zR) zS))<|uA 1 525 12 ?_
 obtain⟨h1,H⟩|⟨h1,H⟩:=bC H
 ·exact nA h1<|tK<|gA 2 4 4<|te (fJ [(true,(zD r1))] H)
 exact tA h1<|rA 1<|bE H fun r3 er3 H=>vA [.rd] (zFA n x0 r3 er3)<|uA 1 20 2052<|rA 1<|bE H fun r4 er4 H=>vL [.lend,.rd] (zJB n r3 4 r4 er4)<|uA 1 4 4<|te (fJ [(true,(zD r4.1))] H)
def zBb(n:Nat)(x0:(List Int)):Option (Net):=
  ((zAD n x0).bind fun r1=>(some r1))
theorem zKm(n:Nat)(x0:(List Int))(r:Net)(H:zBb n x0=some r):zb Tryz.prog 7 [.val false [.sl false 1 (zQ (x0.map qC))]] [.val true (zD r)] []:=by
 refine cW Tryz.func7 (fun g d=>sl [g 0,g 1] .ret) [.cell 2 28] fun cx=>?_
 unfold zBb at H
 exact gA 1 5 4<|rA 1<|bE H fun r1 er1 H=>vA [.rd] (zIL n x0 r1 er1)<|uA 1 4 4<|te (fJ [(true,(zD r1))] H)
def zCE(n:Nat)(y6:(List Int))(y7:(List Int))(y8:Int)(y9:Int):Option ((List Int)×Src):=
  (some (y6,(⟨y7,y8,y9⟩:Src)))
def QO(n:Nat):Nat→Int→(List Int)→Int→Int→(List Int)→Option (((List Int)×(List Int)×Int×Int)⊕((List Int)×Src))
  |0,_,_,_,_,_=>none
  |mo10+1,y1,y2,y3,y4,y5=>(bif (decide (y1<9))then((Z6 n (⟨y2,y3,y4⟩:Src) 2).bind fun r11=>(bif r11.1 then(bif (decide (y5.length+ [y1].length≤268435456))then(QO n mo10 (wI (y1+1)) r11.2.b r11.2.i r11.2.h (y5++[y1]))else none)else(QO n mo10 (wI (y1+1)) r11.2.b r11.2.i r11.2.h y5)))else(some (Sum.inl (y5,y2,y3,y4))))
def zAy(n:Nat)(x0:Src):Option ((List Int)×Src):=
  ((QO n n 0 x0.b x0.i x0.h ([]:List Int)).bind fun o=>match o with|.inl (y6,y7,y8,y9)=>(zCE n y6 y7 y8 y9)|.inr r=>some r)
noncomputable abbrev G48(k:Nat):=Rg Tryz.f48 k
theorem zJC(n:Nat)(x0:Src)(r:(List Int)×Src)(H:zAy n x0=some r):zb Tryz.prog 48 [.ptr (fR (zL x0))] [.val false [.sl true 1 (r.1.map zC)]] [(0,(fR (zL r.2)))]:=by
 refine zu tOk Tryz.func48 rfl (c:=(.seq (G48 0) (.seq (G48 1) (.seq (.seq (G48 2) (.block 0 (.loop (.seq (.seq (G48 3) (.cond (.tmp 7) .skip (.exit 0))) (.seq (.block 1 (.seq (G48 5) (.cond (.tmp 11) (G48 6) .skip))) (G48 4)))))) (.seq (G48 7) .ret))))) kr (Nat.le_of_ble_eq_true kr) 1 (rs:=[.tmp 2]) rfl [] .nil [(false,[.sl true 1 (r.1.map zC)])] [] [(0,(fR (zL r.2)))] fun cx=>?_
 show Tr _ _ _ ⟨17,1,[sA 0 0 3 0],[(0,(fR (zL x0)))]⟩ _
 unfold zAy at H
 refine gA 1 1 1<|rA 1<|zY (T:=lk tab) (ty:=30) (x:=(.tmp 5)) (d:=3) (g:=none) false [cL 1 ([]:List Int) zC] kr kr kr kr kr<|dA 9 1<|tS<|gA 1 25 1 ?_
 obtain⟨o10,eo10,Ho10⟩:=bs H
 clear H
 refine zt (ι:=(List Int)×(List Int)×Int×Int) (fun v=>⟨17,1,[sC 3 (cL 1 v.1 zC),sA 0 0 3 0],[(0,[cF 1 v.2.1 qC,cI v.2.2.1,cI v.2.2.2])]⟩) (fun v=>zCE n v.1 v.2.1 v.2.2.1 v.2.2.2=some r) ?_ ?_
 ·refine tB<|Tr.loop (ι:=Nat×(Int×(List Int)×Int×Int×(List Int))) (fun v=>⟨17,1,[sI 4 v.2.1,sC 3 (cL 1 v.2.2.2.2.2 zC),sA 0 0 3 0],[(0,[cF 1 v.2.2.1 qC,cI v.2.2.2.1,cI v.2.2.2.2.1])]⟩) (fun v=>QO n v.1 v.2.1 v.2.2.1 v.2.2.2.1 v.2.2.2.2.1 v.2.2.2.2.2=some o10) (fun v=>v.1) (n,(0,x0.b,x0.i,x0.h,([]:List Int))) eo10 (za [4,3,0] [0] kr) ?_
  rintro⟨_|mo10,y1,y2,y3,y4,y5⟩ H
  ·exact nN H
  have H:QO n (mo10+1) y1 y2 y3 y4 y5=some o10:=H
  rw[QO]at H
  refine tS<|gA 2 153 1 ?_
  obtain⟨h1,H⟩|⟨h1,H⟩:=bC H
  ·refine nA h1<|Tr.exit<|aJ ?_
   cases H
   exact jA (y5,y2,y3,y4) Ho10 [3,0] [0]
  refine tA h1<|tK<|tS<|tB<|rA 1<|bE H fun r11 er11 H=>vL [.lend,.rd] (zBU n (⟨y2,y3,y4⟩:Src) 2 r11 er11)<|dA 2073 1 ?_
  cases h2:r11.1
  ·have H:=YA h2 H
   exact nB_<|tK<|eA 3 25 1<|jB mo10 ((wI (y1+1)),r11.2.b,r11.2.i,r11.2.h,y5) H [4,3,0] [0]
  have H:=YB h2 H
  exact tB_<|Tr.at<|lA 3<|gE H fun hg12 H=>qO tOk (t:=30) (ty:=30) (e:=3) (x:=(.tmp 12)) (y:=(.tmp 14)) (d:=15) (g:=none) (tI 3) zC y5 [y1] kr kr kr kr kr kr kr kr kr kr hg12<|zY (T:=lk tab) (ty:=30) (x:=(.tmp 15)) (d:=3) (g:=none) false [cL 1 (y5++[y1]) zC] kr kr kr kr kr<|dA 25 1<|eA 3 25 1<|jB mo10 ((wI (y1+1)),r11.2.b,r11.2.i,r11.2.h,(y5++[y1])) H [4,3,0] [0]
 rintro⟨y6,y7,y8,y9⟩ H
 have H:(zCE n y6 y7 y8 y9)=some r:=H
 unfold zCE at H
 exact gA 2 13 1<|te<|fY [(false,[cL 1 y6 zC])] [(0,[cF 1 y7 qC,cI y8,cI y9])] H
def zBc(n:Nat)(x0:(List Int)):Option (Net×Int×(List Int)):=
  ((Jj n x0).bind fun r1=>((Jg n x0).bind fun r2=>((zp n r1 [0,1,2,(-1),6]).bind fun r3=>((zAy n r3.2).bind fun r4=>(some (r2,r3.1,r4.1))))))
theorem zKn(n:Nat)(x0:(List Int))(r:Net×Int×(List Int))(H:zBc n x0=some r):zb Tryz.prog 8 [.val false [.sl false 1 (zQ (x0.map qC))]] [.val true (zD r.1),.val false [.lit (.int .i64 r.2.1)],.val false [.sl true 1 (r.2.2.map zC)]] []:=by
 refine cW Tryz.func8 (fun g d=>sl [g 0,g 1,g 2] .ret) [.cell 2 28,.tmp 3,.tmp 4] fun cx=>?_
 unfold zBc at H
 exact gA 3 5 4<|rA 1<|bE H fun r1 er1 H=>vA [.rd] (zFA n x0 r1 er1)<|uA 1 37 132<|rA 1<|bE H fun r2 er2 H=>vA [.rd] (zFX n x0 r2 er2)<|lA 2<|bE H fun r3 er3 H=>vL [.lend,.rd] (qH n r1 [0,1,2,(-1),6] r3 er3)<|lA 1<|bE H fun r4 er4 H=>vL [.lend] (zJC n r3.2 r4 er4)<|lA 2<|zY (T:=lk tab) (ty:=30) (x:=(.tmp 14)) (d:=4) (g:=none) false [cL 1 r4.1 zC] kr kr kr kr kr<|dA 28 4<|te (fJ [(true,(zD r2)),(false,[cI r3.1]),(false,[cL 1 r4.1 zC])] H)
def zB7(n:Nat)(x0:(List Int)):Option (Net×(List Int)):=
  ((Jj n x0).bind fun r1=>((Jg n x0).bind fun r2=>((zAy n r1).bind fun r3=>(some (r2,r3.1)))))
theorem zLN(n:Nat)(x0:(List Int))(r:Net×(List Int))(H:zB7 n x0=some r):zb Tryz.prog 9 [.val false [.sl false 1 (zQ (x0.map qC))]] [.val true (zD r.1),.val false [.sl true 1 (r.2.map zC)]] []:=by
 refine cW Tryz.func9 (fun g d=>sl [g 0,g 1,g 2] .ret) [.cell 2 28,.tmp 3] fun cx=>?_
 unfold zB7 at H
 exact gA 2 5 4<|rA 1<|bE H fun r1 er1 H=>vA [.rd] (zFA n x0 r1 er1)<|uA 1 21 68<|rA 1<|bE H fun r2 er2 H=>vA [.rd] (zFX n x0 r2 er2)<|lA 1<|bE H fun r3 er3 H=>vL [.lend] (zJC n r1 r3 er3)<|lA 1<|zY (T:=lk tab) (ty:=30) (x:=(.tmp 10)) (d:=3) (g:=none) false [cL 1 r3.1 zC] kr kr kr kr kr<|dA 12 4<|te (fJ [(true,(zD r2)),(false,[cL 1 r3.1 zC])] H)
def zAJ(n:Nat)(x0:(List Int)):Option (Net×Int):=
  ((Jj n x0).bind fun r1=>((zAD n x0).bind fun r2=>((zp n r1 [0,1,2,3,(-1),6]).bind fun r3=>(some (r2,r3.1)))))
theorem zIi(n:Nat)(x0:(List Int))(r:Net×Int)(H:zAJ n x0=some r):zb Tryz.prog 10 [.val false [.sl false 1 (zQ (x0.map qC))]] [.val true (zD r.1),.val false [.lit (.int .i64 r.2)]] []:=by
 refine cW Tryz.func10 (fun g d=>sl [g 0,g 1,g 2] .ret) [.cell 2 28,.tmp 3] fun cx=>?_
 unfold zAJ at H
 exact gA 2 5 4<|rA 1<|bE H fun r1 er1 H=>vA [.rd] (zFA n x0 r1 er1)<|uA 1 21 68<|rA 1<|bE H fun r2 er2 H=>vA [.rd] (zIL n x0 r2 er2)<|lA 2<|bE H fun r3 er3 H=>vL [.lend,.rd] (qH n r1 [0,1,2,3,(-1),6] r3 er3)<|uA 2 12 4<|te (fJ [(true,(zD r2)),(false,[cI r3.1])] H)
def zA4(n:Nat)(x0:(List Int)):Option (Net):=
  ((Jg n x0).bind fun r1=>(some r1))
theorem zJf(n:Nat)(x0:(List Int))(r:Net)(H:zA4 n x0=some r):zb Tryz.prog 11 [.val false [.sl false 1 (zQ (x0.map qC))]] [.val true (zD r)] []:=by
 refine cW Tryz.func11 (fun g d=>sl [g 0,g 1] .ret) [.cell 2 28] fun cx=>?_
 unfold zA4 at H
 exact gA 1 5 4<|rA 1<|bE H fun r1 er1 H=>vA [.rd] (zFX n x0 r1 er1)<|uA 1 4 4<|te (fJ [(true,(zD r1))] H)
def ql(n:Nat)(x0:Int)(x1:Int)(x2:Int):Option (Bool):=
  (bif (decide (x0≥x1))then(some (decide (x0≤x2)))else(some false))
theorem Ys(n:Nat)(x0:Int)(x1:Int)(x2:Int)(r:Bool)(H:ql n x0 x1 x2=some r):zb Tryz.prog 56 [.val false [.lit (.int .i64 x0)],.val false [.lit (.int .i64 x1)],.val false [.lit (.int .i64 x2)]] [.val false [.lit (.bool r)]] []:=by
 refine cW Tryz.func56 (fun g d=>sl [g 0,g 1] .ret) [.tmp 6] fun cx=>?_
 unfold ql at H
 refine gA 1 7 0<|rA 4 ?_
 obtain⟨h1,H⟩|⟨h1,H⟩:=bC H
 ·exact qL 1029 0 [10] h1<|uA 5 64 0<|te (fF H)
 exact qL 1029 0 [10] h1<|uA 5 64 0<|te (fJ [(false,[cB (decide (x0≤x2))])] H)
def Zz(n:Nat)(x0:Net)(x1:Int)(x2:Int):Option (Pt×Bool):=
  ((ql n x1 0 (wI ((x0.Bs.length:Int)-1))).bind fun r1=>(bif (!r1)then(some ((⟨false,0,false,(⟨0,0,0,0,0⟩:Vec)⟩:Pt),false))else((idx x0.Bs x1).bind fun v2=>((ql n x2 0 (wI ((v2.Ps.length:Int)-1))).bind fun r3=>(bif (!r3)then(some ((⟨false,0,false,(⟨0,0,0,0,0⟩:Vec)⟩:Pt),false))else((idx x0.Bs x1).bind fun v4=>((idx v4.Ps x2).bind fun v5=>(some (v5,true)))))))))
theorem zDx(n:Nat)(x0:Net)(x1:Int)(x2:Int)(r:Pt×Bool)(H:Zz n x0 x1 x2=some r):zb Tryz.prog 90 [.val true (fR (zD x0)),.val false [.lit (.int .i64 x1)],.val false [.lit (.int .i64 x2)]] [.val true (zJ r.1),.val false [.lit (.bool r.2)]] []:=by
 refine cW Tryz.func90 (fun g d=>sl [g 0,sl [g 1] (cn 27 (sl [g 2] .ret) .skip),g 3] .ret) [.cell 6 83,.tmp 7] fun cx=>?_
 unfold Zz at H
 refine gA 3 78 72<|tS<|rA 3<|kF x0.Bs zB<|lA 1<|bE H fun r1 er1 H=>vA [.rd,.rd,.rd] (Ys n x1 0 (wI ((x0.Bs.length:Int)-1)) r1 er1)<|lA 2 ?_
 obtain⟨h1,H⟩|⟨h1,H⟩:=bC H
 ·refine qL 32846 72 [15] h1<|lA 4<|bE H fun v2 ev2 H=>iA zB ev2<|lA 2<|kF v2.Ps zJ<|lA 1<|bE H fun r3 er3 H=>vA [.rd,.rd,.rd] (Ys n x2 0 (wI ((v2.Ps.length:Int)-1)) r3 er3)<|uA 2 134217806 72 ?_
  obtain⟨h2,H⟩|⟨h2,H⟩:=bC H
  ·exact nA h2<|tK<|rA 3<|bE H fun v4 ev4 H=>iA zB ev4<|lA 3<|bE H fun v5 ev5 H=>iA zJ ev5<|uA 3 192 64<|te (fJ [(true,(zJ v5)),(false,[cB true])] H)
  exact tA h2<|gA 3 192 64<|te (fJ [(true,[cB false,cI 0,cB false,cI 0,cI 0,cI 0,cI 0,cI 0]),(false,[cB false])] H)
 exact qL 32846 72 [15] h1<|uA 12 134217806 72<|tB_<|gA 3 192 64<|te (fJ [(true,[cB false,cI 0,cB false,cI 0,cI 0,cI 0,cI 0,cI 0]),(false,[cB false])] H)
def qD(n:Nat)(x0:Net)(x1:Int):Option (Bool):=
  ((ql n x1 0 (wI ((x0.Ls.length:Int)-1))).bind fun r1=>(bif (!r1)then(some false)else((idx x0.Ls x1).bind fun v2=>((idx x0.Ls x1).bind fun v3=>((Zz n x0 v2.A v3.P).bind fun r4=>((idx x0.Ls x1).bind fun v5=>((idx x0.Ls x1).bind fun v6=>((Zz n x0 v5.B v6.Q).bind fun r7=>(bif r4.2 then(bif r7.2 then(bif r4.1.Up then(some r7.1.Up)else(some false))else(some false))else(some false))))))))))
def zUB:Tab:=⟨20,[0,0,2,0,12,16,32,0,128,0,768,1024,2048,4161,8192,16384,16384,0,196607,524287],[0,0,2,0,12,16,32,0,128,0,768,1024,2048,4161,8192,16384,16384,0,163840,65536],[0,0,2,0,14,30,62,0,128,0,896,1920,3968,8191,16383,32767,32767,0,196607,524287]⟩
theorem zDP:qb (rg Tryz.f49 3) zUB=true:=kr
def zUC:Tab:=⟨20,[0,0,2,0,12,16,32,0,128,0,768,1024,2048,4161,8192,16384,16384,0,196607,524287],[0,0,2,0,12,16,32,0,128,0,768,1024,2048,4161,8192,16384,16384,0,163840,65536],[0,0,2,0,14,30,62,0,128,0,896,1920,3968,8191,16383,32767,32767,0,196607,524287]⟩
theorem zDQ:qb (rg Tryz.f49 4) zUC=true:=kr
theorem zDv(n:Nat)(x0:Net)(x1:Int)(r:Bool)(H:qD n x0 x1=some r):zb Tryz.prog 49 [.val true (fR (zD x0)),.val false [.lit (.int .i64 x1)]] [.val false [.lit (.bool r)]] []:=by
 refine cW Tryz.func49 (fun g d=>sl [g 0,sl [g 1] (cn 15 (sl [g 2] .ret) .skip),d 3,d 4,g 5] .ret) [.tmp 4] fun cx=>?_
 unfold qD at H
 refine gA 2 6 4<|tS<|rA 3<|kF x0.Ls zE<|lA 1<|bE H fun r1 er1 H=>vA [.rd,.rd,.rd] (Ys n x1 0 (wI ((x0.Ls.length:Int)-1)) r1 er1)<|uA 1 32774 4 ?_
 obtain⟨h1,H⟩|⟨h1,H⟩:=bC H
 ·refine nA h1<|tK<|bE H fun v2 ev2 H=>bE H fun v3 ev3 H=>bE H fun r4 er4 H=>zd zr 20 kr ⟨62,0,[sB 6 r4.2,sA 5 5 8 0,sA 2 2 3 0,sI 1 x1],[(5,(zJ r4.1)),(2,(fR (zD x0)))]⟩ (fun cx=>?_) ?_
  ·refine mA zDP [(0,[13,18]),(1,[]),(2,[13,18]),(3,[])] 16 [⟨[13,18],25,18,19⟩,⟨[13,18],28,2,17⟩] fun cx=>iN zDP 4 zE ev2 fun cx=>mA zDP (zl [5,6,7]++[(8,[13,18]),(9,[])]) 10 [⟨[13,18],25,24,25⟩,⟨[13,18],25,18,19⟩,⟨[13,18],28,2,17⟩] fun cx=>iN zDP 10 zE ev3 fun cx=>mA zDP [(11,[]),(12,[])] 7 [⟨[13,18],25,24,25⟩,⟨[13,18],25,18,19⟩,⟨[13,18],28,2,17⟩] fun cx=>mB2 tOk zDP 13 17 kr (And.intro kr ?_) (And.intro kr ?_)
   ·refine vA [.rd,.rd,.rd] (zDx n x0 v2.A v3.P r4 er4)<|fA<|AT.movT tOk 14 (ty:=108) (t:=30) (d:=16) (g:=none) [(true,(zJ r4.1)),(false,[cB r4.2])] _ kr (oM zDP kr) (dM zDP kr) (.inl rfl) kr kr kr kr rfl (fun cx=>?_)
    exact mA zDP [(15,[]),(16,[])] 3 [⟨[13,18],25,24,25⟩,⟨[13,18],25,18,19⟩,⟨[13,18],28,2,17⟩] fun cx=>mC zDP 17<|lA 1<|fA<|mC zDP 18<|lA 1<|fA<|mA zDP [(19,[])] 0 [⟨[13,18],25,24,25⟩,⟨[13,18],25,18,19⟩,⟨[13,18],28,2,17⟩] fun cx=>mE zDP [6,5,2,1] [5,2]
   ·refine lA 1<|fA<|mC zDP 13<|vA [.rd,.rd,.rd] (zDx n x0 v2.A v3.P r4 er4)<|fA<|AT.movT tOk 14 (ty:=108) (t:=30) (d:=16) (g:=none) [(true,(zJ r4.1)),(false,[cB r4.2])] _ kr (oM zDP kr) (dM zDP kr) (.inl rfl) kr kr kr kr rfl (fun cx=>?_)
    exact mA zDP [(15,[]),(16,[])] 2 [⟨[13,18],25,24,25⟩,⟨[13,18],25,18,19⟩,⟨[13,18],28,2,17⟩] fun cx=>mC zDP 18<|lA 1<|fA<|mA zDP [(19,[])] 0 [⟨[13,18],25,24,25⟩,⟨[13,18],25,18,19⟩,⟨[13,18],28,2,17⟩] fun cx=>mE zDP [6,5,2,1] [5,2]
  refine bE H fun v5 ev5 H=>bE H fun v6 ev6 H=>bE H fun r7 er7 H=>zd zr 20 kr ⟨62,0,[sB 8 r7.2,sA 7 7 8 0,sB 6 r4.2,sA 5 5 8 0],[(7,(zJ r7.1)),(5,(zJ r4.1))]⟩ (fun cx=>?_) ?_
  ·refine mA zDQ [(0,[13,18]),(1,[]),(2,[13,18]),(3,[])] 16 [⟨[13,18],25,35,36⟩,⟨[13,18],28,2,34⟩] fun cx=>iN zDQ 4 zE ev5 fun cx=>mA zDQ (zl [5,6,7]++[(8,[13,18]),(9,[])]) 10 [⟨[13,18],25,41,42⟩,⟨[13,18],25,35,36⟩,⟨[13,18],28,2,34⟩] fun cx=>iN zDQ 10 zE ev6 fun cx=>mA zDQ [(11,[]),(12,[])] 7 [⟨[13,18],25,41,42⟩,⟨[13,18],25,35,36⟩,⟨[13,18],28,2,34⟩] fun cx=>mB2 tOk zDQ 13 17 kr (And.intro kr ?_) (And.intro kr ?_)
   ·refine vA [.rd,.rd,.rd] (zDx n x0 v5.B v6.Q r7 er7)<|fA<|AT.movT tOk 14 (ty:=108) (t:=47) (d:=33) (g:=none) [(true,(zJ r7.1)),(false,[cB r7.2])] _ kr (oM zDQ kr) (dM zDQ kr) (.inl rfl) kr kr kr kr rfl (fun cx=>?_)
    exact mA zDQ [(15,[]),(16,[])] 3 [⟨[13,18],25,41,42⟩,⟨[13,18],25,35,36⟩,⟨[13,18],28,2,34⟩] fun cx=>mC zDQ 17<|lA 1<|fA<|mC zDQ 18<|lA 1<|fA<|mA zDQ [(19,[])] 0 [⟨[13,18],25,41,42⟩,⟨[13,18],25,35,36⟩,⟨[13,18],28,2,34⟩] fun cx=>mE zDQ [8,7,6,5] [7,5]
   ·refine lA 1<|fA<|mC zDQ 13<|vA [.rd,.rd,.rd] (zDx n x0 v5.B v6.Q r7 er7)<|fA<|AT.movT tOk 14 (ty:=108) (t:=47) (d:=33) (g:=none) [(true,(zJ r7.1)),(false,[cB r7.2])] _ kr (oM zDQ kr) (dM zDQ kr) (.inl rfl) kr kr kr kr rfl (fun cx=>?_)
    exact mA zDQ [(15,[]),(16,[])] 2 [⟨[13,18],25,41,42⟩,⟨[13,18],25,35,36⟩,⟨[13,18],28,2,34⟩] fun cx=>mC zDQ 18<|lA 1<|fA<|mA zDQ [(19,[])] 0 [⟨[13,18],25,41,42⟩,⟨[13,18],25,35,36⟩,⟨[13,18],28,2,34⟩] fun cx=>mE zDQ [8,7,6,5] [7,5]
  refine rA 2 ?_
  obtain⟨h2,H⟩|⟨h2,H⟩:=bC H
  ·exact qL 0x80000000001a0 160 [51] h2<|uA 11 16 0<|te (fF H)
  refine qL 0x80000000001a0 160 [51] h2<|lA 3 ?_
  obtain⟨h3,H⟩|⟨h3,H⟩:=bC H
  ·exact qL 0x400000000000a0 160 [54] h3<|uA 8 16 0<|te (fF H)
  refine qL 0x400000000000a0 160 [54] h3<|lA 4 ?_
  obtain⟨h4,H⟩|⟨h4,H⟩:=bC H
  ·exact qL 0x400000000000080 128 [58] h4<|uA 4 16 0<|te (fF H)
  exact qL 0x400000000000080 128 [58] h4<|uA 4 16 0<|te (fJ [(false,[cB r7.1.Up])] H)
 exact tA h1<|gA 1 16 0<|te (fF H)
def zAQ(n:Nat)(x0:Vec):Option (Bool):=
  ((ql n x0.Root 1 99).bind fun r1=>(bif r1 then((ql n x0.Co 0 100000).bind fun r2=>(bif r2 then((ql n x0.Hops 0 10).bind fun r3=>(bif r3 then((ql n x0.Bridge 1 99).bind fun r4=>(bif r4 then((ql n x0.Port 0 7).bind fun r5=>(some r5))else(some false)))else(some false)))else(some false)))else(some false)))
theorem zL3(n:Nat)(x0:Vec)(r:Bool)(H:zAQ n x0=some r):zb Tryz.prog 107 [.val true (fR (zj x0))] [.val false [.lit (.bool r)]] []:=by
 refine cW Tryz.func107 (fun g d=>sl [g 0,g 1] .ret) [.tmp 2] fun cx=>?_
 unfold zAQ at H
 refine gA 2 2 2<|rA 2<|bE H fun r1 er1 H=>vA [.rd,.rd,.rd] (Ys n x0.Root 1 99 r1 er1)<|lA 1 ?_
 obtain⟨h1,H⟩|⟨h1,H⟩:=bC H
 ·exact qL 66 2 [6] h1<|uA 20 4 0<|te (fF H)
 refine qL 66 2 [6] h1<|lA 2<|bE H fun r2 er2 H=>vA [.rd,.rd,.rd] (Ys n x0.Co 0 100000 r2 er2)<|lA 2 ?_
 obtain⟨h2,H⟩|⟨h2,H⟩:=bC H
 ·exact qL 2050 2 [11] h2<|uA 15 4 0<|te (fF H)
 refine qL 2050 2 [11] h2<|lA 2<|bE H fun r3 er3 H=>vA [.rd,.rd,.rd] (Ys n x0.Hops 0 10 r3 er3)<|lA 2 ?_
 obtain⟨h3,H⟩|⟨h3,H⟩:=bC H
 ·exact qL 65538 2 [16] h3<|uA 10 4 0<|te (fF H)
 refine qL 65538 2 [16] h3<|lA 2<|bE H fun r4 er4 H=>vA [.rd,.rd,.rd] (Ys n x0.Bridge 1 99 r4 er4)<|lA 2 ?_
 obtain⟨h4,H⟩|⟨h4,H⟩:=bC H
 ·exact qL 2097154 2 [21] h4<|uA 5 4 0<|te (fF H)
 exact qL 2097154 2 [21] h4<|lA 2<|bE H fun r5 er5 H=>vA [.rd,.rd,.rd] (Ys n x0.Port 0 7 r5 er5)<|uA 2 4 0<|te (fJ [(false,[cB r5])] H)
def zDZ(n:Nat)(x0:Vec)(x1:Int):Option (Vec×Bool):=
  ((zAQ n x0).bind fun r1=>(bif (!r1)then(some (x0,false))else((ql n x1 1 1000).bind fun r2=>(bif (!r2)then(some (x0,false))else((zAQ n (⟨x0.Root,(wI (x0.Co+x1)),(wI (x0.Hops+1)),x0.Bridge,x0.Port⟩:Vec)).bind fun r3=>(bif (!r3)then(some (x0,false))else(some ((⟨x0.Root,(wI (x0.Co+x1)),(wI (x0.Hops+1)),x0.Bridge,x0.Port⟩:Vec),true))))))))
theorem zNn(n:Nat)(x0:Vec)(x1:Int)(r:Vec×Bool)(H:zDZ n x0 x1=some r):zb Tryz.prog 97 [.val true (fR (zj x0)),.val false [.lit (.int .i64 x1)]] [.val true (zj r.1),.val false [.lit (.bool r.2)]] []:=by
 refine cW Tryz.func97 (fun g d=>sl [g 0,sl [g 1] (cn 14 (sl [g 2] .ret) .skip),g 3,g 4,g 5,sl [g 6] (cn 28 (sl [g 7] .ret) .skip),g 8] .ret) [.cell 4 73,.tmp 5] fun cx=>?_
 unfold zDZ at H
 refine gA 3 22 20<|tS<|rA 1<|bE H fun r1 er1 H=>vA [.rd] (zL3 n x0 r1 er1)<|lA 2 ?_
 obtain⟨h1,H⟩|⟨h1,H⟩:=bC H
 ·refine qL 1046 20 [10] h1<|lA 1<|bE H fun r2 er2 H=>vA [.rd,.rd,.rd] (Ys n x1 1 1000 r2 er2)<|uA 2 16406 20 ?_
  obtain⟨h2,H⟩|⟨h2,H⟩:=bC H
  ·refine nA h2<|tK<|gA 3 86 84<|gA 6 84 84<|gA 5 84 84<|tS<|rA 1<|bE H fun r3 er3 H=>vA [.rd] (zL3 n (⟨x0.Root,(wI (x0.Co+x1)),(wI (x0.Hops+1)),x0.Bridge,x0.Port⟩:Vec) r3 er3)<|uA 1 268435540 84 ?_
   obtain⟨h3,H⟩|⟨h3,H⟩:=bC H
   ·exact nA h3<|tK<|gA 3 48 16<|te (fJ [(true,[cI x0.Root,cI (wI (x0.Co+x1)),cI (wI (x0.Hops+1)),cI x0.Bridge,cI x0.Port]),(false,[cB true])] H)
   exact tA h3<|gA 3 48 16<|te (fJ [(true,(zj x0)),(false,[cB false])] H)
  exact tA h2<|gA 3 48 16<|te (fJ [(true,(zj x0)),(false,[cB false])] H)
 exact qL 1046 20 [10] h1<|uA 4 16406 20<|tB_<|gA 3 48 16<|te (fJ [(true,(zj x0)),(false,[cB false])] H)
def zBt(n:Nat)(x0:Vec)(x1:Vec):Option (Bool):=
  (bif (x0.Root != x1.Root)then(some (decide (x0.Root<x1.Root)))else(bif (x0.Co != x1.Co)then(some (decide (x0.Co<x1.Co)))else(bif (x0.Bridge != x1.Bridge)then(some (decide (x0.Bridge<x1.Bridge)))else(some (decide (x0.Port<x1.Port))))))
theorem zIx(n:Nat)(x0:Vec)(x1:Vec)(r:Bool)(H:zBt n x0 x1=some r):zb Tryz.prog 98 [.val true (fR (zj x0)),.val true (fR (zj x1))] [.val false [.lit (.bool r)]] []:=by
 refine cW Tryz.func98 (fun g d=>sl [g 0,.block 0 (sl [g 1] (cn 5 (sl [g 2] .ret) (sl [g 3] (cn 16 (sl [g 4] .ret) (sl [g 5] (cn 27 (sl [g 6] .ret) .skip)))))),g 7] .ret) [.tmp 4] fun cx=>?_
 unfold zBt at H
 refine gA 3 12 12<|tS<|tB<|gA 6 44 12 ?_
 obtain⟨h1,H⟩|⟨h1,H⟩:=bC H
 ·refine nA h1<|gA 6 65548 12 ?_
  obtain⟨h2,H⟩|⟨h2,H⟩:=bC H
  ·refine nA h2<|gA 6 134217740 12 ?_
   obtain⟨h3,H⟩|⟨h3,H⟩:=bC H
   ·exact nA h3<|tK<|gA 6 16 0<|te (fJ [(false,[cB (decide (x0.Port<x1.Port))])] H)
   exact tA h3<|gA 6 16 0<|te (fJ [(false,[cB (decide (x0.Bridge<x1.Bridge))])] H)
  exact tA h2<|gA 6 16 0<|te (fJ [(false,[cB (decide (x0.Co<x1.Co))])] H)
 exact tA h1<|gA 6 16 0<|te (fJ [(false,[cB (decide (x0.Root<x1.Root))])] H)
def zB4(n:Nat)(x0:Int)(y11:Int)(y12:Int)(y13:Int)(y14:Int):Option (Vec×Int):=
  (some ((⟨y12,y13,y14,x0,0⟩:Vec),y11))
def Q1(n:Nat)(k:(Int×Int×Int×Int×Int×Int×Int×Int×Int×Int→Option ((Int×Int×Int×Int)⊕(Vec×Int))))(r17:Vec×Bool)(y1:Int)(y10:Int)(y2:Int)(y3:Int)(y4:Int)(y5:Int)(y6:Int)(y7:Int)(y8:Int)(y9:Int)(y18:Bool)(y19:Bool)(y20:Bool)(y21:Bool)(y22:Bool)(y23:Bool)(y24:Bool):Option ((Int×Int×Int×Int)⊕(Vec×Int)):=
  (bif y18 then(k ((wI (y1+1)),y1,r17.1.Root,r17.1.Co,r17.1.Hops,r17.1.Bridge,r17.1.Port,r17.1.Root,r17.1.Co,r17.1.Hops))else(k ((wI (y1+1)),y2,y3,y4,y5,y6,y7,y8,y9,y10)))
def qu(n:Nat):Nat→Int→(List Pt)→Int→Int→Int→Int→Int→Int→Int→Int→Int→Int→Option ((Int×Int×Int×Int)⊕(Vec×Int))
  |0,_,_,_,_,_,_,_,_,_,_,_,_=>none
  |mo15+1,x0,x1,y1,y2,y3,y4,y5,y6,y7,y8,y9,y10=>(bif (decide (y1<(x1.length:Int)))then((idx x1 y1).bind fun v16=>(bif (!v16.Up)then(qu n mo15 x0 x1 (wI (y1+1)) y2 y3 y4 y5 y6 y7 y8 y9 y10)else(bif (!v16.Has)then(qu n mo15 x0 x1 (wI (y1+1)) y2 y3 y4 y5 y6 y7 y8 y9 y10)else((zDZ n v16.Hd v16.Co).bind fun r17=>(bif r17.2 then(bif (decide (r17.1.Root<x0))then(bif (decide (y2<0))then(Q1 n (fun v=>qu n mo15 x0 x1 v.1 v.2.1 v.2.2.1 v.2.2.2.1 v.2.2.2.2.1 v.2.2.2.2.2.1 v.2.2.2.2.2.2.1 v.2.2.2.2.2.2.2.1 v.2.2.2.2.2.2.2.2.1 v.2.2.2.2.2.2.2.2.2) r17 y1 y10 y2 y3 y4 y5 y6 y7 y8 y9 true true true true true true true)else((zBt n r17.1 (⟨y3,y4,y5,y6,y7⟩:Vec)).bind fun r25=>(Q1 n (fun v=>qu n mo15 x0 x1 v.1 v.2.1 v.2.2.1 v.2.2.2.1 v.2.2.2.2.1 v.2.2.2.2.2.1 v.2.2.2.2.2.2.1 v.2.2.2.2.2.2.2.1 v.2.2.2.2.2.2.2.2.1 v.2.2.2.2.2.2.2.2.2) r17 y1 y10 y2 y3 y4 y5 y6 y7 y8 y9 r25 true true true true true true)))else(Q1 n (fun v=>qu n mo15 x0 x1 v.1 v.2.1 v.2.2.1 v.2.2.2.1 v.2.2.2.2.1 v.2.2.2.2.2.1 v.2.2.2.2.2.2.1 v.2.2.2.2.2.2.2.1 v.2.2.2.2.2.2.2.2.1 v.2.2.2.2.2.2.2.2.2) r17 y1 y10 y2 y3 y4 y5 y6 y7 y8 y9 false false false true true true true))else(Q1 n (fun v=>qu n mo15 x0 x1 v.1 v.2.1 v.2.2.1 v.2.2.2.1 v.2.2.2.2.1 v.2.2.2.2.2.1 v.2.2.2.2.2.2.1 v.2.2.2.2.2.2.2.1 v.2.2.2.2.2.2.2.2.1 v.2.2.2.2.2.2.2.2.2) r17 y1 y10 y2 y3 y4 y5 y6 y7 y8 y9 false false false false false false false))))))else(some (Sum.inl (y2,y8,y9,y10))))
def Jn(n:Nat)(x0:Int)(x1:(List Pt)):Option (Vec×Int):=
  ((qu n n x0 x1 0 (-1) 0 0 0 0 0 x0 0 0).bind fun o=>match o with|.inl (y11,y12,y13,y14)=>(zB4 n x0 y11 y12 y13 y14)|.inr r=>some r)
theorem zES(n:Nat)(x0:Int)(x1:(List Pt))(r:Vec×Int)(H:Jn n x0 x1=some r):zb Tryz.prog 65 [.val false [.lit (.int .i64 x0)],.val false [.sl false 8 (zQ (x1.map zJ))]] [.val true (zj r.1),.val false [.lit (.int .i64 r.2)]] []:=by
 refine cW Tryz.func65 (fun g d=>sl [g 0,g 1,g 2,sl [g 3] (.block 0 (.loop (sl [g 4,cn 19 .skip (.exit 0),.block 1 (sl [g 5,sl [g 6] (cn 30 (.exit 1) .skip),g 7,g 8] (cn 54 (sl [g 9] (g 10)) .skip))] (g 11)))),g 12] .ret) [.cell 4 73,.tmp 5] fun cx=>?_
 unfold Jn at H
 refine gA 2 51 16<|gA 6 243 80<|gA 1 499 336<|tS<|rA 1<|kF x1 zJ<|uA 1 459249 336 ?_
 obtain⟨o15,eo15,Ho15⟩:=bs H
 clear H
 refine zt (ι:=Int×Int×Int×Int) (fun v=>⟨68,0,[sI 7 v.1,sA 6 6 5 0,sI 5 0,sA 4 4 5 0],[(6,[cI v.2.1,cI v.2.2.1,cI v.2.2.2,cI x0,cI 0]),(4,[cI 0,cI 0,cI 0,cI 0,cI 0])]⟩) (fun v=>zB4 n x0 v.1 v.2.1 v.2.2.1 v.2.2.2=some r) ?_ ?_
 ·refine tB<|Tr.loop (ι:=Nat×(Int×Int×Int×Int×Int×Int×Int×Int×Int×Int)) (fun v=>⟨68,0,[sI 18 v.2.1,sI 17 (x1.length:Int),sC 16 (cF 8 x1 zJ),sA 8 8 5 0,sI 7 v.2.2.1,sA 6 6 5 0,sI 5 0,sA 4 4 5 0,sI 0 x0],[(8,[cI v.2.2.2.1,cI v.2.2.2.2.1,cI v.2.2.2.2.2.1,cI v.2.2.2.2.2.2.1,cI v.2.2.2.2.2.2.2.1]),(6,[cI v.2.2.2.2.2.2.2.2.1,cI v.2.2.2.2.2.2.2.2.2.1,cI v.2.2.2.2.2.2.2.2.2.2,cI x0,cI 0]),(4,[cI 0,cI 0,cI 0,cI 0,cI 0])]⟩) (fun v=>qu n v.1 x0 x1 v.2.1 v.2.2.1 v.2.2.2.1 v.2.2.2.2.1 v.2.2.2.2.2.1 v.2.2.2.2.2.2.1 v.2.2.2.2.2.2.2.1 v.2.2.2.2.2.2.2.2.1 v.2.2.2.2.2.2.2.2.2.1 v.2.2.2.2.2.2.2.2.2.2=some o15) (fun v=>v.1) (n,(0,(-1),0,0,0,0,0,x0,0,0)) eo15 (za [18,17,16,8,7,6,5,4,0] [8,6,4] kr) ?_
  rintro⟨_|mo15,y1,y2,y3,y4,y5,y6,y7,y8,y9,y10⟩ H
  ·exact nN H
  have H:qu n (mo15+1) x0 x1 y1 y2 y3 y4 y5 y6 y7 y8 y9 y10=some o15:=H
  rw[qu]at H
  refine gA 1 983537 336<|tS ?_
  obtain⟨h1,H⟩|⟨h1,H⟩:=bC H
  ·refine nA h1<|Tr.exit<|aJ ?_
   cases H
   exact jA (y2,y8,y9,y10) Ho15 [7,6,5,4] [6,4]
  refine tA h1<|tK<|tS<|tB<|rA 1<|bE H fun v16 ev16 H=>iA zJ ev16<|uA 4 8325105 1360<|tS<|rA 4 ?_
  obtain⟨h2,H⟩|⟨h2,H⟩:=bC H
  ·refine qL 134154225 1360 [26,25] h2<|uA 4 2147420145 1360 ?_
   obtain⟨h3,H⟩|⟨h3,H⟩:=bC H
   ·refine nA h3<|tK<|rA 4<|bE H fun r17 er17 H=>vA [.rd,.rd] (zNn n v16.Hd v16.Co r17 er17)<|LAt.movT tOk (ty:=113) (t:=36) (d:=31) (g:=none) [(true,(zj r17.1)),(false,[cB r17.2])] _ kr (.inl rfl) kr kr kr kr rfl<|uA 5 481036279793 3408<|tS<|zt (ι:=Bool×Bool×Bool×Bool×Bool×Bool×Bool) (fun v=>⟨68,0,[sB 54 v.1,sB 46 v.2.1,sB 45 v.2.2.1,sB 40 v.2.2.2.1,sB 39 v.2.2.2.2.1,sB 12 v.2.2.2.2.2.1,sA 11 11 5 0,sB 38 v.2.2.2.2.2.2,(31,.tup [(true,[.dead,.dead,.dead,.dead,.dead]),(false,[.dead])]),sV 37 (zj r17.1),sI 35 v16.Co,sA 34 10 8 1,sV 33 ((zJ v16).drop 3),sA 32 10 8 3,sB 30 false,sB 29 false,sB 28 v16.Has,sA 27 10 8 2,sB 26 false,sB 25 false,sB 24 v16.Up,sA 23 10 8 0,sI 9 y1,sA 10 10 8 0,sV 22 (zJ v16),(21,.fad ((zJ v16))),sI 20 y1,sB 19 true,sI 18 y1,sI 17 (x1.length:Int),sC 16 (cF 8 x1 zJ),sA 8 8 5 0,sI 7 y2,sA 6 6 5 0,sI 5 0,sA 4 4 5 0,sI 0 x0],[(11,(zj r17.1)),(10,(zJ v16)),(8,[cI y3,cI y4,cI y5,cI y6,cI y7]),(6,[cI y8,cI y9,cI y10,cI x0,cI 0]),(4,[cI 0,cI 0,cI 0,cI 0,cI 0])]⟩) (fun v=>Q1 n (fun v=>qu n mo15 x0 x1 v.1 v.2.1 v.2.2.1 v.2.2.2.1 v.2.2.2.2.1 v.2.2.2.2.2.1 v.2.2.2.2.2.2.1 v.2.2.2.2.2.2.2.1 v.2.2.2.2.2.2.2.2.1 v.2.2.2.2.2.2.2.2.2) r17 y1 y10 y2 y3 y4 y5 y6 y7 y8 y9 v.1 v.2.1 v.2.2.1 v.2.2.2.1 v.2.2.2.2.1 v.2.2.2.2.2.1 v.2.2.2.2.2.2=some o15) ?_ ?_
    ·refine Tr.at<|lA 2 ?_
     obtain⟨h5,H⟩|⟨h5,H⟩:=bC H
     ·refine qL 2130303721457 3408 [40,39,12,38] h5<|uA 14 0x7fffefffff1ff1 3408<|sB' 0x7fffefffff1ff1 3408 ⟨68,0,[sB 54 false,(53,.tup []),(52,.tup []),(51,.tup []),(50,.tup []),(49,.tup []),(48,.tup []),(47,.tup []),sB 46 false,sB 45 false,(44,.tup []),(43,.tup []),(42,.tup []),(41,.tup []),sB 40 false,sB 39 false,sB 12 false,sA 11 11 5 0,sB 38 false,(31,.tup [(true,[.dead,.dead,.dead,.dead,.dead]),(false,[.dead])]),sV 37 (zj r17.1),sI 35 v16.Co,sA 34 10 8 1,sV 33 ((zJ v16).drop 3),sA 32 10 8 3,sB 30 (!v16.Has),sB 29 (!v16.Has),sB 28 v16.Has,sA 27 10 8 2,sB 26 false,sB 25 false,sB 24 v16.Up,sA 23 10 8 0,sI 9 y1,sA 10 10 8 0,sV 22 (zJ v16),(21,.fad ((zJ v16))),sI 20 y1,sB 19 (decide (y1<(x1.length:Int))),sI 18 y1,sI 17 (x1.length:Int),sC 16 (cF 8 x1 zJ),sA 8 8 5 0,sI 7 y2,sA 6 6 5 0,sI 5 0,sA 4 4 5 0,sI 0 x0],[(11,(zj r17.1)),(10,(zJ v16)),(8,[cI y3,cI y4,cI y5,cI y6,cI y7]),(6,[cI y8,cI y9,cI y10,cI x0,cI 0]),(4,[cI 0,cI 0,cI 0,cI 0,cI 0])]⟩ ?_
      rw[h1]
      rw[h3]
      exact jA (false,false,false,false,false,false,false) H [54,46,45,40,39,12,11,38,31,37,35,34,33,32,30,29,28,27,26,25,24,23,9,10,22,21,20,19,18,17,16,8,7,6,5,4,0] [11,10,8,6,4]
     refine qL 2130303721457 3408 [40,39,12,38] h5<|lA 6 ?_
     obtain⟨h6,H⟩|⟨h6,H⟩:=bC H
     ·refine qL 0x7fefffff1ff1 3408 [46,45,44] h6<|uA 8 0x7fffefffff1ff1 3408<|sB' 0x7fffefffff1ff1 3408 ⟨68,0,[sB 54 false,(53,.tup []),(52,.tup []),(51,.tup []),(50,.tup []),(49,.tup []),(48,.tup []),(47,.tup []),sB 46 false,sB 45 false,sB 44 false,sI 43 x0,sI 42 r17.1.Root,sA 41 11 5 0,sB 40 true,sB 39 true,sB 12 true,sA 11 11 5 0,sB 38 true,(31,.tup [(true,[.dead,.dead,.dead,.dead,.dead]),(false,[.dead])]),sV 37 (zj r17.1),sI 35 v16.Co,sA 34 10 8 1,sV 33 ((zJ v16).drop 3),sA 32 10 8 3,sB 30 (!v16.Has),sB 29 (!v16.Has),sB 28 v16.Has,sA 27 10 8 2,sB 26 false,sB 25 false,sB 24 v16.Up,sA 23 10 8 0,sI 9 y1,sA 10 10 8 0,sV 22 (zJ v16),(21,.fad ((zJ v16))),sI 20 y1,sB 19 (decide (y1<(x1.length:Int))),sI 18 y1,sI 17 (x1.length:Int),sC 16 (cF 8 x1 zJ),sA 8 8 5 0,sI 7 y2,sA 6 6 5 0,sI 5 0,sA 4 4 5 0,sI 0 x0],[(11,(zj r17.1)),(10,(zJ v16)),(8,[cI y3,cI y4,cI y5,cI y6,cI y7]),(6,[cI y8,cI y9,cI y10,cI x0,cI 0]),(4,[cI 0,cI 0,cI 0,cI 0,cI 0])]⟩ ?_
      rw[h1]
      rw[h3]
      exact jA (false,false,false,true,true,true,true) H [54,46,45,40,39,12,11,38,31,37,35,34,33,32,30,29,28,27,26,25,24,23,9,10,22,21,20,19,18,17,16,8,7,6,5,4,0] [11,10,8,6,4]
     refine qL 0x7fefffff1ff1 3408 [46,45,44] h6<|lA 3 ?_
     obtain⟨h7,H⟩|⟨h7,H⟩:=bC H
     ·refine qL 0x3ffefffff1ff1 3408 [49,48] h7<|lA 2<|bE H fun r25 er25 H=>vA [.rd,.rd] (zIx n r17.1 (⟨y3,y4,y5,y6,y7⟩:Vec) r25 er25)<|uA 2 0x7fffefffff1ff1 3408<|sB' 0x7fffefffff1ff1 3408 ⟨68,0,[sB 54 r25,sB 53 r25,sB 52 r25,sV 51 [cI y3,cI y4,cI y5,cI y6,cI y7],sV 50 (zj r17.1),sB 49 false,sB 48 false,sI 47 y2,sB 46 true,sB 45 true,sB 44 true,sI 43 x0,sI 42 r17.1.Root,sA 41 11 5 0,sB 40 true,sB 39 true,sB 12 true,sA 11 11 5 0,sB 38 true,(31,.tup [(true,[.dead,.dead,.dead,.dead,.dead]),(false,[.dead])]),sV 37 (zj r17.1),sI 35 v16.Co,sA 34 10 8 1,sV 33 ((zJ v16).drop 3),sA 32 10 8 3,sB 30 (!v16.Has),sB 29 (!v16.Has),sB 28 v16.Has,sA 27 10 8 2,sB 26 false,sB 25 false,sB 24 v16.Up,sA 23 10 8 0,sI 9 y1,sA 10 10 8 0,sV 22 (zJ v16),(21,.fad ((zJ v16))),sI 20 y1,sB 19 (decide (y1<(x1.length:Int))),sI 18 y1,sI 17 (x1.length:Int),sC 16 (cF 8 x1 zJ),sA 8 8 5 0,sI 7 y2,sA 6 6 5 0,sI 5 0,sA 4 4 5 0,sI 0 x0],[(11,(zj r17.1)),(10,(zJ v16)),(8,[cI y3,cI y4,cI y5,cI y6,cI y7]),(6,[cI y8,cI y9,cI y10,cI x0,cI 0]),(4,[cI 0,cI 0,cI 0,cI 0,cI 0])]⟩ ?_
      rw[h1]
      rw[h3]
      exact jA (r25,true,true,true,true,true,true) H [54,46,45,40,39,12,11,38,31,37,35,34,33,32,30,29,28,27,26,25,24,23,9,10,22,21,20,19,18,17,16,8,7,6,5,4,0] [11,10,8,6,4]
     refine qL 0x3ffefffff1ff1 3408 [49,48] h7<|uA 5 0x7fffefffff1ff1 3408<|sB' 0x7fffefffff1ff1 3408 ⟨68,0,[sB 54 true,sB 53 true,(52,.tup []),(51,.tup []),(50,.tup []),sB 49 true,sB 48 true,sI 47 y2,sB 46 true,sB 45 true,sB 44 true,sI 43 x0,sI 42 r17.1.Root,sA 41 11 5 0,sB 40 true,sB 39 true,sB 12 true,sA 11 11 5 0,sB 38 true,(31,.tup [(true,[.dead,.dead,.dead,.dead,.dead]),(false,[.dead])]),sV 37 (zj r17.1),sI 35 v16.Co,sA 34 10 8 1,sV 33 ((zJ v16).drop 3),sA 32 10 8 3,sB 30 (!v16.Has),sB 29 (!v16.Has),sB 28 v16.Has,sA 27 10 8 2,sB 26 false,sB 25 false,sB 24 v16.Up,sA 23 10 8 0,sI 9 y1,sA 10 10 8 0,sV 22 (zJ v16),(21,.fad ((zJ v16))),sI 20 y1,sB 19 (decide (y1<(x1.length:Int))),sI 18 y1,sI 17 (x1.length:Int),sC 16 (cF 8 x1 zJ),sA 8 8 5 0,sI 7 y2,sA 6 6 5 0,sI 5 0,sA 4 4 5 0,sI 0 x0],[(11,(zj r17.1)),(10,(zJ v16)),(8,[cI y3,cI y4,cI y5,cI y6,cI y7]),(6,[cI y8,cI y9,cI y10,cI x0,cI 0]),(4,[cI 0,cI 0,cI 0,cI 0,cI 0])]⟩ ?_
     rw[h1]
     rw[h3]
     exact jA (true,true,true,true,true,true,true) H [54,46,45,40,39,12,11,38,31,37,35,34,33,32,30,29,28,27,26,25,24,23,9,10,22,21,20,19,18,17,16,8,7,6,5,4,0] [11,10,8,6,4]
    rintro⟨y18,y19,y20,y21,y22,y23,y24⟩ H
    have H:(Q1 n (fun v=>qu n mo15 x0 x1 v.1 v.2.1 v.2.2.1 v.2.2.2.1 v.2.2.2.2.1 v.2.2.2.2.2.1 v.2.2.2.2.2.2.1 v.2.2.2.2.2.2.2.1 v.2.2.2.2.2.2.2.2.1 v.2.2.2.2.2.2.2.2.2) r17 y1 y10 y2 y3 y4 y5 y6 y7 y8 y9 y18 y19 y20 y21 y22 y23 y24)=some o15:=H
    unfold Q1 at H
    cases h4:y18
    ·have H:=YA h4 H
     exact nB_<|tK<|eA 2 0x2004061efffff1ff1 3408<|jB mo15 ((wI (y1+1)),y2,y3,y4,y5,y6,y7,y8,y9,y10) H [18,17,16,8,7,6,5,4,0] [8,6,4]
    have H:=YB h4 H
    exact tB_<|gA 4 0x1c061efffff1ff1 3408<|eA 9 0x1ffc061efffff1ff1 3408<|eA 2 0x3ffc061efffff1ff1 3408<|jB mo15 ((wI (y1+1)),y1,r17.1.Root,r17.1.Co,r17.1.Hops,r17.1.Bridge,r17.1.Port,r17.1.Root,r17.1.Co,r17.1.Hops) H [18,17,16,8,7,6,5,4,0] [8,6,4]
   exact tA h3<|Tr.exit<|aJ<|eA 2 0x2000000007fff07f1 1360<|jB mo15 ((wI (y1+1)),y2,y3,y4,y5,y6,y7,y8,y9,y10) H [18,17,16,8,7,6,5,4,0] [8,6,4]
  exact qL 134154225 1360 [26,25] h2<|uA 4 2147420145 1360<|tB_<|Tr.exit<|aJ<|eA 2 0x2000000007fff07f1 1360<|jB mo15 ((wI (y1+1)),y2,y3,y4,y5,y6,y7,y8,y9,y10) H [18,17,16,8,7,6,5,4,0] [8,6,4]
 rintro⟨y11,y12,y13,y14⟩ H
 have H:(zB4 n x0 y11 y12 y13 y14)=some r:=H
 unfold zB4 at H
 exact gA 4 48 16<|te (fJ [(true,[cI y12,cI y13,cI y14,cI x0,cI 0]),(false,[cI y11])] H)
def zBi(n:Nat)(x0:Int)(x1:(List Pt))(x2:Int):Option (Vec):=
  ((Jn n x0 x1).bind fun r1=>(some (⟨r1.1.Root,r1.1.Co,r1.1.Hops,r1.1.Bridge,x2⟩:Vec)))
theorem zKK(n:Nat)(x0:Int)(x1:(List Pt))(x2:Int)(r:Vec)(H:zBi n x0 x1 x2=some r):zb Tryz.prog 91 [.val false [.lit (.int .i64 x0)],.val false [.sl false 8 (zQ (x1.map zJ))],.val false [.lit (.int .i64 x2)]] [.val true (zj r)] []:=by
 refine cW Tryz.func91 (fun g d=>sl [g 0,g 1,g 2,g 3] .ret) [.cell 6 73] fun cx=>?_
 unfold zBi at H
 exact gA 1 71 64<|rA 2<|bE H fun r1 er1 H=>vA [.rd,.rd] (zES n x0 x1 r1 er1)<|LAt.movT tOk (ty:=86) (t:=12) (d:=9) (g:=none) [(true,(zj r1.1)),(false,[cI r1.2])] _ kr (.inl rfl) kr kr kr kr rfl<|uA 5 196 192<|gA 3 192 192<|gA 2 64 64<|te (fJ [(true,[cI r1.1.Root,cI r1.1.Co,cI r1.1.Hops,cI r1.1.Bridge,cI x2])] H)
def Yk(n:Nat)(x0:Net)(x1:Int)(x2:Int):Option (Vec):=
  ((idx x0.Bs x1).bind fun v1=>((idx x0.Bs x1).bind fun v2=>((zBi n v1.Id v2.Ps x2).bind fun r3=>(some r3))))
def zUD:Tab:=⟨15,[0,1,0,6,8,16,0,64,0,384,512,1024,0,6176,16383],[0,1,0,6,8,16,0,64,0,384,512,1024,0,6176,8192],[0,1,0,7,15,31,0,64,0,448,960,1984,0,8191,16383]⟩
theorem zLb:qb (rg Tryz.f51 1) zUD=true:=kr
theorem zJy(n:Nat)(x0:Net)(x1:Int)(x2:Int)(r:Vec)(H:Yk n x0 x1 x2=some r):zb Tryz.prog 51 [.val true (fR (zD x0)),.val false [.lit (.int .i64 x1)],.val false [.lit (.int .i64 x2)]] [.val true (zj r)] []:=by
 refine cW Tryz.func51 (fun g d=>sl [g 0,d 1] .ret) [.cell 6 73] fun cx=>?_
 unfold Yk at H
 refine gA 2 78 72<|bE H fun v1 ev1 H=>bE H fun v2 ev2 H=>bE H fun r3 er3 H=>zd zr 15 kr ⟨21,0,[sA 6 6 5 0],[(6,(zj r3))]⟩ (fun cx=>?_) ?_
 ·exact mA zLb [(0,[]),(1,[13,14]),(2,[])] 12 [⟨[13,14],24,7,8⟩] fun cx=>iN zLb 3 zB ev1 fun cx=>mA zLb (zl [4,5,6]++[(7,[13,14]),(8,[])]) 6 [⟨[13,14],24,13,14⟩,⟨[13,14],24,7,8⟩] fun cx=>iN zLb 9 zB ev2 fun cx=>mA zLb (zl [10,11,12]) 2 [⟨[13,14],24,13,14⟩,⟨[13,14],24,7,8⟩] fun cx=>mC zLb 13<|vA [.rd,.rd,.rd] (zKK n v1.Id v2.Ps x2 r3 er3)<|fA<|mC zLb 14<|lA 1<|fA<|mE zLb [6] [6]
 exact te (fJ [(true,(zj r3))] H)
def zDw(n:Nat)(x0:Net)(x1:Int)(x2:Int)(x3:Vec):Option (Bool):=
  ((Zz n x0 x1 x2).bind fun r1=>(bif r1.2 then(bif r1.1.Has then(some ((r1.1.Hd.Root==x3.Root)&&((r1.1.Hd.Co==x3.Co)&&((r1.1.Hd.Hops==x3.Hops)&&((r1.1.Hd.Bridge==x3.Bridge)&&((r1.1.Hd.Port==x3.Port)&&true))))))else(some false))else(some false)))
theorem zIW(n:Nat)(x0:Net)(x1:Int)(x2:Int)(x3:Vec)(r:Bool)(H:zDw n x0 x1 x2 x3=some r):zb Tryz.prog 50 [.val true (fR (zD x0)),.val false [.lit (.int .i64 x1)],.val false [.lit (.int .i64 x2)],.val true (fR (zj x3))] [.val false [.lit (.bool r)]] []:=by
 refine cW Tryz.func50 (fun g d=>sl [g 0,g 1,g 2] .ret) [.tmp 8] fun cx=>?_
 unfold zDw at H
 refine gA 3 150 144<|rA 3<|bE H fun r1 er1 H=>vA [.rd,.rd,.rd] (zDx n x0 x1 x2 r1 er1)<|LAt.movT tOk (ty:=108) (t:=15) (d:=11) (g:=none) [(true,(zJ r1.1)),(false,[cB r1.2])] _ kr (.inl rfl) kr kr kr kr rfl<|uA 5 1664 640<|rA 2 ?_
 obtain⟨h1,H⟩|⟨h1,H⟩:=bC H
 ·exact qL 524928 640 [19] h1<|uA 10 256 0<|te (fF H)
 refine qL 524928 640 [19] h1<|lA 4 ?_
 obtain⟨h2,H⟩|⟨h2,H⟩:=bC H
 ·exact qL 8389248 640 [23] h2<|uA 6 256 0<|te (fF H)
 exact qL 8389248 640 [23] h2<|lA 3<|zH0 false (t:=73) (ty:=73) (ty':=4) (x:=(.tmp 25)) (y:=(.tmp 26)) (d:=27) (g:=(some (5,true))) ((r1.1.Hd.Root==x3.Root)&&((r1.1.Hd.Co==x3.Co)&&((r1.1.Hd.Hops==x3.Hops)&&((r1.1.Hd.Bridge==x3.Bridge)&&((r1.1.Hd.Port==x3.Port)&&true))))) _ kr kr kr kr rfl<|uA 2 256 0<|te (fJ [(false,[cB ((r1.1.Hd.Root==x3.Root)&&((r1.1.Hd.Co==x3.Co)&&((r1.1.Hd.Hops==x3.Hops)&&((r1.1.Hd.Bridge==x3.Bridge)&&((r1.1.Hd.Port==x3.Port)&&true)))))])] H)
def zCi(n:Nat):Option (Bool):=
  (some true)
def Qp(n:Nat):Nat→Net→Int→Option ((Unit)⊕(Bool))
  |0,_,_=>none
  |mo2+1,x0,y1=>(bif (decide (y1<(x0.Ls.length:Int)))then((idx x0.Ls y1).bind fun v3=>((qD n x0 y1).bind fun r4=>(bif r4 then((Yk n x0 v3.B v3.Q).bind fun r5=>((zDw n x0 v3.A v3.P r5).bind fun r6=>(bif (!r6)then(some (Sum.inr false))else((Yk n x0 v3.A v3.P).bind fun r7=>((zDw n x0 v3.B v3.Q r7).bind fun r8=>(bif (!r8)then(some (Sum.inr false))else(Qp n mo2 x0 (wI (y1+1)))))))))else(Qp n mo2 x0 (wI (y1+1))))))else(some (Sum.inl ())))
def Zy(n:Nat)(x0:Net):Option (Bool):=
  ((Qp n n x0 0).bind fun o=>match o with|.inl _=>(zCi n)|.inr r=>some r)
def zT4:Tab:=⟨33,[0,0,3,4,8,8,40,8,136,8,8,1032,8,4104,10760,16728,32776,98312,131072,131072,655360,131072,2228224,131072,131072,16908288,131072,67239936,176291840,274071552,537001984,1073872904,2147483656],[0,0,3,4,8,8,40,8,136,8,8,1032,8,4104,10760,16728,32776,65544,131072,131072,655360,131072,2228224,131072,131072,16908288,131072,67239936,176291840,274071552,537001984,1073872904,2147483656],[0,0,3,7,15,15,47,15,143,15,15,1039,15,4111,15887,32767,65535,131071,262143,262143,786431,262143,2359295,262143,262143,17039359,262143,67371007,260308991,536870911,1073741823,2147483647,4294967295]⟩
theorem zBV:qb (rg Tryz.f12 4) zT4=true:=kr
theorem zAN(n:Nat)(x0:Net)(r:Bool)(H:Zy n x0=some r):zb Tryz.prog 12 [.val true (fR (zD x0))] [.val false [.lit (.bool r)]] []:=by
 refine cW Tryz.func12 (fun g d=>sl [g 0,sl [g 1] (.block 0 (.loop (sl [g 2,cn 9 .skip (.exit 0),.block 1 (sl [g 3,d 4] (cn 45 (sl [g 5] .ret) .skip))] (g 6)))),g 7] .ret) [.tmp 2] fun cx=>?_
 unfold Zy at H
 refine gA 2 2 2<|tS<|rA 2<|kF x0.Ls zE<|uA 1 450 2 ?_
 obtain⟨o2,eo2,Ho2⟩:=bs H
 clear H
 refine zt (ι:=Unit) (fun v=>⟨47,0,[],[]⟩) (fun v=>zCi n=some r) ?_ ?_
 ·refine tB<|Tr.loop (ι:=Nat×(Int)) (fun v=>⟨47,0,[sI 8 v.2,sI 7 (x0.Ls.length:Int),sC 6 (cF 4 x0.Ls zE),sA 1 1 3 0],[(1,(fR (zD x0)))]⟩) (fun v=>Qp n v.1 x0 v.2=some o2) (fun v=>v.1) (n,0) eo2 (za [8,7,6,1] [1] kr) ?_
  rintro⟨_|mo2,y1⟩ H
  ·exact nN H
  have H:Qp n (mo2+1) x0 y1=some o2:=H
  rw[Qp]at H
  refine gA 1 962 2<|tS ?_
  obtain⟨h1,H⟩|⟨h1,H⟩:=bC H
  ·refine nA h1<|Tr.exit<|aJ ?_
   cases H
   exact jA () Ho2 [] []
  refine tA h1<|tK<|tS<|tB<|rA 1<|bE H fun v3 ev3 H=>iA zE ev3<|uA 4 474 18<|bE H fun r4 er4 H=>sT ⟨47,0,[sI 3 y1,sA 4 4 4 0,sI 8 y1,sI 7 (x0.Ls.length:Int),sC 6 (cF 4 x0.Ls zE),sA 1 1 3 0],[(4,(zE v3)),(1,(fR (zD x0)))]⟩ ?_
  cases h2:r4
  ·have H:=YA h2 H
   refine zd zr 33 kr ⟨47,0,[sB 45 false,sI 8 y1,sI 7 (x0.Ls.length:Int),sC 6 (cF 4 x0.Ls zE),sA 1 1 3 0],[(1,(fR (zD x0)))]⟩ (fun cx=>?_) ?_
   ·exact mA zBV [(0,[2]),(1,[])] 31 [⟨[2],28,1,13⟩] fun cx=>mC zBV 2<|vA [.rd,.rd] (zDv n x0 y1 r4 er4)<|fA<|mA zBV [(3,[])] 29 [⟨[2],28,1,13⟩] fun cx=>qA 74194 18 [16] h2<|mA zBV (zl [4,5,6,7,8,9,10,11,12,13,14,15,16,17,18,19,20,21,22,23,24,25,26,27,28,29,30,31,32]) 0 [⟨[2],28,1,13⟩] fun cx=>mE zBV [45,8,7,6,1] [1]
   exact nB_<|tK<|eA 2 450 2<|jB mo2 (wI (y1+1)) H [8,7,6,1] [1]
  have H:=YB h2 H
  refine bE H fun r5 er5 H=>bE H fun r6 er6 H=>sT ⟨47,0,[sI 3 y1,sA 4 4 4 0,sI 8 y1,sI 7 (x0.Ls.length:Int),sC 6 (cF 4 x0.Ls zE),sA 1 1 3 0],[(4,(zE v3)),(1,(fR (zD x0)))]⟩ ?_
  cases h3:(!r6)
  ·have H:=YA h3 H
   refine bE H fun r7 er7 H=>bE H fun r8 er8 H=>zd zr 33 kr ⟨47,0,[sB 45 (!r8),sI 8 y1,sI 7 (x0.Ls.length:Int),sC 6 (cF 4 x0.Ls zE),sA 1 1 3 0],[(1,(fR (zD x0)))]⟩ (fun cx=>?_) ?_
   ·refine mA zBV [(0,[2,14,15,28,29]),(1,[])] 31 [⟨[2,14,15,28,29],28,1,13⟩] fun cx=>mC zBV 2<|vA [.rd,.rd] (zDv n x0 y1 r4 er4)<|fA<|mA zBV [(3,[])] 29 [⟨[2,14,15,28,29],28,1,13⟩] fun cx=>qA 74194 18 [16] h2<|mA zBV [(4,[15,28,29]),(5,[]),(6,[15,28,29]),(7,[]),(8,[15,28,29]),(9,[14,15,28,29]),(10,[]),(11,[14,15,28,29]),(12,[]),(13,[14,15,28,29])] 19 [⟨[14,15,28,29],3,25,26⟩,⟨[14,15,28,29],3,23,24⟩,⟨[14,15,28,29],28,1,22⟩,⟨[15,28,29],3,20,21⟩,⟨[15,28,29],3,18,19⟩,⟨[15,28,29],28,1,17⟩,⟨[2,14,15,28,29],28,1,13⟩] fun cx=>mC zBV 14<|vA [.rd,.rd,.rd] (zJy n x0 v3.B v3.Q r5 er5)<|fA<|mC zBV 15<|vA [.rd,.rd,.rd,.rd] (zIW n x0 v3.A v3.P r5 r6 er6)<|fA<|mA zBV [(16,[]),(17,[])] 15 [⟨[14,15,28,29],3,25,26⟩,⟨[14,15,28,29],3,23,24⟩,⟨[14,15,28,29],28,1,22⟩,⟨[15,28,29],3,20,21⟩,⟨[15,28,29],3,18,19⟩,⟨[15,28,29],28,1,17⟩,⟨[2,14,15,28,29],28,1,13⟩] fun cx=>qA 1207902674 18 [30] h3<|mA zBV [(18,[29]),(19,[]),(20,[29]),(21,[]),(22,[29]),(23,[28,29]),(24,[]),(25,[28,29]),(26,[]),(27,[28,29])] 5 [⟨[28,29],3,39,40⟩,⟨[28,29],3,37,38⟩,⟨[28,29],28,1,36⟩,⟨[29],3,34,35⟩,⟨[29],3,32,33⟩,⟨[29],28,1,31⟩,⟨[14,15,28,29],3,25,26⟩,⟨[14,15,28,29],3,23,24⟩,⟨[14,15,28,29],28,1,22⟩,⟨[15,28,29],3,20,21⟩,⟨[15,28,29],3,18,19⟩,⟨[15,28,29],28,1,17⟩,⟨[2,14,15,28,29],28,1,13⟩] fun cx=>mC zBV 28<|vA [.rd,.rd,.rd] (zJy n x0 v3.A v3.P r7 er7)<|fA<|mC zBV 29<|vA [.rd,.rd,.rd,.rd] (zIW n x0 v3.B v3.Q r7 r8 er8)<|fA<|mA zBV (zl [30,31,32]) 0 [⟨[28,29],3,39,40⟩,⟨[28,29],3,37,38⟩,⟨[28,29],28,1,36⟩,⟨[29],3,34,35⟩,⟨[29],3,32,33⟩,⟨[29],28,1,31⟩,⟨[14,15,28,29],3,25,26⟩,⟨[14,15,28,29],3,23,24⟩,⟨[14,15,28,29],28,1,22⟩,⟨[15,28,29],3,20,21⟩,⟨[15,28,29],3,18,19⟩,⟨[15,28,29],28,1,17⟩,⟨[2,14,15,28,29],28,1,13⟩] fun cx=>?_
    exact mE zBV [45,8,7,6,1] [1]
   obtain⟨h4,H⟩|⟨h4,H⟩:=bC H
   ·exact qT [45] h4<|nB_<|tK<|eA 2 450 2<|jB mo2 (wI (y1+1)) H [8,7,6,1] [1]
   refine qT [45] h4<|tB_<|gA 1 4 0<|te ?_
   cases H
   exact fF Ho2
  have H:=YB h3 H
  refine zd zr 33 kr ⟨47,0,[sB 45 true,sI 8 y1,sI 7 (x0.Ls.length:Int),sC 6 (cF 4 x0.Ls zE),sA 1 1 3 0],[(1,(fR (zD x0)))]⟩ (fun cx=>?_) ?_
  ·exact mA zBV [(0,[2,14,15]),(1,[])] 31 [⟨[2,14,15],28,1,13⟩] fun cx=>mC zBV 2<|vA [.rd,.rd] (zDv n x0 y1 r4 er4)<|fA<|mA zBV [(3,[])] 29 [⟨[2,14,15],28,1,13⟩] fun cx=>qA 74194 18 [16] h2<|mA zBV [(4,[15]),(5,[]),(6,[15]),(7,[]),(8,[15]),(9,[14,15]),(10,[]),(11,[14,15]),(12,[]),(13,[14,15])] 19 [⟨[14,15],3,25,26⟩,⟨[14,15],3,23,24⟩,⟨[14,15],28,1,22⟩,⟨[15],3,20,21⟩,⟨[15],3,18,19⟩,⟨[15],28,1,17⟩,⟨[2,14,15],28,1,13⟩] fun cx=>mC zBV 14<|vA [.rd,.rd,.rd] (zJy n x0 v3.B v3.Q r5 er5)<|fA<|mC zBV 15<|vA [.rd,.rd,.rd,.rd] (zIW n x0 v3.A v3.P r5 r6 er6)<|fA<|mA zBV [(16,[]),(17,[])] 15 [⟨[14,15],3,25,26⟩,⟨[14,15],3,23,24⟩,⟨[14,15],28,1,22⟩,⟨[15],3,20,21⟩,⟨[15],3,18,19⟩,⟨[15],28,1,17⟩,⟨[2,14,15],28,1,13⟩] fun cx=>qA 1207902674 18 [30] h3<|mA zBV (zl [18,19,20,21,22,23,24,25,26,27,28,29,30,31,32]) 0 [⟨[14,15],3,25,26⟩,⟨[14,15],3,23,24⟩,⟨[14,15],28,1,22⟩,⟨[15],3,20,21⟩,⟨[15],3,18,19⟩,⟨[15],28,1,17⟩,⟨[2,14,15],28,1,13⟩] fun cx=>mE zBV [45,8,7,6,1] [1]
  refine tB_<|gA 1 4 0<|te ?_
  cases H
  exact fF Ho2
 rintro _ H
 have H:(zCi n)=some r:=H
 unfold zCi at H
 exact gA 1 4 0<|te (fT H)
def zBP(n:Nat)(x0:Net)(x1:Int)(x2:Bool):Option (Bool):=
  ((idx x0.Ls x1).bind fun v1=>((idx x0.Bs v1.B).bind fun v2=>((idx v2.Ps v1.Q).bind fun v3=>(bif x2 then((idx x0.Bs v1.A).bind fun v5=>((idx v5.Ps v1.P).bind fun v6=>(bif v6.Has then((QV n x0 x1 true).bind fun r7=>(some ((v6.Hd.Root==r7.Root)&&((v6.Hd.Co==r7.Co)&&((v6.Hd.Hops==r7.Hops)&&((v6.Hd.Bridge==r7.Bridge)&&((v6.Hd.Port==r7.Port)&&true)))))))else(some false))))else(bif v3.Has then((QV n x0 x1 false).bind fun r4=>(some ((v3.Hd.Root==r4.Root)&&((v3.Hd.Co==r4.Co)&&((v3.Hd.Hops==r4.Hops)&&((v3.Hd.Bridge==r4.Bridge)&&((v3.Hd.Port==r4.Port)&&true)))))))else(some false))))))
def zUE:Tab:=⟨13,[0,1,0,4,10,16,32,0,128,320,512,0,4095],[0,1,0,4,10,16,32,0,128,320,512,0,3072],[0,1,0,4,15,31,63,0,128,511,1023,0,4095]⟩
theorem zLc:qb (rg Tryz.f53 2) zUE=true:=kr
def zUF:Tab:=⟨12,[0,1,0,4,10,16,32,0,128,320,512,2047],[0,1,0,4,10,16,32,0,128,320,512,1024],[0,1,0,4,15,31,63,0,128,511,1023,2047]⟩
theorem zM5:qb (rg Tryz.f53 4) zUF=true:=kr
def zUG:Tab:=⟨12,[0,1,2,4,12,4,4,4,228,276,516,2047],[0,1,2,4,12,4,4,4,228,276,516,1024],[0,1,3,7,15,7,7,7,231,511,1023,2047]⟩
theorem zEP:qb (rg Tryz.f53 5) zUG=true:=kr
theorem zIK(n:Nat)(x0:Net)(x1:Int)(x2:Bool)(r:Bool)(H:zBP n x0 x1 x2=some r):zb Tryz.prog 53 [.val true (fR (zD x0)),.val false [.lit (.int .i64 x1)],.val false [.lit (.bool x2)]] [.val false [.lit (.bool r)]] []:=by
 refine cW Tryz.func53 (fun g d=>sl [g 0,g 1,d 2,sl [g 3] (cn 25 (d 4) .skip),d 5] .ret) [.tmp 6] fun cx=>?_
 unfold zBP at H
 refine gA 2 14 8<|rA 3<|bE H fun v1 ev1 H=>iA zE ev1<|uA 3 142 136<|bE H fun v2 ev2 H=>bE H fun v3 ev3 H=>zd zr 13 kr ⟨48,0,[sA 8 8 8 0,sA 7 7 4 0,sA 3 3 3 0,sI 1 x1,sB 2 x2],[(8,(zJ v3)),(7,(zE v1)),(3,(fR (zD x0)))]⟩ (fun cx=>?_) ?_
 ·exact mA zLc [(0,[]),(1,[12]),(2,[]),(3,[12])] 9 [⟨[12],3,16,17⟩,⟨[12],24,14,15⟩] fun cx=>iN zLc 4 zB ev2 fun cx=>mA zLc (zl [5,6,7]++[(8,[12])]) 4 [⟨[12],3,21,22⟩,⟨[12],3,16,17⟩,⟨[12],24,14,15⟩] fun cx=>iN zLc 9 zJ ev3 fun cx=>mA zLc [(10,[])] 2 [⟨[12],3,21,22⟩,⟨[12],3,16,17⟩,⟨[12],24,14,15⟩] fun cx=>mC zLc 11<|lA 1<|fA<|mC zLc 12<|lA 1<|fA<|mE zLc [8,7,3,1,2] [8,7,3]
 refine tS<|gA 1 33554830 392 ?_
 cases h1:x2
 ·have H:=YA h1 H
  refine nB_<|tK<|sT ⟨48,0,[sB 25 false,sA 8 8 8 0,sA 7 7 4 0,sA 3 3 3 0,sI 1 x1,sB 2 false],[(8,(zJ v3)),(7,(zE v1)),(3,(fR (zD x0)))]⟩ ?_
  cases h2:v3.Has
  ·have H:=YA h2 H
   refine zd zr 12 kr ⟨48,0,[sB 6 false],[]⟩ (fun cx=>?_) ?_
   ·exact mA zEP (zl [0,1,2]) 9 [⟨[],4,37,38⟩] fun cx=>qA 962072674574 264 [39,38] h2<|mA zEP (zl [3,4,5,6,7,8,9,10,11]) 0 [⟨[],4,37,38⟩] fun cx=>mE zEP [6] []
   exact te (fF H)
  have H:=YB h2 H
  refine bE H fun r4 er4 H=>zd zr 12 kr ⟨48,0,[sB 6 ((v3.Hd.Root==r4.Root)&&((v3.Hd.Co==r4.Co)&&((v3.Hd.Hops==r4.Hops)&&((v3.Hd.Bridge==r4.Bridge)&&((v3.Hd.Port==r4.Port)&&true)))))],[]⟩ (fun cx=>?_) ?_
  ·exact mA zEP [(0,[]),(1,[8,9]),(2,[])] 9 [⟨[8,9],4,37,38⟩] fun cx=>qA 962072674574 264 [39,38] h2<|mA zEP [(3,[]),(4,[9]),(5,[8,9]),(6,[]),(7,[])] 4 [⟨[8,9],28,3,42⟩,⟨[9],73,40,41⟩,⟨[8,9],4,37,38⟩] fun cx=>mC zEP 8<|vA [.rd,.rd,.rd] (zCW n x0 x1 false r4 er4)<|fA<|mC zEP 9<|zH0 false (t:=73) (ty:=73) (ty':=4) (x:=(.tmp 41)) (y:=(.tmp 45)) (d:=46) (g:=(some (2,true))) ((v3.Hd.Root==r4.Root)&&((v3.Hd.Co==r4.Co)&&((v3.Hd.Hops==r4.Hops)&&((v3.Hd.Bridge==r4.Bridge)&&((v3.Hd.Port==r4.Port)&&true))))) _ kr kr kr kr rfl<|fA<|mA zEP [(10,[]),(11,[])] 0 [⟨[8,9],28,3,42⟩,⟨[9],73,40,41⟩,⟨[8,9],4,37,38⟩] fun cx=>mE zEP [6] []
  exact te (fJ [(false,[cB ((v3.Hd.Root==r4.Root)&&((v3.Hd.Co==r4.Co)&&((v3.Hd.Hops==r4.Hops)&&((v3.Hd.Bridge==r4.Bridge)&&((v3.Hd.Port==r4.Port)&&true)))))])] H)
 have H:=YB h1 H
 refine tB_<|bE H fun v5 ev5 H=>bE H fun v6 ev6 H=>qr zr 12 kr ⟨48,0,[sA 8 8 8 0,sA 3 3 3 0,sI 1 x1,sB 2 true],[(8,(zJ v6)),(3,(fR (zD x0)))]⟩ (fun cx=>?_) ?_
 ·exact mA zM5 [(0,[]),(1,[11]),(2,[]),(3,[11])] 8 [⟨[11],3,28,29⟩,⟨[11],24,26,27⟩] fun cx=>iN zM5 4 zB ev5 fun cx=>mA zM5 (zl [5,6,7]++[(8,[11])]) 3 [⟨[11],3,33,34⟩,⟨[11],3,28,29⟩,⟨[11],24,26,27⟩] fun cx=>iN zM5 9 zJ ev6 fun cx=>mA zM5 [(10,[])] 1 [⟨[11],3,33,34⟩,⟨[11],3,28,29⟩,⟨[11],24,26,27⟩] fun cx=>mC zM5 11<|lA 1<|fA<|mE zM5 [8,3,1,2] [8,3]
 refine sT ⟨48,0,[sA 8 8 8 0,sA 3 3 3 0,sI 1 x1,sB 2 true],[(8,(zJ v6)),(3,(fR (zD x0)))]⟩ ?_
 cases h3:v6.Has
 ·have H:=YA h3 H
  refine zd zr 12 kr ⟨48,0,[sB 6 false],[]⟩ (fun cx=>?_) ?_
  ·exact mA zEP (zl [0,1,2]) 9 [⟨[],4,37,38⟩] fun cx=>qA 962072674574 264 [39,38] h3<|mA zEP (zl [3,4,5,6,7,8,9,10,11]) 0 [⟨[],4,37,38⟩] fun cx=>mE zEP [6] []
  exact te (fF H)
 have H:=YB h3 H
 refine bE H fun r7 er7 H=>zd zr 12 kr ⟨48,0,[sB 6 ((v6.Hd.Root==r7.Root)&&((v6.Hd.Co==r7.Co)&&((v6.Hd.Hops==r7.Hops)&&((v6.Hd.Bridge==r7.Bridge)&&((v6.Hd.Port==r7.Port)&&true)))))],[]⟩ (fun cx=>?_) ?_
 ·exact mA zEP [(0,[]),(1,[8,9]),(2,[])] 9 [⟨[8,9],4,37,38⟩] fun cx=>qA 962072674574 264 [39,38] h3<|mA zEP [(3,[]),(4,[9]),(5,[8,9]),(6,[]),(7,[])] 4 [⟨[8,9],28,3,42⟩,⟨[9],73,40,41⟩,⟨[8,9],4,37,38⟩] fun cx=>mC zEP 8<|vA [.rd,.rd,.rd] (zCW n x0 x1 true r7 er7)<|fA<|mC zEP 9<|zH0 false (t:=73) (ty:=73) (ty':=4) (x:=(.tmp 41)) (y:=(.tmp 45)) (d:=46) (g:=(some (2,true))) ((v6.Hd.Root==r7.Root)&&((v6.Hd.Co==r7.Co)&&((v6.Hd.Hops==r7.Hops)&&((v6.Hd.Bridge==r7.Bridge)&&((v6.Hd.Port==r7.Port)&&true))))) _ kr kr kr kr rfl<|fA<|mA zEP [(10,[]),(11,[])] 0 [⟨[8,9],28,3,42⟩,⟨[9],73,40,41⟩,⟨[8,9],4,37,38⟩] fun cx=>mE zEP [6] []
 exact te (fJ [(false,[cB ((v6.Hd.Root==r7.Root)&&((v6.Hd.Co==r7.Co)&&((v6.Hd.Hops==r7.Hops)&&((v6.Hd.Bridge==r7.Bridge)&&((v6.Hd.Port==r7.Port)&&true)))))])] H)
def zCn(n:Nat):Option (Bool):=
  (some true)
def Qt(n:Nat):Nat→Net→Int→Option ((Unit)⊕(Bool))
  |0,_,_=>none
  |mo2+1,x0,y1=>(bif (decide (y1<(x0.Ls.length:Int)))then((qV n x0 y1).bind fun r3=>(bif r3 then((zBP n x0 y1 false).bind fun r4=>(bif (!r4)then(some (Sum.inr false))else((zBP n x0 y1 true).bind fun r5=>(bif (!r5)then(some (Sum.inr false))else(Qt n mo2 x0 (wI (y1+1)))))))else(Qt n mo2 x0 (wI (y1+1)))))else(some (Sum.inl ())))
def Z4(n:Nat)(x0:Net):Option (Bool):=
  ((Qt n n x0 0).bind fun o=>match o with|.inl _=>(zCn n)|.inr r=>some r)
theorem zAR(n:Nat)(x0:Net)(r:Bool)(H:Z4 n x0=some r):zb Tryz.prog 13 [.val true (fR (zD x0))] [.val false [.lit (.bool r)]] []:=by
 refine cW Tryz.func13 (fun g d=>sl [g 0,sl [g 1] (.block 0 (.loop (sl [sl [g 2] (cn 8 .skip (.exit 0)),.block 1 (sl [g 4] (cn 25 (sl [g 5] .ret) .skip))] (g 3)))),g 6] .ret) [.tmp 2] fun cx=>?_
 unfold Z4 at H
 refine gA 2 2 2<|tS<|gA 1 10 2 ?_
 obtain⟨o2,eo2,Ho2⟩:=bs H
 clear H
 refine zt (ι:=Unit) (fun v=>⟨26,0,[],[]⟩) (fun v=>zCn n=some r) ?_ ?_
 ·refine tB<|Tr.loop (ι:=Nat×(Int)) (fun v=>⟨26,0,[sI 3 v.2,sA 1 1 3 0],[(1,(fR (zD x0)))]⟩) (fun v=>Qt n v.1 x0 v.2=some o2) (fun v=>v.1) (n,0) eo2 (za [3,1] [1] kr) ?_
  rintro⟨_|mo2,y1⟩ H
  ·exact nN H
  have H:Qt n (mo2+1) x0 y1=some o2:=H
  rw[Qt]at H
  refine tS<|rA 3<|kF x0.Ls zE<|uA 1 266 2 ?_
  obtain⟨h1,H⟩|⟨h1,H⟩:=bC H
  ·refine nA h1<|Tr.exit<|aJ ?_
   cases H
   exact jA () Ho2 [] []
  refine tA h1<|tK<|tS<|tB<|rA 2<|bE H fun r3 er3 H=>vA [.rd,.rd] (zAT n x0 y1 r3 er3)<|lA 1 ?_
  obtain⟨h2,H⟩|⟨h2,H⟩:=bC H
  ·exact qL 16394 2 [14] h2<|uA 11 33554442 2<|nB_<|tK<|eA 3 10 2<|jB mo2 (wI (y1+1)) H [3,1] [1]
  refine qL 16394 2 [14] h2<|lA 2<|bE H fun r4 er4 H=>vA [.rd,.rd,.rd] (zIK n x0 y1 false r4 er4)<|lA 2 ?_
  obtain⟨h3,H⟩|⟨h3,H⟩:=bC H
  ·refine qL 540682 2 [19] h3<|lA 2<|bE H fun r5 er5 H=>vA [.rd,.rd,.rd] (zIK n x0 y1 true r5 er5)<|uA 3 33554442 2 ?_
   obtain⟨h4,H⟩|⟨h4,H⟩:=bC H
   ·exact nA h4<|tK<|eA 3 10 2<|jB mo2 (wI (y1+1)) H [3,1] [1]
   refine tA h4<|gA 1 4 0<|te ?_
   cases H
   exact fF Ho2
  refine qL 540682 2 [19] h3<|uA 6 33554442 2<|tB_<|gA 1 4 0<|te ?_
  cases H
  exact fF Ho2
 rintro _ H
 have H:(zCn n)=some r:=H
 unfold zCn at H
 exact gA 1 4 0<|te (fT H)
def zCy(n:Nat)(x0:Int)(x1:(List Pt))(x2:Int):Option (Int):=
  ((ql n x2 0 (wI ((x1.length:Int)-1))).bind fun r1=>(bif (!r1)then(some 4)else((idx x1 x2).bind fun v2=>(bif (!v2.Up)then(some 4)else((Jn n x0 x1).bind fun r3=>(bif (r3.2==x2)then(some 1)else((idx x1 x2).bind fun v4=>(bif (!v4.Has)then(some 2)else((zBi n x0 x1 x2).bind fun r5=>((idx x1 x2).bind fun v6=>((zBt n r5 v6.Hd).bind fun r7=>(bif r7 then(some 2)else(some 3)))))))))))))
def zTK:Tab:=⟨19,[0,0,3,4,8,16,32,64,64,64,960,64,64,6208,8256,16448,33856,65600,196608],[0,0,3,4,8,16,32,64,64,64,960,64,64,6208,8256,16448,33856,65600,131072],[0,0,3,7,15,31,63,127,127,127,1023,127,127,6271,14463,30847,65535,131071,262143]⟩
theorem zDD:qb (rg Tryz.f130 6) zTK=true:=kr
theorem zOd(n:Nat)(x0:Int)(x1:(List Pt))(x2:Int)(r:Int)(H:zCy n x0 x1 x2=some r):zb Tryz.prog 130 [.val false [.lit (.int .i64 x0)],.val false [.sl false 8 (zQ (x1.map zJ))],.val false [.lit (.int .i64 x2)]] [.val false [.lit (.int .i64 r)]] []:=by
 refine cW Tryz.func130 (fun g d=>sl [g 0,sl [g 1] (cn 22 (sl [g 2] .ret) .skip),g 3,.block 0 (sl [g 4] (cn 29 (sl [g 5] .ret) (sl [d 6] (cn 33 (sl [g 7] .ret) .skip)))),g 8] .ret) [.tmp 6] fun cx=>?_
 unfold zCy at H
 refine gA 1 7 0<|tS<|rA 2<|kF x1 zJ<|lA 1<|bE H fun r1 er1 H=>vA [.rd,.rd,.rd] (Ys n x2 0 (wI ((x1.length:Int)-1)) r1 er1)<|lA 2 ?_
 obtain⟨h1,H⟩|⟨h1,H⟩:=bC H
 ·refine qL 32775 0 [15] h1<|lA 2<|bE H fun v2 ev2 H=>iA zJ ev2<|uA 4 4194311 0 ?_
  obtain⟨h2,H⟩|⟨h2,H⟩:=bC H
  ·refine nA h2<|tK<|rA 2<|bE H fun r3 er3 H=>vA [.rd,.rd] (zES n x0 x1 r3 er3)<|LAt.movT tOk (ty:=86) (t:=26) (d:=23) (g:=none) [(true,(zj r3.1)),(false,[cI r3.2])] _ kr (.inl rfl) kr kr kr kr rfl<|uA 5 263 0<|tS<|tB<|gA 4 536870919 0 ?_
   obtain⟨h3,H⟩|⟨h3,H⟩:=bC H
   ·refine nA h3<|bE H fun v4 ev4 H=>sT ⟨52,0,[sB 29 (r3.2==x2),sI 0 x0,sC 1 (cF 8 x1 zJ),sI 2 x2],[]⟩ ?_
    cases h4:(!v4.Has)
    ·have H:=YA h4 H
     refine bE H fun r5 er5 H=>bE H fun v6 ev6 H=>bE H fun r7 er7 H=>zd zr 19 kr ⟨52,0,[sB 33 r7],[]⟩ (fun cx=>?_) ?_
     ·exact mA zDD [(0,[]),(1,[])] 17 [] fun cx=>iN zDD 2 zJ ev4 fun cx=>mA zDD (zl [3,4,5,6]) 12 [] fun cx=>qA 1099511627783 0 [40] h4<|mA zDD (zl [7,8,9,11,12]) 7 [] fun cx=>iN zDD 13 zJ ev6 fun cx=>mA zDD [(14,[]),(15,[])] 4 [] fun cx=>mC zDD 10<|vA [.rd,.rd,.rd] (zKK n x0 x1 x2 r5 er5)<|fA<|mC zDD 16<|vA [.rd,.rd] (zIx n r5 v6.Hd r7 er7)<|fA<|mA zDD [(17,[]),(18,[])] 0 [] fun cx=>mE zDD [33] []
     cases h5:r7
     ·have H:=YA h5 H
      exact nB_<|tK<|gA 1 64 0<|te (fJ [(false,[cI 3])] H)
     have H:=YB h5 H
     exact tB_<|gA 1 64 0<|te (fJ [(false,[cI 2])] H)
    have H:=YB h4 H
    refine zd zr 19 kr ⟨52,0,[sB 33 true],[]⟩ (fun cx=>?_) ?_
    ·exact mA zDD [(0,[]),(1,[])] 17 [] fun cx=>iN zDD 2 zJ ev4 fun cx=>mA zDD (zl [3,4,5,6]) 12 [] fun cx=>qA 1099511627783 0 [40] h4<|mA zDD (zl [7,8,9,10,11,12,13,14,15,16,17,18]) 0 [] fun cx=>mE zDD [33] []
    exact tB_<|gA 1 64 0<|te (fJ [(false,[cI 2])] H)
   exact tA h3<|gA 1 64 0<|te (fJ [(false,[cI 1])] H)
  exact tA h2<|gA 1 64 0<|te (fJ [(false,[cI 4])] H)
 exact qL 32775 0 [15] h1<|uA 7 4194311 0<|tB_<|gA 1 64 0<|te (fJ [(false,[cI 4])] H)
def zDY(n:Nat)(y3:Int):Option (Int):=
  (some y3)
def Qj(n:Nat):Nat→Int→(List Pt)→Int→Int→Option ((Int)⊕(Int))
  |0,_,_,_,_=>none
  |mo4+1,x0,x1,y1,y2=>(bif (decide (y1<(x1.length:Int)))then(bif (decide (y1<6))then((zCy n x0 x1 y1).bind fun r5=>(bif (r5==1)then(bif (decide ((0:Int)≤y1))then(Qj n mo4 x0 x1 (wI (y1+1)) (wI (bO y2 ||| bO (wI (1*2^min ((y1:Int)).toNat (IntKind.bits .i64)))).toNat))else none)else(bif (r5==2)then(bif (decide ((0:Int)≤y1))then(Qj n mo4 x0 x1 (wI (y1+1)) (wI (bO y2 ||| bO (wI (1*2^min ((y1:Int)).toNat (IntKind.bits .i64)))).toNat))else none)else(Qj n mo4 x0 x1 (wI (y1+1)) y2))))else(some (Sum.inl y2)))else(some (Sum.inl y2)))
def zBS(n:Nat)(x0:Int)(x1:(List Pt)):Option (Int):=
  ((Qj n n x0 x1 0 0).bind fun o=>match o with|.inl y3=>(zDY n y3)|.inr r=>some r)
theorem zPd(n:Nat)(x0:Int)(x1:(List Pt))(r:Int)(H:zBS n x0 x1=some r):zb Tryz.prog 94 [.val false [.lit (.int .i64 x0)],.val false [.sl false 8 (zQ (x1.map zJ))]] [.val false [.lit (.int .i64 r)]] []:=by
 refine cW Tryz.func94 (fun g d=>sl [g 0,g 1,sl [g 2] (.block 0 (.loop (sl [sl [g 3] (cn 15 .skip (.exit 0)),.block 1 (sl [g 5,g 6] (cn 27 (g 7) .skip))] (g 4)))),g 8] .ret) [.tmp 4] fun cx=>?_
 unfold zBS at H
 refine gA 1 3 0<|gA 1 35 0<|tS<|gA 1 99 0 ?_
 obtain⟨o4,eo4,Ho4⟩:=bs H
 clear H
 refine zt (ι:=Int) (fun v=>⟨33,0,[sI 5 v],[]⟩) (fun v=>zDY n v=some r) ?_ ?_
 ·refine tB<|Tr.loop (ι:=Nat×(Int×Int)) (fun v=>⟨33,0,[sI 6 v.2.1,sI 5 v.2.2,sI 0 x0,sC 1 (cF 8 x1 zJ)],[]⟩) (fun v=>Qj n v.1 x0 x1 v.2.1 v.2.2=some o4) (fun v=>v.1) (n,(0,0)) eo4 (za [6,5,0,1] [] kr) ?_
  rintro⟨_|mo4,y1,y2⟩ H
  ·exact nN H
  have H:Qj n (mo4+1) x0 x1 y1 y2=some o4:=H
  rw[Qj]at H
  refine tS<|rA 2<|kF x1 zJ<|lA 2 ?_
  obtain⟨h1,H⟩|⟨h1,H⟩:=bC H
  ·refine qL 4195 0 [12] h1<|uA 3 32867 0<|nB_<|Tr.exit<|aJ ?_
   cases H
   exact jA y2 Ho4 [5] []
  refine qL 4195 0 [12] h1<|uA 3 32867 0 ?_
  obtain⟨h2,H⟩|⟨h2,H⟩:=bC H
  ·refine nA h2<|Tr.exit<|aJ ?_
   cases H
   exact jA y2 Ho4 [5] []
  refine tA h2<|tK<|tS<|tB<|rA 3<|bE H fun r5 er5 H=>vA [.rd,.rd,.rd] (zOd n x0 x1 y1 r5 er5)<|uA 1 227 0<|rA 3 ?_
  obtain⟨h3,H⟩|⟨h3,H⟩:=bC H
  ·refine qL 16777443 0 [24] h3<|uA 3 134217827 0 ?_
   obtain⟨h4,H⟩|⟨h4,H⟩:=bC H
   ·exact nA h4<|tK<|eA 3 99 0<|jB mo4 ((wI (y1+1)),y2) H [6,5,0,1] []
   exact tA h4<|Tr.at<|lA 2<|gE H fun hg6 H=>Ym tOk (op:=.shl) (t:=3) (ty:=3) (ty':=3) (x:=(.const (.int .i64 1))) (y:=(.tmp 29)) (d:=30) (g:=none) (.int .i64 1) (.int .i64 y1) (.int .i64 (wI (1*2^min ((y1:Int)).toNat (IntKind.bits .i64)))) _ kr kr kr kr kr (φ:=(0:Int)≤y1) kr (of_decide_eq_true hg6) rfl<|uA 2 99 0<|eA 3 99 0<|jB mo4 ((wI (y1+1)),(wI (bO y2 ||| bO (wI (1*2^min ((y1:Int)).toNat (IntKind.bits .i64)))).toNat)) H [6,5,0,1] []
  exact qL 16777443 0 [24] h3<|uA 3 134217827 0<|tB_<|Tr.at<|lA 2<|gE H fun hg7 H=>Ym tOk (op:=.shl) (t:=3) (ty:=3) (ty':=3) (x:=(.const (.int .i64 1))) (y:=(.tmp 29)) (d:=30) (g:=none) (.int .i64 1) (.int .i64 y1) (.int .i64 (wI (1*2^min ((y1:Int)).toNat (IntKind.bits .i64)))) _ kr kr kr kr kr (φ:=(0:Int)≤y1) kr (of_decide_eq_true hg7) rfl<|uA 2 99 0<|eA 3 99 0<|jB mo4 ((wI (y1+1)),(wI (bO y2 ||| bO (wI (1*2^min ((y1:Int)).toNat (IntKind.bits .i64)))).toNat)) H [6,5,0,1] []
 rintro y3 H
 have H:(zDY n y3)=some r:=H
 unfold zDY at H
 exact gA 2 16 0<|te (fJ [(false,[cI y3])] H)
def YO(n:Nat)(x0:Int)(x1:Int):Option (Bool):=
  ((ql n x1 0 62).bind fun r1=>(bif r1 then(bif (decide ((0:Int)≤x1))then(some ((wI (bO (Int.fdiv x0 (2^min ((x1:Int)).toNat (IntKind.bits .i64)))&&&bO 1).toNat)==1))else none)else(some false)))
theorem zNp(n:Nat)(x0:Int)(x1:Int)(r:Bool)(H:YO n x0 x1=some r):zb Tryz.prog 93 [.val false [.lit (.int .i64 x0)],.val false [.lit (.int .i64 x1)]] [.val false [.lit (.bool r)]] []:=by
 refine cW Tryz.func93 (fun g d=>sl [g 0,g 1] .ret) [.tmp 4] fun cx=>?_
 unfold YO at H
 refine gA 1 3 0<|rA 1<|bE H fun r1 er1 H=>vA [.rd,.rd,.rd] (Ys n x1 0 62 r1 er1)<|lA 1 ?_
 obtain⟨h1,H⟩|⟨h1,H⟩:=bC H
 ·exact qL 131 0 [7] h1<|uA 7 16 0<|te (fF H)
 exact qL 131 0 [7] h1<|lA 2<|gE H fun hg2 H=>Ym tOk (op:=.shr) (t:=3) (ty:=3) (ty':=3) (x:=(.tmp 8)) (y:=(.tmp 9)) (d:=10) (g:=(some (2,true))) (.int .i64 x0) (.int .i64 x1) (.int .i64 (Int.fdiv x0 (2^min ((x1:Int)).toNat (IntKind.bits .i64)))) _ kr kr kr kr kr (φ:=(0:Int)≤x1) kr (of_decide_eq_true hg2) rfl<|uA 4 16 0<|te (fJ [(false,[cB ((wI (bO (Int.fdiv x0 (2^min ((x1:Int)).toNat (IntKind.bits .i64)))&&&bO 1).toNat)==1)])] H)
def zAs(n:Nat)(x0:Net)(x1:Int)(x2:Int):Option (Bool):=
  ((idx x0.Bs x1).bind fun v1=>((idx x0.Bs x1).bind fun v2=>((zBS n v1.Id v2.Ps).bind fun r3=>((YO n r3 x2).bind fun r4=>(some r4)))))
def zUH:Tab:=⟨16,[0,1,0,6,8,16,0,64,0,384,512,1024,2080,0,12288,32767],[0,1,0,6,8,16,0,64,0,384,512,1024,2080,0,12288,16384],[0,1,0,7,15,31,0,64,0,448,960,1984,4095,0,16383,32767]⟩
theorem zKe:qb (rg Tryz.f54 1) zUH=true:=kr
theorem zI0(n:Nat)(x0:Net)(x1:Int)(x2:Int)(r:Bool)(H:zAs n x0 x1 x2=some r):zb Tryz.prog 54 [.val true (fR (zD x0)),.val false [.lit (.int .i64 x1)],.val false [.lit (.int .i64 x2)]] [.val false [.lit (.bool r)]] []:=by
 refine cW Tryz.func54 (fun g d=>sl [g 0,d 1] .ret) [.tmp 6] fun cx=>?_
 unfold zAs at H
 refine gA 2 14 8<|bE H fun v1 ev1 H=>bE H fun v2 ev2 H=>bE H fun r3 er3 H=>bE H fun r4 er4 H=>zd zr 16 kr ⟨22,0,[sB 6 r4],[]⟩ (fun cx=>?_) ?_
 ·exact mA zKe [(0,[]),(1,[12,14]),(2,[])] 13 [⟨[12,14],24,7,8⟩] fun cx=>iN zKe 3 zB ev1 fun cx=>mA zKe (zl [4,5,6]++[(7,[12,14]),(8,[])]) 7 [⟨[12,14],24,13,14⟩,⟨[12,14],24,7,8⟩] fun cx=>iN zKe 9 zB ev2 fun cx=>mA zKe (zl [10,11,13]) 3 [⟨[12,14],24,13,14⟩,⟨[12,14],24,7,8⟩] fun cx=>mC zKe 12<|vA [.rd,.rd] (zPd n v1.Id v2.Ps r3 er3)<|fA<|mC zKe 14<|vA [.rd,.rd] (zNp n r3 x2 r4 er4)<|fA<|mA zKe [(15,[])] 0 [⟨[12,14],24,13,14⟩,⟨[12,14],24,7,8⟩] fun cx=>mE zKe [6] []
 exact te (fJ [(false,[cB r4])] H)
def zET(n:Nat)(y3:(List Int)):Option ((List Int)):=
  (some y3)
def Ja(n:Nat)(k:(Int×(List Int)→Option (((List Int))⊕((List Int)))))(y1:Int)(y2:(List Int))(y6:Bool):Option (((List Int))⊕((List Int))):=
  (bif y6 then(bif (decide (y2.length+ [y1].length≤268435456))then(k ((wI (y1+1)),(y2++[y1])))else none)else(k ((wI (y1+1)),y2)))
def Zf(n:Nat):Nat→Net→Int→(List Int)→Option (((List Int))⊕((List Int)))
  |0,_,_,_=>none
  |mo4+1,x0,y1,y2=>(bif (decide (y1<(x0.Ls.length:Int)))then((idx x0.Ls y1).bind fun v5=>((qD n x0 y1).bind fun r8=>(bif r8 then((zAs n x0 v5.A v5.P).bind fun r9=>(bif r9 then((zAs n x0 v5.B v5.Q).bind fun r10=>(Ja n (fun v=>Zf n mo4 x0 v.1 v.2) y1 y2 r10))else(Ja n (fun v=>Zf n mo4 x0 v.1 v.2) y1 y2 false)))else(Ja n (fun v=>Zf n mo4 x0 v.1 v.2) y1 y2 false))))else(some (Sum.inl y2)))
def Yj(n:Nat)(x0:Net):Option ((List Int)):=
  ((Zf n n x0 0 ([]:List Int)).bind fun o=>match o with|.inl y3=>(zET n y3)|.inr r=>some r)
theorem zDo(n:Nat)(x0:Net)(r:(List Int))(H:Yj n x0=some r):zb Tryz.prog 15 [.val true (fR (zD x0))] [.val false [.sl true 1 (r.map zC)]] []:=by
 refine cW Tryz.func15 (fun g d=>sl [g 0,g 1,sl [g 2] (.block 0 (.loop (sl [g 3,cn 10 .skip (.exit 0),.block 1 (sl [g 4,g 5] (cn 32 (g 6) .skip))] (g 7)))),g 8] .ret) [.tmp 2] fun cx=>?_
 unfold Yj at H
 refine gA 2 2 2<|gA 1 10 2<|tS<|rA 2<|kF x0.Ls zE<|uA 1 906 2 ?_
 obtain⟨o4,eo4,Ho4⟩:=bs H
 clear H
 refine zt (ι:=(List Int)) (fun v=>⟨39,0,[sC 3 (cL 1 v zC)],[]⟩) (fun v=>zET n v=some r) ?_ ?_
 ·refine tB<|Tr.loop (ι:=Nat×(Int×(List Int))) (fun v=>⟨39,0,[sI 9 v.2.1,sI 8 (x0.Ls.length:Int),sC 7 (cF 4 x0.Ls zE),sC 3 (cL 1 v.2.2 zC),sA 1 1 3 0],[(1,(fR (zD x0)))]⟩) (fun v=>Zf n v.1 x0 v.2.1 v.2.2=some o4) (fun v=>v.1) (n,(0,([]:List Int))) eo4 (za [9,8,7,3,1] [1] kr) ?_
  rintro⟨_|mo4,y1,y2⟩ H
  ·exact nN H
  have H:Zf n (mo4+1) x0 y1 y2=some o4:=H
  rw[Zf]at H
  refine gA 1 1930 2<|tS ?_
  obtain⟨h1,H⟩|⟨h1,H⟩:=bC H
  ·refine nA h1<|Tr.exit<|aJ ?_
   cases H
   exact jA y2 Ho4 [3] []
  refine tA h1<|tK<|tS<|tB<|rA 1<|bE H fun v5 ev5 H=>iA zE ev5<|uA 4 954 34<|tS<|zt (ι:=Bool) (fun v=>⟨39,0,[sB 32 v,sI 4 y1,sI 9 y1,sI 8 (x0.Ls.length:Int),sC 7 (cF 4 x0.Ls zE),sC 3 (cL 1 y2 zC),sA 1 1 3 0],[(1,(fR (zD x0)))]⟩) (fun v=>Ja n (fun v=>Zf n mo4 x0 v.1 v.2) y1 y2 v=some o4) ?_ ?_
  ·refine Tr.at<|lA 2<|bE H fun r8 er8 H=>vA [.rd,.rd] (zDv n x0 y1 r8 er8)<|lA 1 ?_
   obtain⟨h3,H⟩|⟨h3,H⟩:=bC H
   ·exact qL 132026 34 [17] h3<|uA 15 4294968218 2<|jA false H [32,4,9,8,7,3,1] [1]
   refine qL 132026 34 [17] h3<|lA 5<|bE H fun r9 er9 H=>vA [.rd,.rd,.rd] (zI0 n x0 v5.A v5.P r9 er9)<|lA 2 ?_
   obtain⟨h4,H⟩|⟨h4,H⟩:=bC H
   ·exact qL 33555386 34 [25] h4<|uA 7 4294968218 2<|jA false H [32,4,9,8,7,3,1] [1]
   exact qL 33555386 34 [25] h4<|lA 5<|bE H fun r10 er10 H=>vA [.rd,.rd,.rd] (zI0 n x0 v5.B v5.Q r10 er10)<|uA 1 4294968218 2<|jA r10 H [32,4,9,8,7,3,1] [1]
  rintro y6 H
  have H:(Ja n (fun v=>Zf n mo4 x0 v.1 v.2) y1 y2 y6)=some o4:=H
  unfold Ja at H
  cases h2:y6
  ·have H:=YA h2 H
   exact nB_<|tK<|eA 2 906 2<|jB mo4 ((wI (y1+1)),y2) H [9,8,7,3,1] [1]
  have H:=YB h2 H
  exact tB_<|Tr.at<|lA 3<|gE H fun hg7 H=>qO tOk (t:=30) (ty:=30) (e:=3) (x:=(.tmp 33)) (y:=(.tmp 35)) (d:=36) (g:=none) (tI 3) zC y2 [y1] kr kr kr kr kr kr kr kr kr kr hg7<|zY (T:=lk tab) (ty:=30) (x:=(.tmp 36)) (d:=3) (g:=none) false [cL 1 (y2++[y1]) zC] kr kr kr kr kr<|dA 906 2<|eA 2 906 2<|jB mo4 ((wI (y1+1)),(y2++[y1])) H [9,8,7,3,1] [1]
 rintro y3 H
 have H:(zET n y3)=some r:=H
 unfold zET at H
 exact gA 2 12 0<|te (fJ [(false,[cL 1 y3 zC])] H)
def zAE(n:Nat)(x0:Net)(x1:Int)(x2:Int):Option (Bool):=
  ((idx x0.Bs x1).bind fun v1=>((idx x0.Bs x1).bind fun v2=>((Zs n v1.Id v2.Ps).bind fun r3=>((Jl n r3 x2).bind fun r4=>(some r4)))))
def zUI:Tab:=⟨16,[0,1,0,6,8,16,0,64,0,384,512,1024,2080,0,12288,32767],[0,1,0,6,8,16,0,64,0,384,512,1024,2080,0,12288,16384],[0,1,0,7,15,31,0,64,0,448,960,1984,4095,0,16383,32767]⟩
theorem zKf:qb (rg Tryz.f55 1) zUI=true:=kr
theorem zIM(n:Nat)(x0:Net)(x1:Int)(x2:Int)(r:Bool)(H:zAE n x0 x1 x2=some r):zb Tryz.prog 55 [.val true (fR (zD x0)),.val false [.lit (.int .i64 x1)],.val false [.lit (.int .i64 x2)]] [.val false [.lit (.bool r)]] []:=by
 refine cW Tryz.func55 (fun g d=>sl [g 0,d 1] .ret) [.tmp 6] fun cx=>?_
 unfold zAE at H
 refine gA 2 14 8<|bE H fun v1 ev1 H=>bE H fun v2 ev2 H=>bE H fun r3 er3 H=>bE H fun r4 er4 H=>zd zr 16 kr ⟨22,0,[sB 6 r4],[]⟩ (fun cx=>?_) ?_
 ·exact mA zKf [(0,[]),(1,[12,14]),(2,[])] 13 [⟨[12,14],24,7,8⟩] fun cx=>iN zKf 3 zB ev1 fun cx=>mA zKf (zl [4,5,6]++[(7,[12,14]),(8,[])]) 7 [⟨[12,14],24,13,14⟩,⟨[12,14],24,7,8⟩] fun cx=>iN zKf 9 zB ev2 fun cx=>mA zKf (zl [10,11,13]) 3 [⟨[12,14],24,13,14⟩,⟨[12,14],24,7,8⟩] fun cx=>mC zKf 12<|vA [.rd,.rd] (zMJ n v1.Id v2.Ps r3 er3)<|fA<|mC zKf 14<|vA [.rd,.rd] (zMN n r3 x2 r4 er4)<|fA<|mA zKf [(15,[])] 0 [⟨[12,14],24,13,14⟩,⟨[12,14],24,7,8⟩] fun cx=>mE zKf [6] []
 exact te (fJ [(false,[cB r4])] H)
def zEX(n:Nat)(y3:(List Int)):Option ((List Int)):=
  (some y3)
def Jd(n:Nat)(k:(Int×(List Int)→Option (((List Int))⊕((List Int)))))(y1:Int)(y2:(List Int))(y6:Bool):Option (((List Int))⊕((List Int))):=
  (bif y6 then(bif (decide (y2.length+ [y1].length≤268435456))then(k ((wI (y1+1)),(y2++[y1])))else none)else(k ((wI (y1+1)),y2)))
def Zg(n:Nat):Nat→Net→Int→(List Int)→Option (((List Int))⊕((List Int)))
  |0,_,_,_=>none
  |mo4+1,x0,y1,y2=>(bif (decide (y1<(x0.Ls.length:Int)))then((idx x0.Ls y1).bind fun v5=>((qV n x0 y1).bind fun r8=>(bif r8 then((zAE n x0 v5.A v5.P).bind fun r9=>(bif r9 then((zAE n x0 v5.B v5.Q).bind fun r10=>(Jd n (fun v=>Zg n mo4 x0 v.1 v.2) y1 y2 r10))else(Jd n (fun v=>Zg n mo4 x0 v.1 v.2) y1 y2 false)))else(Jd n (fun v=>Zg n mo4 x0 v.1 v.2) y1 y2 false))))else(some (Sum.inl y2)))
def Yl(n:Nat)(x0:Net):Option ((List Int)):=
  ((Zg n n x0 0 ([]:List Int)).bind fun o=>match o with|.inl y3=>(zEX n y3)|.inr r=>some r)
theorem zDr(n:Nat)(x0:Net)(r:(List Int))(H:Yl n x0=some r):zb Tryz.prog 16 [.val true (fR (zD x0))] [.val false [.sl true 1 (r.map zC)]] []:=by
 refine cW Tryz.func16 (fun g d=>sl [g 0,g 1,sl [g 2] (.block 0 (.loop (sl [sl [g 3] (cn 11 .skip (.exit 0)),.block 1 (sl [g 5,g 6] (cn 37 (g 7) .skip))] (g 4)))),g 8] .ret) [.tmp 2] fun cx=>?_
 unfold Yl at H
 refine gA 2 2 2<|rA 1<|zY (T:=lk tab) (ty:=30) (x:=(.tmp 6)) (d:=3) (g:=none) false [cL 1 ([]:List Int) zC] kr kr kr kr kr<|dA 10 2<|tS<|gA 1 26 2 ?_
 obtain⟨o4,eo4,Ho4⟩:=bs H
 clear H
 refine zt (ι:=(List Int)) (fun v=>⟨43,0,[sC 3 (cL 1 v zC)],[]⟩) (fun v=>zEX n v=some r) ?_ ?_
 ·refine tB<|Tr.loop (ι:=Nat×(Int×(List Int))) (fun v=>⟨43,0,[sI 4 v.2.1,sC 3 (cL 1 v.2.2 zC),sA 1 1 3 0],[(1,(fR (zD x0)))]⟩) (fun v=>Zg n v.1 x0 v.2.1 v.2.2=some o4) (fun v=>v.1) (n,(0,([]:List Int))) eo4 (za [4,3,1] [1] kr) ?_
  rintro⟨_|mo4,y1,y2⟩ H
  ·exact nN H
  have H:Zg n (mo4+1) x0 y1 y2=some o4:=H
  rw[Zg]at H
  refine tS<|rA 3<|kF x0.Ls zE<|uA 1 2074 2 ?_
  obtain⟨h1,H⟩|⟨h1,H⟩:=bC H
  ·refine nA h1<|Tr.exit<|aJ ?_
   cases H
   exact jA y2 Ho4 [3] []
  refine tA h1<|tK<|tS<|tB<|rA 3<|bE H fun v5 ev5 H=>iA zE ev5<|uA 3 58 34<|tS<|zt (ι:=Bool) (fun v=>⟨43,0,[sB 37 v,sI 4 y1,sC 3 (cL 1 y2 zC),sA 1 1 3 0],[(1,(fR (zD x0)))]⟩) (fun v=>Jd n (fun v=>Zg n mo4 x0 v.1 v.2) y1 y2 v=some o4) ?_ ?_
  ·refine Tr.at<|lA 2<|bE H fun r8 er8 H=>vA [.rd,.rd] (zAT n x0 y1 r8 er8)<|lA 1 ?_
   obtain⟨h3,H⟩|⟨h3,H⟩:=bC H
   ·exact qL 4194362 34 [22] h3<|uA 15 137438953498 2<|jA false H [37,4,3,1] [1]
   refine qL 4194362 34 [22] h3<|lA 5<|bE H fun r9 er9 H=>vA [.rd,.rd,.rd] (zIM n x0 v5.A v5.P r9 er9)<|lA 2 ?_
   obtain⟨h4,H⟩|⟨h4,H⟩:=bC H
   ·exact qL 1073741882 34 [30] h4<|uA 7 137438953498 2<|jA false H [37,4,3,1] [1]
   exact qL 1073741882 34 [30] h4<|lA 5<|bE H fun r10 er10 H=>vA [.rd,.rd,.rd] (zIM n x0 v5.B v5.Q r10 er10)<|uA 1 137438953498 2<|jA r10 H [37,4,3,1] [1]
  rintro y6 H
  have H:(Jd n (fun v=>Zg n mo4 x0 v.1 v.2) y1 y2 y6)=some o4:=H
  unfold Jd at H
  cases h2:y6
  ·have H:=YA h2 H
   exact nB_<|tK<|eA 3 26 2<|jB mo4 ((wI (y1+1)),y2) H [4,3,1] [1]
  have H:=YB h2 H
  exact tB_<|Tr.at<|lA 3<|gE H fun hg7 H=>qO tOk (t:=30) (ty:=30) (e:=3) (x:=(.tmp 38)) (y:=(.tmp 40)) (d:=41) (g:=none) (tI 3) zC y2 [y1] kr kr kr kr kr kr kr kr kr kr hg7<|zY (T:=lk tab) (ty:=30) (x:=(.tmp 41)) (d:=3) (g:=none) false [cL 1 (y2++[y1]) zC] kr kr kr kr kr<|dA 26 2<|eA 3 26 2<|jB mo4 ((wI (y1+1)),(y2++[y1])) H [4,3,1] [1]
 rintro y3 H
 have H:(zEX n y3)=some r:=H
 unfold zEX at H
 exact gA 2 12 0<|te (fJ [(false,[cL 1 y3 zC])] H)
def zBa(n:Nat):Option (Bool):=
  (some true)
def YD(n:Nat):Nat→(List Int)→(List Int)→Int→Option ((Unit)⊕(Bool))
  |0,_,_,_=>none
  |mo2+1,x0,x1,y1=>(bif (decide (y1<(x0.length:Int)))then((idx x0 y1).bind fun v3=>((idx x1 y1).bind fun v4=>(bif (v3 != v4)then(some (Sum.inr false))else(YD n mo2 x0 x1 (wI (y1+1))))))else(some (Sum.inl ())))
def qM(n:Nat)(x0:(List Int))(x1:(List Int)):Option (Bool):=
  (bif ((x0.length:Int) != (x1.length:Int))then(some false)else((YD n n x0 x1 0).bind fun o=>match o with|.inl _=>(zBa n)|.inr r=>some r))
theorem ZS(n:Nat)(x0:(List Int))(x1:(List Int))(r:Bool)(H:qM n x0 x1=some r):zb Tryz.prog 14 [.val false [.sl false 1 (zQ (x0.map zC))],.val false [.sl false 1 (zQ (x1.map zC))]] [.val false [.lit (.bool r)]] []:=by
 refine cW Tryz.func14 (fun g d=>sl [g 0,sl [g 1] (cn 10 (sl [g 2] .ret) .skip),sl [g 3] (.block 0 (.loop (sl [sl [g 4] (cn 14 .skip (.exit 0)),.block 1 (sl [d 6] (cn 25 (sl [g 7] .ret) .skip))] (g 5)))),g 8] .ret) [.tmp 4] fun cx=>?_
 unfold qM at H
 refine gA 1 3 0<|tS<|rA 1<|kF x0 zC<|lA 1<|kF x1 zC<|uA 1 1027 0 ?_
 obtain⟨h1,H⟩|⟨h1,H⟩:=bC H
 ·refine nA h1<|tK<|tS<|gA 1 35 0 ?_
  obtain⟨o2,eo2,Ho2⟩:=bs H
  clear H
  refine zt (ι:=Unit) (fun v=>⟨26,0,[],[]⟩) (fun v=>zBa n=some r) ?_ ?_
  ·refine tB<|Tr.loop (ι:=Nat×(Int)) (fun v=>⟨26,0,[sI 5 v.2,sC 0 (cF 1 x0 zC),sC 1 (cF 1 x1 zC)],[]⟩) (fun v=>YD n v.1 x0 x1 v.2=some o2) (fun v=>v.1) (n,0) eo2 (za [5,0,1] [] kr) ?_
   rintro⟨_|mo2,y1⟩ H
   ·exact nN H
   have H:YD n (mo2+1) x0 x1 y1=some o2:=H
   rw[YD]at H
   refine tS<|rA 2<|kF x0 zC<|uA 1 16419 0 ?_
   obtain⟨h2,H⟩|⟨h2,H⟩:=bC H
   ·refine nA h2<|Tr.exit<|aJ ?_
    cases H
    exact jA () Ho2 [] []
   refine tA h2<|tK<|tS<|tB<|bE H fun v3 ev3 H=>bE H fun v4 ev4 H=>zd zr 9 kr ⟨26,0,[sB 25 (v3 != v4),sI 5 y1,sC 0 (cF 1 x0 zC),sC 1 (cF 1 x1 zC)],[]⟩ (fun cx=>?_) ?_
   ·refine aA [(0,[]),(1,[])] 7 [] fun cx=>aI tOk 2 30 0 17 18 19 none ⟨(.slot 17),[],0,false,1,(zQ (x0.map zC))⟩ y1 [cI v3] _ kr kr kr kr kr kr rfl (zCa ev3) rfl (fun cx=>?_)
    refine aA (zl [3,4,5]) 3 [] fun cx=>aI tOk 6 30 0 21 22 23 none ⟨(.slot 21),[],0,false,1,(zQ (x1.map zC))⟩ y1 [cI v4] _ kr kr kr kr kr kr rfl (zCa ev4) rfl (fun cx=>?_)
    exact aA [(7,[]),(8,[])] 0 [] fun cx=>eE [25,5,0,1] []
   obtain⟨h3,H⟩|⟨h3,H⟩:=bC H
   ·exact qT [25] h3<|nB_<|tK<|eA 3 35 0<|jB mo2 (wI (y1+1)) H [5,0,1] []
   refine qT [25] h3<|tB_<|gA 1 16 0<|te ?_
   cases H
   exact fF Ho2
  rintro _ H
  have H:(zBa n)=some r:=H
  unfold zBa at H
  exact gA 1 16 0<|te (fT H)
 exact tA h1<|gA 1 16 0<|te (fF H)
def zBF(n:Nat)(y9:(List Int)):Option ((List Int)):=
  (some y9)
def QE(n:Nat):Nat→(List Bool)→Int→(List Int)→Option (((List Int))⊕((List Int)))
  |0,_,_,_=>none
  |mo10+1,y6,y7,y8=>(bif (decide (y7<(y6.length:Int)))then((idx y6 y7).bind fun v11=>(bif v11 then(bif (decide (y8.length+ [y7].length≤268435456))then(QE n mo10 y6 (wI (y7+1)) (y8++[y7]))else none)else(QE n mo10 y6 (wI (y7+1)) y8)))else(some (Sum.inl y8)))
def J9(n:Nat)(y6:(List Bool)):Option ((List Int)):=
  ((QE n n y6 0 ([]:List Int)).bind fun o=>match o with|.inl y9=>(zBF n y9)|.inr r=>some r)
def zBG(n:Nat)(k:(Bool×(List Bool)→Option (((List Bool))⊕((List Int)))))(y17:Bool)(y18:(List Bool)):Option (((List Bool))⊕((List Int))):=
  (k (y17,y18))
def Qq(n:Nat)(k:(Int×Bool×(List Bool)→Option ((Bool×(List Bool))⊕((List Int)))))(v22:Link)(y14:Int)(y15:Bool)(y16:(List Bool))(y23:Bool):Option ((Bool×(List Bool))⊕((List Int))):=
  (bif y23 then((idx y16 v22.A).bind fun v24=>((idx (y16.set (v22.A.toNat) true) v22.B).bind fun v25=>(k ((wI (y14+1)),true,((y16.set (v22.A.toNat) true).set (v22.B.toNat) true)))))else(k ((wI (y14+1)),y15,y16)))
def ZD(n:Nat):Nat→Net→(List Int)→Int→Bool→(List Bool)→Option ((Bool×(List Bool))⊕((List Int)))
  |0,_,_,_,_,_=>none
  |mo19+1,x0,x2,y14,y15,y16=>(bif (decide (y14<(x2.length:Int)))then((idx x2 y14).bind fun v20=>((ql n v20 0 (wI ((x0.Ls.length:Int)-1))).bind fun r21=>(bif (!r21)then(ZD n mo19 x0 x2 (wI (y14+1)) y15 y16)else((idx x0.Ls v20).bind fun v22=>((ql n v22.A 0 (wI ((y16.length:Int)-1))).bind fun r26=>(bif r26 then((ql n v22.B 0 (wI ((y16.length:Int)-1))).bind fun r27=>(bif r27 then((idx y16 v22.A).bind fun v28=>((idx y16 v22.B).bind fun v29=>(Qq n (fun v=>ZD n mo19 x0 x2 v.1 v.2.1 v.2.2) v22 y14 y15 y16 (!(v28==v29)))))else(Qq n (fun v=>ZD n mo19 x0 x2 v.1 v.2.1 v.2.2) v22 y14 y15 y16 false)))else(Qq n (fun v=>ZD n mo19 x0 x2 v.1 v.2.1 v.2.2) v22 y14 y15 y16 false)))))))else(some (Sum.inl (y15,y16))))
def Qr(n:Nat):Nat→Net→(List Int)→Bool→(List Bool)→Option (((List Bool))⊕((List Int)))
  |0,_,_,_,_=>none
  |mo13+1,x0,x2,y4,y5=>(bif y4 then((ZD n n x0 x2 0 false y5).bind fun o=>match o with|.inl (y17,y18)=>(zBG n (fun v=>Qr n mo13 x0 x2 v.1 v.2) y17 y18)|.inr r=>some (Sum.inr r))else(some (Sum.inl y5)))
def qg(n:Nat)(x0:Net)(x1:Int)(x2:(List Int)):Option ((List Int)):=
  ((ql n x1 0 (wI ((x0.Bs.length:Int)-1))).bind fun r1=>(bif (!r1)then(some ([]:List Int))else(bif (decide (0≤(x0.Bs.length:Int))&&decide ((x0.Bs.length:Int)≤268435456))then((idx (List.replicate ((x0.Bs.length:Int)).toNat false) x1).bind fun v3=>((Qr n n x0 x2 true ((List.replicate ((x0.Bs.length:Int)).toNat false).set (x1.toNat) true)).bind fun o=>match o with|.inl y6=>(J9 n y6)|.inr r=>some r))else none)))
def zTV:Tab:=⟨27,[0,1,0,4,8,18,32,64,192,64,576,1088,2368,4160,12288,16384,16384,81920,180224,278528,16384,16384,2113536,5259264,8404992,17317888,33570816],[0,1,0,4,8,18,32,64,192,64,576,1088,2368,4160,8192,16384,16384,81920,180224,278528,16384,16384,2113536,5259264,8404992,17317888,33570816],[0,1,0,4,12,31,63,127,255,127,639,1663,4095,8191,16383,32767,32767,98303,262143,524287,32767,32767,2129919,7372799,15761407,33554431,67108863]⟩
theorem Zd:qb (rg Tryz.f17 13) zTV=true:=kr
theorem zAO(n:Nat)(x0:Net)(x1:Int)(x2:(List Int))(r:(List Int))(H:qg n x0 x1 x2=some r):zb Tryz.prog 17 [.val true (fR (zD x0)),.val false [.lit (.int .i64 x1)],.val false [.sl false 1 (zQ (x2.map zC))]] [.val false [.sl true 1 (r.map zC)]] []:=by
 refine cW Tryz.func17 (fun g d=>sl [g 0,sl [g 1] (cn 21 (sl [g 2] .ret) .skip),g 3,g 4,sl [g 5] (.block 0 (.loop (sl [sl [g 6] (cn 29 .skip (.exit 0))] (.block 1 (sl [g 7,g 8] (.block 2 (.loop (sl [g 9,cn 33 .skip (.exit 2),.block 3 (sl [g 10,sl [g 11] (cn 42 (.exit 3) .skip),g 12,d 13] (cn 74 (sl [d 14] (g 15)) .skip))] (g 16))))))))),g 17,sl [g 18] (.block 4 (.loop (sl [g 19,cn 87 .skip (.exit 4),.block 5 (sl [g 20,g 21] (cn 91 (g 22) .skip))] (g 23)))),g 24] .ret) [.tmp 6] fun cx=>?_
 unfold qg at H
 refine gA 2 14 8<|tS<|rA 3<|kF x0.Bs zB<|lA 1<|bE H fun r1 er1 H=>vA [.rd,.rd,.rd] (Ys n x1 0 (wI ((x0.Bs.length:Int)-1)) r1 er1)<|uA 1 2097166 8 ?_
 obtain⟨h1,H⟩|⟨h1,H⟩:=bC H
 ·refine nA h1<|tK<|rA 2<|kF x0.Bs zB<|gE H fun hg2 H=>zN4 tOk (t:=78) (ty:=78) (e:=4) (x:=(.tmp 24)) (d:=25) (g:=none) (tI 4) (x0.Bs.length:Int) ((List.replicate ((x0.Bs.length:Int)).toNat false).map qo) _ kr kr kr kr kr kr hg2 kr (zQg _ rfl) rfl<|zY (T:=lk tab) (ty:=78) (x:=(.tmp 25)) (d:=7) (g:=none) false [cL 1 (List.replicate ((x0.Bs.length:Int)).toNat false) qo] kr kr kr kr kr<|dA 142 8<|rA 2<|bE H fun v3 ev3 H=>oA qo ev3<|sS (tI 4) false [cB true] 7 0 (x1.toNat) 1 0 1 qo true (zU ev3).2<|dA 140 8<|tS<|gA 1 396 8 ?_
  obtain⟨o13,eo13,Ho13⟩:=bs H
  clear H
  refine zt (ι:=(List Bool)) (fun v=>⟨98,0,[sC 7 (cL 1 v qo)],[]⟩) (fun v=>J9 n v=some r) ?_ ?_
  ·refine tB<|Tr.loop (ι:=Nat×(Bool×(List Bool))) (fun v=>⟨98,0,[sB 8 v.2.1,sC 7 (cL 1 v.2.2 qo),sA 3 3 3 0,sC 2 (cF 1 x2 zC)],[(3,(fR (zD x0)))]⟩) (fun v=>Qr n v.1 x0 x2 v.2.1 v.2.2=some o13) (fun v=>v.1) (n,(true,((List.replicate ((x0.Bs.length:Int)).toNat false).set (x1.toNat) true))) eo13 (za [8,7,3,2] [3] kr) ?_
   rintro⟨_|mo13,y4,y5⟩ H
   ·exact nN H
   have H:Qr n (mo13+1) x0 x2 y4 y5=some o13:=H
   rw[Qr]at H
   refine tS<|gA 1 536871052 8 ?_
   cases h4:y4
   ·have H:=YA h4 H
    refine nB_<|Tr.exit<|aJ ?_
    cases H
    exact jA y5 Ho13 [7] []
   have H:=YB h4 H
   refine tB_<|tK<|tB<|gA 1 396 8<|rA 1<|kF x2 zC<|uA 1 7516193164 8 ?_
   obtain⟨o19,eo19,Ho19⟩:=bs H
   clear H
   refine zt (ι:=Bool×(List Bool)) (fun v=>⟨98,0,[sB 8 v.1,sC 7 (cL 1 v.2 qo),sA 3 3 3 0,sC 2 (cF 1 x2 zC)],[(3,(fR (zD x0)))]⟩) (fun v=>zBG n (fun v=>Qr n mo13 x0 x2 v.1 v.2) v.1 v.2=some o13) ?_ ?_
   ·refine tB<|Tr.loop (ι:=Nat×(Int×Bool×(List Bool))) (fun v=>⟨98,0,[sI 32 v.2.1,sI 31 (x2.length:Int),sC 30 (cF 1 x2 zC),sB 8 v.2.2.1,sC 7 (cL 1 v.2.2.2 qo),sA 3 3 3 0,sC 2 (cF 1 x2 zC)],[(3,(fR (zD x0)))]⟩) (fun v=>ZD n v.1 x0 x2 v.2.1 v.2.2.1 v.2.2.2=some o19) (fun v=>v.1) (n,(0,false,y5)) eo19 (za [32,31,30,8,7,3,2] [3] kr) ?_
    rintro⟨_|mo19,y14,y15,y16⟩ H
    ·exact nN H
    have H:ZD n (mo19+1) x0 x2 y14 y15 y16=some o19:=H
    rw[ZD]at H
    refine gA 1 16106127756 8<|tS ?_
    obtain⟨h5,H⟩|⟨h5,H⟩:=bC H
    ·refine nA h5<|Tr.exit<|aJ ?_
     cases H
     exact jA (y15,y16) Ho19 [8,7,3,2] [3]
    refine tA h5<|tK<|tS<|tB<|tR<|bE H fun v20 ev20 H=>iA zC ev20<|uA 2 7516194188 8<|tS<|rA 3<|kF x0.Ls zE<|lA 1<|bE H fun r21 er21 H=>vA [.rd,.rd,.rd] (Ys n v20 0 (wI ((x0.Ls.length:Int)-1)) r21 er21)<|uA 1 4405562705292 8 ?_
    obtain⟨h6,H⟩|⟨h6,H⟩:=bC H
    ·refine nA h6<|tK<|rA 3<|bE H fun v22 ev22 H=>iA zE ev22<|uA 3 7516195212 2056<|tS<|zt (ι:=Bool) (fun v=>⟨98,0,[sB 74 v,sA 11 11 4 0,sI 32 y14,sI 31 (x2.length:Int),sC 30 (cF 1 x2 zC),sB 8 y15,sC 7 (cL 1 y16 qo),sA 3 3 3 0,sC 2 (cF 1 x2 zC)],[(11,(zE v22)),(3,(fR (zD x0)))]⟩) (fun v=>Qq n (fun v=>ZD n mo19 x0 x2 v.1 v.2.1 v.2.2) v22 y14 y15 y16 v=some o19) ?_ ?_
     ·refine bE H fun r26 er26 H=>sT ⟨98,0,[sA 11 11 4 0,sI 32 y14,sI 31 (x2.length:Int),sC 30 (cF 1 x2 zC),sB 8 y15,sC 7 (cL 1 y16 qo),sA 3 3 3 0,sC 2 (cF 1 x2 zC)],[(11,(zE v22)),(3,(fR (zD x0)))]⟩ ?_
      cases h8:r26
      ·have H:=YA h8 H
       refine qr zr 27 kr ⟨98,0,[sB 74 false,sA 11 11 4 0,sI 32 y14,sI 31 (x2.length:Int),sC 30 (cF 1 x2 zC),sB 8 y15,sC 7 (cL 1 y16 qo),sA 3 3 3 0,sC 2 (cF 1 x2 zC)],[(11,(zE v22)),(3,(fR (zD x0)))]⟩ (fun cx=>?_) ?_
       ·exact mA Zd [(0,[]),(1,[5]),(2,[])] 24 [⟨[5],3,48,49⟩] fun cx=>kON Zd 3 y16 qo fun cx=>mA Zd [(4,[])] 22 [⟨[5],3,48,49⟩] fun cx=>mC Zd 5<|vA [.rd,.rd,.rd] (Ys n v22.A 0 (wI ((y16.length:Int)-1)) r26 er26)<|fA<|mA Zd [(6,[])] 20 [⟨[5],3,48,49⟩] fun cx=>qA 0x430001c000098c 2056 [54] h8<|mA Zd (zl [7,8,9,10,11,12,13,14,15,16,17,18,19,20,21,22,23,24,25,26]) 0 [⟨[5],3,48,49⟩] fun cx=>mE Zd [74,11,32,31,30,8,7,3,2] [11,3]
       exact jA false H [74,11,32,31,30,8,7,3,2] [11,3]
      have H:=YB h8 H
      refine bE H fun r27 er27 H=>sT ⟨98,0,[sA 11 11 4 0,sI 32 y14,sI 31 (x2.length:Int),sC 30 (cF 1 x2 zC),sB 8 y15,sC 7 (cL 1 y16 qo),sA 3 3 3 0,sC 2 (cF 1 x2 zC)],[(11,(zE v22)),(3,(fR (zD x0)))]⟩ ?_
      cases h9:r27
      ·have H:=YA h9 H
       refine qr zr 27 kr ⟨98,0,[sB 74 false,sA 11 11 4 0,sI 32 y14,sI 31 (x2.length:Int),sC 30 (cF 1 x2 zC),sB 8 y15,sC 7 (cL 1 y16 qo),sA 3 3 3 0,sC 2 (cF 1 x2 zC)],[(11,(zE v22)),(3,(fR (zD x0)))]⟩ (fun cx=>?_) ?_
       ·exact mA Zd [(0,[]),(1,[5,12]),(2,[])] 24 [⟨[5,12],3,48,49⟩] fun cx=>kON Zd 3 y16 qo fun cx=>mA Zd [(4,[])] 22 [⟨[5,12],3,48,49⟩] fun cx=>mC Zd 5<|vA [.rd,.rd,.rd] (Ys n v22.A 0 (wI ((y16.length:Int)-1)) r26 er26)<|fA<|mA Zd [(6,[])] 20 [⟨[5,12],3,48,49⟩] fun cx=>qA 0x430001c000098c 2056 [54] h8<|mA Zd [(7,[]),(8,[12]),(9,[])] 17 [⟨[12],3,55,56⟩,⟨[5,12],3,48,49⟩] fun cx=>kON Zd 10 y16 qo fun cx=>mA Zd [(11,[])] 15 [⟨[12],3,55,56⟩,⟨[5,12],3,48,49⟩] fun cx=>mC Zd 12<|vA [.rd,.rd,.rd] (Ys n v22.B 0 (wI ((y16.length:Int)-1)) r27 er27)<|fA<|mA Zd [(13,[]),(14,[])] 12 [⟨[12],3,55,56⟩,⟨[5,12],3,48,49⟩] fun cx=>qA 0x41830001c000098c 2056 [62] h9<|mA Zd (zl [15,16,17,18,19,20,21,22,23,24,25,26]) 0 [⟨[12],3,55,56⟩,⟨[5,12],3,48,49⟩] fun cx=>mE Zd [74,11,32,31,30,8,7,3,2] [11,3]
       exact jA false H [74,11,32,31,30,8,7,3,2] [11,3]
      have H:=YB h9 H
      refine bE H fun v28 ev28 H=>bE H fun v29 ev29 H=>qr zr 27 kr ⟨98,0,[sB 74 (!(v28==v29)),sA 11 11 4 0,sI 32 y14,sI 31 (x2.length:Int),sC 30 (cF 1 x2 zC),sB 8 y15,sC 7 (cL 1 y16 qo),sA 3 3 3 0,sC 2 (cF 1 x2 zC)],[(11,(zE v22)),(3,(fR (zD x0)))]⟩ (fun cx=>?_) ?_
      ·refine mA Zd [(0,[]),(1,[5,12]),(2,[])] 24 [⟨[5,12],3,48,49⟩] fun cx=>kON Zd 3 y16 qo fun cx=>mA Zd [(4,[])] 22 [⟨[5,12],3,48,49⟩] fun cx=>mC Zd 5<|vA [.rd,.rd,.rd] (Ys n v22.A 0 (wI ((y16.length:Int)-1)) r26 er26)<|fA<|mA Zd [(6,[])] 20 [⟨[5,12],3,48,49⟩] fun cx=>qA 0x430001c000098c 2056 [54] h8<|mA Zd [(7,[]),(8,[12]),(9,[])] 17 [⟨[12],3,55,56⟩,⟨[5,12],3,48,49⟩] fun cx=>kON Zd 10 y16 qo fun cx=>mA Zd [(11,[])] 15 [⟨[12],3,55,56⟩,⟨[5,12],3,48,49⟩] fun cx=>mC Zd 12<|vA [.rd,.rd,.rd] (Ys n v22.B 0 (wI ((y16.length:Int)-1)) r27 er27)<|fA<|mA Zd [(13,[]),(14,[])] 12 [⟨[12],3,55,56⟩,⟨[5,12],3,48,49⟩] fun cx=>qA 0x41830001c000098c 2056 [62] h9<|mA Zd (zl [15,16,17]) 9 [⟨[],3,64,65⟩,⟨[12],3,55,56⟩,⟨[5,12],3,48,49⟩] fun cx=>oN Zd 18 qo ev28 fun cx=>mA Zd (zl [20,21,22]) 5 [⟨[],3,69,70⟩,⟨[],3,64,65⟩,⟨[12],3,55,56⟩,⟨[5,12],3,48,49⟩] fun cx=>oN Zd 23 qo ev29 fun cx=>mB2 tOk Zd 19 24 kr (And.intro kr ?_) (And.intro kr ?_)
       ·exact dE (tI 4) (.slot 7) [(0,(v22.A.toNat))] 1 0 [cL 1 y16 qo] (qo v28) (Qc rfl (zU ev28).2)<|fA<|mC Zd 24<|dE (tI 4) (.slot 7) [(0,(v22.B.toNat))] 1 0 [cL 1 y16 qo] (qo v29) (Qc rfl (zU ev29).2)<|fA<|mA Zd [(25,[]),(26,[])] 0 [⟨[],3,69,70⟩,⟨[],3,64,65⟩,⟨[12],3,55,56⟩,⟨[5,12],3,48,49⟩] fun cx=>mE Zd [74,11,32,31,30,8,7,3,2] [11,3]
       ·exact dE (tI 4) (.slot 7) [(0,(v22.B.toNat))] 1 0 [cL 1 y16 qo] (qo v29) (Qc rfl (zU ev29).2)<|fA<|mC Zd 19<|dE (tI 4) (.slot 7) [(0,(v22.A.toNat))] 1 0 [cL 1 y16 qo] (qo v28) (Qc rfl (zU ev28).2)<|fA<|mA Zd [(25,[]),(26,[])] 0 [⟨[],3,69,70⟩,⟨[],3,64,65⟩,⟨[12],3,55,56⟩,⟨[5,12],3,48,49⟩] fun cx=>mE Zd [74,11,32,31,30,8,7,3,2] [11,3]
      exact jA (!(v28==v29)) H [74,11,32,31,30,8,7,3,2] [11,3]
     rintro y23 H
     have H:(Qq n (fun v=>ZD n mo19 x0 x2 v.1 v.2.1 v.2.2) v22 y14 y15 y16 y23)=some o19:=H
     unfold Qq at H
     cases h7:y23
     ·have H:=YA h7 H
      exact nB_<|tK<|eA 2 7516193164 8<|jB mo19 ((wI (y14+1)),y15,y16) H [32,31,30,8,7,3,2] [3]
     have H:=YB h7 H
     refine tB_<|bE H fun v24 ev24 H=>bE H fun v25 ev25 H=>zd zr 10 kr ⟨98,0,[sC 7 (cL 1 ((y16.set (v22.A.toNat) true).set (v22.B.toNat) true) qo),sI 32 y14,sI 31 (x2.length:Int),sC 30 (cF 1 x2 zC),sA 3 3 3 0,sC 2 (cF 1 x2 zC)],[(3,(fR (zD x0)))]⟩ (fun cx=>?_) ?_
     ·refine aA [(0,[]),(1,[]),(2,[7,9]),(3,[]),(4,[]),(5,[9])] 4 [⟨[9],3,79,80⟩,⟨[7,9],3,76,77⟩] fun cx=>aO tOk 6 78 0 75 77 81 none ⟨(.slot 7),[],0,true,1,(y16.map qo)⟩ v22.A (v22.A.toNat) (qo v24) _ kr kr kr kr kr kr rfl kr (JG ev24) rfl rfl (fun cx=>?_)
      refine bA 7<|sS (tI 4) false [cB true] 7 0 (v22.A.toNat) 1 0 1 qo true (zU ev24).2<|fA<|aO tOk 8 78 0 78 80 82 none ⟨(.slot 7),[],0,true,1,((y16.set (v22.A.toNat) true).map qo)⟩ v22.B (v22.B.toNat) (qo v25) _ kr kr kr kr kr kr rfl kr (JG ev25) rfl rfl (fun cx=>?_)
      exact sA_ 0x5b00000000001c000008c 2056 ⟨98,0,[(82,.adr (.slot 7) [(0,(v22.B.toNat))] 1 0),sC 7 (cL 1 (y16.set (v22.A.toNat) true) qo),sI 80 v22.B,sA 79 11 4 2,sI 77 v22.A,sA 76 11 4 0,sI 32 y14,sI 31 (x2.length:Int),sC 30 (cF 1 x2 zC),sA 3 3 3 0,sC 2 (cF 1 x2 zC)],[(11,(zE v22)),(3,(fR (zD x0)))]⟩<|bA 9<|sS (tI 4) false [cB true] 7 0 (v22.B.toNat) 1 0 1 qo true (zU ev25).2<|fA<|eE [7,32,31,30,3,2] [3]
     exact eA 1 7516193164 8<|eA 2 7516193164 8<|jB mo19 ((wI (y14+1)),true,((y16.set (v22.A.toNat) true).set (v22.B.toNat) true)) H [32,31,30,8,7,3,2] [3]
    exact tA h6<|Tr.exit<|aJ<|eA 2 7516193164 8<|jB mo19 ((wI (y14+1)),y15,y16) H [32,31,30,8,7,3,2] [3]
   rintro⟨y17,y18⟩ H
   have H:(zBG n (fun v=>Qr n mo13 x0 x2 v.1 v.2) y17 y18)=some o13:=H
   unfold zBG at H
   exact jB mo13 (y17,y18) H [8,7,3,2] [3]
  rintro y6 H
  have H:(J9 n y6)=some r:=H
  unfold J9 at H
  refine gA 1 4224 0<|tS<|rA 1<|kO y6 qo<|uA 1 0x7000000000000000001080 0 ?_
  obtain⟨o10,eo10,Ho10⟩:=bs H
  clear H
  refine zt (ι:=(List Int)) (fun v=>⟨98,0,[sC 12 (cL 1 v zC)],[]⟩) (fun v=>zBF n v=some r) ?_ ?_
  ·refine tB<|Tr.loop (ι:=Nat×(Int×(List Int))) (fun v=>⟨98,0,[sI 86 v.2.1,sI 85 (y6.length:Int),(84,.ref (.slot 7) [] 0 0 1 false),sC 12 (cL 1 v.2.2 zC),sC 7 (cL 1 y6 qo)],[]⟩) (fun v=>QE n v.1 y6 v.2.1 v.2.2=some o10) (fun v=>v.1) (n,(0,([]:List Int))) eo10 (za [86,85,84,12,7] [] kr) ?_
   rintro⟨_|mo10,y7,y8⟩ H
   ·exact nN H
   have H:QE n (mo10+1) y6 y7 y8=some o10:=H
   rw[QE]at H
   refine gA 1 0xf000000000000000001080 0<|tS ?_
   obtain⟨h2,H⟩|⟨h2,H⟩:=bC H
   ·refine nA h2<|Tr.exit<|aJ ?_
    cases H
    exact jA y8 Ho10 [12] []
   refine tA h2<|tK<|tS<|tB<|rA 1<|bE H fun v11 ev11 H=>oA qo ev11<|dE (tI 4) (.slot 7) [(0,(y7.toNat))] 1 0 [cL 1 y6 qo] (qo v11) (Qc rfl (zU ev11).2)<|uA 2 0x7000000000000000007080 0<|gA 1 0x87000000000000000003080 0 ?_
   cases h3:v11
   ·have H:=YA h3 H
    exact nB_<|tK<|eA 2 0x7000000000000000001080 0<|jB mo10 ((wI (y7+1)),y8) H [86,85,84,12,7] []
   have H:=YB h3 H
   exact tB_<|Tr.at<|lA 3<|gE H fun hg12 H=>qO tOk (t:=30) (ty:=30) (e:=3) (x:=(.tmp 92)) (y:=(.tmp 94)) (d:=95) (g:=none) (tI 3) zC y8 [y7] kr kr kr kr kr kr kr kr kr kr hg12<|zY (T:=lk tab) (ty:=30) (x:=(.tmp 95)) (d:=12) (g:=none) false [cL 1 (y8++[y7]) zC] kr kr kr kr kr<|dA 0x7000000000000000001080 0<|eA 2 0x7000000000000000001080 0<|jB mo10 ((wI (y7+1)),(y8++[y7])) H [86,85,84,12,7] []
  rintro y9 H
  have H:(zBF n y9)=some r:=H
  unfold zBF at H
  exact gA 2 4160 0<|te (fJ [(false,[cL 1 y9 zC])] H)
 exact tA h1<|gA 1 64 0<|te (fJ [(false,[cL 1 ([]:List Int) zC])] H)
def zBO(n:Nat):Option (Bool):=
  (some false)
def Qw(n:Nat):Nat→(List Int)→Int→Int→Option ((Unit)⊕(Bool))
  |0,_,_,_=>none
  |mo2+1,x0,x1,y1=>(bif (decide (y1<(x0.length:Int)))then((idx x0 y1).bind fun v3=>(bif (v3==x1)then(some (Sum.inr true))else(Qw n mo2 x0 x1 (wI (y1+1)))))else(some (Sum.inl ())))
def YV(n:Nat)(x0:(List Int))(x1:Int):Option (Bool):=
  ((Qw n n x0 x1 0).bind fun o=>match o with|.inl _=>(zBO n)|.inr r=>some r)
theorem zCX(n:Nat)(x0:(List Int))(x1:Int)(r:Bool)(H:YV n x0 x1=some r):zb Tryz.prog 59 [.val false [.sl false 1 (zQ (x0.map zC))],.val false [.lit (.int .i64 x1)]] [.val false [.lit (.bool r)]] []:=by
 refine cW Tryz.func59 (fun g d=>sl [g 0,sl [g 1] (.block 0 (.loop (sl [sl [g 2] (cn 9 .skip (.exit 0)),.block 1 (sl [g 4] (cn 17 (sl [g 5] .ret) .skip))] (g 3)))),g 6] .ret) [.tmp 4] fun cx=>?_
 unfold YV at H
 refine gA 1 3 0<|tS<|gA 1 35 0 ?_
 obtain⟨o2,eo2,Ho2⟩:=bs H
 clear H
 refine zt (ι:=Unit) (fun v=>⟨18,0,[],[]⟩) (fun v=>zBO n=some r) ?_ ?_
 ·refine tB<|Tr.loop (ι:=Nat×(Int)) (fun v=>⟨18,0,[sI 5 v.2,sC 0 (cF 1 x0 zC),sI 1 x1],[]⟩) (fun v=>Qw n v.1 x0 x1 v.2=some o2) (fun v=>v.1) (n,0) eo2 (za [5,0,1] [] kr) ?_
  rintro⟨_|mo2,y1⟩ H
  ·exact nN H
  have H:Qw n (mo2+1) x0 x1 y1=some o2:=H
  rw[Qw]at H
  refine tS<|rA 2<|kF x0 zC<|uA 1 547 0 ?_
  obtain⟨h1,H⟩|⟨h1,H⟩:=bC H
  ·refine nA h1<|Tr.exit<|aJ ?_
   cases H
   exact jA () Ho2 [] []
  refine tA h1<|tK<|tS<|tB<|rA 2<|bE H fun v3 ev3 H=>iA zC ev3<|uA 3 131107 0 ?_
  obtain⟨h2,H⟩|⟨h2,H⟩:=bC H
  ·exact nA h2<|tK<|eA 3 35 0<|jB mo2 (wI (y1+1)) H [5,0,1] []
  refine tA h2<|gA 1 16 0<|te ?_
  cases H
  exact fT Ho2
 rintro _ H
 have H:(zBO n)=some r:=H
 unfold zBO at H
 exact gA 1 16 0<|te (fF H)
end Go.Proofs.YticeglbllcelaaaGreat.Tw
