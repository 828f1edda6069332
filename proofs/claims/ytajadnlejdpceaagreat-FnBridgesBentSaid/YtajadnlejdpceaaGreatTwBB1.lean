import Derived.Test.YtajadnlejdpceaaGreatProg
import Derived.Test.YtajadnlejdpceaaGreatTlRule
import Derived.Test.YtajadnlejdpceaaGreatTlU12
import Derived.Test.YtajadnlejdpceaaGreatTwBB0
import Derived.WalkKit
set_option linter.unusedVariables false
set_option linter.unusedSimpArgs false
set_option maxRecDepth 100000
set_option maxHeartbeats 1000000
namespace Go.Proofs.YtajadnlejdpceaaGreat.Tw
open Go Go.TL Go.Proofs
def Jy (n : Nat) (y8 : (List zB)) (y9 : (List Int)) (y10 : Int) (y11 : Int) : Option ((List zB) × Src) :=
  (some (y8,(⟨y9,y10,y11⟩ : Src)))
def Zz (n : Nat) : Nat → Int → (List zB) → (List Int) → Int → Int → Option (((List zB) × (List Int) × Int × Int) ⊕ ((List zB) × Src))
  | 0,_,_,_,_,_ => none
  | mo12 + 1,y3,y4,y5,y6,y7 => ((zN n (⟨y5,y6,y7⟩ : Src) 3).bind fun r13 => (bif (decide (y3 < (IntKind.wrap .i64 (11 + r13.1)))) then (bif (decide (y4.length + [(⟨50,(IntKind.wrap .i64 (100 + y3)),1,0,false⟩ : zB)].length ≤ 268435456)) then (Zz n mo12 (IntKind.wrap .i64 (y3 + 1)) (y4 ++ [(⟨50,(IntKind.wrap .i64 (100 + y3)),1,0,false⟩ : zB)]) r13.2.b r13.2.i r13.2.h) else none) else (some (Sum.inl (y4,r13.2.b,r13.2.i,r13.2.h)))))
def Jk (n : Nat) (x0 : Src) : Option ((List zB) × Src) :=
  ((JJ n x0).bind fun r1 => ((zN n r1.2 12).bind fun r2 => (bif (r2.1 == 0) then ((zc n r2.2 [0,1,99,100]).bind fun r15 => ((zc n r15.2 [0,1,9999]).bind fun r16 => ((zc n r16.2 [(-1),7,8]).bind fun r17 => ((zc n r17.2 [(-1),4,5]).bind fun r18 => (bif (decide (r1.1.length + [(⟨r15.1,r16.1,r17.1,r18.1,false⟩ : zB)].length ≤ 268435456)) then (some ((r1.1 ++ [(⟨r15.1,r16.1,r17.1,r18.1,false⟩ : zB)]),r18.2)) else none))))) else (bif (r2.1 == 1) then ((Zz n n 0 r1.1 r2.2.b r2.2.i r2.2.h).bind fun o => match o with | .inl (y8,y9,y10,y11) => (Jy n y8 y9 y10 y11) | .inr r => some r) else (some (r1.1,r2.2))))))
noncomputable abbrev zBV (k : Nat) := Rg Tryz.f153 k
theorem zH5 (n : Nat) (x0 : Src) (r : (List zB) × Src) (H : Jk n x0 = some r) : zG Tryz.prog 153 [.ptr (CV.frzRow (Src.row x0))] [.val false [.sl true 5 (r.1.map zB.row)]] [(0,(CV.frzRow (Src.row r.2)))] := by
 refine zG.of_body tOk Tryz.func153 rfl (c := (.seq (zBV 0) (.seq (zBV 1) (.seq (.seq (zBV 2) (.block 0 (.seq (zBV 3) (.cond (.tmp 9) (zBV 4) (.seq (zBV 5) (.cond (.tmp 27) (.seq (zBV 6) (.block 1 (.loop (.seq (.seq (zBV 7) (.cond (.tmp 33) .skip (.exit 1))) (.seq (.block 2 (zBV 9)) (zBV 8)))))) .skip)))))) (.seq (zBV 10) .ret))))) kr (Nat.le_of_ble_eq_true kr) 1 (rs := [.tmp 2]) rfl [] .nil [(false,[.sl true 5 (r.1.map zB.row)])] [] [(0,(CV.frzRow (Src.row r.2)))] fun cx => ?_
 show Tr _ _ _ ⟨43,1,[sA 0 0 3 0],[(0,(CV.frzRow (Src.row x0)))]⟩ _
 unfold Jk at H
 refine gA 1 1 1 ?_
 refine rA 1 ?_
 obtain ⟨r1,er1,H⟩ := bs H
 refine LAt.callL tOk [.lend] (f := 186) (av := #[.tmp 5]) (ats := #[91]) (d := (some 6)) (ty := 25) (g := none) kr kr kr [] (zHN n x0 r1 er1) kr (.inl rfl) ?_
 refine LAt.moveU (T := lk tab) (ty := 25) (x := (.tmp 6)) (d := 3) (g := none) false [cL 5 r1.1 zB.row] kr kr kr kr kr ?_
 refine dA 9 1 ?_
 refine tS ?_
 refine rA 1 ?_
 obtain ⟨r2,er2,H⟩ := bs H
 refine LAt.callL tOk [.lend,.rd] (f := 119) (av := #[.tmp 7,.const (.int .i64 12)]) (ats := #[91,3]) (d := (some 8)) (ty := 3) (g := none) kr kr kr [] (zQ n r1.2 12 r2 er2) kr (.inl rfl) ?_
 refine dA 265 1 ?_
 refine tB ?_
 refine gA 2 777 1 ?_
 obtain ⟨h1,H⟩ | ⟨h1,H⟩ := bC H
 ·refine nA h1 ?_
  refine gA 2 134217737 1 ?_
  obtain ⟨h2,H⟩ | ⟨h2,H⟩ := bC H
  ·refine nA h2 ?_
   refine tK ?_
   refine gA 2 13 1 ?_
   refine te ?_
   obtain rfl := si H
   exact Fin.ofY _ [(false,[cL 5 r1.1 zB.row])] [] _ [] _ [(0,(CV.frzRow (Src.row r2.2)))] kr rfl rfl rfl kr kr kr kr rfl rfl rfl
  refine tA h2 ?_
  refine gA 1 25 1 ?_
  obtain ⟨o12,eo12,Ho12⟩ := bs H
  clear H
  refine Tr.mid (ι := (List zB) × (List Int) × Int × Int) (fun v => ⟨43,1,[sC 3 (cL 5 v.1 zB.row),sA 0 0 3 0],[(0,[cF 1 v.2.1 zk,cI v.2.2.1,cI v.2.2.2])]⟩) (fun v => Jy n v.1 v.2.1 v.2.2.1 v.2.2.2 = some r) ?_ ?_
  ·refine tB ?_
   refine Tr.loop (ι := Nat × (Int × (List zB) × (List Int) × Int × Int)) (fun v => ⟨43,1,[sI 4 v.2.1,sC 3 (cL 5 v.2.2.1 zB.row),sA 0 0 3 0],[(0,[cF 1 v.2.2.2.1 zk,cI v.2.2.2.2.1,cI v.2.2.2.2.2])]⟩) (fun v => Zz n v.1 v.2.1 v.2.2.1 v.2.2.2.1 v.2.2.2.2.1 v.2.2.2.2.2 = some o12) (fun v => v.1) (n,(0,r1.1,r2.2.b,r2.2.i,r2.2.h)) eo12 (St.sub_of [4,3,0] [0] kr) ?_
   rintro ⟨mo12,y3,y4,y5,y6,y7⟩ H
   have H : Zz n mo12 y3 y4 y5 y6 y7 = some o12 := H
   obtain _ | mo12 := mo12
   ·exact nN H
   rw [Zz] at H
   refine tS ?_
   refine rA 2 ?_
   obtain ⟨r13,er13,H⟩ := bs H
   refine LAt.callL tOk [.lend,.rd] (f := 119) (av := #[.tmp 30,.const (.int .i64 3)]) (ats := #[91,3]) (d := (some 31)) (ty := 3) (g := none) kr kr kr [] (zQ n (⟨y5,y6,y7⟩ : Src) 3 r13 er13) kr (.inl rfl) ?_
   refine uA 2 8589934617 1 ?_
   obtain ⟨h3,H⟩ | ⟨h3,H⟩ := bC H
   ·refine nA h3 ?_
    refine Tr.exit ?_
    refine aJ ?_
    obtain rfl := si H
    have H := Ho12
    dsimp only at H
    exact jA (y4,r13.2.b,r13.2.i,r13.2.h) H [3,0] [0]
   refine tA h3 ?_
   refine tK ?_
   refine tS ?_
   refine tB ?_
   refine Tr.at ?_
   refine lA 5 ?_
   obtain ⟨hg14,H⟩ := gs H
   refine LAt.appMU tOk (t := 25) (ty := 25) (e := 103) (x := (.tmp 36)) (y := (.tmp 40)) (d := 41) (g := none) (tI 103) zB.row y4 [(⟨50,(IntKind.wrap .i64 (100 + y3)),1,0,false⟩ : zB)] kr kr kr kr kr kr kr kr kr kr hg14 ?_
   refine LAt.moveU (T := lk tab) (ty := 25) (x := (.tmp 41)) (d := 3) (g := none) false [cL 5 (y4 ++ [(⟨50,(IntKind.wrap .i64 (100 + y3)),1,0,false⟩ : zB)]) zB.row] kr kr kr kr kr ?_
   refine dA 25 1 ?_
   refine eA 3 25 1 ?_
   exact jB mo12 ((IntKind.wrap .i64 (y3 + 1)),(y4 ++ [(⟨50,(IntKind.wrap .i64 (100 + y3)),1,0,false⟩ : zB)]),r13.2.b,r13.2.i,r13.2.h) H [4,3,0] [0]
  rintro ⟨y8,y9,y10,y11⟩ H
  have H : (Jy n y8 y9 y10 y11) = some r := H
  unfold Jy at H
  refine gA 2 13 1 ?_
  refine te ?_
  obtain rfl := si H
  exact Fin.ofY _ [(false,[cL 5 y8 zB.row])] [] _ [] _ [(0,[cF 1 y9 zk,cI y10,cI y11])] kr rfl rfl rfl kr kr kr kr rfl rfl rfl
 refine tA h1 ?_
 refine Tr.at ?_
 refine lA 3 ?_
 obtain ⟨r15,er15,H⟩ := bs H
 refine LAt.callL tOk [.lend,.rd] (f := 78) (av := #[.tmp 12,.tmp 13]) (ats := #[91,27]) (d := (some 14)) (ty := 3) (g := none) kr kr kr [] (zr n r2.2 [0,1,99,100] r15 er15) kr (.inl rfl) ?_
 refine lA 2 ?_
 obtain ⟨r16,er16,H⟩ := bs H
 refine LAt.callL tOk [.lend,.rd] (f := 78) (av := #[.tmp 15,.tmp 16]) (ats := #[91,27]) (d := (some 17)) (ty := 3) (g := none) kr kr kr [] (zr n r15.2 [0,1,9999] r16 er16) kr (.inl rfl) ?_
 refine lA 2 ?_
 obtain ⟨r17,er17,H⟩ := bs H
 refine LAt.callL tOk [.lend,.rd] (f := 78) (av := #[.tmp 18,.tmp 19]) (ats := #[91,27]) (d := (some 20)) (ty := 3) (g := none) kr kr kr [] (zr n r16.2 [(-1),7,8] r17 er17) kr (.inl rfl) ?_
 refine lA 2 ?_
 obtain ⟨r18,er18,H⟩ := bs H
 refine LAt.callL tOk [.lend,.rd] (f := 78) (av := #[.tmp 21,.tmp 22]) (ats := #[91,27]) (d := (some 23)) (ty := 3) (g := none) kr kr kr [] (zr n r17.2 [(-1),4,5] r18 er18) kr (.inl rfl) ?_
 refine lA 2 ?_
 obtain ⟨hg19,H⟩ := gs H
 refine LAt.appMU tOk (t := 25) (ty := 25) (e := 103) (x := (.tmp 11)) (y := (.tmp 25)) (d := 26) (g := none) (tI 103) zB.row r1.1 [(⟨r15.1,r16.1,r17.1,r18.1,false⟩ : zB)] kr kr kr kr kr kr kr kr kr kr hg19 ?_
 refine LAt.moveU (T := lk tab) (ty := 25) (x := (.tmp 26)) (d := 3) (g := none) false [cL 5 (r1.1 ++ [(⟨r15.1,r16.1,r17.1,r18.1,false⟩ : zB)]) zB.row] kr kr kr kr kr ?_
 refine dA 9 1 ?_
 refine gA 2 13 1 ?_
 refine te ?_
 obtain rfl := si H
 exact Fin.ofY _ [(false,[cL 5 (r1.1 ++ [(⟨r15.1,r16.1,r17.1,r18.1,false⟩ : zB)]) zB.row])] [] _ [] _ [(0,(CV.frzRow (Src.row r18.2)))] kr rfl rfl rfl kr kr kr kr rfl rfl rfl
def Yo (n : Nat) (r1 : Int × Src) (r3 : Int × Src) (y7 : (List zC)) (y8 : (List Int)) : Option (zD × Int × Src) :=
  (some ((⟨y7,y8⟩ : zD),(IntKind.wrap .i64 (1 + r1.1)),r3.2))
def Z3 (n : Nat) : Nat → Int → (List zC) → (List Int) → Option (((List zC) × (List Int)) ⊕ (zD × Int × Src))
  | 0,_,_,_ => none
  | mo9 + 1,y4,y5,y6 => (bif (decide (y4 < 6)) then ((Yt n (⟨y5,y6⟩ : zD) (⟨(IntKind.wrap .i64 (10 + y4)),0,0⟩ : zC)).bind fun r10 => (Z3 n mo9 (IntKind.wrap .i64 (y4 + 1)) r10.Rows r10.Pv)) else (some (Sum.inl (y5,y6))))
def Jl (n : Nat) (x0 : Src) : Option (zD × Int × Src) :=
  ((zN n x0 4).bind fun r1 => ((YV n r1.2 (IntKind.wrap .i64 (1 + r1.1))).bind fun r2 => ((zN n r2.2 12).bind fun r3 => (bif (r3.1 == 0) then ((zc n r3.2 [0,1,9,100]).bind fun r14 => ((zc n r14.2 [(-1),0,1,64]).bind fun r15 => ((zN n r15.2 3).bind fun r16 => (bif (decide (r2.1.Rows.length + [(⟨r14.1,r15.1,r16.1⟩ : zC)].length ≤ 268435456)) then (some ((⟨(r2.1.Rows ++ [(⟨r14.1,r15.1,r16.1⟩ : zC)]),r2.1.Pv⟩ : zD),(IntKind.wrap .i64 (1 + r1.1)),r16.2)) else none)))) else (bif (r3.1 == 1) then ((zc n r3.2 [0,7]).bind fun r12 => ((idx r2.1.Pv 0).bind fun v13 => (some ((⟨r2.1.Rows,(r2.1.Pv.set (((0 : Int)).toNat) r12.1)⟩ : zD),(IntKind.wrap .i64 (1 + r1.1)),r12.2)))) else (bif (r3.1 == 2) then ((zc n r3.2 [0,6,7]).bind fun r11 => (some (r2.1,r11.1,r11.2))) else (bif (r3.1 == 3) then ((Z3 n n 0 r2.1.Rows r2.1.Pv).bind fun o => match o with | .inl (y7,y8) => (Yo n r1 r3 y7 y8) | .inr r => some r) else (some (r2.1,(IntKind.wrap .i64 (1 + r1.1)),r3.2)))))))))
def zJX : Tab := ⟨15,[0,1,0,0,12,0,0,112,0,384,656,1024,2562,8191,16383],[0,1,0,0,12,0,0,96,0,256,656,1024,2050,0,12288],[0,1,0,0,12,0,0,124,0,508,1020,2044,4095,8191,16383]⟩
noncomputable abbrev J9 (k : Nat) := Rg Tryz.f154 k
noncomputable abbrev zJP (k : Nat) := Rd Tryz.f154 k
theorem qb : z9 (rg Tryz.f154 5) zJX = true := kr
theorem zGK (n : Nat) (r3 : Int × Src) (r14 : Int × Src) (r15 : Int × Src) (r16 : Int × Src) (r2 : zD × Src) (r1 : Int × Src) (er14 : (zc n r3.2 [0,1,9,100]) = some r14) (er15 : (zc n r14.2 [(-1),0,1,64]) = some r15) (er16 : (zN n r15.2 3) = some r16) (hg17 : (decide (r2.1.Rows.length + [(⟨r14.1,r15.1,r16.1⟩ : zC)].length ≤ 268435456)) = true) (cx : Cx) : AT Tryz.prog cx (rg Tryz.f154 5) [] 15 [] ⟨57,1,[sB 15 (r3.1 == 0),sI 14 r3.1,sA 5 5 2 0,sI 4 (IntKind.wrap .i64 (1 + r1.1)),sA 2 2 2 0,sA 0 0 3 0],[(0,(CV.frzRow (Src.row r3.2))),(5,(zD.row r2.1)),(2,[cL 3 ([] : List zC) zC.row,cL 1 ([] : List Int) intRow])]⟩ (fun s => s = ⟨57,1,[sA 5 5 2 0,sI 4 (IntKind.wrap .i64 (1 + r1.1)),sA 2 2 2 0,sA 0 0 3 0],[(5,[cL 3 (r2.1.Rows ++ [(⟨r14.1,r15.1,r16.1⟩ : zC)]) zC.row,cL 1 r2.1.Pv intRow]),(0,(CV.frzRow (Src.row r16.2))),(2,[cL 3 ([] : List zC) zC.row,cL 1 ([] : List Int) intRow])]⟩) := by
 refine mA qb [(0,[]),(1,[12,14]),(2,[]),(5,[]),(8,[])] 10 [⟨[12,14],26,17,18⟩] fun cx => ?_
 refine mB2 tOk qb 3 6 kr (And.intro kr ?_) (And.intro kr ?_)
 ·refine lA 1 ?_
  refine fA ?_
  refine mB2 tOk qb 4 6 kr (And.intro kr ?_) (And.intro kr ?_)
  ·refine LAt.callL tOk [.lend,.rd] (f := 78) (av := #[.tmp 19,.tmp 20]) (ats := #[91,27]) (d := (some 21)) (ty := 3) (g := none) kr kr kr [] (zr n r3.2 [0,1,9,100] r14 er14) kr (.inl rfl) ?_
   refine fA ?_
   refine mC qb 6 ?_
   refine lA 1 ?_
   refine fA ?_
   refine mC qb 7 ?_
   refine LAt.callL tOk [.lend,.rd] (f := 78) (av := #[.tmp 22,.tmp 23]) (ats := #[91,27]) (d := (some 24)) (ty := 3) (g := none) kr kr kr [] (zr n r14.2 [(-1),0,1,64] r15 er15) kr (.inl rfl) ?_
   refine fA ?_
   refine mC qb 9 ?_
   refine LAt.callL tOk [.lend,.rd] (f := 119) (av := #[.tmp 25,.const (.int .i64 3)]) (ats := #[91,3]) (d := (some 26)) (ty := 3) (g := none) kr kr kr [] (zQ n r15.2 3 r16 er16) kr (.inl rfl) ?_
   refine fA ?_
   refine mC qb 10 ?_
   refine lA 1 ?_
   refine fA ?_
   refine mC qb 11 ?_
   refine lA 1 ?_
   refine fA ?_
   refine mC qb 12 ?_
   refine LAt.appMU tOk (t := 26) (ty := 26) (e := 113) (x := (.tmp 18)) (y := (.tmp 28)) (d := 29) (g := none) (tI 113) zC.row r2.1.Rows [(⟨r14.1,r15.1,r16.1⟩ : zC)] kr kr kr kr kr kr kr kr kr kr hg17 ?_
   refine fA ?_
   refine mA qb [(13,[])] 1 [⟨[12,14],26,17,18⟩] fun cx => ?_
   refine mC qb 14 ?_
   refine lA 1 ?_
   refine fA ?_
   exact mE qb [5,4,2,0] [5,0,2]
  ·refine lA 1 ?_
   refine fA ?_
   refine mC qb 4 ?_
   refine LAt.callL tOk [.lend,.rd] (f := 78) (av := #[.tmp 19,.tmp 20]) (ats := #[91,27]) (d := (some 21)) (ty := 3) (g := none) kr kr kr [] (zr n r3.2 [0,1,9,100] r14 er14) kr (.inl rfl) ?_
   refine fA ?_
   refine mC qb 7 ?_
   refine LAt.callL tOk [.lend,.rd] (f := 78) (av := #[.tmp 22,.tmp 23]) (ats := #[91,27]) (d := (some 24)) (ty := 3) (g := none) kr kr kr [] (zr n r14.2 [(-1),0,1,64] r15 er15) kr (.inl rfl) ?_
   refine fA ?_
   refine mC qb 9 ?_
   refine LAt.callL tOk [.lend,.rd] (f := 119) (av := #[.tmp 25,.const (.int .i64 3)]) (ats := #[91,3]) (d := (some 26)) (ty := 3) (g := none) kr kr kr [] (zQ n r15.2 3 r16 er16) kr (.inl rfl) ?_
   refine fA ?_
   refine mC qb 10 ?_
   refine lA 1 ?_
   refine fA ?_
   refine mC qb 11 ?_
   refine lA 1 ?_
   refine fA ?_
   refine mC qb 12 ?_
   refine LAt.appMU tOk (t := 26) (ty := 26) (e := 113) (x := (.tmp 18)) (y := (.tmp 28)) (d := 29) (g := none) (tI 113) zC.row r2.1.Rows [(⟨r14.1,r15.1,r16.1⟩ : zC)] kr kr kr kr kr kr kr kr kr kr hg17 ?_
   refine fA ?_
   refine mA qb [(13,[])] 1 [⟨[12,14],26,17,18⟩] fun cx => ?_
   refine mC qb 14 ?_
   refine lA 1 ?_
   refine fA ?_
   exact mE qb [5,4,2,0] [5,0,2]
 ·refine lA 1 ?_
  refine fA ?_
  refine mC qb 3 ?_
  refine lA 1 ?_
  refine fA ?_
  refine mC qb 4 ?_
  refine LAt.callL tOk [.lend,.rd] (f := 78) (av := #[.tmp 19,.tmp 20]) (ats := #[91,27]) (d := (some 21)) (ty := 3) (g := none) kr kr kr [] (zr n r3.2 [0,1,9,100] r14 er14) kr (.inl rfl) ?_
  refine fA ?_
  refine mC qb 7 ?_
  refine LAt.callL tOk [.lend,.rd] (f := 78) (av := #[.tmp 22,.tmp 23]) (ats := #[91,27]) (d := (some 24)) (ty := 3) (g := none) kr kr kr [] (zr n r14.2 [(-1),0,1,64] r15 er15) kr (.inl rfl) ?_
  refine fA ?_
  refine mC qb 9 ?_
  refine LAt.callL tOk [.lend,.rd] (f := 119) (av := #[.tmp 25,.const (.int .i64 3)]) (ats := #[91,3]) (d := (some 26)) (ty := 3) (g := none) kr kr kr [] (zQ n r15.2 3 r16 er16) kr (.inl rfl) ?_
  refine fA ?_
  refine mC qb 10 ?_
  refine lA 1 ?_
  refine fA ?_
  refine mC qb 11 ?_
  refine lA 1 ?_
  refine fA ?_
  refine mC qb 12 ?_
  refine LAt.appMU tOk (t := 26) (ty := 26) (e := 113) (x := (.tmp 18)) (y := (.tmp 28)) (d := 29) (g := none) (tI 113) zC.row r2.1.Rows [(⟨r14.1,r15.1,r16.1⟩ : zC)] kr kr kr kr kr kr kr kr kr kr hg17 ?_
  refine fA ?_
  refine mA qb [(13,[])] 1 [⟨[12,14],26,17,18⟩] fun cx => ?_
  refine mC qb 14 ?_
  refine lA 1 ?_
  refine fA ?_
  exact mE qb [5,4,2,0] [5,0,2]
theorem zH6 (n : Nat) (x0 : Src) (r : zD × Int × Src) (H : Jl n x0 = some r) : zG Tryz.prog 154 [.ptr (CV.frzRow (Src.row x0))] [.val true (zD.row r.1),.val false [.lit (.int .i64 r.2.1)]] [(0,(CV.frzRow (Src.row r.2.2)))] := by
 refine zG.of_body tOk Tryz.func154 rfl (c := (.seq (J9 0) (.seq (J9 1) (.seq (J9 2) (.seq (.seq (J9 3) (.block 0 (.seq (J9 4) (.cond (.tmp 15) (zJP 5) (.seq (J9 6) (.cond (.tmp 31) (zJP 7) (.seq (J9 8) (.cond (.tmp 39) (J9 9) (.seq (J9 10) (.cond (.tmp 44) (.seq (J9 11) (.block 1 (.loop (.seq (.seq (J9 12) (.cond (.tmp 47) .skip (.exit 1))) (.seq (.block 2 (J9 14)) (J9 13)))))) .skip)))))))))) (.seq (J9 15) .ret)))))) kr (Nat.le_of_ble_eq_true kr) 1 (rs := [.cell 2 29,.tmp 3]) rfl [] .nil [(true,(zD.row r.1)),(false,[.lit (.int .i64 r.2.1)])] [] [(0,(CV.frzRow (Src.row r.2.2)))] fun cx => ?_
 show Tr _ _ _ ⟨57,1,[sA 0 0 3 0],[(0,(CV.frzRow (Src.row x0)))]⟩ _
 unfold Jl at H
 refine gA 2 5 5 ?_
 refine rA 1 ?_
 obtain ⟨r1,er1,H⟩ := bs H
 refine LAt.callL tOk [.lend,.rd] (f := 119) (av := #[.tmp 7,.const (.int .i64 4)]) (ats := #[91,3]) (d := (some 8)) (ty := 3) (g := none) kr kr kr [] (zQ n x0 4 r1 er1) kr (.inl rfl) ?_
 refine uA 2 21 5 ?_
 refine rA 2 ?_
 obtain ⟨r2,er2,H⟩ := bs H
 refine LAt.callL tOk [.lend,.rd] (f := 182) (av := #[.tmp 10,.tmp 11]) (ats := #[91,3]) (d := (some 12)) (ty := 29) (g := none) kr kr kr [] (zEI n r1.2 (IntKind.wrap .i64 (1 + r1.1)) r2 er2) kr (.inl rfl) ?_
 refine uA 2 53 37 ?_
 refine tS ?_
 refine rA 1 ?_
 obtain ⟨r3,er3,H⟩ := bs H
 refine LAt.callL tOk [.lend,.rd] (f := 119) (av := #[.tmp 13,.const (.int .i64 12)]) (ats := #[91,3]) (d := (some 14)) (ty := 3) (g := none) kr kr kr [] (zQ n r2.2 12 r3 er3) kr (.inl rfl) ?_
 refine dA 16437 37 ?_
 refine tB ?_
 refine gA 2 49205 37 ?_
 obtain ⟨h1,H⟩ | ⟨h1,H⟩ := bC H
 ·refine nA h1 ?_
  refine gA 2 2147500085 37 ?_
  obtain ⟨h2,H⟩ | ⟨h2,H⟩ := bC H
  ·refine nA h2 ?_
   refine gA 2 549755830325 37 ?_
   obtain ⟨h3,H⟩ | ⟨h3,H⟩ := bC H
   ·refine nA h3 ?_
    refine gA 2 17592186044469 37 ?_
    obtain ⟨h4,H⟩ | ⟨h4,H⟩ := bC H
    ·refine nA h4 ?_
     refine tK ?_
     refine gA 4 13 5 ?_
     refine te ?_
     obtain rfl := si H
     exact Fin.ofY _ [(true,(zD.row r2.1)),(false,[cI (IntKind.wrap .i64 (1 + r1.1))])] [] _ [] _ [(0,(CV.frzRow (Src.row r3.2)))] kr rfl rfl rfl kr kr kr kr rfl rfl rfl
    refine tA h4 ?_
    refine gA 1 117 37 ?_
    obtain ⟨o9,eo9,Ho9⟩ := bs H
    clear H
    refine Tr.mid (ι := (List zC) × (List Int)) (fun v => ⟨57,1,[sA 5 5 2 0,sI 4 (IntKind.wrap .i64 (1 + r1.1)),sA 2 2 2 0,sA 0 0 3 0],[(0,(CV.frzRow (Src.row r3.2))),(5,[cL 3 v.1 zC.row,cL 1 v.2 intRow]),(2,[cL 3 ([] : List zC) zC.row,cL 1 ([] : List Int) intRow])]⟩) (fun v => Yo n r1 r3 v.1 v.2 = some r) ?_ ?_
    ·refine tB ?_
     refine Tr.loop (ι := Nat × (Int × (List zC) × (List Int))) (fun v => ⟨57,1,[sI 6 v.2.1,sA 5 5 2 0,sI 4 (IntKind.wrap .i64 (1 + r1.1)),sA 2 2 2 0,sA 0 0 3 0],[(0,(CV.frzRow (Src.row r3.2))),(5,[cL 3 v.2.2.1 zC.row,cL 1 v.2.2.2 intRow]),(2,[cL 3 ([] : List zC) zC.row,cL 1 ([] : List Int) intRow])]⟩) (fun v => Z3 n v.1 v.2.1 v.2.2.1 v.2.2.2 = some o9) (fun v => v.1) (n,(0,r2.1.Rows,r2.1.Pv)) eo9 (St.sub_of [6,5,4,2,0] [0,5,2] kr) ?_
     rintro ⟨mo9,y4,y5,y6⟩ H
     have H : Z3 n mo9 y4 y5 y6 = some o9 := H
     obtain _ | mo9 := mo9
     ·exact nN H
     rw [Z3] at H
     refine tS ?_
     refine gA 2 0x800000000075 37 ?_
     obtain ⟨h5,H⟩ | ⟨h5,H⟩ := bC H
     ·refine nA h5 ?_
      refine Tr.exit ?_
      refine aJ ?_
      obtain rfl := si H
      have H := Ho9
      dsimp only at H
      exact jA (y5,y6) H [5,4,2,0] [0,5,2]
     refine tA h5 ?_
     refine tK ?_
     refine tS ?_
     refine tB ?_
     refine Tr.at ?_
     refine lA 4 ?_
     obtain ⟨r10,er10,H⟩ := bs H
     refine vB [.rd,.rd] [.box 5] (zFH n (⟨y5,y6⟩ : zD) (⟨(IntKind.wrap .i64 (10 + y4)),0,0⟩ : zC) r10 er10) (.inr (zH (zD.row_mine _) zO)) ?_
     refine uA 1 117 37 ?_
     refine eA 3 117 37 ?_
     exact jB mo9 ((IntKind.wrap .i64 (y4 + 1)),r10.Rows,r10.Pv) H [6,5,4,2,0] [0,5,2]
    rintro ⟨y7,y8⟩ H
    have H : (Yo n r1 r3 y7 y8) = some r := H
    unfold Yo at H
    refine gA 4 13 5 ?_
    refine te ?_
    obtain rfl := si H
    exact Fin.ofY _ [(true,[cL 3 y7 zC.row,cL 1 y8 intRow]),(false,[cI (IntKind.wrap .i64 (1 + r1.1))])] [] _ [] _ [(0,(CV.frzRow (Src.row r3.2)))] kr rfl rfl rfl kr kr kr kr rfl rfl rfl
   refine tA h3 ?_
   refine Tr.at ?_
   refine lA 2 ?_
   obtain ⟨r11,er11,H⟩ := bs H
   refine LAt.callL tOk [.lend,.rd] (f := 78) (av := #[.tmp 41,.tmp 42]) (ats := #[91,27]) (d := (some 43)) (ty := 3) (g := none) kr kr kr [] (zr n r3.2 [0,6,7] r11 er11) kr (.inl rfl) ?_
   refine uA 1 53 37 ?_
   refine gA 4 13 5 ?_
   refine te ?_
   obtain rfl := si H
   exact Fin.ofY _ [(true,(zD.row r2.1)),(false,[cI r11.1])] [] _ [] _ [(0,(CV.frzRow (Src.row r11.2)))] kr rfl rfl rfl kr kr kr kr rfl rfl rfl
  refine tA h2 ?_
  obtain ⟨r12,er12,H⟩ := bs H
  obtain ⟨v13,ev13,H⟩ := bs H
  refine Tr.draw mixed 7 kr ⟨57,1,[sA 5 5 2 0,sI 4 (IntKind.wrap .i64 (1 + r1.1)),sA 2 2 2 0,sA 0 0 3 0],[(5,[cL 3 r2.1.Rows zC.row,cL 1 (r2.1.Pv.set (((0 : Int)).toNat) r12.1) intRow]),(0,(CV.frzRow (Src.row r12.2))),(2,[cL 3 ([] : List zC) zC.row,cL 1 ([] : List Int) intRow])]⟩ (fun cx => ?_) ?_
  ·refine aA [(0,[]),(1,[6]),(2,[])] 4 [⟨[6],27,33,34⟩] fun cx => ?_
   refine bA 3 ?_
   refine lA 1 ?_
   refine fA ?_
   refine bA 4 ?_
   refine LAt.callL tOk [.lend,.rd] (f := 78) (av := #[.tmp 35,.tmp 36]) (ats := #[91,27]) (d := (some 37)) (ty := 3) (g := none) kr kr kr [] (zr n r3.2 [0,7] r12 er12) kr (.inl rfl) ?_
   refine fA ?_
   refine AT.indexO tOk 5 (t := 27) (ty := 0) (x := (.tmp 34)) (y := (.const (.int .i64 0))) (d := 38) (g := none) ⟨(.box 5),[(0,0)],1,true,1,(r2.1.Pv.map intRow)⟩ 0 (((0 : Int)).toNat) (intRow v13) _ kr kr kr kr kr kr rfl kr (zDo ev13) rfl rfl (fun cx => ?_)
   refine bA 6 ?_
   refine LAt.storeB tOk (t := 3) (ty := 0) (ad := (.tmp 38)) (x := (.tmp 37)) (g := none) (tI 3) false [cI r12.1] 5 1 (((0 : Int)).toNat) 1 0 1 r2.1.Pv intRow v13 r12.1 kr kr kr kr kr kr kr kr (Qx ev13).2 kr kr kr kr ?_
   refine fA ?_
   exact eE [5,4,2,0] [5,0,2]
  refine gA 4 13 5 ?_
  refine te ?_
  obtain rfl := si H
  exact Fin.ofY _ [(true,[cL 3 r2.1.Rows zC.row,cL 1 (r2.1.Pv.set (((0 : Int)).toNat) r12.1) intRow]),(false,[cI (IntKind.wrap .i64 (1 + r1.1))])] [] _ [] _ [(0,(CV.frzRow (Src.row r12.2)))] kr rfl rfl rfl kr kr kr kr rfl rfl rfl
 refine tA h1 ?_
 obtain ⟨r14,er14,H⟩ := bs H
 obtain ⟨r15,er15,H⟩ := bs H
 obtain ⟨r16,er16,H⟩ := bs H
 obtain ⟨hg17,H⟩ := gs H
 refine sT ⟨57,1,[sB 15 (r3.1 == 0),sI 14 r3.1,sA 5 5 2 0,sI 4 (IntKind.wrap .i64 (1 + r1.1)),sA 2 2 2 0,sA 0 0 3 0],[(0,(CV.frzRow (Src.row r3.2))),(5,(zD.row r2.1)),(2,[cL 3 ([] : List zC) zC.row,cL 1 ([] : List Int) intRow])]⟩ ?_
 refine Tr.draw mixed 15 kr ⟨57,1,[sA 5 5 2 0,sI 4 (IntKind.wrap .i64 (1 + r1.1)),sA 2 2 2 0,sA 0 0 3 0],[(5,[cL 3 (r2.1.Rows ++ [(⟨r14.1,r15.1,r16.1⟩ : zC)]) zC.row,cL 1 r2.1.Pv intRow]),(0,(CV.frzRow (Src.row r16.2))),(2,[cL 3 ([] : List zC) zC.row,cL 1 ([] : List Int) intRow])]⟩ (zGK n r3 r14 r15 r16 r2 r1 er14 er15 er16 hg17) ?_
 refine gA 4 13 5 ?_
 refine te ?_
 obtain rfl := si H
 exact Fin.ofY _ [(true,[cL 3 (r2.1.Rows ++ [(⟨r14.1,r15.1,r16.1⟩ : zC)]) zC.row,cL 1 r2.1.Pv intRow]),(false,[cI (IntKind.wrap .i64 (1 + r1.1))])] [] _ [] _ [(0,(CV.frzRow (Src.row r16.2)))] kr rfl rfl rfl kr kr kr kr rfl rfl rfl
def Zp (n : Nat) (x0 : Src) : Option (zA × Src) :=
  ((Ym n x0).bind fun r1 => ((zN n r1.2 16).bind fun r2 => (bif (r2.1 == 0) then ((zc n r2.2 [0,99,100]).bind fun r8 => (some ((⟨r8.1,r1.1.Name,r1.1.Ps,r1.1.F,r1.1.V,r1.1.Tk,r1.1.Pa,r1.1.Wo,r1.1.Dr,r1.1.Ve⟩ : zA),r8.2))) else (bif (r2.1 == 1) then ((Qc n r2.2 [(⟨#[116,101,110,45,98,121,116,101,115,45]⟩ : ByteArray),(⟨#[101,108,101,118,101,110,45,98,121,116,101]⟩ : ByteArray)]).bind fun r7 => (some ((⟨r1.1.Id,r7.1,r1.1.Ps,r1.1.F,r1.1.V,r1.1.Tk,r1.1.Pa,r1.1.Wo,r1.1.Dr,r1.1.Ve⟩ : zA),r7.2))) else (bif (r2.1 == 2) then ((JH n r2.2).bind fun r6 => (some ((⟨r1.1.Id,r1.1.Name,r6.1,r1.1.F,r1.1.V,r1.1.Tk,r1.1.Pa,r1.1.Wo,r1.1.Dr,r1.1.Ve⟩ : zA),r6.2))) else (bif (r2.1 == 3) then ((Jk n r2.2).bind fun r5 => (some ((⟨r1.1.Id,r1.1.Name,r1.1.Ps,r5.1,r1.1.V,r1.1.Tk,r1.1.Pa,r1.1.Wo,r1.1.Dr,r1.1.Ve⟩ : zA),r5.2))) else (bif (r2.1 == 4) then ((Jl n r2.2).bind fun r4 => (some ((⟨r1.1.Id,r1.1.Name,r1.1.Ps,r1.1.F,r4.1,r1.1.Tk,r1.1.Pa,r1.1.Wo,r1.1.Dr,r1.1.Ve⟩ : zA),r4.2.2))) else (bif (r2.1 == 5) then ((zc n r2.2 [(-1),1000000,1000001]).bind fun r3 => (some ((⟨r1.1.Id,r1.1.Name,r1.1.Ps,r1.1.F,r1.1.V,r1.1.Tk,r1.1.Pa,r1.1.Wo,r3.1,r1.1.Ve⟩ : zA),r3.2))) else (some (r1.1,r2.2))))))))))
noncomputable abbrev G77 (k : Nat) := Rg Tryz.f77 k
theorem Ji (n : Nat) (x0 : Src) (r : zA × Src) (H : Zp n x0 = some r) : zG Tryz.prog 77 [.ptr (CV.frzRow (Src.row x0))] [.val true (zA.row r.1)] [(0,(CV.frzRow (Src.row r.2)))] := by
 refine zG.of_body tOk Tryz.func77 rfl (c := (.seq (G77 0) (.seq (G77 1) (.seq (.seq (G77 2) (.block 0 (.seq (G77 3) (.cond (.tmp 8) (G77 4) (.seq (G77 5) (.cond (.tmp 14) (G77 6) (.seq (G77 7) (.cond (.tmp 20) (G77 8) (.seq (G77 9) (.cond (.tmp 25) (G77 10) (.seq (G77 11) (.cond (.tmp 30) (G77 12) (.seq (G77 13) (.cond (.tmp 38) (G77 14) .skip)))))))))))))) (.seq (G77 15) .ret))))) kr (Nat.le_of_ble_eq_true kr) 1 (rs := [.cell 2 31]) rfl [] .nil [(true,(zA.row r.1))] [] [(0,(CV.frzRow (Src.row r.2)))] fun cx => ?_
 show Tr _ _ _ ⟨45,1,[sA 0 0 3 0],[(0,(CV.frzRow (Src.row x0)))]⟩ _
 unfold Zp at H
 refine gA 1 5 5 ?_
 refine rA 1 ?_
 obtain ⟨r1,er1,H⟩ := bs H
 refine LAt.callL tOk [.lend] (f := 150) (av := #[.tmp 4]) (ats := #[91]) (d := (some 5)) (ty := 31) (g := none) kr kr kr [] (zG2 n x0 r1 er1) kr (.inl rfl) ?_
 refine uA 2 13 13 ?_
 refine tS ?_
 refine rA 1 ?_
 obtain ⟨r2,er2,H⟩ := bs H
 refine LAt.callL tOk [.lend,.rd] (f := 119) (av := #[.tmp 6,.const (.int .i64 16)]) (ats := #[91,3]) (d := (some 7)) (ty := 3) (g := none) kr kr kr [] (zQ n r1.2 16 r2 er2) kr (.inl rfl) ?_
 refine dA 141 13 ?_
 refine tB ?_
 refine gA 2 397 13 ?_
 obtain ⟨h1,H⟩ | ⟨h1,H⟩ := bC H
 ·refine nA h1 ?_
  refine gA 2 16525 13 ?_
  obtain ⟨h2,H⟩ | ⟨h2,H⟩ := bC H
  ·refine nA h2 ?_
   refine gA 2 1048717 13 ?_
   obtain ⟨h3,H⟩ | ⟨h3,H⟩ := bC H
   ·refine nA h3 ?_
    refine gA 2 33554573 13 ?_
    obtain ⟨h4,H⟩ | ⟨h4,H⟩ := bC H
    ·refine nA h4 ?_
     refine gA 2 1073741965 13 ?_
     obtain ⟨h5,H⟩ | ⟨h5,H⟩ := bC H
     ·refine nA h5 ?_
      refine gA 2 274877906957 13 ?_
      obtain ⟨h6,H⟩ | ⟨h6,H⟩ := bC H
      ·refine nA h6 ?_
       refine tK ?_
       refine gA 2 5 5 ?_
       refine te ?_
       obtain rfl := si H
       exact Fin.ofY _ [(true,(zA.row r1.1))] [] _ [] _ [(0,(CV.frzRow (Src.row r2.2)))] kr rfl rfl rfl kr kr kr kr rfl rfl rfl
      refine tA h6 ?_
      refine Tr.at ?_
      refine lA 2 ?_
      obtain ⟨r3,er3,H⟩ := bs H
      refine LAt.callL tOk [.lend,.rd] (f := 78) (av := #[.tmp 40,.tmp 41]) (ats := #[91,27]) (d := (some 42)) (ty := 3) (g := none) kr kr kr [] (zr n r2.2 [(-1),1000000,1000001] r3 er3) kr (.inl rfl) ?_
      refine uA 2 13 13 ?_
      refine gA 2 5 5 ?_
      refine te ?_
      obtain rfl := si H
      exact Fin.ofY _ [(true,[cI r1.1.Id,cS r1.1.Name,cL 8 r1.1.Ps Pt.row,cL 5 r1.1.F zB.row,cL 3 r1.1.V.Rows zC.row,cL 1 r1.1.V.Pv intRow,cI r1.1.Tk,cI r1.1.Pa,cI r1.1.Wo,cI r3.1,cI r1.1.Ve])] [] _ [] _ [(0,(CV.frzRow (Src.row r3.2)))] kr rfl rfl rfl kr kr kr kr rfl rfl rfl
     refine tA h5 ?_
     refine Tr.at ?_
     refine lA 1 ?_
     obtain ⟨r4,er4,H⟩ := bs H
     refine LAt.callL tOk [.lend] (f := 154) (av := #[.tmp 33]) (ats := #[91]) (d := (some 34)) (ty := 153) (g := none) kr kr kr [] (zH6 n r2.2 r4 er4) kr (.inl rfl) ?_
     refine LAt.movT tOk (ty := 153) (t := 34) (d := 32) (g := none) [(true,(zD.row r4.1)),(false,[cI r4.2.1])] _ kr (.inl rfl) kr kr kr kr rfl ?_
     refine uA 4 13 13 ?_
     refine gA 2 5 5 ?_
     refine te ?_
     obtain rfl := si H
     exact Fin.ofY _ [(true,[cI r1.1.Id,cS r1.1.Name,cL 8 r1.1.Ps Pt.row,cL 5 r1.1.F zB.row,cL 3 r4.1.Rows zC.row,cL 1 r4.1.Pv intRow,cI r1.1.Tk,cI r1.1.Pa,cI r1.1.Wo,cI r1.1.Dr,cI r1.1.Ve])] [] _ [] _ [(0,(CV.frzRow (Src.row r4.2.2)))] kr rfl rfl rfl kr kr kr kr rfl rfl rfl
    refine tA h4 ?_
    refine Tr.at ?_
    refine lA 1 ?_
    obtain ⟨r5,er5,H⟩ := bs H
    refine LAt.callL tOk [.lend] (f := 153) (av := #[.tmp 27]) (ats := #[91]) (d := (some 28)) (ty := 25) (g := none) kr kr kr [] (zH5 n r2.2 r5 er5) kr (.inl rfl) ?_
    refine uA 2 13 13 ?_
    refine gA 2 5 5 ?_
    refine te ?_
    obtain rfl := si H
    exact Fin.ofY _ [(true,[cI r1.1.Id,cS r1.1.Name,cL 8 r1.1.Ps Pt.row,cL 5 r5.1 zB.row,cL 3 r1.1.V.Rows zC.row,cL 1 r1.1.V.Pv intRow,cI r1.1.Tk,cI r1.1.Pa,cI r1.1.Wo,cI r1.1.Dr,cI r1.1.Ve])] [] _ [] _ [(0,(CV.frzRow (Src.row r5.2)))] kr rfl rfl rfl kr kr kr kr rfl rfl rfl
   refine tA h3 ?_
   refine Tr.at ?_
   refine lA 1 ?_
   obtain ⟨r6,er6,H⟩ := bs H
   refine LAt.callL tOk [.lend] (f := 152) (av := #[.tmp 22]) (ats := #[91]) (d := (some 23)) (ty := 24) (g := none) kr kr kr [] (zHM n r2.2 r6 er6) kr (.inl rfl) ?_
   refine uA 2 13 13 ?_
   refine gA 2 5 5 ?_
   refine te ?_
   obtain rfl := si H
   exact Fin.ofY _ [(true,[cI r1.1.Id,cS r1.1.Name,cL 8 r6.1 Pt.row,cL 5 r1.1.F zB.row,cL 3 r1.1.V.Rows zC.row,cL 1 r1.1.V.Pv intRow,cI r1.1.Tk,cI r1.1.Pa,cI r1.1.Wo,cI r1.1.Dr,cI r1.1.Ve])] [] _ [] _ [(0,(CV.frzRow (Src.row r6.2)))] kr rfl rfl rfl kr kr kr kr rfl rfl rfl
  refine tA h2 ?_
  refine Tr.at ?_
  refine lA 2 ?_
  obtain ⟨r7,er7,H⟩ := bs H
  refine LAt.callL tOk [.lend,.rd] (f := 151) (av := #[.tmp 16,.tmp 17]) (ats := #[91,150]) (d := (some 18)) (ty := 9) (g := none) kr kr kr [] (zFC n r2.2 [(⟨#[116,101,110,45,98,121,116,101,115,45]⟩ : ByteArray),(⟨#[101,108,101,118,101,110,45,98,121,116,101]⟩ : ByteArray)] r7 er7) kr (.inl rfl) ?_
  refine uA 2 13 13 ?_
  refine gA 2 5 5 ?_
  refine te ?_
  obtain rfl := si H
  exact Fin.ofY _ [(true,[cI r1.1.Id,cS r7.1,cL 8 r1.1.Ps Pt.row,cL 5 r1.1.F zB.row,cL 3 r1.1.V.Rows zC.row,cL 1 r1.1.V.Pv intRow,cI r1.1.Tk,cI r1.1.Pa,cI r1.1.Wo,cI r1.1.Dr,cI r1.1.Ve])] [] _ [] _ [(0,(CV.frzRow (Src.row r7.2)))] kr rfl rfl rfl kr kr kr kr rfl rfl rfl
 refine tA h1 ?_
 refine Tr.at ?_
 refine lA 2 ?_
 obtain ⟨r8,er8,H⟩ := bs H
 refine LAt.callL tOk [.lend,.rd] (f := 78) (av := #[.tmp 10,.tmp 11]) (ats := #[91,27]) (d := (some 12)) (ty := 3) (g := none) kr kr kr [] (zr n r2.2 [0,99,100] r8 er8) kr (.inl rfl) ?_
 refine uA 2 13 13 ?_
 refine gA 2 5 5 ?_
 refine te ?_
 obtain rfl := si H
 exact Fin.ofY _ [(true,[cI r8.1,cS r1.1.Name,cL 8 r1.1.Ps Pt.row,cL 5 r1.1.F zB.row,cL 3 r1.1.V.Rows zC.row,cL 1 r1.1.V.Pv intRow,cI r1.1.Tk,cI r1.1.Pa,cI r1.1.Wo,cI r1.1.Dr,cI r1.1.Ve])] [] _ [] _ [(0,(CV.frzRow (Src.row r8.2)))] kr rfl rfl rfl kr kr kr kr rfl rfl rfl
def QU (n : Nat) (x0 : (List Int)) : Option (zA × Int × Vec) :=
  ((Zg n x0).bind fun r1 => ((Zp n r1).bind fun r2 => ((zc n r2.2 [0,0,1,2,(-1),6]).bind fun r3 => ((Qe n r3.2).bind fun r4 => (some (r2.1,r3.1,r4.1))))))
theorem zET (n : Nat) (x0 : (List Int)) (r : zA × Int × Vec) (H : QU n x0 = some r) : zG Tryz.prog 9 [.val false [.sl false 1 (CV.frzEs (x0.map zk))]] [.val true (zA.row r.1),.val false [.lit (.int .i64 r.2.1)],.val true (Vec.row r.2.2)] [] := by
 refine cW Tryz.func9 (fun g d => sl [g 0,g 1,g 2] .ret) [.cell 2 31,.tmp 3,.cell 4 33] fun cx => ?_
 unfold QU at H
 refine gA 3 21 20 ?_
 refine rA 1 ?_
 obtain ⟨r1,er1,H⟩ := bs H
 refine vA [.rd] (JU n x0 r1 er1) ?_
 refine uA 1 52 148 ?_
 refine rA 1 ?_
 obtain ⟨r2,er2,H⟩ := bs H
 refine LAt.callL tOk [.lend] (f := 77) (av := #[.tmp 8]) (ats := #[91]) (d := (some 9)) (ty := 31) (g := none) kr kr kr [] (Ji n r1 r2 er2) kr (.inl rfl) ?_
 refine lA 2 ?_
 obtain ⟨r3,er3,H⟩ := bs H
 refine LAt.callL tOk [.lend,.rd] (f := 78) (av := #[.tmp 10,.tmp 11]) (ats := #[91,27]) (d := (some 12)) (ty := 3) (g := none) kr kr kr [] (zr n r2.2 [0,0,1,2,(-1),6] r3 er3) kr (.inl rfl) ?_
 refine lA 1 ?_
 obtain ⟨r4,er4,H⟩ := bs H
 refine LAt.callL tOk [.lend] (f := 79) (av := #[.tmp 13]) (ats := #[91]) (d := (some 14)) (ty := 33) (g := none) kr kr kr [] (zFD n r3.2 r4 er4) kr (.inl rfl) ?_
 refine uA 3 28 20 ?_
 exact te (fJ [(true,(zA.row r2.1)),(false,[cI r3.1]),(true,(Vec.row r4.1))] H)
def QV (n : Nat) (x0 : (List Int)) : Option (zA × Int × Bool) :=
  ((Zg n x0).bind fun r1 => ((Zp n r1).bind fun r2 => ((zc n r2.2 [0,0,1,2,(-1),6]).bind fun r3 => ((ZA n r3.2 2).bind fun r4 => (some (r2.1,r3.1,r4.1))))))
theorem zEU (n : Nat) (x0 : (List Int)) (r : zA × Int × Bool) (H : QV n x0 = some r) : zG Tryz.prog 10 [.val false [.sl false 1 (CV.frzEs (x0.map zk))]] [.val true (zA.row r.1),.val false [.lit (.int .i64 r.2.1)],.val false [.lit (.bool r.2.2)]] [] := by
 refine cW Tryz.func10 (fun g d => sl [g 0,g 1,g 2] .ret) [.cell 2 31,.tmp 3,.tmp 4] fun cx => ?_
 unfold QV at H
 refine gA 3 5 4 ?_
 refine rA 1 ?_
 obtain ⟨r1,er1,H⟩ := bs H
 refine vA [.rd] (JU n x0 r1 er1) ?_
 refine uA 1 36 132 ?_
 refine rA 1 ?_
 obtain ⟨r2,er2,H⟩ := bs H
 refine LAt.callL tOk [.lend] (f := 77) (av := #[.tmp 8]) (ats := #[91]) (d := (some 9)) (ty := 31) (g := none) kr kr kr [] (Ji n r1 r2 er2) kr (.inl rfl) ?_
 refine lA 2 ?_
 obtain ⟨r3,er3,H⟩ := bs H
 refine LAt.callL tOk [.lend,.rd] (f := 78) (av := #[.tmp 10,.tmp 11]) (ats := #[91,27]) (d := (some 12)) (ty := 3) (g := none) kr kr kr [] (zr n r2.2 [0,0,1,2,(-1),6] r3 er3) kr (.inl rfl) ?_
 refine lA 1 ?_
 obtain ⟨r4,er4,H⟩ := bs H
 refine LAt.callL tOk [.lend,.rd] (f := 80) (av := #[.tmp 13,.const (.int .i64 2)]) (ats := #[91,3]) (d := (some 14)) (ty := 4) (g := none) kr kr kr [] (Jj n r3.2 2 r4 er4) kr (.inl rfl) ?_
 refine uA 3 28 4 ?_
 exact te (fJ [(true,(zA.row r2.1)),(false,[cI r3.1]),(false,[cB r4.1])] H)
def YQ (n : Nat) (x0 : (List Int)) : Option (zA) :=
  ((Zg n x0).bind fun r1 => ((Zp n r1).bind fun r2 => (some r2.1)))
theorem zGJ (n : Nat) (x0 : (List Int)) (r : zA) (H : YQ n x0 = some r) : zG Tryz.prog 11 [.val false [.sl false 1 (CV.frzEs (x0.map zk))]] [.val true (zA.row r)] [] := by
 refine cW Tryz.func11 (fun g d => sl [g 0,g 1,g 2] .ret) [.cell 2 31] fun cx => ?_
 unfold YQ at H
 refine gA 1 5 4 ?_
 refine rA 1 ?_
 obtain ⟨r1,er1,H⟩ := bs H
 refine vA [.rd] (JU n x0 r1 er1) ?_
 refine uA 1 12 36 ?_
 refine rA 1 ?_
 obtain ⟨r2,er2,H⟩ := bs H
 refine LAt.callL tOk [.lend] (f := 77) (av := #[.tmp 6]) (ats := #[91]) (d := (some 7)) (ty := 31) (g := none) kr kr kr [] (Ji n r1 r2 er2) kr (.inl rfl) ?_
 refine uA 1 4 4 ?_
 exact te (fJ [(true,(zA.row r2.1))] H)
def QC (n : Nat) (x0 : (List Int)) : Option (zA) :=
  ((Zg n x0).bind fun r1 => ((Zp n r1).bind fun r2 => (some r2.1)))
theorem zDx (n : Nat) (x0 : (List Int)) (r : zA) (H : QC n x0 = some r) : zG Tryz.prog 12 [.val false [.sl false 1 (CV.frzEs (x0.map zk))]] [.val true (zA.row r)] [] := by
 refine cW Tryz.func12 (fun g d => sl [g 0,g 1,g 2] .ret) [.cell 2 31] fun cx => ?_
 unfold QC at H
 refine gA 1 5 4 ?_
 refine rA 1 ?_
 obtain ⟨r1,er1,H⟩ := bs H
 refine vA [.rd] (JU n x0 r1 er1) ?_
 refine uA 1 12 36 ?_
 refine rA 1 ?_
 obtain ⟨r2,er2,H⟩ := bs H
 refine LAt.callL tOk [.lend] (f := 77) (av := #[.tmp 6]) (ats := #[91]) (d := (some 7)) (ty := 31) (g := none) kr kr kr [] (Ji n r1 r2 er2) kr (.inl rfl) ?_
 refine uA 1 4 4 ?_
 exact te (fJ [(true,(zA.row r2.1))] H)
def Zx (n : Nat) (x0 : zA) : Option (zA) :=
  (bif (decide (([] : List Pt).length + x0.Ps.length ≤ 268435456)) then ((qV n x0.F).bind fun r2 => ((qq n x0.V).bind fun r3 => (some (⟨x0.Id,x0.Name,(([] : List Pt) ++ x0.Ps),r2,r3,x0.Tk,x0.Pa,x0.Wo,x0.Dr,x0.Ve⟩ : zA)))) else none)
theorem zAN (n : Nat) (x0 : zA) (r : zA) (H : Zx n x0 = some r) : zG Tryz.prog 81 [.val true (CV.frzRow (zA.row x0))] [.val true (zA.row r)] [] := by
 refine cW Tryz.func81 (fun g d => sl [g 0,g 1,g 2,g 3,g 4,g 5] .ret) [.cell 2 31] fun cx => ?_
 unfold Zx at H
 refine gA 2 6 6 ?_
 refine gA 3 14 14 ?_
 refine rA 3 ?_
 obtain ⟨hg1,H⟩ := gs H
 refine pD Pt.row hg1 ?_
 refine uA 2 14 14 ?_
 refine rA 2 ?_
 obtain ⟨r2,er2,H⟩ := bs H
 refine vA [.rd] (Z9 n x0.F r2 er2) ?_
 refine uA 2 14 14 ?_
 refine rA 2 ?_
 obtain ⟨r3,er3,H⟩ := bs H
 refine vA [.rd] (QA n x0.V r3 er3) ?_
 refine uA 2 12 12 ?_
 refine gA 2 4 4 ?_
 exact te (fJ [(true,[cI x0.Id,cS x0.Name,cL 8 (([] : List Pt) ++ x0.Ps) Pt.row,cL 5 r2 zB.row,cL 3 r3.Rows zC.row,cL 1 r3.Pv intRow,cI x0.Tk,cI x0.Pa,cI x0.Wo,cI x0.Dr,cI x0.Ve])] H)
def qR (n : Nat) (x0 : Vec) : Option (Bool) :=
  ((za n x0.Root 1 99).bind fun r1 => (bif r1 then ((za n x0.Co 0 100000).bind fun r2 => (bif r2 then ((za n x0.Hops 0 10).bind fun r3 => (bif r3 then ((za n x0.Bridge 1 99).bind fun r4 => (bif r4 then ((za n x0.Port 0 7).bind fun r5 => (some r5)) else (some false))) else (some false))) else (some false))) else (some false)))
theorem zBQ (n : Nat) (x0 : Vec) (r : Bool) (H : qR n x0 = some r) : zG Tryz.prog 91 [.val true (CV.frzRow (Vec.row x0))] [.val false [.lit (.bool r)]] [] := by
 refine cW Tryz.func91 (fun g d => sl [g 0,g 1] .ret) [.tmp 2] fun cx => ?_
 unfold qR at H
 refine gA 2 2 2 ?_
 refine rA 2 ?_
 obtain ⟨r1,er1,H⟩ := bs H
 refine vA [.rd,.rd,.rd] (zZ n x0.Root 1 99 r1 er1) ?_
 refine lA 1 ?_
 refine sL 66 2 ⟨26,0,[sB 6 r1,sA 1 1 5 0],[(1,(Vec.row x0))]⟩ ?_
 cases h1 : r1
 ·have H := zI h1 H
  refine uA 20 4 0 ?_
  exact te (fF H)
 have H := zJ h1 H
 refine lA 2 ?_
 obtain ⟨r2,er2,H⟩ := bs H
 refine vA [.rd,.rd,.rd] (zZ n x0.Co 0 100000 r2 er2) ?_
 refine lA 2 ?_
 refine sL 2050 2 ⟨26,0,[sB 11 r2,sA 1 1 5 0],[(1,(Vec.row x0))]⟩ ?_
 cases h2 : r2
 ·have H := zI h2 H
  refine uA 15 4 0 ?_
  exact te (fF H)
 have H := zJ h2 H
 refine lA 2 ?_
 obtain ⟨r3,er3,H⟩ := bs H
 refine vA [.rd,.rd,.rd] (zZ n x0.Hops 0 10 r3 er3) ?_
 refine lA 2 ?_
 refine sL 65538 2 ⟨26,0,[sB 16 r3,sA 1 1 5 0],[(1,(Vec.row x0))]⟩ ?_
 cases h3 : r3
 ·have H := zI h3 H
  refine uA 10 4 0 ?_
  exact te (fF H)
 have H := zJ h3 H
 refine lA 2 ?_
 obtain ⟨r4,er4,H⟩ := bs H
 refine vA [.rd,.rd,.rd] (zZ n x0.Bridge 1 99 r4 er4) ?_
 refine lA 2 ?_
 refine sL 2097154 2 ⟨26,0,[sB 21 r4,sA 1 1 5 0],[(1,(Vec.row x0))]⟩ ?_
 cases h4 : r4
 ·have H := zI h4 H
  refine uA 5 4 0 ?_
  exact te (fF H)
 have H := zJ h4 H
 refine lA 2 ?_
 obtain ⟨r5,er5,H⟩ := bs H
 refine vA [.rd,.rd,.rd] (zZ n x0.Port 0 7 r5 er5) ?_
 refine uA 2 4 0 ?_
 exact te (fJ [(false,[cB r5])] H)
def qF (n : Nat) (x0 : Pt) : Option (Bool) :=
  ((za n x0.Co 1 1000).bind fun r1 => (bif (!r1) then (some false) else (bif (!x0.Up) then (bif x0.Has then (some false) else (some ((x0.Hd.Root == 0) && ((x0.Hd.Co == 0) && ((x0.Hd.Hops == 0) && ((x0.Hd.Bridge == 0) && ((x0.Hd.Port == 0) && true))))))) else (bif (!x0.Has) then (some ((x0.Hd.Root == 0) && ((x0.Hd.Co == 0) && ((x0.Hd.Hops == 0) && ((x0.Hd.Bridge == 0) && ((x0.Hd.Port == 0) && true)))))) else ((qR n x0.Hd).bind fun r2 => (some r2))))))
theorem zIb (n : Nat) (x0 : Pt) (r : Bool) (H : qF n x0 = some r) : zG Tryz.prog 101 [.val true (CV.frzRow (Pt.row x0))] [.val false [.lit (.bool r)]] [] := by
 refine cW Tryz.func101 (fun g d => sl [g 0,sl [g 1] (cn 15 (sl [g 2] .ret) .skip),sl [g 3] (cn 18 (sl [g 4] .ret) .skip),g 5] .ret) [.tmp 2] fun cx => ?_
 unfold qF at H
 refine gA 2 2 2 ?_
 refine tS ?_
 refine rA 2 ?_
 obtain ⟨r1,er1,H⟩ := bs H
 refine vA [.rd,.rd,.rd] (zZ n x0.Co 1 1000 r1 er1) ?_
 refine lA 2 ?_
 refine sL 130 2 ⟨26,0,[sB 7 (!r1),sA 1 1 8 0],[(1,(Pt.row x0))]⟩ ?_
 cases h1 : (!r1)
 ·have H := zI h1 H
  refine lA 4 ?_
  refine sL 2178 2 ⟨26,0,[sB 11 (!x0.Up),sB 7 false,sA 1 1 8 0],[(1,(Pt.row x0))]⟩ ?_
  cases h2 : (!x0.Up)
  ·have H := zI h2 H
   refine uA 4 32770 2 ?_
   refine nB_ ?_
   refine tK ?_
   refine tS ?_
   refine gA 3 262146 2 ?_
   obtain ⟨h3,H⟩ | ⟨h3,H⟩ := bC H
   ·refine nA h3 ?_
    refine tK ?_
    refine rA 2 ?_
    obtain ⟨r2,er2,H⟩ := bs H
    refine vA [.rd] (zBQ n x0.Hd r2 er2) ?_
    refine uA 1 4 0 ?_
    exact te (fJ [(false,[cB r2])] H)
   refine tA h3 ?_
   refine rA 3 ?_
   refine LAt.eqSG false (t := 33) (ty := 33) (ty' := 4) (x := (.tmp 20)) (y := (.tmp 21)) (d := 22) (g := none) ((x0.Hd.Root == 0) && ((x0.Hd.Co == 0) && ((x0.Hd.Hops == 0) && ((x0.Hd.Bridge == 0) && ((x0.Hd.Port == 0) && true))))) _ kr kr kr kr rfl ?_
   refine uA 1 4 0 ?_
   exact te (fJ [(false,[cB ((x0.Hd.Root == 0) && ((x0.Hd.Co == 0) && ((x0.Hd.Hops == 0) && ((x0.Hd.Bridge == 0) && ((x0.Hd.Port == 0) && true)))))])] H)
  have H := zJ h2 H
  refine uA 4 32770 2 ?_
  refine sT ⟨26,0,[sB 15 x0.Has,sA 1 1 8 0],[(1,(Pt.row x0))]⟩ ?_
  cases h4 : x0.Has
  ·have H := zI h4 H
   refine nB_ ?_
   refine tK ?_
   refine tS ?_
   refine gA 3 262146 2 ?_
   refine sT ⟨26,0,[sB 18 (!x0.Has),sA 1 1 8 0],[(1,(Pt.row x0))]⟩ ?_
   rw [h4]
   refine tB_ ?_
   refine rA 3 ?_
   refine LAt.eqSG false (t := 33) (ty := 33) (ty' := 4) (x := (.tmp 20)) (y := (.tmp 21)) (d := 22) (g := none) ((x0.Hd.Root == 0) && ((x0.Hd.Co == 0) && ((x0.Hd.Hops == 0) && ((x0.Hd.Bridge == 0) && ((x0.Hd.Port == 0) && true))))) _ kr kr kr kr rfl ?_
   refine uA 1 4 0 ?_
   exact te (fJ [(false,[cB ((x0.Hd.Root == 0) && ((x0.Hd.Co == 0) && ((x0.Hd.Hops == 0) && ((x0.Hd.Bridge == 0) && ((x0.Hd.Port == 0) && true)))))])] H)
  have H := zJ h4 H
  refine tB_ ?_
  refine gA 1 4 0 ?_
  exact te (fF H)
 have H := zJ h1 H
 refine uA 8 32770 2 ?_
 refine tB_ ?_
 refine gA 1 4 0 ?_
 exact te (fF H)
def QL (n : Nat) (x0 : zA) : Option (Bool) :=
  ((za n x0.Tk 0 1000000).bind fun r1 => (bif r1 then ((za n x0.Pa 0 1000000).bind fun r2 => (bif r2 then ((za n x0.Wo 0 1000000).bind fun r3 => (bif r3 then ((za n x0.Dr 0 1000000).bind fun r4 => (bif r4 then ((za n x0.Ve 0 1000000).bind fun r5 => (some r5)) else (some false))) else (some false))) else (some false))) else (some false)))
theorem zFk (n : Nat) (x0 : zA) (r : Bool) (H : QL n x0 = some r) : zG Tryz.prog 105 [.val true (CV.frzRow (zA.row x0))] [.val false [.lit (.bool r)]] [] := by
 refine cW Tryz.func105 (fun g d => sl [g 0,g 1] .ret) [.tmp 2] fun cx => ?_
 unfold QL at H
 refine gA 2 2 2 ?_
 refine rA 2 ?_
 obtain ⟨r1,er1,H⟩ := bs H
 refine vA [.rd,.rd,.rd] (zZ n x0.Tk 0 1000000 r1 er1) ?_
 refine lA 1 ?_
 refine sL 66 2 ⟨26,0,[sB 6 r1,sA 1 1 11 0],[(1,(CV.frzRow (zA.row x0)))]⟩ ?_
 cases h1 : r1
 ·have H := zI h1 H
  refine uA 20 4 0 ?_
  exact te (fF H)
 have H := zJ h1 H
 refine lA 2 ?_
 obtain ⟨r2,er2,H⟩ := bs H
 refine vA [.rd,.rd,.rd] (zZ n x0.Pa 0 1000000 r2 er2) ?_
 refine lA 2 ?_
 refine sL 2050 2 ⟨26,0,[sB 11 r2,sA 1 1 11 0],[(1,(CV.frzRow (zA.row x0)))]⟩ ?_
 cases h2 : r2
 ·have H := zI h2 H
  refine uA 15 4 0 ?_
  exact te (fF H)
 have H := zJ h2 H
 refine lA 2 ?_
 obtain ⟨r3,er3,H⟩ := bs H
 refine vA [.rd,.rd,.rd] (zZ n x0.Wo 0 1000000 r3 er3) ?_
 refine lA 2 ?_
 refine sL 65538 2 ⟨26,0,[sB 16 r3,sA 1 1 11 0],[(1,(CV.frzRow (zA.row x0)))]⟩ ?_
 cases h3 : r3
 ·have H := zI h3 H
  refine uA 10 4 0 ?_
  exact te (fF H)
 have H := zJ h3 H
 refine lA 2 ?_
 obtain ⟨r4,er4,H⟩ := bs H
 refine vA [.rd,.rd,.rd] (zZ n x0.Dr 0 1000000 r4 er4) ?_
 refine lA 2 ?_
 refine sL 2097154 2 ⟨26,0,[sB 21 r4,sA 1 1 11 0],[(1,(CV.frzRow (zA.row x0)))]⟩ ?_
 cases h4 : r4
 ·have H := zI h4 H
  refine uA 5 4 0 ?_
  exact te (fF H)
 have H := zJ h4 H
 refine lA 2 ?_
 obtain ⟨r5,er5,H⟩ := bs H
 refine vA [.rd,.rd,.rd] (zZ n x0.Ve 0 1000000 r5 er5) ?_
 refine uA 2 4 0 ?_
 exact te (fJ [(false,[cB r5])] H)
def ZY (n : Nat) (x0 : zA) : Option (Bool) :=
  ((za n x0.Id 1 99).bind fun r2 => (bif r2 then (bif (decide ((x0.Name.size : Int) ≤ 10)) then ((za n (x0.Ps.length : Int) 1 6).bind fun r3 => (bif r3 then ((q3 n x0.F).bind fun r4 => (bif r4 then ((qG n x0.V (x0.Ps.length : Int)).bind fun r5 => (bif r5 then ((QL n x0).bind fun r6 => (some r6)) else (some false))) else (some false))) else (some false))) else (some false)) else (some false)))
def zq (n : Nat) : Nat → zA → Int → Option ((Unit) ⊕ (Bool))
  | 0,_,_ => none
  | mo7 + 1,x0,y1 => (bif (decide (y1 < (x0.Ps.length : Int))) then ((idx x0.Ps y1).bind fun v8 => ((qF n v8).bind fun r9 => (bif (!r9) then (some (Sum.inr false)) else (zq n mo7 x0 (IntKind.wrap .i64 (y1 + 1)))))) else (some (Sum.inl ())))
def z4 (n : Nat) (x0 : zA) : Option (Bool) :=
  ((zq n n x0 0).bind fun o => match o with | .inl _ => (ZY n x0) | .inr r => some r)
theorem Q0 (n : Nat) (x0 : zA) (r : Bool) (H : z4 n x0 = some r) : zG Tryz.prog 24 [.val true (CV.frzRow (zA.row x0))] [.val false [.lit (.bool r)]] [] := by
 refine cW Tryz.func24 (fun g d => sl [g 0,sl [g 1] (.block 0 (.loop (sl [sl [g 2] (cn 8 .skip (.exit 0)),.block 1 (sl [g 4] (cn 17 (sl [g 5] .ret) .skip))] (g 3)))),g 6] .ret) [.tmp 2] fun cx => ?_
 unfold z4 at H
 refine gA 2 2 2 ?_
 refine tS ?_
 refine gA 1 10 2 ?_
 obtain ⟨o7,eo7,Ho7⟩ := bs H
 clear H
 refine Tr.mid (ι := Unit) (fun v => ⟨50,0,[sA 1 1 11 0],[(1,(CV.frzRow (zA.row x0)))]⟩) (fun v => ZY n x0 = some r) ?_ ?_
 ·refine tB ?_
  refine Tr.loop (ι := Nat × (Int)) (fun v => ⟨50,0,[sI 3 v.2,sA 1 1 11 0],[(1,(CV.frzRow (zA.row x0)))]⟩) (fun v => zq n v.1 x0 v.2 = some o7) (fun v => v.1) (n,0) eo7 (St.sub_of [3,1] [1] kr) ?_
  rintro ⟨mo7,y1⟩ H
  have H : zq n mo7 x0 y1 = some o7 := H
  obtain _ | mo7 := mo7
  ·exact nN H
  rw [zq] at H
  refine tS ?_
  refine rA 3 ?_
  refine kF x0.Ps Pt.row ?_
  refine uA 1 266 2 ?_
  obtain ⟨h6,H⟩ | ⟨h6,H⟩ := bC H
  ·refine nA h6 ?_
   refine Tr.exit ?_
   refine aJ ?_
   obtain rfl := si H
   have H := Ho7
   dsimp only at H
   exact jA () H [1] [1]
  refine tA h6 ?_
  refine tK ?_
  refine tS ?_
  refine tB ?_
  refine rA 3 ?_
  obtain ⟨v8,ev8,H⟩ := bs H
  refine iA Pt.row ev8 ?_
  refine lA 1 ?_
  obtain ⟨r9,er9,H⟩ := bs H
  refine vA [.rd] (zIb n v8 r9 er9) ?_
  refine uA 1 131082 2 ?_
  obtain ⟨h7,H⟩ | ⟨h7,H⟩ := bC H
  ·refine nA h7 ?_
   refine tK ?_
   refine eA 3 10 2 ?_
   exact jB mo7 (IntKind.wrap .i64 (y1 + 1)) H [3,1] [1]
  refine tA h7 ?_
  refine gA 1 4 0 ?_
  refine te ?_
  obtain rfl := si H
  have H := Ho7
  dsimp only at H
  exact fF H
 rintro _ H
 have H : (ZY n x0) = some r := H
 unfold ZY at H
 refine rA 2 ?_
 obtain ⟨r2,er2,H⟩ := bs H
 refine vA [.rd,.rd,.rd] (zZ n x0.Id 1 99 r2 er2) ?_
 refine lA 1 ?_
 refine sL 2097154 2 ⟨50,0,[sB 21 r2,sA 1 1 11 0],[(1,(CV.frzRow (zA.row x0)))]⟩ ?_
 cases h1 : r2
 ·have H := zI h1 H
  refine uA 29 4 0 ?_
  exact te (fF H)
 have H := zJ h1 H
 refine lA 6 ?_
 refine sL 134217730 2 ⟨50,0,[sB 27 (decide ((x0.Name.size : Int) ≤ 10)),sA 1 1 11 0],[(1,(CV.frzRow (zA.row x0)))]⟩ ?_
 cases h2 : (decide ((x0.Name.size : Int) ≤ 10))
 ·have H := zI h2 H
  refine uA 23 4 0 ?_
  exact te (fF H)
 have H := zJ h2 H
 refine lA 2 ?_
 refine kF x0.Ps Pt.row ?_
 obtain ⟨r3,er3,H⟩ := bs H
 refine vA [.rd,.rd,.rd] (zZ n (x0.Ps.length : Int) 1 6 r3 er3) ?_
 refine lA 2 ?_
 refine sL 8589934594 2 ⟨50,0,[sB 33 r3,sA 1 1 11 0],[(1,(CV.frzRow (zA.row x0)))]⟩ ?_
 cases h3 : r3
 ·have H := zI h3 H
  refine uA 17 4 0 ?_
  exact te (fF H)
 have H := zJ h3 H
 refine lA 2 ?_
 obtain ⟨r4,er4,H⟩ := bs H
 refine vA [.rd] (zC0 n x0.F r4 er4) ?_
 refine lA 2 ?_
 refine sL 274877906946 2 ⟨50,0,[sB 38 r4,sA 1 1 11 0],[(1,(CV.frzRow (zA.row x0)))]⟩ ?_
 cases h4 : r4
 ·have H := zI h4 H
  refine uA 12 4 0 ?_
  exact te (fF H)
 have H := zJ h4 H
 refine lA 4 ?_
 refine kF x0.Ps Pt.row ?_
 obtain ⟨r5,er5,H⟩ := bs H
 refine vA [.rd,.rd] (Jh n x0.V (x0.Ps.length : Int) r5 er5) ?_
 refine lA 2 ?_
 refine sL 70368744177666 2 ⟨50,0,[sB 46 r5,sA 1 1 11 0],[(1,(CV.frzRow (zA.row x0)))]⟩ ?_
 cases h5 : r5
 ·have H := zI h5 H
  refine uA 4 4 0 ?_
  exact te (fF H)
 have H := zJ h5 H
 refine lA 1 ?_
 obtain ⟨r6,er6,H⟩ := bs H
 refine vA [.rd] (zFk n x0 r6 er6) ?_
 refine uA 2 4 0 ?_
 exact te (fJ [(false,[cB r6])] H)
def YT (n : Nat) (x0 : Int) : Option (Int) :=
  (bif (decide (x0 ≥ 1000000)) then (some x0) else (some (IntKind.wrap .i64 (x0 + 1))))
theorem zEG (n : Nat) (x0 : Int) (r : Int) (H : YT n x0 = some r) : zG Tryz.prog 95 [.val false [.lit (.int .i64 x0)]] [.val false [.lit (.int .i64 r)]] [] := by
 refine cW Tryz.func95 (fun g d => sl [g 0,sl [g 1] (cn 4 (sl [g 2] .ret) .skip),g 3] .ret) [.tmp 2] fun cx => ?_
 unfold YT at H
 refine gA 1 1 0 ?_
 refine tS ?_
 refine gA 2 17 0 ?_
 obtain ⟨h1,H⟩ | ⟨h1,H⟩ := bC H
 ·refine nA h1 ?_
  refine tK ?_
  refine gA 3 4 0 ?_
  exact te (fJ [(false,[cI (IntKind.wrap .i64 (x0 + 1))])] H)
 refine tA h1 ?_
 refine gA 2 4 0 ?_
 exact te (fJ [(false,[cI x0])] H)
def Q3 (n : Nat) (x0 : Vec) (x1 : Int) : Option (Vec × Bool) :=
  ((qR n x0).bind fun r1 => (bif (!r1) then (some (x0,false)) else ((za n x1 1 1000).bind fun r2 => (bif (!r2) then (some (x0,false)) else ((qR n (⟨x0.Root,(IntKind.wrap .i64 (x0.Co + x1)),(IntKind.wrap .i64 (x0.Hops + 1)),x0.Bridge,x0.Port⟩ : Vec)).bind fun r3 => (bif (!r3) then (some (x0,false)) else (some ((⟨x0.Root,(IntKind.wrap .i64 (x0.Co + x1)),(IntKind.wrap .i64 (x0.Hops + 1)),x0.Bridge,x0.Port⟩ : Vec),true))))))))
theorem zDc (n : Nat) (x0 : Vec) (x1 : Int) (r : Vec × Bool) (H : Q3 n x0 x1 = some r) : zG Tryz.prog 178 [.val true (CV.frzRow (Vec.row x0)),.val false [.lit (.int .i64 x1)]] [.val true (Vec.row r.1),.val false [.lit (.bool r.2)]] [] := by
 refine cW Tryz.func178 (fun g d => sl [g 0,sl [g 1] (cn 14 (sl [g 2] .ret) .skip),g 3,g 4,g 5,sl [g 6] (cn 28 (sl [g 7] .ret) .skip),g 8] .ret) [.cell 4 33,.tmp 5] fun cx => ?_
 unfold Q3 at H
 refine gA 3 22 20 ?_
 refine tS ?_
 refine rA 1 ?_
 obtain ⟨r1,er1,H⟩ := bs H
 refine vA [.rd] (zBQ n x0 r1 er1) ?_
 refine lA 2 ?_
 refine sL 1046 20 ⟨31,0,[sB 10 (!r1),sA 4 4 5 0,sA 2 2 5 0,sI 1 x1],[(4,[cI 0,cI 0,cI 0,cI 0,cI 0]),(2,(Vec.row x0))]⟩ ?_
 cases h1 : (!r1)
 ·have H := zI h1 H
  refine lA 1 ?_
  obtain ⟨r2,er2,H⟩ := bs H
  refine vA [.rd,.rd,.rd] (zZ n x1 1 1000 r2 er2) ?_
  refine uA 2 16406 20 ?_
  obtain ⟨h2,H⟩ | ⟨h2,H⟩ := bC H
  ·refine nA h2 ?_
   refine tK ?_
   refine gA 3 86 84 ?_
   refine gA 6 84 84 ?_
   refine gA 5 84 84 ?_
   refine tS ?_
   refine rA 1 ?_
   obtain ⟨r3,er3,H⟩ := bs H
   refine vA [.rd] (zBQ n (⟨x0.Root,(IntKind.wrap .i64 (x0.Co + x1)),(IntKind.wrap .i64 (x0.Hops + 1)),x0.Bridge,x0.Port⟩ : Vec) r3 er3) ?_
   refine uA 1 268435540 84 ?_
   obtain ⟨h3,H⟩ | ⟨h3,H⟩ := bC H
   ·refine nA h3 ?_
    refine tK ?_
    refine gA 3 48 16 ?_
    exact te (fJ [(true,[cI x0.Root,cI (IntKind.wrap .i64 (x0.Co + x1)),cI (IntKind.wrap .i64 (x0.Hops + 1)),cI x0.Bridge,cI x0.Port]),(false,[cB true])] H)
   refine tA h3 ?_
   refine gA 3 48 16 ?_
   exact te (fJ [(true,(Vec.row x0)),(false,[cB false])] H)
  refine tA h2 ?_
  refine gA 3 48 16 ?_
  exact te (fJ [(true,(Vec.row x0)),(false,[cB false])] H)
 have H := zJ h1 H
 refine uA 4 16406 20 ?_
 refine tB_ ?_
 refine gA 3 48 16 ?_
 exact te (fJ [(true,(Vec.row x0)),(false,[cB false])] H)
def QP (n : Nat) (x0 : Vec) (x1 : Vec) : Option (Bool) :=
  (bif (x0.Root != x1.Root) then (some (decide (x0.Root < x1.Root))) else (bif (x0.Co != x1.Co) then (some (decide (x0.Co < x1.Co))) else (bif (x0.Bridge != x1.Bridge) then (some (decide (x0.Bridge < x1.Bridge))) else (some (decide (x0.Port < x1.Port))))))
theorem zDa (n : Nat) (x0 : Vec) (x1 : Vec) (r : Bool) (H : QP n x0 x1 = some r) : zG Tryz.prog 179 [.val true (CV.frzRow (Vec.row x0)),.val true (CV.frzRow (Vec.row x1))] [.val false [.lit (.bool r)]] [] := by
 refine cW Tryz.func179 (fun g d => sl [g 0,.block 0 (sl [g 1] (cn 5 (sl [g 2] .ret) (sl [g 3] (cn 16 (sl [g 4] .ret) (sl [g 5] (cn 27 (sl [g 6] .ret) .skip)))))),g 7] .ret) [.tmp 4] fun cx => ?_
 unfold QP at H
 refine gA 3 12 12 ?_
 refine tS ?_
 refine tB ?_
 refine gA 6 44 12 ?_
 obtain ⟨h1,H⟩ | ⟨h1,H⟩ := bC H
 ·refine nA h1 ?_
  refine gA 6 65548 12 ?_
  obtain ⟨h2,H⟩ | ⟨h2,H⟩ := bC H
  ·refine nA h2 ?_
   refine gA 6 134217740 12 ?_
   obtain ⟨h3,H⟩ | ⟨h3,H⟩ := bC H
   ·refine nA h3 ?_
    refine tK ?_
    refine gA 6 16 0 ?_
    exact te (fJ [(false,[cB (decide (x0.Port < x1.Port))])] H)
   refine tA h3 ?_
   refine gA 6 16 0 ?_
   exact te (fJ [(false,[cB (decide (x0.Bridge < x1.Bridge))])] H)
  refine tA h2 ?_
  refine gA 6 16 0 ?_
  exact te (fJ [(false,[cB (decide (x0.Co < x1.Co))])] H)
 refine tA h1 ?_
 refine gA 6 16 0 ?_
 exact te (fJ [(false,[cB (decide (x0.Root < x1.Root))])] H)
def Y0 (n : Nat) (x0 : Int) (y11 : Int) (y12 : Int) (y13 : Int) (y14 : Int) : Option (Vec × Int) :=
  (some ((⟨y12,y13,y14,x0,0⟩ : Vec),y11))
def q8 (n : Nat) (k : (Int × Int × Int × Int × Int × Int × Int × Int × Int × Int → Option ((Int × Int × Int × Int) ⊕ (Vec × Int)))) (r20 : Vec × Bool) (y1 : Int) (y10 : Int) (y2 : Int) (y3 : Int) (y4 : Int) (y5 : Int) (y6 : Int) (y7 : Int) (y8 : Int) (y9 : Int) (y21 : Bool) (y22 : Bool) (y23 : Bool) (y24 : Bool) (y25 : Bool) (y26 : Bool) (y27 : Bool) : Option ((Int × Int × Int × Int) ⊕ (Vec × Int)) :=
  (bif y21 then (k ((IntKind.wrap .i64 (y1 + 1)),y1,r20.1.Root,r20.1.Co,r20.1.Hops,r20.1.Bridge,r20.1.Port,r20.1.Root,r20.1.Co,r20.1.Hops)) else (k ((IntKind.wrap .i64 (y1 + 1)),y2,y3,y4,y5,y6,y7,y8,y9,y10)))
def z7 (n : Nat) : Nat → Int → (List Pt) → Int → Int → Int → Int → Int → Int → Int → Int → Int → Int → Option ((Int × Int × Int × Int) ⊕ (Vec × Int))
  | 0,_,_,_,_,_,_,_,_,_,_,_,_ => none
  | mo15 + 1,x0,x1,y1,y2,y3,y4,y5,y6,y7,y8,y9,y10 => (bif (decide (y1 < (x1.length : Int))) then ((idx x1 y1).bind fun v16 => (bif (!v16.Up) then (z7 n mo15 x0 x1 (IntKind.wrap .i64 (y1 + 1)) y2 y3 y4 y5 y6 y7 y8 y9 y10) else ((idx x1 y1).bind fun v17 => (bif (!v17.Has) then (z7 n mo15 x0 x1 (IntKind.wrap .i64 (y1 + 1)) y2 y3 y4 y5 y6 y7 y8 y9 y10) else ((idx x1 y1).bind fun v18 => ((idx x1 y1).bind fun v19 => ((Q3 n v18.Hd v19.Co).bind fun r20 => (bif r20.2 then (bif (decide (r20.1.Root < x0)) then (bif (decide (y2 < 0)) then (q8 n (fun v => z7 n mo15 x0 x1 v.1 v.2.1 v.2.2.1 v.2.2.2.1 v.2.2.2.2.1 v.2.2.2.2.2.1 v.2.2.2.2.2.2.1 v.2.2.2.2.2.2.2.1 v.2.2.2.2.2.2.2.2.1 v.2.2.2.2.2.2.2.2.2) r20 y1 y10 y2 y3 y4 y5 y6 y7 y8 y9 true true true true true true true) else ((QP n r20.1 (⟨y3,y4,y5,y6,y7⟩ : Vec)).bind fun r28 => (q8 n (fun v => z7 n mo15 x0 x1 v.1 v.2.1 v.2.2.1 v.2.2.2.1 v.2.2.2.2.1 v.2.2.2.2.2.1 v.2.2.2.2.2.2.1 v.2.2.2.2.2.2.2.1 v.2.2.2.2.2.2.2.2.1 v.2.2.2.2.2.2.2.2.2) r20 y1 y10 y2 y3 y4 y5 y6 y7 y8 y9 r28 true true true true true true))) else (q8 n (fun v => z7 n mo15 x0 x1 v.1 v.2.1 v.2.2.1 v.2.2.2.1 v.2.2.2.2.1 v.2.2.2.2.2.1 v.2.2.2.2.2.2.1 v.2.2.2.2.2.2.2.1 v.2.2.2.2.2.2.2.2.1 v.2.2.2.2.2.2.2.2.2) r20 y1 y10 y2 y3 y4 y5 y6 y7 y8 y9 false false false true true true true)) else (q8 n (fun v => z7 n mo15 x0 x1 v.1 v.2.1 v.2.2.1 v.2.2.2.1 v.2.2.2.2.1 v.2.2.2.2.2.1 v.2.2.2.2.2.2.1 v.2.2.2.2.2.2.2.1 v.2.2.2.2.2.2.2.2.1 v.2.2.2.2.2.2.2.2.2) r20 y1 y10 y2 y3 y4 y5 y6 y7 y8 y9 false false false false false false false))))))))) else (some (Sum.inl (y2,y8,y9,y10))))
def Zv (n : Nat) (x0 : Int) (x1 : (List Pt)) : Option (Vec × Int) :=
  ((z7 n n x0 x1 0 (-1) 0 0 0 0 0 x0 0 0).bind fun o => match o with | .inl (y11,y12,y13,y14) => (Y0 n x0 y11 y12 y13 y14) | .inr r => some r)
def zJV : Tab := ⟨17,[0,0,3,4,8,0,0,96,128,256,528,1024,2048,2048,0,24575,65535],[0,0,3,4,8,0,0,96,128,256,528,1024,2048,2048,0,20480,8192],[0,0,3,7,15,0,0,96,224,480,1023,2047,4095,4095,0,24575,65535]⟩
theorem ZZ : z9 (rg Tryz.f138 8) zJV = true := kr
theorem zDX (n : Nat) (x0 : Int) (x1 : (List Pt)) (r : Vec × Int) (H : Zv n x0 x1 = some r) : zG Tryz.prog 138 [.val false [.lit (.int .i64 x0)],.val false [.sl false 8 (CV.frzEs (x1.map Pt.row))]] [.val true (Vec.row r.1),.val false [.lit (.int .i64 r.2)]] [] := by
 refine cW Tryz.func138 (fun g d => sl [g 0,g 1,g 2,g 3,sl [g 4] (.block 0 (.loop (sl [sl [g 5] (cn 19 .skip (.exit 0)),.block 1 (sl [sl [g 7] (cn 35 (.exit 1) .skip),d 8,g 9] (cn 65 (sl [g 10,g 11] (g 12)) .skip))] (g 6)))),g 13] .ret) [.cell 4 33,.tmp 5] fun cx => ?_
 unfold Zv at H
 refine gA 2 51 16 ?_
 refine gA 5 115 80 ?_
 refine gA 3 243 208 ?_
 refine gA 1 499 208 ?_
 refine tS ?_
 refine gA 1 1011 208 ?_
 obtain ⟨o15,eo15,Ho15⟩ := bs H
 clear H
 refine Tr.mid (ι := Int × Int × Int × Int) (fun v => ⟨78,0,[sI 8 v.1,sA 6 6 5 0,sI 5 0,sA 4 4 5 0],[(6,[cI v.2.1,cI v.2.2.1,cI v.2.2.2,cI x0,cI 0]),(4,[cI 0,cI 0,cI 0,cI 0,cI 0])]⟩) (fun v => Y0 n x0 v.1 v.2.1 v.2.2.1 v.2.2.2 = some r) ?_ ?_
 ·refine tB ?_
  refine Tr.loop (ι := Nat × (Int × Int × Int × Int × Int × Int × Int × Int × Int × Int)) (fun v => ⟨78,0,[sI 9 v.2.1,sI 8 v.2.2.1,sA 7 7 5 0,sA 6 6 5 0,sI 5 0,sA 4 4 5 0,sI 0 x0,sC 1 (cF 8 x1 Pt.row)],[(7,[cI v.2.2.2.1,cI v.2.2.2.2.1,cI v.2.2.2.2.2.1,cI v.2.2.2.2.2.2.1,cI v.2.2.2.2.2.2.2.1]),(6,[cI v.2.2.2.2.2.2.2.2.1,cI v.2.2.2.2.2.2.2.2.2.1,cI v.2.2.2.2.2.2.2.2.2.2,cI x0,cI 0]),(4,[cI 0,cI 0,cI 0,cI 0,cI 0])]⟩) (fun v => z7 n v.1 x0 x1 v.2.1 v.2.2.1 v.2.2.2.1 v.2.2.2.2.1 v.2.2.2.2.2.1 v.2.2.2.2.2.2.1 v.2.2.2.2.2.2.2.1 v.2.2.2.2.2.2.2.2.1 v.2.2.2.2.2.2.2.2.2.1 v.2.2.2.2.2.2.2.2.2.2 = some o15) (fun v => v.1) (n,(0,(-1),0,0,0,0,0,x0,0,0)) eo15 (St.sub_of [9,8,7,6,5,4,0,1] [7,6,4] kr) ?_
  rintro ⟨mo15,y1,y2,y3,y4,y5,y6,y7,y8,y9,y10⟩ H
  have H : z7 n mo15 x0 x1 y1 y2 y3 y4 y5 y6 y7 y8 y9 y10 = some o15 := H
  obtain _ | mo15 := mo15
  ·exact nN H
  rw [z7] at H
  refine tS ?_
  refine rA 2 ?_
  refine kF x1 Pt.row ?_
  refine uA 1 984051 208 ?_
  obtain ⟨h1,H⟩ | ⟨h1,H⟩ := bC H
  ·refine nA h1 ?_
   refine Tr.exit ?_
   refine aJ ?_
   obtain rfl := si H
   have H := Ho15
   dsimp only at H
   exact jA (y2,y8,y9,y10) H [8,6,5,4] [6,4]
  refine tA h1 ?_
  refine tK ?_
  refine tS ?_
  refine tB ?_
  refine tS ?_
  refine rA 2 ?_
  obtain ⟨v16,ev16,H⟩ := bs H
  refine iA Pt.row ev16 ?_
  refine lA 4 ?_
  refine sL 533660659 208 ⟨78,0,[sB 28 (!v16.Up),sB 27 (!v16.Up),sB 26 v16.Up,(25,.fad ((Pt.row v16))),(24,.fad ((Pt.row v16))),sI 23 y1,sC 22 (cF 8 x1 Pt.row),sB 19 (decide (y1 < (x1.length : Int))),sI 18 (x1.length : Int),sC 17 (cF 8 x1 Pt.row),sI 16 y1,sI 9 y1,sI 8 y2,sA 7 7 5 0,sA 6 6 5 0,sI 5 0,sA 4 4 5 0,sI 0 x0,sC 1 (cF 8 x1 Pt.row)],[(7,[cI y3,cI y4,cI y5,cI y6,cI y7]),(6,[cI y8,cI y9,cI y10,cI x0,cI 0]),(4,[cI 0,cI 0,cI 0,cI 0,cI 0])]⟩ ?_
  cases h2 : (!v16.Up)
  ·have H := zI h2 H
   refine lA 2 ?_
   obtain ⟨v17,ev17,H⟩ := bs H
   refine iA Pt.row ev17 ?_
   refine uA 4 68716266483 208 ?_
   obtain ⟨h3,H⟩ | ⟨h3,H⟩ := bC H
   ·refine nA h3 ?_
    refine tK ?_
    obtain ⟨v18,ev18,H⟩ := bs H
    obtain ⟨v19,ev19,H⟩ := bs H
    obtain ⟨r20,er20,H⟩ := bs H
    refine Tr.draws mixed 17 kr ⟨78,0,[sB 11 r20.2,sA 10 10 5 0,sB 49 r20.2,(36,.tup [(true,[.dead,.dead,.dead,.dead,.dead]),(false,[.dead])]),sV 48 (Vec.row r20.1),sI 46 v19.Co,(45,.fad (((Pt.row v19).drop 1))),(44,.fad ((Pt.row v19))),sI 43 y1,sC 42 (cF 8 x1 Pt.row),sV 41 ((Pt.row v18).drop 3),(40,.fad (((Pt.row v18).drop 3))),(39,.fad ((Pt.row v18))),sI 38 y1,sC 37 (cF 8 x1 Pt.row),sB 35 (!v17.Has),sB 34 (!v17.Has),sB 33 v17.Has,(32,.fad (((Pt.row v17).drop 2))),(31,.fad ((Pt.row v17))),sI 30 y1,sC 29 (cF 8 x1 Pt.row),sB 28 false,sB 27 false,sB 26 v16.Up,(25,.fad ((Pt.row v16))),(24,.fad ((Pt.row v16))),sI 23 y1,sC 22 (cF 8 x1 Pt.row),sB 19 (decide (y1 < (x1.length : Int))),sI 18 (x1.length : Int),sC 17 (cF 8 x1 Pt.row),sI 16 y1,sI 9 y1,sI 8 y2,sA 7 7 5 0,sA 6 6 5 0,sI 5 0,sA 4 4 5 0,sI 0 x0,sC 1 (cF 8 x1 Pt.row)],[(10,(Vec.row r20.1)),(7,[cI y3,cI y4,cI y5,cI y6,cI y7]),(6,[cI y8,cI y9,cI y10,cI x0,cI 0]),(4,[cI 0,cI 0,cI 0,cI 0,cI 0])]⟩ (fun cx => ?_) ?_
    ·refine mA ZZ [(0,[]),(1,[])] 15 [] fun cx => ?_
     refine iN ZZ 2 Pt.row ev18 fun cx => ?_
     refine mA ZZ [(3,[]),(4,[]),(5,[]),(6,[])] 10 [] fun cx => ?_
     refine iN ZZ 7 Pt.row ev19 fun cx => ?_
     refine mA ZZ [(8,[]),(9,[])] 7 [] fun cx => ?_
     refine mB2 tOk ZZ 10 14 kr (And.intro kr ?_) (And.intro kr ?_)
     ·refine vA [.rd,.rd] (zDc n v18.Hd v19.Co r20 er20) ?_
      refine fA ?_
      refine AT.movT tOk 11 (ty := 167) (t := 47) (d := 36) (g := none) [(true,(Vec.row r20.1)),(false,[cB r20.2])] _ kr (oM ZZ kr) (dM ZZ kr) (.inl rfl) kr kr kr kr rfl (fun cx => ?_)
      refine mA ZZ [(12,[]),(13,[])] 3 [] fun cx => ?_
      refine mC ZZ 14 ?_
      refine lA 1 ?_
      refine fA ?_
      refine mC ZZ 15 ?_
      refine lA 1 ?_
      refine fA ?_
      refine mA ZZ [(16,[])] 0 [] fun cx => ?_
      exact mE ZZ [11,10,49,36,48,46,45,44,43,42,41,40,39,38,37,35,34,33,32,31,30,29,28,27,26,25,24,23,22,19,18,17,16,9,8,7,6,5,4,0,1] [10,7,6,4]
     ·refine lA 1 ?_
      refine fA ?_
      refine mC ZZ 10 ?_
      refine vA [.rd,.rd] (zDc n v18.Hd v19.Co r20 er20) ?_
      refine fA ?_
      refine AT.movT tOk 11 (ty := 167) (t := 47) (d := 36) (g := none) [(true,(Vec.row r20.1)),(false,[cB r20.2])] _ kr (oM ZZ kr) (dM ZZ kr) (.inl rfl) kr kr kr kr rfl (fun cx => ?_)
      refine mA ZZ [(12,[]),(13,[])] 2 [] fun cx => ?_
      refine mC ZZ 15 ?_
      refine lA 1 ?_
      refine fA ?_
      refine mA ZZ [(16,[])] 0 [] fun cx => ?_
      exact mE ZZ [11,10,49,36,48,46,45,44,43,42,41,40,39,38,37,35,34,33,32,31,30,29,28,27,26,25,24,23,22,19,18,17,16,9,8,7,6,5,4,0,1] [10,7,6,4]
    refine tS ?_
    refine Tr.mid (ι := Bool × Bool × Bool × Bool × Bool × Bool × Bool) (fun v => ⟨78,0,[sB 65 v.1,sB 57 v.2.1,sB 56 v.2.2.1,sB 51 v.2.2.2.1,sB 50 v.2.2.2.2.1,sB 11 v.2.2.2.2.2.1,sA 10 10 5 0,sB 49 v.2.2.2.2.2.2,(36,.tup [(true,[.dead,.dead,.dead,.dead,.dead]),(false,[.dead])]),sV 48 (Vec.row r20.1),sI 46 v19.Co,(45,.fad (((Pt.row v19).drop 1))),(44,.fad ((Pt.row v19))),sI 43 y1,sC 42 (cF 8 x1 Pt.row),sV 41 ((Pt.row v18).drop 3),(40,.fad (((Pt.row v18).drop 3))),(39,.fad ((Pt.row v18))),sI 38 y1,sC 37 (cF 8 x1 Pt.row),sB 35 false,sB 34 false,sB 33 v17.Has,(32,.fad (((Pt.row v17).drop 2))),(31,.fad ((Pt.row v17))),sI 30 y1,sC 29 (cF 8 x1 Pt.row),sB 28 false,sB 27 false,sB 26 v16.Up,(25,.fad ((Pt.row v16))),(24,.fad ((Pt.row v16))),sI 23 y1,sC 22 (cF 8 x1 Pt.row),sB 19 true,sI 18 (x1.length : Int),sC 17 (cF 8 x1 Pt.row),sI 16 y1,sI 9 y1,sI 8 y2,sA 7 7 5 0,sA 6 6 5 0,sI 5 0,sA 4 4 5 0,sI 0 x0,sC 1 (cF 8 x1 Pt.row)],[(10,(Vec.row r20.1)),(7,[cI y3,cI y4,cI y5,cI y6,cI y7]),(6,[cI y8,cI y9,cI y10,cI x0,cI 0]),(4,[cI 0,cI 0,cI 0,cI 0,cI 0])]⟩) (fun v => q8 n (fun v => z7 n mo15 x0 x1 v.1 v.2.1 v.2.2.1 v.2.2.2.1 v.2.2.2.2.1 v.2.2.2.2.2.1 v.2.2.2.2.2.2.1 v.2.2.2.2.2.2.2.1 v.2.2.2.2.2.2.2.2.1 v.2.2.2.2.2.2.2.2.2) r20 y1 y10 y2 y3 y4 y5 y6 y7 y8 y9 v.1 v.2.1 v.2.2.1 v.2.2.2.1 v.2.2.2.2.1 v.2.2.2.2.2.1 v.2.2.2.2.2.2 = some o15) ?_ ?_
    ·refine Tr.at ?_
     refine lA 2 ?_
     refine sL 0xf7fffffcf0ff3 1232 ⟨78,0,[sB 51 r20.2,sB 50 r20.2,sB 11 r20.2,sA 10 10 5 0,sB 49 r20.2,(36,.tup [(true,[.dead,.dead,.dead,.dead,.dead]),(false,[.dead])]),sV 48 (Vec.row r20.1),sI 46 v19.Co,(45,.fad (((Pt.row v19).drop 1))),(44,.fad ((Pt.row v19))),sI 43 y1,sC 42 (cF 8 x1 Pt.row),sV 41 ((Pt.row v18).drop 3),(40,.fad (((Pt.row v18).drop 3))),(39,.fad ((Pt.row v18))),sI 38 y1,sC 37 (cF 8 x1 Pt.row),sB 35 (!v17.Has),sB 34 (!v17.Has),sB 33 v17.Has,(32,.fad (((Pt.row v17).drop 2))),(31,.fad ((Pt.row v17))),sI 30 y1,sC 29 (cF 8 x1 Pt.row),sB 28 false,sB 27 false,sB 26 v16.Up,(25,.fad ((Pt.row v16))),(24,.fad ((Pt.row v16))),sI 23 y1,sC 22 (cF 8 x1 Pt.row),sB 19 (decide (y1 < (x1.length : Int))),sI 18 (x1.length : Int),sC 17 (cF 8 x1 Pt.row),sI 16 y1,sI 9 y1,sI 8 y2,sA 7 7 5 0,sA 6 6 5 0,sI 5 0,sA 4 4 5 0,sI 0 x0,sC 1 (cF 8 x1 Pt.row)],[(10,(Vec.row r20.1)),(7,[cI y3,cI y4,cI y5,cI y6,cI y7]),(6,[cI y8,cI y9,cI y10,cI x0,cI 0]),(4,[cI 0,cI 0,cI 0,cI 0,cI 0])]⟩ ?_
     cases h5 : r20.2
     ·have H := zI h5 H
      refine uA 14 0x3ffff7fffffcf0ff3 1232 ?_
      refine sB' 0x3ffff7fffffcf0ff3 1232 ⟨78,0,[sB 65 false,(64,.tup []),(63,.tup []),(62,.tup []),(61,.tup []),(60,.tup []),(59,.tup []),(58,.tup []),sB 57 false,sB 56 false,(55,.tup []),(54,.tup []),(53,.tup []),(52,.tup []),sB 51 false,sB 50 false,sB 11 false,sA 10 10 5 0,sB 49 false,(36,.tup [(true,[.dead,.dead,.dead,.dead,.dead]),(false,[.dead])]),sV 48 (Vec.row r20.1),sI 46 v19.Co,(45,.fad (((Pt.row v19).drop 1))),(44,.fad ((Pt.row v19))),sI 43 y1,sC 42 (cF 8 x1 Pt.row),sV 41 ((Pt.row v18).drop 3),(40,.fad (((Pt.row v18).drop 3))),(39,.fad ((Pt.row v18))),sI 38 y1,sC 37 (cF 8 x1 Pt.row),sB 35 (!v17.Has),sB 34 (!v17.Has),sB 33 v17.Has,(32,.fad (((Pt.row v17).drop 2))),(31,.fad ((Pt.row v17))),sI 30 y1,sC 29 (cF 8 x1 Pt.row),sB 28 false,sB 27 false,sB 26 v16.Up,(25,.fad ((Pt.row v16))),(24,.fad ((Pt.row v16))),sI 23 y1,sC 22 (cF 8 x1 Pt.row),sB 19 (decide (y1 < (x1.length : Int))),sI 18 (x1.length : Int),sC 17 (cF 8 x1 Pt.row),sI 16 y1,sI 9 y1,sI 8 y2,sA 7 7 5 0,sA 6 6 5 0,sI 5 0,sA 4 4 5 0,sI 0 x0,sC 1 (cF 8 x1 Pt.row)],[(10,(Vec.row r20.1)),(7,[cI y3,cI y4,cI y5,cI y6,cI y7]),(6,[cI y8,cI y9,cI y10,cI x0,cI 0]),(4,[cI 0,cI 0,cI 0,cI 0,cI 0])]⟩ ?_
      rw [h1]
      rw [h3]
      exact jA (false,false,false,false,false,false,false) H [65,57,56,51,50,11,10,49,36,48,46,45,44,43,42,41,40,39,38,37,35,34,33,32,31,30,29,28,27,26,25,24,23,22,19,18,17,16,9,8,7,6,5,4,0,1] [10,7,6,4]
     have H := zJ h5 H
     refine lA 6 ?_
     refine sL 0x3ff7fffffcf0ff3 1232 ⟨78,0,[sB 57 (decide (r20.1.Root < x0)),sB 56 (decide (r20.1.Root < x0)),sB 55 (decide (r20.1.Root < x0)),sI 54 x0,sI 53 r20.1.Root,sA 52 10 5 0,sB 51 true,sB 50 true,sB 11 true,sA 10 10 5 0,sB 49 true,(36,.tup [(true,[.dead,.dead,.dead,.dead,.dead]),(false,[.dead])]),sV 48 (Vec.row r20.1),sI 46 v19.Co,(45,.fad (((Pt.row v19).drop 1))),(44,.fad ((Pt.row v19))),sI 43 y1,sC 42 (cF 8 x1 Pt.row),sV 41 ((Pt.row v18).drop 3),(40,.fad (((Pt.row v18).drop 3))),(39,.fad ((Pt.row v18))),sI 38 y1,sC 37 (cF 8 x1 Pt.row),sB 35 (!v17.Has),sB 34 (!v17.Has),sB 33 v17.Has,(32,.fad (((Pt.row v17).drop 2))),(31,.fad ((Pt.row v17))),sI 30 y1,sC 29 (cF 8 x1 Pt.row),sB 28 false,sB 27 false,sB 26 v16.Up,(25,.fad ((Pt.row v16))),(24,.fad ((Pt.row v16))),sI 23 y1,sC 22 (cF 8 x1 Pt.row),sB 19 (decide (y1 < (x1.length : Int))),sI 18 (x1.length : Int),sC 17 (cF 8 x1 Pt.row),sI 16 y1,sI 9 y1,sI 8 y2,sA 7 7 5 0,sA 6 6 5 0,sI 5 0,sA 4 4 5 0,sI 0 x0,sC 1 (cF 8 x1 Pt.row)],[(10,(Vec.row r20.1)),(7,[cI y3,cI y4,cI y5,cI y6,cI y7]),(6,[cI y8,cI y9,cI y10,cI x0,cI 0]),(4,[cI 0,cI 0,cI 0,cI 0,cI 0])]⟩ ?_
     cases h6 : (decide (r20.1.Root < x0))
     ·have H := zI h6 H
      refine uA 8 0x3ffff7fffffcf0ff3 1232 ?_
      refine sB' 0x3ffff7fffffcf0ff3 1232 ⟨78,0,[sB 65 false,(64,.tup []),(63,.tup []),(62,.tup []),(61,.tup []),(60,.tup []),(59,.tup []),(58,.tup []),sB 57 false,sB 56 false,sB 55 false,sI 54 x0,sI 53 r20.1.Root,sA 52 10 5 0,sB 51 true,sB 50 true,sB 11 true,sA 10 10 5 0,sB 49 true,(36,.tup [(true,[.dead,.dead,.dead,.dead,.dead]),(false,[.dead])]),sV 48 (Vec.row r20.1),sI 46 v19.Co,(45,.fad (((Pt.row v19).drop 1))),(44,.fad ((Pt.row v19))),sI 43 y1,sC 42 (cF 8 x1 Pt.row),sV 41 ((Pt.row v18).drop 3),(40,.fad (((Pt.row v18).drop 3))),(39,.fad ((Pt.row v18))),sI 38 y1,sC 37 (cF 8 x1 Pt.row),sB 35 (!v17.Has),sB 34 (!v17.Has),sB 33 v17.Has,(32,.fad (((Pt.row v17).drop 2))),(31,.fad ((Pt.row v17))),sI 30 y1,sC 29 (cF 8 x1 Pt.row),sB 28 false,sB 27 false,sB 26 v16.Up,(25,.fad ((Pt.row v16))),(24,.fad ((Pt.row v16))),sI 23 y1,sC 22 (cF 8 x1 Pt.row),sB 19 (decide (y1 < (x1.length : Int))),sI 18 (x1.length : Int),sC 17 (cF 8 x1 Pt.row),sI 16 y1,sI 9 y1,sI 8 y2,sA 7 7 5 0,sA 6 6 5 0,sI 5 0,sA 4 4 5 0,sI 0 x0,sC 1 (cF 8 x1 Pt.row)],[(10,(Vec.row r20.1)),(7,[cI y3,cI y4,cI y5,cI y6,cI y7]),(6,[cI y8,cI y9,cI y10,cI x0,cI 0]),(4,[cI 0,cI 0,cI 0,cI 0,cI 0])]⟩ ?_
      rw [h1]
      rw [h3]
      exact jA (false,false,false,true,true,true,true) H [65,57,56,51,50,11,10,49,36,48,46,45,44,43,42,41,40,39,38,37,35,34,33,32,31,30,29,28,27,26,25,24,23,22,19,18,17,16,9,8,7,6,5,4,0,1] [10,7,6,4]
     have H := zJ h6 H
     refine lA 3 ?_
     refine sL 0x1fff7fffffcf0ff3 1232 ⟨78,0,[sB 60 (decide (y2 < 0)),sB 59 (decide (y2 < 0)),sI 58 y2,sB 57 true,sB 56 true,sB 55 true,sI 54 x0,sI 53 r20.1.Root,sA 52 10 5 0,sB 51 true,sB 50 true,sB 11 true,sA 10 10 5 0,sB 49 true,(36,.tup [(true,[.dead,.dead,.dead,.dead,.dead]),(false,[.dead])]),sV 48 (Vec.row r20.1),sI 46 v19.Co,(45,.fad (((Pt.row v19).drop 1))),(44,.fad ((Pt.row v19))),sI 43 y1,sC 42 (cF 8 x1 Pt.row),sV 41 ((Pt.row v18).drop 3),(40,.fad (((Pt.row v18).drop 3))),(39,.fad ((Pt.row v18))),sI 38 y1,sC 37 (cF 8 x1 Pt.row),sB 35 (!v17.Has),sB 34 (!v17.Has),sB 33 v17.Has,(32,.fad (((Pt.row v17).drop 2))),(31,.fad ((Pt.row v17))),sI 30 y1,sC 29 (cF 8 x1 Pt.row),sB 28 false,sB 27 false,sB 26 v16.Up,(25,.fad ((Pt.row v16))),(24,.fad ((Pt.row v16))),sI 23 y1,sC 22 (cF 8 x1 Pt.row),sB 19 (decide (y1 < (x1.length : Int))),sI 18 (x1.length : Int),sC 17 (cF 8 x1 Pt.row),sI 16 y1,sI 9 y1,sI 8 y2,sA 7 7 5 0,sA 6 6 5 0,sI 5 0,sA 4 4 5 0,sI 0 x0,sC 1 (cF 8 x1 Pt.row)],[(10,(Vec.row r20.1)),(7,[cI y3,cI y4,cI y5,cI y6,cI y7]),(6,[cI y8,cI y9,cI y10,cI x0,cI 0]),(4,[cI 0,cI 0,cI 0,cI 0,cI 0])]⟩ ?_
     cases h7 : (decide (y2 < 0))
     ·have H := zI h7 H
      refine lA 2 ?_
      obtain ⟨r28,er28,H⟩ := bs H
      refine vA [.rd,.rd] (zDa n r20.1 (⟨y3,y4,y5,y6,y7⟩ : Vec) r28 er28) ?_
      refine uA 2 0x3ffff7fffffcf0ff3 1232 ?_
      refine sB' 0x3ffff7fffffcf0ff3 1232 ⟨78,0,[sB 65 r28,sB 64 r28,sB 63 r28,sV 62 [cI y3,cI y4,cI y5,cI y6,cI y7],sV 61 (Vec.row r20.1),sB 60 false,sB 59 false,sI 58 y2,sB 57 true,sB 56 true,sB 55 true,sI 54 x0,sI 53 r20.1.Root,sA 52 10 5 0,sB 51 true,sB 50 true,sB 11 true,sA 10 10 5 0,sB 49 true,(36,.tup [(true,[.dead,.dead,.dead,.dead,.dead]),(false,[.dead])]),sV 48 (Vec.row r20.1),sI 46 v19.Co,(45,.fad (((Pt.row v19).drop 1))),(44,.fad ((Pt.row v19))),sI 43 y1,sC 42 (cF 8 x1 Pt.row),sV 41 ((Pt.row v18).drop 3),(40,.fad (((Pt.row v18).drop 3))),(39,.fad ((Pt.row v18))),sI 38 y1,sC 37 (cF 8 x1 Pt.row),sB 35 (!v17.Has),sB 34 (!v17.Has),sB 33 v17.Has,(32,.fad (((Pt.row v17).drop 2))),(31,.fad ((Pt.row v17))),sI 30 y1,sC 29 (cF 8 x1 Pt.row),sB 28 false,sB 27 false,sB 26 v16.Up,(25,.fad ((Pt.row v16))),(24,.fad ((Pt.row v16))),sI 23 y1,sC 22 (cF 8 x1 Pt.row),sB 19 (decide (y1 < (x1.length : Int))),sI 18 (x1.length : Int),sC 17 (cF 8 x1 Pt.row),sI 16 y1,sI 9 y1,sI 8 y2,sA 7 7 5 0,sA 6 6 5 0,sI 5 0,sA 4 4 5 0,sI 0 x0,sC 1 (cF 8 x1 Pt.row)],[(10,(Vec.row r20.1)),(7,[cI y3,cI y4,cI y5,cI y6,cI y7]),(6,[cI y8,cI y9,cI y10,cI x0,cI 0]),(4,[cI 0,cI 0,cI 0,cI 0,cI 0])]⟩ ?_
      rw [h1]
      rw [h3]
      exact jA (r28,true,true,true,true,true,true) H [65,57,56,51,50,11,10,49,36,48,46,45,44,43,42,41,40,39,38,37,35,34,33,32,31,30,29,28,27,26,25,24,23,22,19,18,17,16,9,8,7,6,5,4,0,1] [10,7,6,4]
     have H := zJ h7 H
     refine uA 5 0x3ffff7fffffcf0ff3 1232 ?_
     refine sB' 0x3ffff7fffffcf0ff3 1232 ⟨78,0,[sB 65 true,sB 64 true,(63,.tup []),(62,.tup []),(61,.tup []),sB 60 true,sB 59 true,sI 58 y2,sB 57 true,sB 56 true,sB 55 true,sI 54 x0,sI 53 r20.1.Root,sA 52 10 5 0,sB 51 true,sB 50 true,sB 11 true,sA 10 10 5 0,sB 49 true,(36,.tup [(true,[.dead,.dead,.dead,.dead,.dead]),(false,[.dead])]),sV 48 (Vec.row r20.1),sI 46 v19.Co,(45,.fad (((Pt.row v19).drop 1))),(44,.fad ((Pt.row v19))),sI 43 y1,sC 42 (cF 8 x1 Pt.row),sV 41 ((Pt.row v18).drop 3),(40,.fad (((Pt.row v18).drop 3))),(39,.fad ((Pt.row v18))),sI 38 y1,sC 37 (cF 8 x1 Pt.row),sB 35 (!v17.Has),sB 34 (!v17.Has),sB 33 v17.Has,(32,.fad (((Pt.row v17).drop 2))),(31,.fad ((Pt.row v17))),sI 30 y1,sC 29 (cF 8 x1 Pt.row),sB 28 false,sB 27 false,sB 26 v16.Up,(25,.fad ((Pt.row v16))),(24,.fad ((Pt.row v16))),sI 23 y1,sC 22 (cF 8 x1 Pt.row),sB 19 (decide (y1 < (x1.length : Int))),sI 18 (x1.length : Int),sC 17 (cF 8 x1 Pt.row),sI 16 y1,sI 9 y1,sI 8 y2,sA 7 7 5 0,sA 6 6 5 0,sI 5 0,sA 4 4 5 0,sI 0 x0,sC 1 (cF 8 x1 Pt.row)],[(10,(Vec.row r20.1)),(7,[cI y3,cI y4,cI y5,cI y6,cI y7]),(6,[cI y8,cI y9,cI y10,cI x0,cI 0]),(4,[cI 0,cI 0,cI 0,cI 0,cI 0])]⟩ ?_
     rw [h1]
     rw [h3]
     exact jA (true,true,true,true,true,true,true) H [65,57,56,51,50,11,10,49,36,48,46,45,44,43,42,41,40,39,38,37,35,34,33,32,31,30,29,28,27,26,25,24,23,22,19,18,17,16,9,8,7,6,5,4,0,1] [10,7,6,4]
    rintro ⟨y21,y22,y23,y24,y25,y26,y27⟩ H
    have H : (q8 n (fun v => z7 n mo15 x0 x1 v.1 v.2.1 v.2.2.1 v.2.2.2.1 v.2.2.2.2.1 v.2.2.2.2.2.1 v.2.2.2.2.2.2.1 v.2.2.2.2.2.2.2.1 v.2.2.2.2.2.2.2.2.1 v.2.2.2.2.2.2.2.2.2) r20 y1 y10 y2 y3 y4 y5 y6 y7 y8 y9 y21 y22 y23 y24 y25 y26 y27) = some o15 := H
    unfold q8 at H
    cases h4 : y21
    ·have H := zI h4 H
     refine nB_ ?_
     refine tK ?_
     refine eA 3 0x2030f7fffffff0ff3 1232 ?_
     exact jB mo15 ((IntKind.wrap .i64 (y1 + 1)),y2,y3,y4,y5,y6,y7,y8,y9,y10) H [9,8,7,6,5,4,0,1] [7,6,4]
    have H := zJ h4 H
    refine tB_ ?_
    refine gA 2 0x6030f7fffffcf0ff3 1232 ?_
    refine gA 2 0xe030f7fffffcf0ff3 1232 ?_
    refine eA 9 0xffe030f7fffffcf0ff3 1232 ?_
    refine eA 3 0xffe030f7fffffff0ff3 1232 ?_
    exact jB mo15 ((IntKind.wrap .i64 (y1 + 1)),y1,r20.1.Root,r20.1.Co,r20.1.Hops,r20.1.Bridge,r20.1.Port,r20.1.Root,r20.1.Co,r20.1.Hops) H [9,8,7,6,5,4,0,1] [7,6,4]
   refine tA h3 ?_
   refine Tr.exit ?_
   refine aJ ?_
   refine eA 3 68719412211 208 ?_
   exact jB mo15 ((IntKind.wrap .i64 (y1 + 1)),y2,y3,y4,y5,y6,y7,y8,y9,y10) H [9,8,7,6,5,4,0,1] [7,6,4]
  have H := zJ h2 H
  refine uA 7 68716266483 208 ?_
  refine tB_ ?_
  refine Tr.exit ?_
  refine aJ ?_
  refine eA 3 68719412211 208 ?_
  exact jB mo15 ((IntKind.wrap .i64 (y1 + 1)),y2,y3,y4,y5,y6,y7,y8,y9,y10) H [9,8,7,6,5,4,0,1] [7,6,4]
 rintro ⟨y11,y12,y13,y14⟩ H
 have H : (Y0 n x0 y11 y12 y13 y14) = some r := H
 unfold Y0 at H
 refine gA 4 48 16 ?_
 exact te (fJ [(true,[cI y12,cI y13,cI y14,cI x0,cI 0]),(false,[cI y11])] H)
def YS (n : Nat) (x0 : Int) (x1 : (List Pt)) (x2 : Int) : Option (Vec) :=
  ((Zv n x0 x1).bind fun r1 => (some (⟨r1.1.Root,r1.1.Co,r1.1.Hops,r1.1.Bridge,x2⟩ : Vec)))
theorem zHL (n : Nat) (x0 : Int) (x1 : (List Pt)) (x2 : Int) (r : Vec) (H : YS n x0 x1 x2 = some r) : zG Tryz.prog 180 [.val false [.lit (.int .i64 x0)],.val false [.sl false 8 (CV.frzEs (x1.map Pt.row))],.val false [.lit (.int .i64 x2)]] [.val true (Vec.row r)] [] := by
 refine cW Tryz.func180 (fun g d => sl [g 0,g 1,g 2,g 3] .ret) [.cell 6 33] fun cx => ?_
 unfold YS at H
 refine gA 1 71 64 ?_
 refine rA 2 ?_
 obtain ⟨r1,er1,H⟩ := bs H
 refine vA [.rd,.rd] (zDX n x0 x1 r1 er1) ?_
 refine LAt.movT tOk (ty := 135) (t := 12) (d := 9) (g := none) [(true,(Vec.row r1.1)),(false,[cI r1.2])] _ kr (.inl rfl) kr kr kr kr rfl ?_
 refine uA 5 196 192 ?_
 refine gA 3 192 192 ?_
 refine gA 2 64 64 ?_
 exact te (fJ [(true,[cI r1.1.Root,cI r1.1.Co,cI r1.1.Hops,cI r1.1.Bridge,cI x2])] H)
def Qr (n : Nat) (x0 : Int) (x1 : (List Pt)) (x2 : Int) : Option (Int) :=
  ((za n x2 0 (IntKind.wrap .i64 ((x1.length : Int) - 1))).bind fun r1 => (bif (!r1) then (some 4) else ((idx x1 x2).bind fun v2 => (bif (!v2.Up) then (some 4) else ((Zv n x0 x1).bind fun r3 => (bif (r3.2 == x2) then (some 1) else ((idx x1 x2).bind fun v4 => (bif (!v4.Has) then (some 2) else ((YS n x0 x1 x2).bind fun r5 => ((idx x1 x2).bind fun v6 => ((QP n r5 v6.Hd).bind fun r7 => (bif r7 then (some 2) else (some 3)))))))))))))
def zJd : Tab := ⟨19,[0,0,3,4,8,16,32,64,64,64,960,64,64,6208,8256,16448,33856,65600,196608],[0,0,3,4,8,16,32,64,64,64,960,64,64,6208,8256,16448,33856,65600,131072],[0,0,3,7,15,31,63,127,127,127,1023,127,127,6271,14463,30847,65535,131071,262143]⟩
theorem Qj : z9 (rg Tryz.f189 6) zJd = true := kr
theorem zHK (n : Nat) (x0 : Int) (x1 : (List Pt)) (x2 : Int) (r : Int) (H : Qr n x0 x1 x2 = some r) : zG Tryz.prog 189 [.val false [.lit (.int .i64 x0)],.val false [.sl false 8 (CV.frzEs (x1.map Pt.row))],.val false [.lit (.int .i64 x2)]] [.val false [.lit (.int .i64 r)]] [] := by
 refine cW Tryz.func189 (fun g d => sl [g 0,sl [g 1] (cn 22 (sl [g 2] .ret) .skip),g 3,.block 0 (sl [g 4] (cn 29 (sl [g 5] .ret) (sl [d 6] (cn 33 (sl [g 7] .ret) .skip)))),g 8] .ret) [.tmp 6] fun cx => ?_
 unfold Qr at H
 refine gA 1 7 0 ?_
 refine tS ?_
 refine rA 2 ?_
 refine kF x1 Pt.row ?_
 refine lA 1 ?_
 obtain ⟨r1,er1,H⟩ := bs H
 refine vA [.rd,.rd,.rd] (zZ n x2 0 (IntKind.wrap .i64 ((x1.length : Int) - 1)) r1 er1) ?_
 refine lA 2 ?_
 refine sL 32775 0 ⟨52,0,[sB 15 (!r1),sI 0 x0,sC 1 (cF 8 x1 Pt.row),sI 2 x2],[]⟩ ?_
 cases h1 : (!r1)
 ·have H := zI h1 H
  refine lA 2 ?_
  obtain ⟨v2,ev2,H⟩ := bs H
  refine iA Pt.row ev2 ?_
  refine uA 4 4194311 0 ?_
  obtain ⟨h2,H⟩ | ⟨h2,H⟩ := bC H
  ·refine nA h2 ?_
   refine tK ?_
   refine rA 2 ?_
   obtain ⟨r3,er3,H⟩ := bs H
   refine vA [.rd,.rd] (zDX n x0 x1 r3 er3) ?_
   refine LAt.movT tOk (ty := 135) (t := 26) (d := 23) (g := none) [(true,(Vec.row r3.1)),(false,[cI r3.2])] _ kr (.inl rfl) kr kr kr kr rfl ?_
   refine uA 5 263 0 ?_
   refine tS ?_
   refine tB ?_
   refine gA 4 536870919 0 ?_
   obtain ⟨h3,H⟩ | ⟨h3,H⟩ := bC H
   ·refine nA h3 ?_
    obtain ⟨v4,ev4,H⟩ := bs H
    refine sT ⟨52,0,[sB 29 (r3.2 == x2),sI 0 x0,sC 1 (cF 8 x1 Pt.row),sI 2 x2],[]⟩ ?_
    cases h4 : (!v4.Has)
    ·have H := zI h4 H
     obtain ⟨r5,er5,H⟩ := bs H
     obtain ⟨v6,ev6,H⟩ := bs H
     obtain ⟨r7,er7,H⟩ := bs H
     refine Tr.draws mixed 19 kr ⟨52,0,[sB 33 r7],[]⟩ (fun cx => ?_) ?_
     ·refine mA Qj [(0,[]),(1,[])] 17 [] fun cx => ?_
      refine iN Qj 2 Pt.row ev4 fun cx => ?_
      refine mA Qj [(3,[]),(4,[]),(5,[]),(6,[])] 12 [] fun cx => ?_
      refine sA_ 1099511627783 0 ⟨52,0,[sB 40 (!v4.Has),sI 0 x0,sC 1 (cF 8 x1 Pt.row),sI 2 x2],[]⟩ ?_
      rw [h4]
      refine mA Qj [(7,[]),(8,[]),(9,[]),(11,[]),(12,[])] 7 [] fun cx => ?_
      refine iN Qj 13 Pt.row ev6 fun cx => ?_
      refine mA Qj [(14,[]),(15,[])] 4 [] fun cx => ?_
      refine mC Qj 10 ?_
      refine vA [.rd,.rd,.rd] (zHL n x0 x1 x2 r5 er5) ?_
      refine fA ?_
      refine mC Qj 16 ?_
      refine vA [.rd,.rd] (zDa n r5 v6.Hd r7 er7) ?_
      refine fA ?_
      refine mA Qj [(17,[]),(18,[])] 0 [] fun cx => ?_
      exact mE Qj [33] []
     cases h5 : r7
     ·have H := zI h5 H
      refine nB_ ?_
      refine tK ?_
      refine gA 1 64 0 ?_
      exact te (fJ [(false,[cI 3])] H)
     have H := zJ h5 H
     refine tB_ ?_
     refine gA 1 64 0 ?_
     exact te (fJ [(false,[cI 2])] H)
    have H := zJ h4 H
    refine Tr.draws mixed 19 kr ⟨52,0,[sB 33 true],[]⟩ (fun cx => ?_) ?_
    ·refine mA Qj [(0,[]),(1,[])] 17 [] fun cx => ?_
     refine iN Qj 2 Pt.row ev4 fun cx => ?_
     refine mA Qj [(3,[]),(4,[]),(5,[]),(6,[])] 12 [] fun cx => ?_
     refine sA_ 1099511627783 0 ⟨52,0,[sB 40 (!v4.Has),sI 0 x0,sC 1 (cF 8 x1 Pt.row),sI 2 x2],[]⟩ ?_
     rw [h4]
     refine mA Qj [(7,[]),(8,[]),(9,[]),(10,[]),(11,[]),(12,[]),(13,[]),(14,[]),(15,[]),(16,[]),(17,[]),(18,[])] 0 [] fun cx => ?_
     exact mE Qj [33] []
    refine tB_ ?_
    refine gA 1 64 0 ?_
    exact te (fJ [(false,[cI 2])] H)
   refine tA h3 ?_
   refine gA 1 64 0 ?_
   exact te (fJ [(false,[cI 1])] H)
  refine tA h2 ?_
  refine gA 1 64 0 ?_
  exact te (fJ [(false,[cI 4])] H)
 have H := zJ h1 H
 refine uA 7 4194311 0 ?_
 refine tB_ ?_
 refine gA 1 64 0 ?_
 exact te (fJ [(false,[cI 4])] H)
def Jw (n : Nat) (y3 : Int) : Option (Int) :=
  (some y3)
def ZE (n : Nat) : Nat → Int → (List Pt) → Int → Int → Option ((Int) ⊕ (Int))
  | 0,_,_,_,_ => none
  | mo4 + 1,x0,x1,y1,y2 => (bif (decide (y1 < (x1.length : Int))) then (bif (decide (y1 < 6)) then ((Qr n x0 x1 y1).bind fun r5 => (bif (decide (r5 ≤ 2)) then (bif (decide ((0 : Int) ≤ (IntKind.wrap .u64 y1))) then (ZE n mo4 x0 x1 (IntKind.wrap .i64 (y1 + 1)) (IntKind.wrap .i64 (BitVec.ofInt (IntKind.bits .i64) y2 ||| BitVec.ofInt (IntKind.bits .i64) (IntKind.wrap .i64 (1 * 2 ^ min (((IntKind.wrap .u64 y1) : Int)).toNat (IntKind.bits .i64)))).toNat)) else none) else (ZE n mo4 x0 x1 (IntKind.wrap .i64 (y1 + 1)) y2))) else (some (Sum.inl y2))) else (some (Sum.inl y2)))
def Qb (n : Nat) (x0 : Int) (x1 : (List Pt)) : Option (Int) :=
  ((ZE n n x0 x1 0 0).bind fun o => match o with | .inl y3 => (Jw n y3) | .inr r => some r)
theorem zH4 (n : Nat) (x0 : Int) (x1 : (List Pt)) (r : Int) (H : Qb n x0 x1 = some r) : zG Tryz.prog 164 [.val false [.lit (.int .i64 x0)],.val false [.sl false 8 (CV.frzEs (x1.map Pt.row))]] [.val false [.lit (.int .i64 r)]] [] := by
 refine cW Tryz.func164 (fun g d => sl [g 0,g 1,sl [g 2] (.block 0 (.loop (sl [sl [g 3] (cn 14 .skip (.exit 0)),.block 1 (sl [g 5] (cn 21 (g 6) .skip))] (g 4)))),g 7] .ret) [.tmp 4] fun cx => ?_
 unfold Qb at H
 refine gA 1 3 0 ?_
 refine gA 1 35 0 ?_
 refine tS ?_
 refine gA 1 99 0 ?_
 obtain ⟨o4,eo4,Ho4⟩ := bs H
 clear H
 refine Tr.mid (ι := Int) (fun v => ⟨28,0,[sI 5 v],[]⟩) (fun v => Jw n v = some r) ?_ ?_
 ·refine tB ?_
  refine Tr.loop (ι := Nat × (Int × Int)) (fun v => ⟨28,0,[sI 6 v.2.1,sI 5 v.2.2,sI 0 x0,sC 1 (cF 8 x1 Pt.row)],[]⟩) (fun v => ZE n v.1 x0 x1 v.2.1 v.2.2 = some o4) (fun v => v.1) (n,(0,0)) eo4 (St.sub_of [6,5,0,1] [] kr) ?_
  rintro ⟨mo4,y1,y2⟩ H
  have H : ZE n mo4 x0 x1 y1 y2 = some o4 := H
  obtain _ | mo4 := mo4
  ·exact nN H
  rw [ZE] at H
  refine tS ?_
  refine rA 2 ?_
  refine kF x1 Pt.row ?_
  refine lA 2 ?_
  refine sL 2147 0 ⟨28,0,[sB 11 (decide (y1 < (x1.length : Int))),sI 6 y1,sI 5 y2,sI 0 x0,sC 1 (cF 8 x1 Pt.row)],[]⟩ ?_
  cases h1 : (decide (y1 < (x1.length : Int)))
  ·have H := zI h1 H
   refine uA 3 16483 0 ?_
   refine nB_ ?_
   refine Tr.exit ?_
   refine aJ ?_
   obtain rfl := si H
   have H := Ho4
   dsimp only at H
   exact jA y2 H [5] []
  have H := zJ h1 H
  refine uA 3 16483 0 ?_
  obtain ⟨h2,H⟩ | ⟨h2,H⟩ := bC H
  ·refine nA h2 ?_
   refine Tr.exit ?_
   refine aJ ?_
   obtain rfl := si H
   have H := Ho4
   dsimp only at H
   exact jA y2 H [5] []
  refine tA h2 ?_
  refine tK ?_
  refine tS ?_
  refine tB ?_
  refine rA 3 ?_
  obtain ⟨r5,er5,H⟩ := bs H
  refine vA [.rd,.rd,.rd] (zHK n x0 x1 y1 r5 er5) ?_
  refine uA 1 2097251 0 ?_
  obtain ⟨h3,H⟩ | ⟨h3,H⟩ := bC H
  ·refine nA h3 ?_
   refine tK ?_
   refine eA 3 99 0 ?_
   exact jB mo4 ((IntKind.wrap .i64 (y1 + 1)),y2) H [6,5,0,1] []
  refine tA h3 ?_
  refine Tr.at ?_
  refine lA 3 ?_
  obtain ⟨hg6,H⟩ := gs H
  refine LAt.binC tOk (op := .shl) (t := 3) (ty := 163) (ty' := 3) (x := (.const (.int .i64 1))) (y := (.tmp 24)) (d := 25) (g := none) (.int .i64 1) (.int .u64 (IntKind.wrap .u64 y1)) (.int .i64 (IntKind.wrap .i64 (1 * 2 ^ min (((IntKind.wrap .u64 y1) : Int)).toNat (IntKind.bits .i64)))) _ kr kr kr kr kr (φ := (0 : Int) ≤ (IntKind.wrap .u64 y1)) kr (of_decide_eq_true hg6) rfl ?_
  refine uA 2 99 0 ?_
  refine eA 3 99 0 ?_
  exact jB mo4 ((IntKind.wrap .i64 (y1 + 1)),(IntKind.wrap .i64 (BitVec.ofInt (IntKind.bits .i64) y2 ||| BitVec.ofInt (IntKind.bits .i64) (IntKind.wrap .i64 (1 * 2 ^ min (((IntKind.wrap .u64 y1) : Int)).toNat (IntKind.bits .i64)))).toNat)) H [6,5,0,1] []
 rintro y3 H
 have H : (Jw n y3) = some r := H
 unfold Jw at H
 refine gA 2 16 0 ?_
 exact te (fJ [(false,[cI y3])] H)
def Jm (n : Nat) (x0 : Int) (x1 : Int) : Option (Bool) :=
  ((za n x1 0 7).bind fun r1 => (bif r1 then (bif (decide ((0 : Int) ≤ (IntKind.wrap .u64 x1))) then (some ((IntKind.wrap .i64 (BitVec.ofInt (IntKind.bits .i64) (Int.fdiv x0 (2 ^ min (((IntKind.wrap .u64 x1) : Int)).toNat (IntKind.bits .i64))) &&& BitVec.ofInt (IntKind.bits .i64) 1).toNat) == 1)) else none) else (some false)))
theorem zH7 (n : Nat) (x0 : Int) (x1 : Int) (r : Bool) (H : Jm n x0 x1 = some r) : zG Tryz.prog 165 [.val false [.lit (.int .i64 x0)],.val false [.lit (.int .i64 x1)]] [.val false [.lit (.bool r)]] [] := by
 refine cW Tryz.func165 (fun g d => sl [g 0,g 1] .ret) [.tmp 4] fun cx => ?_
 unfold Jm at H
 refine gA 1 3 0 ?_
 refine rA 1 ?_
 obtain ⟨r1,er1,H⟩ := bs H
 refine vA [.rd,.rd,.rd] (zZ n x1 0 7 r1 er1) ?_
 refine lA 1 ?_
 refine sL 131 0 ⟨15,0,[sB 7 r1,sI 0 x0,sI 1 x1],[]⟩ ?_
 cases h1 : r1
 ·have H := zI h1 H
  refine uA 8 16 0 ?_
  exact te (fF H)
 have H := zJ h1 H
 refine lA 3 ?_
 obtain ⟨hg2,H⟩ := gs H
 refine LAt.binC tOk (op := .shr) (t := 3) (ty := 163) (ty' := 3) (x := (.tmp 8)) (y := (.tmp 10)) (d := 11) (g := (some (2,true))) (.int .i64 x0) (.int .u64 (IntKind.wrap .u64 x1)) (.int .i64 (Int.fdiv x0 (2 ^ min (((IntKind.wrap .u64 x1) : Int)).toNat (IntKind.bits .i64)))) _ kr kr kr kr kr (φ := (0 : Int) ≤ (IntKind.wrap .u64 x1)) kr (of_decide_eq_true hg2) rfl ?_
 refine uA 4 16 0 ?_
 exact te (fJ [(false,[cB ((IntKind.wrap .i64 (BitVec.ofInt (IntKind.bits .i64) (Int.fdiv x0 (2 ^ min (((IntKind.wrap .u64 x1) : Int)).toNat (IntKind.bits .i64))) &&& BitVec.ofInt (IntKind.bits .i64) 1).toNat) == 1)])] H)
def QW (n : Nat) (y3 : (List zB)) : Option ((List zB)) :=
  (some y3)
def qU (n : Nat) : Nat → (List zB) → Int → Int → (List zB) → Option (((List zB)) ⊕ ((List zB)))
  | 0,_,_,_,_ => none
  | mo4 + 1,x0,x1,y1,y2 => (bif (decide (y1 < (x0.length : Int))) then ((idx x0 y1).bind fun v5 => (bif v5.Sc then ((idx x0 y1).bind fun v9 => (bif (decide (y2.length + [v9].length ≤ 268435456)) then (qU n mo4 x0 x1 (IntKind.wrap .i64 (y1 + 1)) (y2 ++ [v9])) else none)) else ((idx x0 y1).bind fun v6 => (bif (v6.Port != x1) then ((idx x0 y1).bind fun v7 => (bif (decide (y2.length + [v7].length ≤ 268435456)) then (qU n mo4 x0 x1 (IntKind.wrap .i64 (y1 + 1)) (y2 ++ [v7])) else none)) else (qU n mo4 x0 x1 (IntKind.wrap .i64 (y1 + 1)) y2))))) else (some (Sum.inl y2)))
def Q9 (n : Nat) (x0 : (List zB)) (x1 : Int) : Option ((List zB)) :=
  ((qU n n x0 x1 0 ([] : List zB)).bind fun o => match o with | .inl y3 => (QW n y3) | .inr r => some r)
theorem zFc (n : Nat) (x0 : (List zB)) (x1 : Int) (r : (List zB)) (H : Q9 n x0 x1 = some r) : zG Tryz.prog 166 [.val false [.sl false 5 (CV.frzEs (x0.map zB.row))],.val false [.lit (.int .i64 x1)]] [.val false [.sl true 5 (r.map zB.row)]] [] := by
 refine cW Tryz.func166 (fun g d => sl [g 0,g 1,sl [g 2] (.block 0 (.loop (sl [sl [g 3] (cn 11 .skip (.exit 0)),.block 1 (sl [g 5] (cn 27 (g 6) .skip))] (g 4)))),g 7] .ret) [.tmp 4] fun cx => ?_
 unfold Q9 at H
 refine gA 1 3 0 ?_
 refine rA 1 ?_
 refine LAt.moveU (T := lk tab) (ty := 25) (x := (.tmp 7)) (d := 5) (g := none) false [cL 5 ([] : List zB) zB.row] kr kr kr kr kr ?_
 refine dA 35 0 ?_
 refine tS ?_
 refine gA 1 99 0 ?_
 obtain ⟨o4,eo4,Ho4⟩ := bs H
 clear H
 refine Tr.mid (ι := (List zB)) (fun v => ⟨36,0,[sC 5 (cL 5 v zB.row)],[]⟩) (fun v => QW n v = some r) ?_ ?_
 ·refine tB ?_
  refine Tr.loop (ι := Nat × (Int × (List zB))) (fun v => ⟨36,0,[sI 6 v.2.1,sC 5 (cL 5 v.2.2 zB.row),sC 0 (cF 5 x0 zB.row),sI 1 x1],[]⟩) (fun v => qU n v.1 x0 x1 v.2.1 v.2.2 = some o4) (fun v => v.1) (n,(0,([] : List zB))) eo4 (St.sub_of [6,5,0,1] [] kr) ?_
  rintro ⟨mo4,y1,y2⟩ H
  have H : qU n mo4 x0 x1 y1 y2 = some o4 := H
  obtain _ | mo4 := mo4
  ·exact nN H
  rw [qU] at H
  refine tS ?_
  refine rA 2 ?_
  refine kF x0 zB.row ?_
  refine uA 1 2147 0 ?_
  obtain ⟨h1,H⟩ | ⟨h1,H⟩ := bC H
  ·refine nA h1 ?_
   refine Tr.exit ?_
   refine aJ ?_
   obtain rfl := si H
   have H := Ho4
   dsimp only at H
   exact jA y2 H [5] []
  refine tA h1 ?_
  refine tK ?_
  refine tS ?_
  refine tB ?_
  refine tS ?_
  refine Tr.at ?_
  refine lA 2 ?_
  obtain ⟨v5,ev5,H⟩ := bs H
  refine iA zB.row ev5 ?_
  refine lA 3 ?_
  refine sL 524387 0 ⟨36,0,[sB 19 v5.Sc,sI 6 y1,sC 5 (cL 5 y2 zB.row),sC 0 (cF 5 x0 zB.row),sI 1 x1],[]⟩ ?_
  cases h2 : v5.Sc
  ·have H := zI h2 H
   refine lA 2 ?_
   obtain ⟨v6,ev6,H⟩ := bs H
   refine iA zB.row ev6 ?_
   refine uA 5 134217827 0 ?_
   obtain ⟨h3,H⟩ | ⟨h3,H⟩ := bC H
   ·refine nA h3 ?_
    refine tK ?_
    refine eA 3 99 0 ?_
    exact jB mo4 ((IntKind.wrap .i64 (y1 + 1)),y2) H [6,5,0,1] []
   refine tA h3 ?_
   refine Tr.at ?_
   refine lA 3 ?_
   obtain ⟨v7,ev7,H⟩ := bs H
   refine iA zB.row ev7 ?_
   refine lA 2 ?_
   obtain ⟨hg8,H⟩ := gs H
   refine LAt.appMU tOk (t := 25) (ty := 25) (e := 103) (x := (.tmp 28)) (y := (.tmp 33)) (d := 34) (g := none) (tI 103) zB.row y2 [v7] kr kr kr kr kr kr kr kr kr kr hg8 ?_
   refine LAt.moveU (T := lk tab) (ty := 25) (x := (.tmp 34)) (d := 5) (g := none) false [cL 5 (y2 ++ [v7]) zB.row] kr kr kr kr kr ?_
   refine dA 99 0 ?_
   refine eA 3 99 0 ?_
   exact jB mo4 ((IntKind.wrap .i64 (y1 + 1)),(y2 ++ [v7])) H [6,5,0,1] []
  have H := zJ h2 H
  refine uA 8 134217827 0 ?_
  refine tB_ ?_
  refine Tr.at ?_
  refine lA 3 ?_
  obtain ⟨v9,ev9,H⟩ := bs H
  refine iA zB.row ev9 ?_
  refine lA 2 ?_
  obtain ⟨hg10,H⟩ := gs H
  refine LAt.appMU tOk (t := 25) (ty := 25) (e := 103) (x := (.tmp 28)) (y := (.tmp 33)) (d := 34) (g := none) (tI 103) zB.row y2 [v9] kr kr kr kr kr kr kr kr kr kr hg10 ?_
  refine LAt.moveU (T := lk tab) (ty := 25) (x := (.tmp 34)) (d := 5) (g := none) false [cL 5 (y2 ++ [v9]) zB.row] kr kr kr kr kr ?_
  refine dA 99 0 ?_
  refine eA 3 99 0 ?_
  exact jB mo4 ((IntKind.wrap .i64 (y1 + 1)),(y2 ++ [v9])) H [6,5,0,1] []
 rintro y3 H
 have H : (QW n y3) = some r := H
 unfold QW at H
 refine gA 2 48 0 ?_
 exact te (fJ [(false,[cL 5 y3 zB.row])] H)
def YI (n : Nat) (r1 : Int) (x0 : zA) (y5 : (List zB)) : Option (zA) :=
  (some (⟨x0.Id,x0.Name,x0.Ps,y5,x0.V,x0.Tk,x0.Pa,x0.Wo,x0.Dr,r1⟩ : zA))
def qm (n : Nat) : Nat → Int → zA → Int → (List zB) → Option (((List zB)) ⊕ (zA))
  | 0,_,_,_,_ => none
  | mo6 + 1,r2,x0,y3,y4 => (bif (decide (y3 < (x0.Ps.length : Int))) then ((Jm n r2 y3).bind fun r7 => (bif (!r7) then ((Q9 n y4 y3).bind fun r8 => (qm n mo6 r2 x0 (IntKind.wrap .i64 (y3 + 1)) r8)) else (qm n mo6 r2 x0 (IntKind.wrap .i64 (y3 + 1)) y4))) else (some (Sum.inl y4)))
def ZP (n : Nat) (x0 : zA) : Option (zA) :=
  ((YT n x0.Ve).bind fun r1 => ((Qb n x0.Id x0.Ps).bind fun r2 => ((qm n n r2 x0 0 x0.F).bind fun o => match o with | .inl y5 => (YI n r1 x0 y5) | .inr r => some r)))
theorem zAd (n : Nat) (x0 : zA) (r : zA) (H : ZP n x0 = some r) : zG Tryz.prog 92 [.own true (zA.row x0)] [.val true (zA.row r)] [] := by
 refine cW Tryz.func92 (fun g d => sl [g 0,g 1,g 2,sl [g 3] (.block 0 (.loop (sl [sl [g 4] (cn 18 .skip (.exit 0)),.block 1 (sl [g 6] (cn 24 (g 7) .skip))] (g 5)))),g 8] .ret) [.cell 2 31] fun cx => ?_
 unfold ZP at H
 refine gA 2 6 6 ?_
 refine rA 2 ?_
 obtain ⟨r1,er1,H⟩ := bs H
 refine vA [.rd] (zEG n x0.Ve r1 er1) ?_
 refine uA 2 6 6 ?_
 refine rA 4 ?_
 obtain ⟨r2,er2,H⟩ := bs H
 refine vB [.rd,.rd] [.box 1] (zH4 n x0.Id x0.Ps r2 er2) (.inr (zH (zL zR zh) zO)) ?_
 refine uA 1 14 6 ?_
 refine tS ?_
 refine gA 1 30 6 ?_
 obtain ⟨o6,eo6,Ho6⟩ := bs H
 clear H
 refine Tr.mid (ι := (List zB)) (fun v => ⟨31,0,[sA 2 2 11 0,sA 1 1 11 0],[(1,[cI x0.Id,cS x0.Name,cL 8 x0.Ps Pt.row,cL 5 v zB.row,cL 3 x0.V.Rows zC.row,cL 1 x0.V.Pv intRow,cI x0.Tk,cI x0.Pa,cI x0.Wo,cI x0.Dr,cI r1]),(2,[cI 0,cS (⟨#[]⟩ : ByteArray),cL 8 ([] : List Pt) Pt.row,cL 5 ([] : List zB) zB.row,cL 3 ([] : List zC) zC.row,cL 1 ([] : List Int) intRow,cI 0,cI 0,cI 0,cI 0,cI 0])]⟩) (fun v => YI n r1 x0 v = some r) ?_ ?_
 ·refine tB ?_
  refine Tr.loop (ι := Nat × (Int × (List zB))) (fun v => ⟨31,0,[sI 4 v.2.1,sI 3 r2,sA 2 2 11 0,sA 1 1 11 0],[(1,[cI x0.Id,cS x0.Name,cL 8 x0.Ps Pt.row,cL 5 v.2.2 zB.row,cL 3 x0.V.Rows zC.row,cL 1 x0.V.Pv intRow,cI x0.Tk,cI x0.Pa,cI x0.Wo,cI x0.Dr,cI r1]),(2,[cI 0,cS (⟨#[]⟩ : ByteArray),cL 8 ([] : List Pt) Pt.row,cL 5 ([] : List zB) zB.row,cL 3 ([] : List zC) zC.row,cL 1 ([] : List Int) intRow,cI 0,cI 0,cI 0,cI 0,cI 0])]⟩) (fun v => qm n v.1 r2 x0 v.2.1 v.2.2 = some o6) (fun v => v.1) (n,(0,x0.F)) eo6 (St.sub_of [4,3,2,1] [1,2] kr) ?_
  rintro ⟨mo6,y3,y4⟩ H
  have H : qm n mo6 r2 x0 y3 y4 = some o6 := H
  obtain _ | mo6 := mo6
  ·exact nN H
  rw [qm] at H
  refine tS ?_
  refine rA 3 ?_
  refine kO x0.Ps Pt.row ?_
  refine uA 1 262174 6 ?_
  obtain ⟨h1,H⟩ | ⟨h1,H⟩ := bC H
  ·refine nA h1 ?_
   refine Tr.exit ?_
   refine aJ ?_
   obtain rfl := si H
   have H := Ho6
   dsimp only at H
   exact jA y4 H [2,1] [1,2]
  refine tA h1 ?_
  refine tK ?_
  refine tS ?_
  refine tB ?_
  refine rA 2 ?_
  obtain ⟨r7,er7,H⟩ := bs H
  refine vA [.rd,.rd] (zH7 n r2 y3 r7 er7) ?_
  refine uA 1 16777246 6 ?_
  obtain ⟨h2,H⟩ | ⟨h2,H⟩ := bC H
  ·refine nA h2 ?_
   refine tK ?_
   refine eA 3 30 6 ?_
   exact jB mo6 ((IntKind.wrap .i64 (y3 + 1)),y4) H [4,3,2,1] [1,2]
  refine tA h2 ?_
  refine Tr.at ?_
  refine lA 3 ?_
  obtain ⟨r8,er8,H⟩ := bs H
  refine vB [.rd,.rd] [.box 1] (zFc n y4 y3 r8 er8) (.inr (zH (zL (QJ (ZW zB.row_mine _)) zh) zO)) ?_
  refine uA 2 30 6 ?_
  refine eA 3 30 6 ?_
  exact jB mo6 ((IntKind.wrap .i64 (y3 + 1)),r8) H [4,3,2,1] [1,2]
 rintro y5 H
 have H : (YI n r1 x0 y5) = some r := H
 unfold YI at H
 refine gA 2 4 4 ?_
 exact te (fJ [(true,[cI x0.Id,cS x0.Name,cL 8 x0.Ps Pt.row,cL 5 y5 zB.row,cL 3 x0.V.Rows zC.row,cL 1 x0.V.Pv intRow,cI x0.Tk,cI x0.Pa,cI x0.Wo,cI x0.Dr,cI r1])] H)
def Zm (n : Nat) (x0 : zA) : Option (zA) :=
  ((Zx n x0).bind fun r1 => ((z4 n x0).bind fun r2 => (bif (!r2) then (some r1) else ((YT n x0.Tk).bind fun r3 => ((QB n x0.F).bind fun r4 => ((ZP n (⟨r1.Id,r1.Name,r1.Ps,r4,r1.V,r3,r1.Pa,r1.Wo,r1.Dr,r1.Ve⟩ : zA)).bind fun r5 => (some r5)))))))
theorem J8 (n : Nat) (x0 : zA) (r : zA) (H : Zm n x0 = some r) : zG Tryz.prog 22 [.val true (CV.frzRow (zA.row x0))] [.val true (zA.row r)] [] := by
 refine cW Tryz.func22 (fun g d => sl [g 0,g 1,sl [g 2] (cn 8 (sl [g 3] .ret) .skip),g 4,g 5,g 6] .ret) [.cell 2 31] fun cx => ?_
 unfold Zm at H
 refine gA 2 6 6 ?_
 refine rA 1 ?_
 obtain ⟨r1,er1,H⟩ := bs H
 refine vA [.rd] (zAN n x0 r1 er1) ?_
 refine uA 2 14 14 ?_
 refine tS ?_
 refine rA 1 ?_
 obtain ⟨r2,er2,H⟩ := bs H
 refine vA [.rd] (Q0 n x0 r2 er2) ?_
 refine uA 1 270 14 ?_
 obtain ⟨h1,H⟩ | ⟨h1,H⟩ := bC H
 ·refine nA h1 ?_
  refine tK ?_
  refine rA 2 ?_
  obtain ⟨r3,er3,H⟩ := bs H
  refine vA [.rd] (zEG n x0.Tk r3 er3) ?_
  refine uA 2 14 14 ?_
  refine rA 2 ?_
  obtain ⟨r4,er4,H⟩ := bs H
  refine vA [.rd] (zEF n x0.F r4 er4) ?_
  refine uA 2 12 12 ?_
  refine rA 1 ?_
  obtain ⟨r5,er5,H⟩ := bs H
  refine vA [.own] (zAd n (⟨r1.Id,r1.Name,r1.Ps,r4,r1.V,r3,r1.Pa,r1.Wo,r1.Dr,r1.Ve⟩ : zA) r5 er5) ?_
  refine uA 1 4 4 ?_
  exact te (fJ [(true,(zA.row r5))] H)
 refine tA h1 ?_
 refine gA 2 4 4 ?_
 exact te (fJ [(true,(zA.row r1))] H)
def Zl (n : Nat) (x0 : (List Int)) : Option (zA × zA) :=
  ((Zg n x0).bind fun r1 => ((Zp n r1).bind fun r2 => ((ZA n r2.2 2).bind fun r3 => (bif r3.1 then ((Zx n r2.1).bind fun r5 => (some (r2.1,r5))) else ((Zm n r2.1).bind fun r4 => (some (r2.1,r4)))))))
theorem zC8 (n : Nat) (x0 : (List Int)) (r : zA × zA) (H : Zl n x0 = some r) : zG Tryz.prog 13 [.val false [.sl false 1 (CV.frzEs (x0.map zk))]] [.val true (zA.row r.1),.val true (zA.row r.2)] [] := by
 refine cW Tryz.func13 (fun g d => sl [g 0,g 1,g 2,sl [g 3] (cn 11 (sl [d 4] .ret) .skip),d 5] .ret) [.cell 2 31,.cell 3 31] fun cx => ?_
 unfold Zl at H
 refine gA 2 13 12 ?_
 refine rA 1 ?_
 obtain ⟨r1,er1,H⟩ := bs H
 refine vA [.rd] (JU n x0 r1 er1) ?_
 refine uA 1 28 140 ?_
 refine rA 1 ?_
 obtain ⟨r2,er2,H⟩ := bs H
 refine LAt.callL tOk [.lend] (f := 77) (av := #[.tmp 8]) (ats := #[91]) (d := (some 9)) (ty := 31) (g := none) kr kr kr [] (Ji n r1 r2 er2) kr (.inl rfl) ?_
 refine uA 2 60 172 ?_
 refine tS ?_
 refine rA 1 ?_
 obtain ⟨r3,er3,H⟩ := bs H
 refine LAt.callL tOk [.lend,.rd] (f := 80) (av := #[.tmp 10,.const (.int .i64 2)]) (ats := #[91,3]) (d := (some 11)) (ty := 4) (g := none) kr kr kr [] (Jj n r2.2 2 r3 er3) kr (.inl rfl) ?_
 refine dA 2092 44 ?_
 cases h1 : r3.1
 ·have H := zI h1 H
  refine nB_ ?_
  refine tK ?_
  obtain ⟨r4,er4,H⟩ := bs H
  refine Tr.draws mixed 5 kr ⟨18,0,[sA 3 3 11 0,sA 2 2 11 0],[(3,(zA.row r4)),(2,(zA.row r2.1))]⟩ (fun cx => ?_) ?_
  ·refine aA [(0,[3,4]),(1,[2,3,4])] 3 [⟨[2,3,4],31,5,16⟩,⟨[3,4],31,5,15⟩] fun cx => ?_
   refine bA 2 ?_
   refine vB [.rd] [.box 5] (J8 n r2.1 r4 er4) (.inr (zH (zA.row_mine _) zO)) ?_
   refine fA ?_
   refine bA 3 ?_
   refine lA 1 ?_
   refine fA ?_
   refine bA 4 ?_
   refine lA 1 ?_
   refine fA ?_
   exact eE [3,2] [3,2]
  exact te (fJ [(true,(zA.row r2.1)),(true,(zA.row r4))] H)
 have H := zJ h1 H
 refine tB_ ?_
 obtain ⟨r5,er5,H⟩ := bs H
 refine Tr.draws mixed 5 kr ⟨18,0,[sA 3 3 11 0,sA 2 2 11 0],[(3,(zA.row r5)),(2,(zA.row r2.1))]⟩ (fun cx => ?_) ?_
 ·refine aA [(0,[3,4]),(1,[2,3,4])] 3 [⟨[2,3,4],31,5,13⟩,⟨[3,4],31,5,12⟩] fun cx => ?_
  refine bA 2 ?_
  refine vB [.rd] [.box 5] (zAN n r2.1 r5 er5) (.inr (zH (zA.row_mine _) zO)) ?_
  refine fA ?_
  refine bA 3 ?_
  refine lA 1 ?_
  refine fA ?_
  refine bA 4 ?_
  refine lA 1 ?_
  refine fA ?_
  exact eE [3,2] [3,2]
 exact te (fJ [(true,(zA.row r2.1)),(true,(zA.row r5))] H)
def Z5 (n : Nat) (x0 : (List Int)) : Option (Int × Int) :=
  ((Zg n x0).bind fun r1 => ((zc n r1 [1,99,0,100]).bind fun r2 => ((zc n r2.2 [1,6,0,7]).bind fun r3 => (some (r2.1,r3.1)))))
theorem zDY (n : Nat) (x0 : (List Int)) (r : Int × Int) (H : Z5 n x0 = some r) : zG Tryz.prog 14 [.val false [.sl false 1 (CV.frzEs (x0.map zk))]] [.val false [.lit (.int .i64 r.1)],.val false [.lit (.int .i64 r.2)]] [] := by
 refine cW Tryz.func14 (fun g d => sl [g 0,g 1,g 2] .ret) [.tmp 2,.tmp 3] fun cx => ?_
 unfold Z5 at H
 refine gA 2 1 0 ?_
 refine rA 1 ?_
 obtain ⟨r1,er1,H⟩ := bs H
 refine vA [.rd] (JU n x0 r1 er1) ?_
 refine uA 1 16 64 ?_
 refine rA 2 ?_
 obtain ⟨r2,er2,H⟩ := bs H
 refine LAt.callL tOk [.lend,.rd] (f := 78) (av := #[.tmp 7,.tmp 8]) (ats := #[91,27]) (d := (some 9)) (ty := 3) (g := none) kr kr kr [] (zr n r1 [1,99,0,100] r2 er2) kr (.inl rfl) ?_
 refine lA 2 ?_
 obtain ⟨r3,er3,H⟩ := bs H
 refine LAt.callL tOk [.lend,.rd] (f := 78) (av := #[.tmp 10,.tmp 11]) (ats := #[91,27]) (d := (some 12)) (ty := 3) (g := none) kr kr kr [] (zr n r2.2 [1,6,0,7] r3 er3) kr (.inl rfl) ?_
 refine uA 2 12 0 ?_
 exact te (fJ [(false,[cI r2.1]),(false,[cI r3.1])] H)
def qB (n : Nat) (x0 : Int) (x1 : Int) (x2 : Int) : Option (Bool) :=
  (bif (decide (x0 ≥ x1)) then (some (decide (x0 ≤ x2))) else (some false))
theorem qI (n : Nat) (x0 : Int) (x1 : Int) (x2 : Int) (r : Bool) (H : qB n x0 x1 x2 = some r) : zG Tryz.prog 82 [.val false [.lit (.int .i64 x0)],.val false [.lit (.int .i64 x1)],.val false [.lit (.int .i64 x2)]] [.val false [.lit (.bool r)]] [] := by
 refine cW Tryz.func82 (fun g d => sl [g 0,g 1] .ret) [.tmp 6] fun cx => ?_
 unfold qB at H
 refine gA 1 7 0 ?_
 refine rA 4 ?_
 refine sL 1029 0 ⟨15,0,[sB 10 (decide (x0 ≥ x1)),sI 0 x0,sI 2 x2],[]⟩ ?_
 cases h1 : (decide (x0 ≥ x1))
 ·have H := zI h1 H
  refine uA 5 64 0 ?_
  exact te (fF H)
 have H := zJ h1 H
 refine uA 5 64 0 ?_
 exact te (fJ [(false,[cB (decide (x0 ≤ x2))])] H)
def qz (n : Nat) (x0 : Int) : Option (Int) :=
  (bif (decide ((0 : Int) ≤ x0)) then (some (IntKind.wrap .i64 ((IntKind.wrap .i64 (1 * 2 ^ min ((x0 : Int)).toNat (IntKind.bits .i64))) - 1))) else none)
theorem Qz (n : Nat) (x0 : Int) (r : Int) (H : qz n x0 = some r) : zG Tryz.prog 158 [.val false [.lit (.int .i64 x0)]] [.val false [.lit (.int .i64 r)]] [] := by
 refine cW Tryz.func158 (fun g d => sl [g 0,g 1] .ret) [.tmp 2] fun cx => ?_
 unfold qz at H
 refine gA 1 1 0 ?_
 refine rA 1 ?_
 obtain ⟨hg1,H⟩ := gs H
 refine LAt.binC tOk (op := .shl) (t := 3) (ty := 3) (ty' := 3) (x := (.const (.int .i64 1))) (y := (.tmp 3)) (d := 4) (g := none) (.int .i64 1) (.int .i64 x0) (.int .i64 (IntKind.wrap .i64 (1 * 2 ^ min ((x0 : Int)).toNat (IntKind.bits .i64)))) _ kr kr kr kr kr (φ := (0 : Int) ≤ x0) kr (of_decide_eq_true hg1) rfl ?_
 refine uA 2 4 0 ?_
 exact te (fJ [(false,[cI (IntKind.wrap .i64 ((IntKind.wrap .i64 (1 * 2 ^ min ((x0 : Int)).toNat (IntKind.bits .i64))) - 1))])] H)
def Yy (n : Nat) (r2 : Int) (r3 : Int) (y6 : (List Int)) : Option (zD) :=
  (some (⟨[(⟨1,r2,r3⟩ : zC)],y6⟩ : zD))
def Q7 (n : Nat) : Nat → Int → Int → (List Int) → Option (((List Int)) ⊕ (zD))
  | 0,_,_,_ => none
  | mo7 + 1,x0,y4,y5 => (bif (decide (y4 < x0)) then (bif (decide (y5.length + [1].length ≤ 268435456)) then (Q7 n mo7 x0 (IntKind.wrap .i64 (y4 + 1)) (y5 ++ [1])) else none) else (some (Sum.inl y5)))
def zA4 (n : Nat) (x0 : Int) : Option (zD) :=
  ((qB n x0 1 6).bind fun r1 => (bif (!r1) then (some (⟨([] : List zC),([] : List Int)⟩ : zD)) else ((qz n x0).bind fun r2 => ((qz n x0).bind fun r3 => ((Q7 n n x0 0 ([] : List Int)).bind fun o => match o with | .inl y6 => (Yy n r2 r3 y6) | .inr r => some r)))))
theorem zGf (n : Nat) (x0 : Int) (r : zD) (H : zA4 n x0 = some r) : zG Tryz.prog 83 [.val false [.lit (.int .i64 x0)]] [.val true (zD.row r)] [] := by
 refine cW Tryz.func83 (fun g d => sl [g 0,sl [g 1] (cn 6 (sl [g 2] .ret) .skip),g 3,sl [g 4] (.block 0 (.loop (sl [g 5,cn 17 .skip (.exit 0),.block 1 (g 6)] (g 7)))),g 8] .ret) [.cell 2 29] fun cx => ?_
 unfold zA4 at H
 refine gA 1 5 4 ?_
 refine tS ?_
 refine rA 1 ?_
 obtain ⟨r1,er1,H⟩ := bs H
 refine vA [.rd,.rd,.rd] (qI n x0 1 6 r1 er1) ?_
 refine uA 1 69 4 ?_
 obtain ⟨h1,H⟩ | ⟨h1,H⟩ := bC H
 ·refine nA h1 ?_
  refine tK ?_
  refine rA 1 ?_
  obtain ⟨r2,er2,H⟩ := bs H
  refine vA [.rd] (Qz n x0 r2 er2) ?_
  refine lA 1 ?_
  obtain ⟨r3,er3,H⟩ := bs H
  refine vA [.rd] (Qz n x0 r3 er3) ?_
  refine uA 5 13 12 ?_
  refine tS ?_
  refine gA 2 98316 12 ?_
  obtain ⟨o7,eo7,Ho7⟩ := bs H
  clear H
  refine Tr.mid (ι := (List Int)) (fun v => ⟨25,0,[sA 3 3 2 0,sA 2 2 2 0],[(3,[cL 3 [(⟨1,r2,r3⟩ : zC)] zC.row,cL 1 v intRow]),(2,[cL 3 ([] : List zC) zC.row,cL 1 ([] : List Int) intRow])]⟩) (fun v => Yy n r2 r3 v = some r) ?_ ?_
  ·refine tB ?_
   refine Tr.loop (ι := Nat × (Int × (List Int))) (fun v => ⟨25,0,[sI 16 v.2.1,sI 15 x0,sA 3 3 2 0,sA 2 2 2 0],[(3,[cL 3 [(⟨1,r2,r3⟩ : zC)] zC.row,cL 1 v.2.2 intRow]),(2,[cL 3 ([] : List zC) zC.row,cL 1 ([] : List Int) intRow])]⟩) (fun v => Q7 n v.1 x0 v.2.1 v.2.2 = some o7) (fun v => v.1) (n,(0,([] : List Int))) eo7 (St.sub_of [16,15,3,2] [3,2] kr) ?_
   rintro ⟨mo7,y4,y5⟩ H
   have H : Q7 n mo7 x0 y4 y5 = some o7 := H
   obtain _ | mo7 := mo7
   ·exact nN H
   rw [Q7] at H
   refine gA 1 229388 12 ?_
   refine tS ?_
   obtain ⟨h2,H⟩ | ⟨h2,H⟩ := bC H
   ·refine nA h2 ?_
    refine Tr.exit ?_
    refine aJ ?_
    obtain rfl := si H
    have H := Ho7
    dsimp only at H
    exact jA y5 H [3,2] [3,2]
   refine tA h2 ?_
   refine tK ?_
   refine tS ?_
   refine tB ?_
   refine Tr.at ?_
   refine lA 3 ?_
   obtain ⟨hg8,H⟩ := gs H
   refine LAt.appMU tOk (t := 27) (ty := 27) (e := 3) (x := (.tmp 19)) (y := (.tmp 20)) (d := 21) (g := none) (tI 3) intRow y5 [1] kr kr kr kr kr kr kr kr kr kr hg8 ?_
   refine uA 2 98316 12 ?_
   refine eA 2 98316 12 ?_
   exact jB mo7 ((IntKind.wrap .i64 (y4 + 1)),(y5 ++ [1])) H [16,15,3,2] [3,2]
  rintro y6 H
  have H : (Yy n r2 r3 y6) = some r := H
  unfold Yy at H
  refine gA 2 4 4 ?_
  exact te (fJ [(true,[cL 3 [(⟨1,r2,r3⟩ : zC)] zC.row,cL 1 y6 intRow])] H)
 refine tA h1 ?_
 refine gA 2 4 4 ?_
 exact te (fJ [(true,[cL 3 ([] : List zC) zC.row,cL 1 ([] : List Int) intRow])] H)
def YG (n : Nat) (r3 : zD) (x0 : Int) (y6 : (List Pt)) : Option (zA) :=
  (some (⟨x0,(⟨#[]⟩ : ByteArray),y6,([] : List zB),r3,0,0,0,0,0⟩ : zA))
def QR (n : Nat) : Nat → Int → Int → (List Pt) → Option (((List Pt)) ⊕ (zA))
  | 0,_,_,_ => none
  | mo7 + 1,x1,y4,y5 => (bif (decide (y4 < x1)) then (bif (decide (y5.length + [(⟨false,1,false,(⟨0,0,0,0,0⟩ : Vec)⟩ : Pt)].length ≤ 268435456)) then (QR n mo7 x1 (IntKind.wrap .i64 (y4 + 1)) (y5 ++ [(⟨false,1,false,(⟨0,0,0,0,0⟩ : Vec)⟩ : Pt)])) else none) else (some (Sum.inl y5)))
def Q5 (n : Nat) (x0 : Int) (x1 : Int) : Option (zA) :=
  ((qB n x0 1 99).bind fun r1 => (bif (!r1) then (some (⟨0,(⟨#[]⟩ : ByteArray),([] : List Pt),([] : List zB),(⟨([] : List zC),([] : List Int)⟩ : zD),0,0,0,0,0⟩ : zA)) else ((qB n x1 1 6).bind fun r2 => (bif (!r2) then (some (⟨0,(⟨#[]⟩ : ByteArray),([] : List Pt),([] : List zB),(⟨([] : List zC),([] : List Int)⟩ : zD),0,0,0,0,0⟩ : zA)) else ((zA4 n x1).bind fun r3 => ((QR n n x1 0 ([] : List Pt)).bind fun o => match o with | .inl y6 => (YG n r3 x0 y6) | .inr r => some r))))))
theorem zFS (n : Nat) (x0 : Int) (x1 : Int) (r : zA) (H : Q5 n x0 x1 = some r) : zG Tryz.prog 15 [.val false [.lit (.int .i64 x0)],.val false [.lit (.int .i64 x1)]] [.val true (zA.row r)] [] := by
 refine cW Tryz.func15 (fun g d => sl [g 0,sl [g 1] (cn 13 (sl [g 2] .ret) .skip),g 3,sl [g 4] (.block 0 (.loop (sl [g 5,cn 21 .skip (.exit 0),.block 1 (g 6)] (g 7)))),g 8] .ret) [.cell 4 31] fun cx => ?_
 unfold Q5 at H
 refine gA 1 19 16 ?_
 refine tS ?_
 refine rA 1 ?_
 obtain ⟨r1,er1,H⟩ := bs H
 refine vA [.rd,.rd,.rd] (qI n x0 1 99 r1 er1) ?_
 refine lA 2 ?_
 refine sL 531 16 ⟨30,0,[sB 9 (!r1),sA 4 4 11 0,sI 0 x0,sI 1 x1],[(4,[cI 0,cS (⟨#[]⟩ : ByteArray),cL 8 ([] : List Pt) Pt.row,cL 5 ([] : List zB) zB.row,cL 3 ([] : List zC) zC.row,cL 1 ([] : List Int) intRow,cI 0,cI 0,cI 0,cI 0,cI 0])]⟩ ?_
 cases h1 : (!r1)
 ·have H := zI h1 H
  refine lA 1 ?_
  obtain ⟨r2,er2,H⟩ := bs H
  refine vA [.rd,.rd,.rd] (qI n x1 1 6 r2 er2) ?_
  refine uA 2 8211 16 ?_
  obtain ⟨h2,H⟩ | ⟨h2,H⟩ := bC H
  ·refine nA h2 ?_
   refine tK ?_
   refine rA 2 ?_
   obtain ⟨r3,er3,H⟩ := bs H
   refine vA [.rd] (zGf n x1 r3 er3) ?_
   refine uA 3 50 48 ?_
   refine tS ?_
   refine gA 2 1572912 48 ?_
   obtain ⟨o7,eo7,Ho7⟩ := bs H
   clear H
   refine Tr.mid (ι := (List Pt)) (fun v => ⟨30,0,[sA 5 5 11 0,sA 4 4 11 0],[(5,[cI x0,cS (⟨#[]⟩ : ByteArray),cL 8 v Pt.row,cL 5 ([] : List zB) zB.row,cL 3 r3.Rows zC.row,cL 1 r3.Pv intRow,cI 0,cI 0,cI 0,cI 0,cI 0]),(4,[cI 0,cS (⟨#[]⟩ : ByteArray),cL 8 ([] : List Pt) Pt.row,cL 5 ([] : List zB) zB.row,cL 3 ([] : List zC) zC.row,cL 1 ([] : List Int) intRow,cI 0,cI 0,cI 0,cI 0,cI 0])]⟩) (fun v => YG n r3 x0 v = some r) ?_ ?_
   ·refine tB ?_
    refine Tr.loop (ι := Nat × (Int × (List Pt))) (fun v => ⟨30,0,[sI 20 v.2.1,sI 19 x1,sA 5 5 11 0,sA 4 4 11 0],[(5,[cI x0,cS (⟨#[]⟩ : ByteArray),cL 8 v.2.2 Pt.row,cL 5 ([] : List zB) zB.row,cL 3 r3.Rows zC.row,cL 1 r3.Pv intRow,cI 0,cI 0,cI 0,cI 0,cI 0]),(4,[cI 0,cS (⟨#[]⟩ : ByteArray),cL 8 ([] : List Pt) Pt.row,cL 5 ([] : List zB) zB.row,cL 3 ([] : List zC) zC.row,cL 1 ([] : List Int) intRow,cI 0,cI 0,cI 0,cI 0,cI 0])]⟩) (fun v => QR n v.1 x1 v.2.1 v.2.2 = some o7) (fun v => v.1) (n,(0,([] : List Pt))) eo7 (St.sub_of [20,19,5,4] [5,4] kr) ?_
    rintro ⟨mo7,y4,y5⟩ H
    have H : QR n mo7 x1 y4 y5 = some o7 := H
    obtain _ | mo7 := mo7
    ·exact nN H
    rw [QR] at H
    refine gA 1 3670064 48 ?_
    refine tS ?_
    obtain ⟨h3,H⟩ | ⟨h3,H⟩ := bC H
    ·refine nA h3 ?_
     refine Tr.exit ?_
     refine aJ ?_
     obtain rfl := si H
     have H := Ho7
     dsimp only at H
     exact jA y5 H [5,4] [5,4]
    refine tA h3 ?_
    refine tK ?_
    refine tS ?_
    refine tB ?_
    refine Tr.at ?_
    refine lA 4 ?_
    obtain ⟨hg8,H⟩ := gs H
    refine LAt.appMU tOk (t := 24) (ty := 24) (e := 100) (x := (.tmp 23)) (y := (.tmp 25)) (d := 26) (g := none) (tI 100) Pt.row y5 [(⟨false,1,false,(⟨0,0,0,0,0⟩ : Vec)⟩ : Pt)] kr kr kr kr kr kr kr kr kr kr hg8 ?_
    refine uA 2 1572912 48 ?_
    refine eA 2 1572912 48 ?_
    exact jB mo7 ((IntKind.wrap .i64 (y4 + 1)),(y5 ++ [(⟨false,1,false,(⟨0,0,0,0,0⟩ : Vec)⟩ : Pt)])) H [20,19,5,4] [5,4]
   rintro y6 H
   have H : (YG n r3 x0 y6) = some r := H
   unfold YG at H
   refine gA 2 16 16 ?_
   exact te (fJ [(true,[cI x0,cS (⟨#[]⟩ : ByteArray),cL 8 y6 Pt.row,cL 5 ([] : List zB) zB.row,cL 3 r3.Rows zC.row,cL 1 r3.Pv intRow,cI 0,cI 0,cI 0,cI 0,cI 0])] H)
  refine tA h2 ?_
  refine gA 2 16 16 ?_
  exact te (fJ [(true,[cI 0,cS (⟨#[]⟩ : ByteArray),cL 8 ([] : List Pt) Pt.row,cL 5 ([] : List zB) zB.row,cL 3 ([] : List zC) zC.row,cL 1 ([] : List Int) intRow,cI 0,cI 0,cI 0,cI 0,cI 0])] H)
 have H := zJ h1 H
 refine uA 4 8211 16 ?_
 refine tB_ ?_
 refine gA 2 16 16 ?_
 exact te (fJ [(true,[cI 0,cS (⟨#[]⟩ : ByteArray),cL 8 ([] : List Pt) Pt.row,cL 5 ([] : List zB) zB.row,cL 3 ([] : List zC) zC.row,cL 1 ([] : List Int) intRow,cI 0,cI 0,cI 0,cI 0,cI 0])] H)
def Ju (n : Nat) (x0 : (List zB)) : Option ((List zB)) :=
  (bif (decide (([] : List zB).length + x0.length ≤ 268435456)) then (some (([] : List zB) ++ x0)) else none)
theorem zGg (n : Nat) (x0 : (List zB)) (r : (List zB)) (H : Ju n x0 = some r) : zG Tryz.prog 159 [.val false [.sl false 5 (CV.frzEs (x0.map zB.row))]] [.val false [.sl true 5 (r.map zB.row)]] [] := by
 refine cW Tryz.func159 (fun g d => sl [g 0,g 1] .ret) [.tmp 2] fun cx => ?_
 unfold Ju at H
 refine gA 1 1 0 ?_
 refine rA 1 ?_
 obtain ⟨hg1,H⟩ := gs H
 refine LAt.appCU tOk (t := 25) (ty := 25) (e := 103) (x := (.const (.slice none 0 0))) (y := (.tmp 3)) (d := 4) (g := none) (tI 103) zB.row ([] : List zB) x0 ⟨(.slot 3),[],0,false,5,(CV.frzEs (x0.map zB.row))⟩ kr kr kr kr kr kr kr kr kr kr kr (.inr rfl) (fun _ => rfl) (fun _ => rfl) hg1 ?_
 refine LAt.moveU (T := lk tab) (ty := 25) (x := (.tmp 4)) (d := 2) (g := none) false [cL 5 (([] : List zB) ++ x0) zB.row] kr kr kr kr kr ?_
 refine dA 4 0 ?_
 exact te (fJ [(false,[cL 5 (([] : List zB) ++ x0) zB.row])] H)
def JP (n : Nat) (x0 : (List Int)) : Option ((List Int)) :=
  (bif (decide (([] : List Int).length + x0.length ≤ 268435456)) then (some (([] : List Int) ++ x0)) else none)
theorem zGE (n : Nat) (x0 : (List Int)) (r : (List Int)) (H : JP n x0 = some r) : zG Tryz.prog 117 [.val false [.sl false 1 (CV.frzEs (x0.map intRow))]] [.val false [.sl true 1 (r.map intRow)]] [] := by
 refine cW Tryz.func117 (fun g d => sl [g 0,g 1] .ret) [.tmp 2] fun cx => ?_
 unfold JP at H
 refine gA 1 1 0 ?_
 refine rA 1 ?_
 obtain ⟨hg1,H⟩ := gs H
 refine LAt.appCU tOk (t := 27) (ty := 27) (e := 3) (x := (.const (.slice none 0 0))) (y := (.tmp 3)) (d := 4) (g := none) (tI 3) intRow ([] : List Int) x0 ⟨(.slot 3),[],0,false,1,(CV.frzEs (x0.map intRow))⟩ kr kr kr kr kr kr kr kr kr kr kr (.inr rfl) (fun _ => rfl) (fun _ => rfl) hg1 ?_
 refine LAt.moveU (T := lk tab) (ty := 27) (x := (.tmp 4)) (d := 2) (g := none) false [cL 1 (([] : List Int) ++ x0) intRow] kr kr kr kr kr ?_
 refine dA 4 0 ?_
 exact te (fJ [(false,[cL 1 (([] : List Int) ++ x0) intRow])] H)
def YO (n : Nat) (x0 : zD) : Option (zD) :=
  (bif (decide (([] : List zC).length + x0.Rows.length ≤ 268435456)) then ((JP n x0.Pv).bind fun r2 => (some (⟨(([] : List zC) ++ x0.Rows),r2⟩ : zD))) else none)
theorem zGF (n : Nat) (x0 : zD) (r : zD) (H : YO n x0 = some r) : zG Tryz.prog 160 [.val true (CV.frzRow (zD.row x0))] [.val true (zD.row r)] [] := by
 refine cW Tryz.func160 (fun g d => sl [g 0,d 1] .ret) [.cell 2 29] fun cx => ?_
 unfold YO at H
 refine gA 2 6 6 ?_
 obtain ⟨hg1,H⟩ := gs H
 obtain ⟨r2,er2,H⟩ := bs H
 refine Tr.draws mixed 8 kr ⟨10,0,[sA 2 2 2 0],[(2,[cL 3 (([] : List zC) ++ x0.Rows) zC.row,cL 1 r2 intRow])]⟩ (fun cx => ?_) ?_
 ·refine aA [(0,[]),(1,[2,5,6,7]),(3,[]),(4,[5,6,7])] 4 [⟨[5,6,7],27,6,7⟩,⟨[2,5,6,7],26,3,4⟩] fun cx => ?_
  refine bA 2 ?_
  refine LAt.appCU tOk (t := 26) (ty := 26) (e := 113) (x := (.const (.slice none 0 0))) (y := (.tmp 4)) (d := 5) (g := none) (tI 113) zC.row ([] : List zC) x0.Rows ⟨(.box 1),[(0,0)],0,false,3,(CV.frzEs (x0.Rows.map zC.row))⟩ kr kr kr kr kr kr kr kr kr kr kr (.inr rfl) (fun _ => rfl) (fun _ => rfl) hg1 ?_
  refine fA ?_
  refine bA 5 ?_
  refine vA [.rd] (zGE n x0.Pv r2 er2) ?_
  refine fA ?_
  refine bA 6 ?_
  refine lA 1 ?_
  refine fA ?_
  refine bA 7 ?_
  refine lA 1 ?_
  refine fA ?_
  exact eE [2] [2]
 exact te (fJ [(true,[cL 3 (([] : List zC) ++ x0.Rows) zC.row,cL 1 r2 intRow])] H)
def ZV (n : Nat) (x0 : zA) : Option (zA) :=
  (bif (decide (([] : List Pt).length + x0.Ps.length ≤ 268435456)) then ((Ju n x0.F).bind fun r2 => ((YO n x0.V).bind fun r3 => (some (⟨x0.Id,x0.Name,(([] : List Pt) ++ x0.Ps),r2,r3,x0.Tk,x0.Pa,x0.Wo,x0.Dr,x0.Ve⟩ : zA)))) else none)
theorem zAE (n : Nat) (x0 : zA) (r : zA) (H : ZV n x0 = some r) : zG Tryz.prog 86 [.val true (CV.frzRow (zA.row x0))] [.val true (zA.row r)] [] := by
 refine cW Tryz.func86 (fun g d => sl [g 0,g 1,d 2,g 3] .ret) [.cell 2 31] fun cx => ?_
 unfold ZV at H
 refine gA 2 6 6 ?_
 refine rA 2 ?_
 obtain ⟨hg1,H⟩ := gs H
 refine LAt.appCU tOk (t := 24) (ty := 24) (e := 100) (x := (.const (.slice none 0 0))) (y := (.tmp 4)) (d := 5) (g := none) (tI 100) Pt.row ([] : List Pt) x0.Ps ⟨(.slot 4),[],0,false,8,(CV.frzEs (x0.Ps.map Pt.row))⟩ kr kr kr kr kr kr kr kr kr kr kr (.inr rfl) (fun _ => rfl) (fun _ => rfl) hg1 ?_
 refine uA 2 6 6 ?_
 obtain ⟨r2,er2,H⟩ := bs H
 obtain ⟨r3,er3,H⟩ := bs H
 refine Tr.draws mixed 10 kr ⟨16,0,[sA 2 2 11 0,sA 1 1 11 0],[(1,[cI x0.Id,cS x0.Name,cL 8 (([] : List Pt) ++ x0.Ps) Pt.row,cL 5 r2 zB.row,cL 3 r3.Rows zC.row,cL 1 r3.Pv intRow,cI x0.Tk,cI x0.Pa,cI x0.Wo,cI x0.Dr,cI x0.Ve]),(2,[cI 0,cS (⟨#[]⟩ : ByteArray),cL 8 ([] : List Pt) Pt.row,cL 5 ([] : List zB) zB.row,cL 3 ([] : List zC) zC.row,cL 1 ([] : List Int) intRow,cI 0,cI 0,cI 0,cI 0,cI 0])]⟩ (fun cx => ?_) ?_
 ·refine aA [(0,[]),(1,[2,5,7,9]),(3,[]),(4,[5,7,9])] 6 [⟨[5,7,9],29,10,11⟩,⟨[2,5,7,9],25,7,8⟩] fun cx => ?_
  refine bA 2 ?_
  refine vA [.rd] (zGg n x0.F r2 er2) ?_
  refine fA ?_
  refine aA [(6,[])] 4 [⟨[5,7,9],29,10,11⟩,⟨[2,5,7,9],25,7,8⟩] fun cx => ?_
  refine bA 5 ?_
  refine vA [.rd] (zGF n x0.V r3 er3) ?_
  refine fA ?_
  refine bA 7 ?_
  refine LAt.storeO tOk (t := 25) (ty := 0) (ad := (.tmp 13)) (x := (.tmp 9)) (g := none) (tI 25) false [cL 5 r2 zB.row] 1 3 [cI x0.Id,cS x0.Name,cL 8 (([] : List Pt) ++ x0.Ps) Pt.row,cF 5 x0.F zB.row,cF 3 x0.V.Rows zC.row,cF 1 x0.V.Pv intRow,cI x0.Tk,cI x0.Pa,cI x0.Wo,cI x0.Dr,cI x0.Ve] kr kr kr kr kr kr kr kr ?_
  refine fA ?_
  refine aA [(8,[])] 1 [⟨[5,7,9],29,10,11⟩,⟨[2,5,7,9],25,7,8⟩] fun cx => ?_
  refine bA 9 ?_
  refine lA 1 ?_
  refine fA ?_
  exact eE [2,1] [1,2]
 refine gA 2 4 4 ?_
 exact te (fJ [(true,[cI x0.Id,cS x0.Name,cL 8 (([] : List Pt) ++ x0.Ps) Pt.row,cL 5 r2 zB.row,cL 3 r3.Rows zC.row,cL 1 r3.Pv intRow,cI x0.Tk,cI x0.Pa,cI x0.Wo,cI x0.Dr,cI x0.Ve])] H)
def YF (n : Nat) (x0 : Vec) : Option (Bool) :=
  ((qB n x0.Root 1 99).bind fun r1 => (bif r1 then ((qB n x0.Co 0 100000).bind fun r2 => (bif r2 then ((qB n x0.Hops 0 10).bind fun r3 => (bif r3 then ((qB n x0.Bridge 1 99).bind fun r4 => (bif r4 then ((qB n x0.Port 0 7).bind fun r5 => (some r5)) else (some false))) else (some false))) else (some false))) else (some false)))
theorem zBL (n : Nat) (x0 : Vec) (r : Bool) (H : YF n x0 = some r) : zG Tryz.prog 88 [.val true (CV.frzRow (Vec.row x0))] [.val false [.lit (.bool r)]] [] := by
 refine cW Tryz.func88 (fun g d => sl [g 0,g 1] .ret) [.tmp 2] fun cx => ?_
 unfold YF at H
 refine gA 2 2 2 ?_
 refine rA 2 ?_
 obtain ⟨r1,er1,H⟩ := bs H
 refine vA [.rd,.rd,.rd] (qI n x0.Root 1 99 r1 er1) ?_
 refine lA 1 ?_
 refine sL 66 2 ⟨26,0,[sB 6 r1,sA 1 1 5 0],[(1,(Vec.row x0))]⟩ ?_
 cases h1 : r1
 ·have H := zI h1 H
  refine uA 20 4 0 ?_
  exact te (fF H)
 have H := zJ h1 H
 refine lA 2 ?_
 obtain ⟨r2,er2,H⟩ := bs H
 refine vA [.rd,.rd,.rd] (qI n x0.Co 0 100000 r2 er2) ?_
 refine lA 2 ?_
 refine sL 2050 2 ⟨26,0,[sB 11 r2,sA 1 1 5 0],[(1,(Vec.row x0))]⟩ ?_
 cases h2 : r2
 ·have H := zI h2 H
  refine uA 15 4 0 ?_
  exact te (fF H)
 have H := zJ h2 H
 refine lA 2 ?_
 obtain ⟨r3,er3,H⟩ := bs H
 refine vA [.rd,.rd,.rd] (qI n x0.Hops 0 10 r3 er3) ?_
 refine lA 2 ?_
 refine sL 65538 2 ⟨26,0,[sB 16 r3,sA 1 1 5 0],[(1,(Vec.row x0))]⟩ ?_
 cases h3 : r3
 ·have H := zI h3 H
  refine uA 10 4 0 ?_
  exact te (fF H)
 have H := zJ h3 H
 refine lA 2 ?_
 obtain ⟨r4,er4,H⟩ := bs H
 refine vA [.rd,.rd,.rd] (qI n x0.Bridge 1 99 r4 er4) ?_
 refine lA 2 ?_
 refine sL 2097154 2 ⟨26,0,[sB 21 r4,sA 1 1 5 0],[(1,(Vec.row x0))]⟩ ?_
 cases h4 : r4
 ·have H := zI h4 H
  refine uA 5 4 0 ?_
  exact te (fF H)
 have H := zJ h4 H
 refine lA 2 ?_
 obtain ⟨r5,er5,H⟩ := bs H
 refine vA [.rd,.rd,.rd] (qI n x0.Port 0 7 r5 er5) ?_
 refine uA 2 4 0 ?_
 exact te (fJ [(false,[cB r5])] H)
def zAD (n : Nat) (x0 : Pt) : Option (Bool) :=
  ((qB n x0.Co 1 1000).bind fun r1 => (bif (!r1) then (some false) else (bif x0.Has then (bif (!x0.Up) then (some false) else ((YF n x0.Hd).bind fun r2 => (some r2))) else (some ((x0.Hd.Root == 0) && ((x0.Hd.Co == 0) && ((x0.Hd.Hops == 0) && ((x0.Hd.Bridge == 0) && ((x0.Hd.Port == 0) && true)))))))))
theorem zIP (n : Nat) (x0 : Pt) (r : Bool) (H : zAD n x0 = some r) : zG Tryz.prog 97 [.val true (CV.frzRow (Pt.row x0))] [.val false [.lit (.bool r)]] [] := by
 refine cW Tryz.func97 (fun g d => sl [g 0,sl [g 1] (cn 15 (sl [g 2] .ret) .skip),sl [g 3] (cn 17 (sl [g 4] .ret) .skip),g 5] .ret) [.tmp 2] fun cx => ?_
 unfold zAD at H
 refine gA 2 2 2 ?_
 refine tS ?_
 refine rA 2 ?_
 obtain ⟨r1,er1,H⟩ := bs H
 refine vA [.rd,.rd,.rd] (qI n x0.Co 1 1000 r1 er1) ?_
 refine lA 2 ?_
 refine sL 130 2 ⟨25,0,[sB 7 (!r1),sA 1 1 8 0],[(1,(Pt.row x0))]⟩ ?_
 cases h1 : (!r1)
 ·have H := zI h1 H
  refine lA 3 ?_
  refine sL 1154 2 ⟨25,0,[sB 10 x0.Has,sB 7 false,sA 1 1 8 0],[(1,(Pt.row x0))]⟩ ?_
  cases h2 : x0.Has
  ·have H := zI h2 H
   refine uA 5 32770 2 ?_
   refine nB_ ?_
   refine tK ?_
   refine tS ?_
   refine gA 2 131074 2 ?_
   refine sT ⟨25,0,[sB 17 x0.Has,sA 1 1 8 0],[(1,(Pt.row x0))]⟩ ?_
   rw [h2]
   refine nB_ ?_
   refine tK ?_
   refine rA 3 ?_
   refine LAt.eqSG false (t := 33) (ty := 33) (ty' := 4) (x := (.tmp 22)) (y := (.tmp 23)) (d := 24) (g := none) ((x0.Hd.Root == 0) && ((x0.Hd.Co == 0) && ((x0.Hd.Hops == 0) && ((x0.Hd.Bridge == 0) && ((x0.Hd.Port == 0) && true))))) _ kr kr kr kr rfl ?_
   refine uA 1 4 0 ?_
   exact te (fJ [(false,[cB ((x0.Hd.Root == 0) && ((x0.Hd.Co == 0) && ((x0.Hd.Hops == 0) && ((x0.Hd.Bridge == 0) && ((x0.Hd.Port == 0) && true)))))])] H)
  have H := zJ h2 H
  refine uA 5 32770 2 ?_
  obtain ⟨h3,H⟩ | ⟨h3,H⟩ := bC H
  ·refine nA h3 ?_
   refine tK ?_
   refine tS ?_
   refine gA 2 131074 2 ?_
   refine sT ⟨25,0,[sB 17 x0.Has,sA 1 1 8 0],[(1,(Pt.row x0))]⟩ ?_
   rw [h2]
   refine tB_ ?_
   refine rA 2 ?_
   obtain ⟨r2,er2,H⟩ := bs H
   refine vA [.rd] (zBL n x0.Hd r2 er2) ?_
   refine uA 1 4 0 ?_
   exact te (fJ [(false,[cB r2])] H)
  refine tA h3 ?_
  refine gA 1 4 0 ?_
  exact te (fF H)
 have H := zJ h1 H
 refine uA 8 32770 2 ?_
 refine tB_ ?_
 refine gA 1 4 0 ?_
 exact te (fF H)
def zAF (n : Nat) (x0 : zB) : Option (Bool) :=
  ((qB n x0.Tag 1 99).bind fun r1 => (bif r1 then ((qB n x0.Mac 1 9999).bind fun r2 => (bif r2 then ((qB n x0.Port 0 7).bind fun r3 => (bif r3 then ((qB n x0.Age 0 4).bind fun r4 => (bif r4 then (bif (!x0.Sc) then (some true) else (some (x0.Age == 0))) else (some false))) else (some false))) else (some false))) else (some false)))
theorem zB8 (n : Nat) (x0 : zB) (r : Bool) (H : zAF n x0 = some r) : zG Tryz.prog 167 [.val true (CV.frzRow (zB.row x0))] [.val false [.lit (.bool r)]] [] := by
 refine cW Tryz.func167 (fun g d => sl [g 0,g 1] .ret) [.tmp 2] fun cx => ?_
 unfold zAF at H
 refine gA 2 2 2 ?_
 refine rA 2 ?_
 obtain ⟨r1,er1,H⟩ := bs H
 refine vA [.rd,.rd,.rd] (qI n x0.Tag 1 99 r1 er1) ?_
 refine lA 1 ?_
 refine sL 66 2 ⟨31,0,[sB 6 r1,sA 1 1 5 0],[(1,(zB.row x0))]⟩ ?_
 cases h1 : r1
 ·have H := zI h1 H
  refine uA 25 4 0 ?_
  exact te (fF H)
 have H := zJ h1 H
 refine lA 2 ?_
 obtain ⟨r2,er2,H⟩ := bs H
 refine vA [.rd,.rd,.rd] (qI n x0.Mac 1 9999 r2 er2) ?_
 refine lA 2 ?_
 refine sL 2050 2 ⟨31,0,[sB 11 r2,sA 1 1 5 0],[(1,(zB.row x0))]⟩ ?_
 cases h2 : r2
 ·have H := zI h2 H
  refine uA 20 4 0 ?_
  exact te (fF H)
 have H := zJ h2 H
 refine lA 2 ?_
 obtain ⟨r3,er3,H⟩ := bs H
 refine vA [.rd,.rd,.rd] (qI n x0.Port 0 7 r3 er3) ?_
 refine lA 2 ?_
 refine sL 65538 2 ⟨31,0,[sB 16 r3,sA 1 1 5 0],[(1,(zB.row x0))]⟩ ?_
 cases h3 : r3
 ·have H := zI h3 H
  refine uA 15 4 0 ?_
  exact te (fF H)
 have H := zJ h3 H
 refine lA 2 ?_
 obtain ⟨r4,er4,H⟩ := bs H
 refine vA [.rd,.rd,.rd] (qI n x0.Age 0 4 r4 er4) ?_
 refine lA 2 ?_
 refine sL 2097154 2 ⟨31,0,[sB 21 r4,sA 1 1 5 0],[(1,(zB.row x0))]⟩ ?_
 cases h4 : r4
 ·have H := zI h4 H
  refine uA 10 4 0 ?_
  exact te (fF H)
 have H := zJ h4 H
 refine lA 4 ?_
 refine sL 35651586 2 ⟨31,0,[sB 25 (!x0.Sc),sB 21 true,sA 1 1 5 0],[(1,(zB.row x0))]⟩ ?_
 cases h5 : (!x0.Sc)
 ·have H := zI h5 H
  refine uA 6 4 0 ?_
  exact te (fJ [(false,[cB (x0.Age == 0)])] H)
 have H := zJ h5 H
 refine uA 6 4 0 ?_
 exact te (fT H)
def JA (n : Nat) (x0 : zB) (x1 : Int) (x2 : Int) : Option (Bool) :=
  (bif (decide (x0.Tag > x1)) then (some true) else (bif (x0.Tag == x1) then (some (decide (x0.Mac > x2))) else (some false)))
theorem zHB (n : Nat) (x0 : zB) (x1 : Int) (x2 : Int) (r : Bool) (H : JA n x0 x1 x2 = some r) : zG Tryz.prog 168 [.val true (CV.frzRow (zB.row x0)),.val false [.lit (.int .i64 x1)],.val false [.lit (.int .i64 x2)]] [.val false [.lit (.bool r)]] [] := by
 refine cW Tryz.func168 (fun g d => sl [g 0,g 1] .ret) [.tmp 6] fun cx => ?_
 unfold JA at H
 refine gA 2 14 8 ?_
 refine rA 5 ?_
 refine sL 2062 8 ⟨23,0,[sB 11 (decide (x0.Tag > x1)),sA 3 3 5 0,sI 1 x1,sI 2 x2],[(3,(zB.row x0))]⟩ ?_
 cases h1 : (decide (x0.Tag > x1))
 ·have H := zI h1 H
  refine lA 5 ?_
  refine sL 67596 8 ⟨23,0,[sB 16 (x0.Tag == x1),sB 11 false,sA 3 3 5 0,sI 2 x2],[(3,(zB.row x0))]⟩ ?_
  cases h2 : (x0.Tag == x1)
  ·have H := zI h2 H
   refine uA 7 64 0 ?_
   exact te (fF H)
  have H := zJ h2 H
  refine uA 7 64 0 ?_
  exact te (fJ [(false,[cB (decide (x0.Mac > x2))])] H)
 have H := zJ h1 H
 refine uA 12 64 0 ?_
 exact te (fT H)
def Jq (n : Nat) (x0 : (List zB)) : Option (Bool) :=
  (some (decide ((x0.length : Int) ≤ 12)))
def ZR (n : Nat) : Nat → (List zB) → Int → Option ((Unit) ⊕ (Bool))
  | 0,_,_ => none
  | mo2 + 1,x0,y1 => (bif (decide (y1 < (x0.length : Int))) then ((idx x0 y1).bind fun v3 => ((zAF n v3).bind fun r4 => (bif (!r4) then (some (Sum.inr false)) else (bif (decide (y1 > 0)) then ((idx x0 (IntKind.wrap .i64 (y1 - 1))).bind fun v5 => ((idx x0 (IntKind.wrap .i64 (y1 - 1))).bind fun v6 => ((JA n v3 v5.Tag v6.Mac).bind fun r7 => (bif (!r7) then (some (Sum.inr false)) else (ZR n mo2 x0 (IntKind.wrap .i64 (y1 + 1))))))) else (ZR n mo2 x0 (IntKind.wrap .i64 (y1 + 1))))))) else (some (Sum.inl ())))
def Jd (n : Nat) (x0 : (List zB)) : Option (Bool) :=
  ((ZR n n x0 0).bind fun o => match o with | .inl _ => (Jq n x0) | .inr r => some r)
def zJ2 : Tab := ⟨24,[0,1,2,6,8,24,40,64,64,64,576,1344,2112,4160,64,64,32832,81984,131136,262208,532672,1048640,2097224,4194312],[0,1,2,4,8,24,40,64,64,64,576,1344,2112,4160,64,64,32832,81984,131136,262208,532672,1048640,2097224,4194312],[0,1,3,7,15,31,63,127,127,127,639,1919,3967,8063,127,127,32895,114815,245887,508031,1048575,2097151,4194303,8388607]⟩
theorem Zi : z9 (rg Tryz.f98 4) zJ2 = true := kr
theorem zHs (n : Nat) (x0 : (List zB)) (r : Bool) (H : Jd n x0 = some r) : zG Tryz.prog 98 [.val false [.sl false 5 (CV.frzEs (x0.map zB.row))]] [.val false [.lit (.bool r)]] [] := by
 refine cW Tryz.func98 (fun g d => sl [g 0,sl [g 1] (.block 0 (.loop (sl [g 2,cn 8 .skip (.exit 0),.block 1 (sl [g 3,d 4] (cn 35 (sl [g 5] .ret) .skip))] (g 6)))),g 7] .ret) [.tmp 2] fun cx => ?_
 unfold Jd at H
 refine gA 1 1 0 ?_
 refine tS ?_
 refine rA 1 ?_
 refine kF x0 zB.row ?_
 refine uA 1 225 0 ?_
 obtain ⟨o2,eo2,Ho2⟩ := bs H
 clear H
 refine Tr.mid (ι := Unit) (fun v => ⟨40,0,[sC 0 (cF 5 x0 zB.row)],[]⟩) (fun v => Jq n x0 = some r) ?_ ?_
 ·refine tB ?_
  refine Tr.loop (ι := Nat × (Int)) (fun v => ⟨40,0,[sI 7 v.2,sI 6 (x0.length : Int),sC 5 (cF 5 x0 zB.row),sC 0 (cF 5 x0 zB.row)],[]⟩) (fun v => ZR n v.1 x0 v.2 = some o2) (fun v => v.1) (n,0) eo2 (St.sub_of [7,6,5,0] [] kr) ?_
  rintro ⟨mo2,y1⟩ H
  have H : ZR n mo2 x0 y1 = some o2 := H
  obtain _ | mo2 := mo2
  ·exact nN H
  rw [ZR] at H
  refine gA 1 481 0 ?_
  refine tS ?_
  obtain ⟨h1,H⟩ | ⟨h1,H⟩ := bC H
  ·refine nA h1 ?_
   refine Tr.exit ?_
   refine aJ ?_
   obtain rfl := si H
   have H := Ho2
   dsimp only at H
   exact jA () H [0] []
  refine tA h1 ?_
  refine tK ?_
  refine tS ?_
  refine tB ?_
  refine rA 1 ?_
  obtain ⟨v3,ev3,H⟩ := bs H
  refine iA zB.row ev3 ?_
  refine uA 4 249 16 ?_
  obtain ⟨r4,er4,H⟩ := bs H
  refine sT ⟨40,0,[sI 3 y1,sA 4 4 5 0,sI 7 y1,sI 6 (x0.length : Int),sC 5 (cF 5 x0 zB.row),sC 0 (cF 5 x0 zB.row)],[(4,(zB.row v3))]⟩ ?_
  cases h2 : (!r4)
  ·have H := zI h2 H
   refine sT ⟨40,0,[sI 3 y1,sA 4 4 5 0,sI 7 y1,sI 6 (x0.length : Int),sC 5 (cF 5 x0 zB.row),sC 0 (cF 5 x0 zB.row)],[(4,(zB.row v3))]⟩ ?_
   cases h3 : (decide (y1 > 0))
   ·have H := zI h3 H
    refine Tr.draws mixed 24 kr ⟨40,0,[sB 35 false,sI 7 y1,sI 6 (x0.length : Int),sC 5 (cF 5 x0 zB.row),sC 0 (cF 5 x0 zB.row)],[]⟩ (fun cx => ?_) ?_
    ·refine mA Zi [(0,[1])] 23 [⟨[1],103,4,12⟩] fun cx => ?_
     refine mC Zi 1 ?_
     refine vA [.rd] (zB8 n v3 r4 er4) ?_
     refine fA ?_
     refine mA Zi [(2,[]),(3,[])] 20 [⟨[1],103,4,12⟩] fun cx => ?_
     refine sA_ 37113 16 ⟨40,0,[sB 15 (!r4),sV 12 (zB.row v3),sI 3 y1,sA 4 4 5 0,sI 7 y1,sI 6 (x0.length : Int),sC 5 (cF 5 x0 zB.row),sC 0 (cF 5 x0 zB.row)],[(4,(zB.row v3))]⟩ ?_
     rw [h2]
     refine mA Zi [(4,[]),(5,[]),(6,[])] 17 [⟨[1],103,4,12⟩] fun cx => ?_
     refine sA_ 299257 16 ⟨40,0,[sB 18 (decide (y1 > 0)),sB 15 false,sV 12 (zB.row v3),sI 3 y1,sA 4 4 5 0,sI 7 y1,sI 6 (x0.length : Int),sC 5 (cF 5 x0 zB.row),sC 0 (cF 5 x0 zB.row)],[(4,(zB.row v3))]⟩ ?_
     rw [h3]
     refine mA Zi [(7,[]),(8,[]),(9,[]),(10,[]),(11,[]),(12,[]),(13,[]),(14,[]),(15,[]),(16,[]),(17,[]),(18,[]),(19,[]),(20,[]),(21,[]),(22,[]),(23,[])] 0 [⟨[1],103,4,12⟩] fun cx => ?_
     exact mE Zi [35,7,6,5,0] []
    refine nB_ ?_
    refine tK ?_
    refine eA 2 225 0 ?_
    exact jB mo2 (IntKind.wrap .i64 (y1 + 1)) H [7,6,5,0] []
   have H := zJ h3 H
   obtain ⟨v5,ev5,H⟩ := bs H
   obtain ⟨v6,ev6,H⟩ := bs H
   obtain ⟨r7,er7,H⟩ := bs H
   refine Tr.draws mixed 24 kr ⟨40,0,[sB 35 (!r7),sI 7 y1,sI 6 (x0.length : Int),sC 5 (cF 5 x0 zB.row),sC 0 (cF 5 x0 zB.row)],[]⟩ (fun cx => ?_) ?_
   ·refine mA Zi [(0,[1,20])] 23 [⟨[1,20],103,4,12⟩] fun cx => ?_
    refine mC Zi 1 ?_
    refine vA [.rd] (zB8 n v3 r4 er4) ?_
    refine fA ?_
    refine mA Zi [(2,[]),(3,[])] 20 [⟨[1,20],103,4,12⟩] fun cx => ?_
    refine sA_ 37113 16 ⟨40,0,[sB 15 (!r4),sV 12 (zB.row v3),sI 3 y1,sA 4 4 5 0,sI 7 y1,sI 6 (x0.length : Int),sC 5 (cF 5 x0 zB.row),sC 0 (cF 5 x0 zB.row)],[(4,(zB.row v3))]⟩ ?_
    rw [h2]
    refine mA Zi [(4,[]),(5,[]),(6,[])] 17 [⟨[1,20],103,4,12⟩] fun cx => ?_
    refine sA_ 299257 16 ⟨40,0,[sB 18 (decide (y1 > 0)),sB 15 false,sV 12 (zB.row v3),sI 3 y1,sA 4 4 5 0,sI 7 y1,sI 6 (x0.length : Int),sC 5 (cF 5 x0 zB.row),sC 0 (cF 5 x0 zB.row)],[(4,(zB.row v3))]⟩ ?_
    rw [h3]
    refine mA Zi [(7,[20]),(8,[]),(9,[]),(10,[])] 13 [⟨[20],103,4,19⟩,⟨[1,20],103,4,12⟩] fun cx => ?_
    refine iN Zi 11 zB.row ev5 fun cx => ?_
    refine mA Zi [(12,[]),(13,[]),(14,[]),(15,[]),(16,[])] 7 [⟨[20],103,4,19⟩,⟨[1,20],103,4,12⟩] fun cx => ?_
    refine iN Zi 17 zB.row ev6 fun cx => ?_
    refine mA Zi [(18,[]),(19,[])] 4 [⟨[20],103,4,19⟩,⟨[1,20],103,4,12⟩] fun cx => ?_
    refine mC Zi 20 ?_
    refine vA [.rd,.rd,.rd] (zHB n v3 v5.Tag v6.Mac r7 er7) ?_
    refine fA ?_
    refine mA Zi [(21,[]),(22,[]),(23,[])] 0 [⟨[20],103,4,19⟩,⟨[1,20],103,4,12⟩] fun cx => ?_
    exact mE Zi [35,7,6,5,0] []
   refine sT ⟨40,0,[sB 35 (!r7),sI 7 y1,sI 6 (x0.length : Int),sC 5 (cF 5 x0 zB.row),sC 0 (cF 5 x0 zB.row)],[]⟩ ?_
   cases h4 : (!r7)
   ·have H := zI h4 H
    refine nB_ ?_
    refine tK ?_
    refine eA 2 225 0 ?_
    exact jB mo2 (IntKind.wrap .i64 (y1 + 1)) H [7,6,5,0] []
   have H := zJ h4 H
   refine tB_ ?_
   refine gA 1 4 0 ?_
   refine te ?_
   obtain rfl := si H
   have H := Ho2
   dsimp only at H
   exact fF H
  have H := zJ h2 H
  refine Tr.draws mixed 24 kr ⟨40,0,[sB 35 true,sI 7 y1,sI 6 (x0.length : Int),sC 5 (cF 5 x0 zB.row),sC 0 (cF 5 x0 zB.row)],[]⟩ (fun cx => ?_) ?_
  ·refine mA Zi [(0,[1])] 23 [⟨[1],103,4,12⟩] fun cx => ?_
   refine mC Zi 1 ?_
   refine vA [.rd] (zB8 n v3 r4 er4) ?_
   refine fA ?_
   refine mA Zi [(2,[]),(3,[])] 20 [⟨[1],103,4,12⟩] fun cx => ?_
   refine sA_ 37113 16 ⟨40,0,[sB 15 (!r4),sV 12 (zB.row v3),sI 3 y1,sA 4 4 5 0,sI 7 y1,sI 6 (x0.length : Int),sC 5 (cF 5 x0 zB.row),sC 0 (cF 5 x0 zB.row)],[(4,(zB.row v3))]⟩ ?_
   rw [h2]
   refine mA Zi [(4,[]),(5,[]),(6,[]),(7,[]),(8,[]),(9,[]),(10,[]),(11,[]),(12,[]),(13,[]),(14,[]),(15,[]),(16,[]),(17,[]),(18,[]),(19,[]),(20,[]),(21,[]),(22,[]),(23,[])] 0 [⟨[1],103,4,12⟩] fun cx => ?_
   exact mE Zi [35,7,6,5,0] []
  refine tB_ ?_
  refine gA 1 4 0 ?_
  refine te ?_
  obtain rfl := si H
  have H := Ho2
  dsimp only at H
  exact fF H
 rintro _ H
 have H : (Jq n x0) = some r := H
 unfold Jq at H
 refine rA 1 ?_
 refine kF x0 zB.row ?_
 refine uA 2 4 0 ?_
 exact te (fJ [(false,[cB (decide ((x0.length : Int) ≤ 12))])] H)
def Jr (n : Nat) : Option (Int) :=
  (some (-1))
def QN (n : Nat) : Nat → zD → Int → Int → Option ((Unit) ⊕ (Int))
  | 0,_,_,_ => none
  | mo2 + 1,x0,x1,y1 => (bif (decide (y1 < (x0.Rows.length : Int))) then ((idx x0.Rows y1).bind fun v3 => (bif (v3.Id == x1) then (some (Sum.inr y1)) else (QN n mo2 x0 x1 (IntKind.wrap .i64 (y1 + 1))))) else (some (Sum.inl ())))
def Je (n : Nat) (x0 : zD) (x1 : Int) : Option (Int) :=
  ((QN n n x0 x1 0).bind fun o => match o with | .inl _ => (Jr n) | .inr r => some r)
theorem zHt (n : Nat) (x0 : zD) (x1 : Int) (r : Int) (H : Je n x0 x1 = some r) : zG Tryz.prog 169 [.val true (CV.frzRow (zD.row x0)),.val false [.lit (.int .i64 x1)]] [.val false [.lit (.int .i64 r)]] [] := by
 refine cW Tryz.func169 (fun g d => sl [g 0,sl [g 1] (.block 0 (.loop (sl [g 2,cn 11 .skip (.exit 0),.block 1 (sl [g 3,g 4] (cn 18 (sl [g 5] .ret) .skip))] (g 6)))),g 7] .ret) [.tmp 4] fun cx => ?_
 unfold Je at H
 refine gA 2 6 4 ?_
 refine tS ?_
 refine rA 2 ?_
 refine kF x0.Rows zC.row ?_
 refine uA 1 1794 0 ?_
 obtain ⟨o2,eo2,Ho2⟩ := bs H
 clear H
 refine Tr.mid (ι := Unit) (fun v => ⟨21,0,[],[]⟩) (fun v => Jr n = some r) ?_ ?_
 ·refine tB ?_
  refine Tr.loop (ι := Nat × (Int)) (fun v => ⟨21,0,[sI 10 v.2,sI 9 (x0.Rows.length : Int),sC 8 (cF 3 x0.Rows zC.row),sI 1 x1],[]⟩) (fun v => QN n v.1 x0 x1 v.2 = some o2) (fun v => v.1) (n,0) eo2 (St.sub_of [10,9,8,1] [] kr) ?_
  rintro ⟨mo2,y1⟩ H
  have H : QN n mo2 x0 x1 y1 = some o2 := H
  obtain _ | mo2 := mo2
  ·exact nN H
  rw [QN] at H
  refine gA 1 3842 0 ?_
  refine tS ?_
  obtain ⟨h1,H⟩ | ⟨h1,H⟩ := bC H
  ·refine nA h1 ?_
   refine Tr.exit ?_
   refine aJ ?_
   obtain rfl := si H
   have H := Ho2
   dsimp only at H
   exact jA () H [] []
  refine tA h1 ?_
  refine tK ?_
  refine tS ?_
  refine tB ?_
  refine rA 1 ?_
  obtain ⟨v3,ev3,H⟩ := bs H
  refine iA zC.row ev3 ?_
  refine uA 4 1890 64 ?_
  refine gA 4 263970 0 ?_
  obtain ⟨h2,H⟩ | ⟨h2,H⟩ := bC H
  ·refine nA h2 ?_
   refine tK ?_
   refine eA 2 1794 0 ?_
   exact jB mo2 (IntKind.wrap .i64 (y1 + 1)) H [10,9,8,1] []
  refine tA h2 ?_
  refine gA 2 16 0 ?_
  refine te ?_
  obtain rfl := si H
  have H := Ho2
  dsimp only at H
  exact fJ [(false,[cI y1])] H
 rintro _ H
 have H : (Jr n) = some r := H
 unfold Jr at H
 refine gA 1 16 0 ?_
 exact te (fJ [(false,[cI (-1)])] H)
def JO (n : Nat) : Option (Bool) :=
  (some true)
def Zd (n : Nat) : Nat → zD → Int → Option ((Unit) ⊕ (Bool))
  | 0,_,_ => none
  | mo4 + 1,x0,y3 => (bif (decide (y3 < (x0.Pv.length : Int))) then ((idx x0.Pv y3).bind fun v5 => ((Je n x0 v5).bind fun r6 => (bif (decide (r6 < 0)) then (some (Sum.inr false)) else (Zd n mo4 x0 (IntKind.wrap .i64 (y3 + 1)))))) else (some (Sum.inl ())))
def YN (n : Nat) (x0 : zD) : Option (Bool) :=
  ((Zd n n x0 0).bind fun o => match o with | .inl _ => (JO n) | .inr r => some r)
def ZG (n : Nat) : Nat → zD → Int → Int → Option ((Unit) ⊕ (Bool))
  | 0,_,_,_ => none
  | mo7 + 1,x0,x1,y2 => (bif (decide (y2 < (x0.Rows.length : Int))) then ((idx x0.Rows y2).bind fun v8 => ((qB n v8.Id 1 99).bind fun r9 => (bif (!r9) then (some (Sum.inr false)) else (bif (decide (y2 > 0)) then ((idx x0.Rows (IntKind.wrap .i64 (y2 - 1))).bind fun v12 => (bif (decide (v12.Id ≥ v8.Id)) then (some (Sum.inr false)) else ((qz n x1).bind fun r13 => ((qB n v8.Members 0 r13).bind fun r14 => (bif (!r14) then (some (Sum.inr false)) else (bif ((IntKind.wrap .i64 (BitVec.ofInt (IntKind.bits .i64) v8.Bare &&& ~~~BitVec.ofInt (IntKind.bits .i64) v8.Members).toNat) != 0) then (some (Sum.inr false)) else (ZG n mo7 x0 x1 (IntKind.wrap .i64 (y2 + 1))))))))) else ((qz n x1).bind fun r10 => ((qB n v8.Members 0 r10).bind fun r11 => (bif (!r11) then (some (Sum.inr false)) else (bif ((IntKind.wrap .i64 (BitVec.ofInt (IntKind.bits .i64) v8.Bare &&& ~~~BitVec.ofInt (IntKind.bits .i64) v8.Members).toNat) != 0) then (some (Sum.inr false)) else (ZG n mo7 x0 x1 (IntKind.wrap .i64 (y2 + 1))))))))))) else (some (Sum.inl ())))
def Y9 (n : Nat) (x0 : zD) (x1 : Int) : Option (Bool) :=
  ((qB n x1 1 6).bind fun r1 => (bif (!r1) then (some false) else (bif ((x0.Pv.length : Int) != x1) then (some false) else (bif (decide ((x0.Rows.length : Int) > 6)) then (some false) else ((ZG n n x0 x1 0).bind fun o => match o with | .inl _ => (YN n x0) | .inr r => some r)))))
def zJ3 : Tab := ⟨36,[0,1,2,4,12,16,48,80,128,384,128,1152,2688,4224,8320,128,32896,82048,131216,262160,524416,1048576,3145728,1048576,9437184,22020096,34603008,68157440,167772160,268435456,805306368,268435456,2415919104,5637144576,8858370048,17448304640],[0,1,2,4,8,16,48,80,128,384,128,1152,2688,4224,8320,128,32896,82048,131216,262160,524288,1048576,3145728,1048576,9437184,22020096,34603008,68157440,134217728,268435456,805306368,268435456,2415919104,5637144576,8858370048,17448304640],[0,1,3,7,15,31,63,127,255,511,255,1279,4095,8191,16383,255,33023,131071,262143,524287,1048575,2097151,4194303,2097151,10485759,33554431,67108863,134217727,268435455,536870911,1073741823,536870911,2684354559,8589934591,17179869183,34359738367]⟩
theorem zn : z9 (rg Tryz.f99 6) zJ3 = true := kr
theorem zFV (n : Nat) (x1 : Int) (r13 : Int) (v8 : zC) (r14 : Bool) (y2 : Int) (x0 : zD) (er13 : (qz n x1) = some r13) (er14 : (qB n v8.Members 0 r13) = some r14) (h12 : (!r14) = false) (cx : Cx) : AT Tryz.prog cx (rg Tryz.f99 6) [⟨[24,25],3,48,49⟩,⟨[24,25],26,41,42⟩,⟨[2,24,25],3,33,34⟩] 15 [20,19,18,17,16,15,14,13,12,11,10,9,8,7,6,5,4,3,2,1,0] ⟨82,0,[sB 53 false,sI 49 v8.Id,sA 48 6 3 0,sR 42 2 2 0 1 false,sA 41 2 2 0,sI 34 v8.Id,sA 33 6 3 0,sA 6 6 3 0,sI 28 y2,sI 27 (x0.Rows.length : Int),sC 26 (cF 3 x0.Rows zC.row),sA 2 2 2 0,sI 1 x1],[(6,(zC.row v8)),(2,(CV.frzRow (zD.row x0)))]⟩ (fun s => s = ⟨82,0,[sB 68 ((IntKind.wrap .i64 (BitVec.ofInt (IntKind.bits .i64) v8.Bare &&& ~~~BitVec.ofInt (IntKind.bits .i64) v8.Members).toNat) != 0),sI 28 y2,sI 27 (x0.Rows.length : Int),sC 26 (cF 3 x0.Rows zC.row),sA 2 2 2 0,sI 1 x1],[(2,(CV.frzRow (zD.row x0)))]⟩) := by
 refine mA zn [(21,[]),(22,[25]),(23,[])] 12 [⟨[25],3,54,55⟩,⟨[24,25],3,48,49⟩,⟨[24,25],26,41,42⟩,⟨[2,24,25],3,33,34⟩] fun cx => ?_
 refine mC zn 24 ?_
 refine vA [.rd] (Qz n x1 r13 er13) ?_
 refine fA ?_
 refine mC zn 25 ?_
 refine vA [.rd,.rd,.rd] (qI n v8.Members 0 r13 r14 er14) ?_
 refine fA ?_
 refine mA zn [(26,[]),(27,[]),(28,[])] 7 [⟨[25],3,54,55⟩,⟨[24,25],3,48,49⟩,⟨[24,25],26,41,42⟩,⟨[2,24,25],3,33,34⟩] fun cx => ?_
 refine sA_ 0x20c306061c000046 68 ⟨82,0,[sB 61 (!r14),sI 55 v8.Members,sA 54 6 3 1,sI 49 v8.Id,sA 48 6 3 0,sR 42 2 2 0 1 false,sA 41 2 2 0,sI 34 v8.Id,sA 33 6 3 0,sA 6 6 3 0,sI 28 y2,sI 27 (x0.Rows.length : Int),sC 26 (cF 3 x0.Rows zC.row),sA 2 2 2 0,sI 1 x1],[(6,(zC.row v8)),(2,(CV.frzRow (zD.row x0)))]⟩ ?_
 rw [h12]
 refine mA zn [(29,[]),(30,[]),(31,[]),(32,[]),(33,[]),(34,[]),(35,[])] 0 [⟨[],3,64,65⟩,⟨[],3,62,63⟩,⟨[25],3,54,55⟩,⟨[24,25],3,48,49⟩,⟨[24,25],26,41,42⟩,⟨[2,24,25],3,33,34⟩] fun cx => ?_
 exact mE zn [68,28,27,26,2,1] [2]
theorem zFW (n : Nat) (x1 : Int) (r13 : Int) (v8 : zC) (r14 : Bool) (y2 : Int) (x0 : zD) (er13 : (qz n x1) = some r13) (er14 : (qB n v8.Members 0 r13) = some r14) (h12 : (!r14) = true) (cx : Cx) : AT Tryz.prog cx (rg Tryz.f99 6) [⟨[24,25],3,48,49⟩,⟨[24,25],26,41,42⟩,⟨[2,24,25],3,33,34⟩] 15 [20,19,18,17,16,15,14,13,12,11,10,9,8,7,6,5,4,3,2,1,0] ⟨82,0,[sB 53 false,sI 49 v8.Id,sA 48 6 3 0,sR 42 2 2 0 1 false,sA 41 2 2 0,sI 34 v8.Id,sA 33 6 3 0,sA 6 6 3 0,sI 28 y2,sI 27 (x0.Rows.length : Int),sC 26 (cF 3 x0.Rows zC.row),sA 2 2 2 0,sI 1 x1],[(6,(zC.row v8)),(2,(CV.frzRow (zD.row x0)))]⟩ (fun s => s = ⟨82,0,[sB 68 true,sI 28 y2,sI 27 (x0.Rows.length : Int),sC 26 (cF 3 x0.Rows zC.row),sA 2 2 2 0,sI 1 x1],[(2,(CV.frzRow (zD.row x0)))]⟩) := by
 refine mA zn [(21,[]),(22,[25]),(23,[])] 12 [⟨[25],3,54,55⟩,⟨[24,25],3,48,49⟩,⟨[24,25],26,41,42⟩,⟨[2,24,25],3,33,34⟩] fun cx => ?_
 refine mC zn 24 ?_
 refine vA [.rd] (Qz n x1 r13 er13) ?_
 refine fA ?_
 refine mC zn 25 ?_
 refine vA [.rd,.rd,.rd] (qI n v8.Members 0 r13 r14 er14) ?_
 refine fA ?_
 refine mA zn [(26,[]),(27,[]),(28,[])] 7 [⟨[25],3,54,55⟩,⟨[24,25],3,48,49⟩,⟨[24,25],26,41,42⟩,⟨[2,24,25],3,33,34⟩] fun cx => ?_
 refine sA_ 0x20c306061c000046 68 ⟨82,0,[sB 61 (!r14),sI 55 v8.Members,sA 54 6 3 1,sI 49 v8.Id,sA 48 6 3 0,sR 42 2 2 0 1 false,sA 41 2 2 0,sI 34 v8.Id,sA 33 6 3 0,sA 6 6 3 0,sI 28 y2,sI 27 (x0.Rows.length : Int),sC 26 (cF 3 x0.Rows zC.row),sA 2 2 2 0,sI 1 x1],[(6,(zC.row v8)),(2,(CV.frzRow (zD.row x0)))]⟩ ?_
 rw [h12]
 refine mA zn [(29,[]),(30,[]),(31,[]),(32,[]),(33,[]),(34,[]),(35,[])] 0 [⟨[25],3,54,55⟩,⟨[24,25],3,48,49⟩,⟨[24,25],26,41,42⟩,⟨[2,24,25],3,33,34⟩] fun cx => ?_
 exact mE zn [68,28,27,26,2,1] [2]
theorem zFX (n : Nat) (v8 : zC) (y2 : Int) (x0 : zD) (x1 : Int) (cx : Cx) : AT Tryz.prog cx (rg Tryz.f99 6) [⟨[],3,48,49⟩,⟨[],26,41,42⟩,⟨[2],3,33,34⟩] 15 [20,19,18,17,16,15,14,13,12,11,10,9,8,7,6,5,4,3,2,1,0] ⟨82,0,[sB 53 true,sI 49 v8.Id,sA 48 6 3 0,sR 42 2 2 0 1 false,sA 41 2 2 0,sI 34 v8.Id,sA 33 6 3 0,sA 6 6 3 0,sI 28 y2,sI 27 (x0.Rows.length : Int),sC 26 (cF 3 x0.Rows zC.row),sA 2 2 2 0,sI 1 x1],[(6,(zC.row v8)),(2,(CV.frzRow (zD.row x0)))]⟩ (fun s => s = ⟨82,0,[sB 68 true,sI 28 y2,sI 27 (x0.Rows.length : Int),sC 26 (cF 3 x0.Rows zC.row),sA 2 2 2 0,sI 1 x1],[(2,(CV.frzRow (zD.row x0)))]⟩) := by
 refine mA zn [(21,[]),(22,[]),(23,[]),(24,[]),(25,[]),(26,[]),(27,[]),(28,[]),(29,[]),(30,[]),(31,[]),(32,[]),(33,[]),(34,[]),(35,[])] 0 [⟨[],3,48,49⟩,⟨[],26,41,42⟩,⟨[2],3,33,34⟩] fun cx => ?_
 exact mE zn [68,28,27,26,2,1] [2]
theorem zHA (n : Nat) (x0 : zD) (x1 : Int) (r : Bool) (H : Y9 n x0 x1 = some r) : zG Tryz.prog 99 [.val true (CV.frzRow (zD.row x0)),.val false [.lit (.int .i64 x1)]] [.val false [.lit (.bool r)]] [] := by
 refine cW Tryz.func99 (fun g d => sl [g 0,sl [g 1] (cn 24 (sl [g 2] .ret) .skip),sl [g 3] (.block 0 (.loop (sl [g 4,cn 29 .skip (.exit 0),.block 1 (sl [g 5,d 6] (cn 68 (sl [g 7] .ret) .skip))] (g 8)))),sl [g 9] (.block 2 (.loop (sl [g 10,cn 74 .skip (.exit 2),.block 3 (sl [g 11,g 12] (cn 80 (sl [g 13] .ret) .skip))] (g 14)))),g 15] .ret) [.tmp 4] fun cx => ?_
 unfold Y9 at H
 refine gA 2 6 4 ?_
 refine tS ?_
 refine rA 1 ?_
 obtain ⟨r1,er1,H⟩ := bs H
 refine vA [.rd,.rd,.rd] (qI n x1 1 6 r1 er1) ?_
 refine lA 2 ?_
 refine sL 4102 4 ⟨82,0,[sB 12 (!r1),sA 2 2 2 0,sI 1 x1],[(2,(CV.frzRow (zD.row x0)))]⟩ ?_
 cases h1 : (!r1)
 ·have H := zI h1 H
  refine lA 2 ?_
  refine kF x0.Pv intRow ?_
  refine lA 4 ?_
  refine sL 524294 4 ⟨82,0,[sB 19 ((x0.Pv.length : Int) != x1),sA 2 2 2 0,sI 1 x1],[(2,(CV.frzRow (zD.row x0)))]⟩ ?_
  cases h2 : ((x0.Pv.length : Int) != x1)
  ·have H := zI h2 H
   refine lA 2 ?_
   refine kF x0.Rows zC.row ?_
   refine uA 2 16777222 4 ?_
   obtain ⟨h3,H⟩ | ⟨h3,H⟩ := bC H
   ·refine nA h3 ?_
    refine tK ?_
    refine tS ?_
    refine rA 2 ?_
    refine kF x0.Rows zC.row ?_
    refine uA 1 469762054 4 ?_
    obtain ⟨o7,eo7,Ho7⟩ := bs H
    clear H
    refine Tr.mid (ι := Unit) (fun v => ⟨82,0,[sA 2 2 2 0],[(2,(CV.frzRow (zD.row x0)))]⟩) (fun v => YN n x0 = some r) ?_ ?_
    ·refine tB ?_
     refine Tr.loop (ι := Nat × (Int)) (fun v => ⟨82,0,[sI 28 v.2,sI 27 (x0.Rows.length : Int),sC 26 (cF 3 x0.Rows zC.row),sA 2 2 2 0,sI 1 x1],[(2,(CV.frzRow (zD.row x0)))]⟩) (fun v => ZG n v.1 x0 x1 v.2 = some o7) (fun v => v.1) (n,0) eo7 (St.sub_of [28,27,26,2,1] [2] kr) ?_
     rintro ⟨mo7,y2⟩ H
     have H : ZG n mo7 x0 x1 y2 = some o7 := H
     obtain _ | mo7 := mo7
     ·exact nN H
     rw [ZG] at H
     refine gA 1 1006632966 4 ?_
     refine tS ?_
     obtain ⟨h6,H⟩ | ⟨h6,H⟩ := bC H
     ·refine nA h6 ?_
      refine Tr.exit ?_
      refine aJ ?_
      obtain rfl := si H
      have H := Ho7
      dsimp only at H
      exact jA () H [2] [2]
     refine tA h6 ?_
     refine tK ?_
     refine tS ?_
     refine tB ?_
     refine rA 1 ?_
     obtain ⟨v8,ev8,H⟩ := bs H
     refine iA zC.row ev8 ?_
     refine uA 4 469762150 68 ?_
     obtain ⟨r9,er9,H⟩ := bs H
     refine sT ⟨82,0,[sI 5 y2,sA 6 6 3 0,sI 28 y2,sI 27 (x0.Rows.length : Int),sC 26 (cF 3 x0.Rows zC.row),sA 2 2 2 0,sI 1 x1],[(6,(zC.row v8)),(2,(CV.frzRow (zD.row x0)))]⟩ ?_
     cases h7 : (!r9)
     ·have H := zI h7 H
      refine sT ⟨82,0,[sI 5 y2,sA 6 6 3 0,sI 28 y2,sI 27 (x0.Rows.length : Int),sC 26 (cF 3 x0.Rows zC.row),sA 2 2 2 0,sI 1 x1],[(6,(zC.row v8)),(2,(CV.frzRow (zD.row x0)))]⟩ ?_
      cases h8 : (decide (y2 > 0))
      ·have H := zI h8 H
       obtain ⟨r10,er10,H⟩ := bs H
       obtain ⟨r11,er11,H⟩ := bs H
       refine sT ⟨82,0,[sI 5 y2,sA 6 6 3 0,sI 28 y2,sI 27 (x0.Rows.length : Int),sC 26 (cF 3 x0.Rows zC.row),sA 2 2 2 0,sI 1 x1],[(6,(zC.row v8)),(2,(CV.frzRow (zD.row x0)))]⟩ ?_
       cases h9 : (!r11)
       ·have H := zI h9 H
        refine Tr.draws mixed 36 kr ⟨82,0,[sB 68 ((IntKind.wrap .i64 (BitVec.ofInt (IntKind.bits .i64) v8.Bare &&& ~~~BitVec.ofInt (IntKind.bits .i64) v8.Members).toNat) != 0),sI 28 y2,sI 27 (x0.Rows.length : Int),sC 26 (cF 3 x0.Rows zC.row),sA 2 2 2 0,sI 1 x1],[(2,(CV.frzRow (zD.row x0)))]⟩ (fun cx => ?_) ?_
        ·refine mA zn [(0,[]),(1,[2,24,25])] 34 [⟨[2,24,25],3,33,34⟩] fun cx => ?_
         refine mC zn 2 ?_
         refine vA [.rd,.rd,.rd] (qI n v8.Id 1 99 r9 er9) ?_
         refine fA ?_
         refine mA zn [(3,[]),(4,[])] 31 [⟨[2,24,25],3,33,34⟩] fun cx => ?_
         refine sA_ 163678519398 68 ⟨82,0,[sB 37 (!r9),sI 34 v8.Id,sA 33 6 3 0,sI 5 y2,sA 6 6 3 0,sI 28 y2,sI 27 (x0.Rows.length : Int),sC 26 (cF 3 x0.Rows zC.row),sA 2 2 2 0,sI 1 x1],[(6,(zC.row v8)),(2,(CV.frzRow (zD.row x0)))]⟩ ?_
         rw [h7]
         refine mA zn [(5,[]),(6,[]),(7,[])] 28 [⟨[2,24,25],3,33,34⟩] fun cx => ?_
         refine sA_ 1263190147174 68 ⟨82,0,[sB 40 (decide (y2 > 0)),sB 37 false,sI 34 v8.Id,sA 33 6 3 0,sI 5 y2,sA 6 6 3 0,sI 28 y2,sI 27 (x0.Rows.length : Int),sC 26 (cF 3 x0.Rows zC.row),sA 2 2 2 0,sI 1 x1],[(6,(zC.row v8)),(2,(CV.frzRow (zD.row x0)))]⟩ ?_
         rw [h8]
         refine mA zn [(8,[]),(9,[]),(10,[]),(11,[]),(12,[]),(13,[]),(14,[]),(15,[]),(16,[]),(17,[]),(18,[]),(19,[]),(20,[]),(21,[]),(22,[25]),(23,[])] 12 [⟨[25],3,54,55⟩,⟨[2,24,25],3,33,34⟩] fun cx => ?_
         refine mC zn 24 ?_
         refine vA [.rd] (Qz n x1 r10 er10) ?_
         refine fA ?_
         refine mC zn 25 ?_
         refine vA [.rd,.rd,.rd] (qI n v8.Members 0 r10 r11 er11) ?_
         refine fA ?_
         refine mA zn [(26,[]),(27,[]),(28,[])] 7 [⟨[25],3,54,55⟩,⟨[2,24,25],3,33,34⟩] fun cx => ?_
         refine sA_ 0x20c000061c000046 68 ⟨82,0,[sB 61 (!r11),sI 55 v8.Members,sA 54 6 3 1,sI 34 v8.Id,sA 33 6 3 0,sA 6 6 3 0,sI 28 y2,sI 27 (x0.Rows.length : Int),sC 26 (cF 3 x0.Rows zC.row),sA 2 2 2 0,sI 1 x1],[(6,(zC.row v8)),(2,(CV.frzRow (zD.row x0)))]⟩ ?_
         rw [h9]
         refine mA zn [(29,[]),(30,[]),(31,[]),(32,[]),(33,[]),(34,[]),(35,[])] 0 [⟨[],3,64,65⟩,⟨[],3,62,63⟩,⟨[25],3,54,55⟩,⟨[2,24,25],3,33,34⟩] fun cx => ?_
         exact mE zn [68,28,27,26,2,1] [2]
        refine sT ⟨82,0,[sB 68 ((IntKind.wrap .i64 (BitVec.ofInt (IntKind.bits .i64) v8.Bare &&& ~~~BitVec.ofInt (IntKind.bits .i64) v8.Members).toNat) != 0),sI 28 y2,sI 27 (x0.Rows.length : Int),sC 26 (cF 3 x0.Rows zC.row),sA 2 2 2 0,sI 1 x1],[(2,(CV.frzRow (zD.row x0)))]⟩ ?_
        cases h10 : ((IntKind.wrap .i64 (BitVec.ofInt (IntKind.bits .i64) v8.Bare &&& ~~~BitVec.ofInt (IntKind.bits .i64) v8.Members).toNat) != 0)
        ·have H := zI h10 H
         refine nB_ ?_
         refine tK ?_
         refine eA 2 469762054 4 ?_
         exact jB mo7 (IntKind.wrap .i64 (y2 + 1)) H [28,27,26,2,1] [2]
        have H := zJ h10 H
        refine tB_ ?_
        refine gA 1 16 0 ?_
        refine te ?_
        obtain rfl := si H
        have H := Ho7
        dsimp only at H
        exact fF H
       have H := zJ h9 H
       refine Tr.draws mixed 36 kr ⟨82,0,[sB 68 true,sI 28 y2,sI 27 (x0.Rows.length : Int),sC 26 (cF 3 x0.Rows zC.row),sA 2 2 2 0,sI 1 x1],[(2,(CV.frzRow (zD.row x0)))]⟩ (fun cx => ?_) ?_
       ·refine mA zn [(0,[]),(1,[2,24,25])] 34 [⟨[2,24,25],3,33,34⟩] fun cx => ?_
        refine mC zn 2 ?_
        refine vA [.rd,.rd,.rd] (qI n v8.Id 1 99 r9 er9) ?_
        refine fA ?_
        refine mA zn [(3,[]),(4,[])] 31 [⟨[2,24,25],3,33,34⟩] fun cx => ?_
        refine sA_ 163678519398 68 ⟨82,0,[sB 37 (!r9),sI 34 v8.Id,sA 33 6 3 0,sI 5 y2,sA 6 6 3 0,sI 28 y2,sI 27 (x0.Rows.length : Int),sC 26 (cF 3 x0.Rows zC.row),sA 2 2 2 0,sI 1 x1],[(6,(zC.row v8)),(2,(CV.frzRow (zD.row x0)))]⟩ ?_
        rw [h7]
        refine mA zn [(5,[]),(6,[]),(7,[])] 28 [⟨[2,24,25],3,33,34⟩] fun cx => ?_
        refine sA_ 1263190147174 68 ⟨82,0,[sB 40 (decide (y2 > 0)),sB 37 false,sI 34 v8.Id,sA 33 6 3 0,sI 5 y2,sA 6 6 3 0,sI 28 y2,sI 27 (x0.Rows.length : Int),sC 26 (cF 3 x0.Rows zC.row),sA 2 2 2 0,sI 1 x1],[(6,(zC.row v8)),(2,(CV.frzRow (zD.row x0)))]⟩ ?_
        rw [h8]
        refine mA zn [(8,[]),(9,[]),(10,[]),(11,[]),(12,[]),(13,[]),(14,[]),(15,[]),(16,[]),(17,[]),(18,[]),(19,[]),(20,[]),(21,[]),(22,[25]),(23,[])] 12 [⟨[25],3,54,55⟩,⟨[2,24,25],3,33,34⟩] fun cx => ?_
        refine mC zn 24 ?_
        refine vA [.rd] (Qz n x1 r10 er10) ?_
        refine fA ?_
        refine mC zn 25 ?_
        refine vA [.rd,.rd,.rd] (qI n v8.Members 0 r10 r11 er11) ?_
        refine fA ?_
        refine mA zn [(26,[]),(27,[]),(28,[])] 7 [⟨[25],3,54,55⟩,⟨[2,24,25],3,33,34⟩] fun cx => ?_
        refine sA_ 0x20c000061c000046 68 ⟨82,0,[sB 61 (!r11),sI 55 v8.Members,sA 54 6 3 1,sI 34 v8.Id,sA 33 6 3 0,sA 6 6 3 0,sI 28 y2,sI 27 (x0.Rows.length : Int),sC 26 (cF 3 x0.Rows zC.row),sA 2 2 2 0,sI 1 x1],[(6,(zC.row v8)),(2,(CV.frzRow (zD.row x0)))]⟩ ?_
        rw [h9]
        refine mA zn [(29,[]),(30,[]),(31,[]),(32,[]),(33,[]),(34,[]),(35,[])] 0 [⟨[25],3,54,55⟩,⟨[2,24,25],3,33,34⟩] fun cx => ?_
        exact mE zn [68,28,27,26,2,1] [2]
       refine tB_ ?_
       refine gA 1 16 0 ?_
       refine te ?_
       obtain rfl := si H
       have H := Ho7
       dsimp only at H
       exact fF H
      have H := zJ h8 H
      obtain ⟨v12,ev12,H⟩ := bs H
      refine sT ⟨82,0,[sI 5 y2,sA 6 6 3 0,sI 28 y2,sI 27 (x0.Rows.length : Int),sC 26 (cF 3 x0.Rows zC.row),sA 2 2 2 0,sI 1 x1],[(6,(zC.row v8)),(2,(CV.frzRow (zD.row x0)))]⟩ ?_
      cases h11 : (decide (v12.Id ≥ v8.Id))
      ·have H := zI h11 H
       obtain ⟨r13,er13,H⟩ := bs H
       obtain ⟨r14,er14,H⟩ := bs H
       refine sT ⟨82,0,[sI 5 y2,sA 6 6 3 0,sI 28 y2,sI 27 (x0.Rows.length : Int),sC 26 (cF 3 x0.Rows zC.row),sA 2 2 2 0,sI 1 x1],[(6,(zC.row v8)),(2,(CV.frzRow (zD.row x0)))]⟩ ?_
       cases h12 : (!r14)
       ·have H := zI h12 H
        refine Tr.draws mixed 36 kr ⟨82,0,[sB 68 ((IntKind.wrap .i64 (BitVec.ofInt (IntKind.bits .i64) v8.Bare &&& ~~~BitVec.ofInt (IntKind.bits .i64) v8.Members).toNat) != 0),sI 28 y2,sI 27 (x0.Rows.length : Int),sC 26 (cF 3 x0.Rows zC.row),sA 2 2 2 0,sI 1 x1],[(2,(CV.frzRow (zD.row x0)))]⟩ (fun cx => ?_) ?_
        ·refine mA zn [(0,[]),(1,[2,24,25])] 34 [⟨[2,24,25],3,33,34⟩] fun cx => ?_
         refine mC zn 2 ?_
         refine vA [.rd,.rd,.rd] (qI n v8.Id 1 99 r9 er9) ?_
         refine fA ?_
         refine mA zn [(3,[]),(4,[])] 31 [⟨[2,24,25],3,33,34⟩] fun cx => ?_
         refine sA_ 163678519398 68 ⟨82,0,[sB 37 (!r9),sI 34 v8.Id,sA 33 6 3 0,sI 5 y2,sA 6 6 3 0,sI 28 y2,sI 27 (x0.Rows.length : Int),sC 26 (cF 3 x0.Rows zC.row),sA 2 2 2 0,sI 1 x1],[(6,(zC.row v8)),(2,(CV.frzRow (zD.row x0)))]⟩ ?_
         rw [h7]
         refine mA zn [(5,[]),(6,[]),(7,[])] 28 [⟨[2,24,25],3,33,34⟩] fun cx => ?_
         refine sA_ 1263190147174 68 ⟨82,0,[sB 40 (decide (y2 > 0)),sB 37 false,sI 34 v8.Id,sA 33 6 3 0,sI 5 y2,sA 6 6 3 0,sI 28 y2,sI 27 (x0.Rows.length : Int),sC 26 (cF 3 x0.Rows zC.row),sA 2 2 2 0,sI 1 x1],[(6,(zC.row v8)),(2,(CV.frzRow (zD.row x0)))]⟩ ?_
         rw [h8]
         refine mA zn [(8,[]),(9,[24,25]),(10,[]),(11,[])] 24 [⟨[24,25],26,41,42⟩,⟨[2,24,25],3,33,34⟩] fun cx => ?_
         refine iN zn 12 zC.row ev12 fun cx => ?_
         refine mA zn [(13,[]),(14,[]),(15,[]),(16,[24,25]),(17,[]),(18,[]),(19,[]),(20,[])] 15 [⟨[24,25],3,48,49⟩,⟨[24,25],26,41,42⟩,⟨[2,24,25],3,33,34⟩] fun cx => ?_
         refine sA_ 9858247494205510 68 ⟨82,0,[sB 53 (decide (v12.Id ≥ v8.Id)),sI 49 v8.Id,sA 48 6 3 0,sR 42 2 2 0 1 false,sA 41 2 2 0,sI 34 v8.Id,sA 33 6 3 0,sA 6 6 3 0,sI 28 y2,sI 27 (x0.Rows.length : Int),sC 26 (cF 3 x0.Rows zC.row),sA 2 2 2 0,sI 1 x1],[(6,(zC.row v8)),(2,(CV.frzRow (zD.row x0)))]⟩ ?_
         rw [h11]
         exact zFV n x1 r13 v8 r14 y2 x0 er13 er14 h12 cx
        refine sT ⟨82,0,[sB 68 ((IntKind.wrap .i64 (BitVec.ofInt (IntKind.bits .i64) v8.Bare &&& ~~~BitVec.ofInt (IntKind.bits .i64) v8.Members).toNat) != 0),sI 28 y2,sI 27 (x0.Rows.length : Int),sC 26 (cF 3 x0.Rows zC.row),sA 2 2 2 0,sI 1 x1],[(2,(CV.frzRow (zD.row x0)))]⟩ ?_
        cases h13 : ((IntKind.wrap .i64 (BitVec.ofInt (IntKind.bits .i64) v8.Bare &&& ~~~BitVec.ofInt (IntKind.bits .i64) v8.Members).toNat) != 0)
        ·have H := zI h13 H
         refine nB_ ?_
         refine tK ?_
         refine eA 2 469762054 4 ?_
         exact jB mo7 (IntKind.wrap .i64 (y2 + 1)) H [28,27,26,2,1] [2]
        have H := zJ h13 H
        refine tB_ ?_
        refine gA 1 16 0 ?_
        refine te ?_
        obtain rfl := si H
        have H := Ho7
        dsimp only at H
        exact fF H
       have H := zJ h12 H
       refine Tr.draws mixed 36 kr ⟨82,0,[sB 68 true,sI 28 y2,sI 27 (x0.Rows.length : Int),sC 26 (cF 3 x0.Rows zC.row),sA 2 2 2 0,sI 1 x1],[(2,(CV.frzRow (zD.row x0)))]⟩ (fun cx => ?_) ?_
       ·refine mA zn [(0,[]),(1,[2,24,25])] 34 [⟨[2,24,25],3,33,34⟩] fun cx => ?_
        refine mC zn 2 ?_
        refine vA [.rd,.rd,.rd] (qI n v8.Id 1 99 r9 er9) ?_
        refine fA ?_
        refine mA zn [(3,[]),(4,[])] 31 [⟨[2,24,25],3,33,34⟩] fun cx => ?_
        refine sA_ 163678519398 68 ⟨82,0,[sB 37 (!r9),sI 34 v8.Id,sA 33 6 3 0,sI 5 y2,sA 6 6 3 0,sI 28 y2,sI 27 (x0.Rows.length : Int),sC 26 (cF 3 x0.Rows zC.row),sA 2 2 2 0,sI 1 x1],[(6,(zC.row v8)),(2,(CV.frzRow (zD.row x0)))]⟩ ?_
        rw [h7]
        refine mA zn [(5,[]),(6,[]),(7,[])] 28 [⟨[2,24,25],3,33,34⟩] fun cx => ?_
        refine sA_ 1263190147174 68 ⟨82,0,[sB 40 (decide (y2 > 0)),sB 37 false,sI 34 v8.Id,sA 33 6 3 0,sI 5 y2,sA 6 6 3 0,sI 28 y2,sI 27 (x0.Rows.length : Int),sC 26 (cF 3 x0.Rows zC.row),sA 2 2 2 0,sI 1 x1],[(6,(zC.row v8)),(2,(CV.frzRow (zD.row x0)))]⟩ ?_
        rw [h8]
        refine mA zn [(8,[]),(9,[24,25]),(10,[]),(11,[])] 24 [⟨[24,25],26,41,42⟩,⟨[2,24,25],3,33,34⟩] fun cx => ?_
        refine iN zn 12 zC.row ev12 fun cx => ?_
        refine mA zn [(13,[]),(14,[]),(15,[]),(16,[24,25]),(17,[]),(18,[]),(19,[]),(20,[])] 15 [⟨[24,25],3,48,49⟩,⟨[24,25],26,41,42⟩,⟨[2,24,25],3,33,34⟩] fun cx => ?_
        refine sA_ 9858247494205510 68 ⟨82,0,[sB 53 (decide (v12.Id ≥ v8.Id)),sI 49 v8.Id,sA 48 6 3 0,sR 42 2 2 0 1 false,sA 41 2 2 0,sI 34 v8.Id,sA 33 6 3 0,sA 6 6 3 0,sI 28 y2,sI 27 (x0.Rows.length : Int),sC 26 (cF 3 x0.Rows zC.row),sA 2 2 2 0,sI 1 x1],[(6,(zC.row v8)),(2,(CV.frzRow (zD.row x0)))]⟩ ?_
        rw [h11]
        exact zFW n x1 r13 v8 r14 y2 x0 er13 er14 h12 cx
       refine tB_ ?_
       refine gA 1 16 0 ?_
       refine te ?_
       obtain rfl := si H
       have H := Ho7
       dsimp only at H
       exact fF H
      have H := zJ h11 H
      refine Tr.draws mixed 36 kr ⟨82,0,[sB 68 true,sI 28 y2,sI 27 (x0.Rows.length : Int),sC 26 (cF 3 x0.Rows zC.row),sA 2 2 2 0,sI 1 x1],[(2,(CV.frzRow (zD.row x0)))]⟩ (fun cx => ?_) ?_
      ·refine mA zn [(0,[]),(1,[2])] 34 [⟨[2],3,33,34⟩] fun cx => ?_
       refine mC zn 2 ?_
       refine vA [.rd,.rd,.rd] (qI n v8.Id 1 99 r9 er9) ?_
       refine fA ?_
       refine mA zn [(3,[]),(4,[])] 31 [⟨[2],3,33,34⟩] fun cx => ?_
       refine sA_ 163678519398 68 ⟨82,0,[sB 37 (!r9),sI 34 v8.Id,sA 33 6 3 0,sI 5 y2,sA 6 6 3 0,sI 28 y2,sI 27 (x0.Rows.length : Int),sC 26 (cF 3 x0.Rows zC.row),sA 2 2 2 0,sI 1 x1],[(6,(zC.row v8)),(2,(CV.frzRow (zD.row x0)))]⟩ ?_
       rw [h7]
       refine mA zn [(5,[]),(6,[]),(7,[])] 28 [⟨[2],3,33,34⟩] fun cx => ?_
       refine sA_ 1263190147174 68 ⟨82,0,[sB 40 (decide (y2 > 0)),sB 37 false,sI 34 v8.Id,sA 33 6 3 0,sI 5 y2,sA 6 6 3 0,sI 28 y2,sI 27 (x0.Rows.length : Int),sC 26 (cF 3 x0.Rows zC.row),sA 2 2 2 0,sI 1 x1],[(6,(zC.row v8)),(2,(CV.frzRow (zD.row x0)))]⟩ ?_
       rw [h8]
       refine mA zn [(8,[]),(9,[]),(10,[]),(11,[])] 24 [⟨[],26,41,42⟩,⟨[2],3,33,34⟩] fun cx => ?_
       refine iN zn 12 zC.row ev12 fun cx => ?_
       refine mA zn [(13,[]),(14,[]),(15,[]),(16,[]),(17,[]),(18,[]),(19,[]),(20,[])] 15 [⟨[],3,48,49⟩,⟨[],26,41,42⟩,⟨[2],3,33,34⟩] fun cx => ?_
       refine sA_ 9858247494205510 68 ⟨82,0,[sB 53 (decide (v12.Id ≥ v8.Id)),sI 49 v8.Id,sA 48 6 3 0,sR 42 2 2 0 1 false,sA 41 2 2 0,sI 34 v8.Id,sA 33 6 3 0,sA 6 6 3 0,sI 28 y2,sI 27 (x0.Rows.length : Int),sC 26 (cF 3 x0.Rows zC.row),sA 2 2 2 0,sI 1 x1],[(6,(zC.row v8)),(2,(CV.frzRow (zD.row x0)))]⟩ ?_
       rw [h11]
       exact zFX n v8 y2 x0 x1 cx
      refine tB_ ?_
      refine gA 1 16 0 ?_
      refine te ?_
      obtain rfl := si H
      have H := Ho7
      dsimp only at H
      exact fF H
     have H := zJ h7 H
     refine Tr.draws mixed 36 kr ⟨82,0,[sB 68 true,sI 28 y2,sI 27 (x0.Rows.length : Int),sC 26 (cF 3 x0.Rows zC.row),sA 2 2 2 0,sI 1 x1],[(2,(CV.frzRow (zD.row x0)))]⟩ (fun cx => ?_) ?_
     ·refine mA zn [(0,[]),(1,[2])] 34 [⟨[2],3,33,34⟩] fun cx => ?_
      refine mC zn 2 ?_
      refine vA [.rd,.rd,.rd] (qI n v8.Id 1 99 r9 er9) ?_
      refine fA ?_
      refine mA zn [(3,[]),(4,[])] 31 [⟨[2],3,33,34⟩] fun cx => ?_
      refine sA_ 163678519398 68 ⟨82,0,[sB 37 (!r9),sI 34 v8.Id,sA 33 6 3 0,sI 5 y2,sA 6 6 3 0,sI 28 y2,sI 27 (x0.Rows.length : Int),sC 26 (cF 3 x0.Rows zC.row),sA 2 2 2 0,sI 1 x1],[(6,(zC.row v8)),(2,(CV.frzRow (zD.row x0)))]⟩ ?_
      rw [h7]
      refine mA zn [(5,[]),(6,[]),(7,[]),(8,[]),(9,[]),(10,[]),(11,[]),(12,[]),(13,[]),(14,[]),(15,[]),(16,[]),(17,[]),(18,[]),(19,[]),(20,[]),(21,[]),(22,[]),(23,[]),(24,[]),(25,[]),(26,[]),(27,[]),(28,[]),(29,[]),(30,[]),(31,[]),(32,[]),(33,[]),(34,[]),(35,[])] 0 [⟨[2],3,33,34⟩] fun cx => ?_
      exact mE zn [68,28,27,26,2,1] [2]
     refine tB_ ?_
     refine gA 1 16 0 ?_
     refine te ?_
     obtain rfl := si H
     have H := Ho7
     dsimp only at H
     exact fF H
    rintro _ H
    have H : (YN n x0) = some r := H
    unfold YN at H
    refine tS ?_
    refine rA 2 ?_
    refine kF x0.Pv intRow ?_
    refine uA 1 0x3800000000000000004 4 ?_
    obtain ⟨o4,eo4,Ho4⟩ := bs H
    clear H
    refine Tr.mid (ι := Unit) (fun v => ⟨82,0,[],[]⟩) (fun v => JO n = some r) ?_ ?_
    ·refine tB ?_
     refine Tr.loop (ι := Nat × (Int)) (fun v => ⟨82,0,[sI 73 v.2,sI 72 (x0.Pv.length : Int),sC 71 (cF 1 x0.Pv intRow),sA 2 2 2 0],[(2,(CV.frzRow (zD.row x0)))]⟩) (fun v => Zd n v.1 x0 v.2 = some o4) (fun v => v.1) (n,0) eo4 (St.sub_of [73,72,71,2] [2] kr) ?_
     rintro ⟨mo4,y3⟩ H
     have H : Zd n mo4 x0 y3 = some o4 := H
     obtain _ | mo4 := mo4
     ·exact nN H
     rw [Zd] at H
     refine gA 1 0x7800000000000000004 4 ?_
     refine tS ?_
     obtain ⟨h4,H⟩ | ⟨h4,H⟩ := bC H
     ·refine nA h4 ?_
      refine Tr.exit ?_
      refine aJ ?_
      obtain rfl := si H
      have H := Ho4
      dsimp only at H
      exact jA () H [] []
     refine tA h4 ?_
     refine tK ?_
     refine tS ?_
     refine tB ?_
     refine tR ?_
     obtain ⟨v5,ev5,H⟩ := bs H
     refine iA intRow ev5 ?_
     refine uA 2 0x3800000000000000104 4 ?_
     refine rA 2 ?_
     obtain ⟨r6,er6,H⟩ := bs H
     refine vA [.rd,.rd] (zHt n x0 v5 r6 er6) ?_
     refine uA 1 0x103800000000000000004 4 ?_
     obtain ⟨h5,H⟩ | ⟨h5,H⟩ := bC H
     ·refine nA h5 ?_
      refine tK ?_
      refine eA 2 0x3800000000000000004 4 ?_
      exact jB mo4 (IntKind.wrap .i64 (y3 + 1)) H [73,72,71,2] [2]
     refine tA h5 ?_
     refine gA 1 16 0 ?_
     refine te ?_
     obtain rfl := si H
     have H := Ho4
     dsimp only at H
     exact fF H
    rintro _ H
    have H : (JO n) = some r := H
    unfold JO at H
    refine gA 1 16 0 ?_
    exact te (fT H)
   refine tA h3 ?_
   refine gA 1 16 0 ?_
   exact te (fF H)
  have H := zJ h2 H
  refine uA 5 16777222 4 ?_
  refine tB_ ?_
  refine gA 1 16 0 ?_
  exact te (fF H)
 have H := zJ h1 H
 refine uA 12 16777222 4 ?_
 refine tB_ ?_
 refine gA 1 16 0 ?_
 exact te (fF H)
def Zu (n : Nat) (x0 : Int) : Option (Bool) :=
  ((qB n x0 0 1000000).bind fun r1 => (some r1))
theorem JB (n : Nat) (x0 : Int) (r : Bool) (H : Zu n x0 = some r) : zG Tryz.prog 100 [.val false [.lit (.int .i64 x0)]] [.val false [.lit (.bool r)]] [] := by
 refine cW Tryz.func100 (fun g d => sl [g 0,g 1] .ret) [.tmp 2] fun cx => ?_
 unfold Zu at H
 refine gA 1 1 0 ?_
 refine rA 1 ?_
 obtain ⟨r1,er1,H⟩ := bs H
 refine vA [.rd,.rd,.rd] (qI n x0 0 1000000 r1 er1) ?_
 refine uA 1 4 0 ?_
 exact te (fJ [(false,[cB r1])] H)
def Qm (n : Nat) (x0 : zA) : Option (Bool) :=
  ((qB n x0.Id 1 99).bind fun r2 => (bif (!r2) then (some false) else (bif (decide ((x0.Name.size : Int) > 10)) then (some false) else ((qB n (x0.Ps.length : Int) 1 6).bind fun r3 => (bif (!r3) then (some false) else ((Jd n x0.F).bind fun r4 => (bif (!r4) then (some false) else ((Y9 n x0.V (x0.Ps.length : Int)).bind fun r5 => (bif (!r5) then (some false) else ((Zu n x0.Tk).bind fun r6 => (bif r6 then ((Zu n x0.Pa).bind fun r7 => (bif r7 then ((Zu n x0.Wo).bind fun r8 => (bif r8 then ((Zu n x0.Dr).bind fun r9 => (bif r9 then ((Zu n x0.Ve).bind fun r10 => (some r10)) else (some false))) else (some false))) else (some false))) else (some false))))))))))))
def ZU (n : Nat) : Nat → zA → Int → Option ((Unit) ⊕ (Bool))
  | 0,_,_ => none
  | mo11 + 1,x0,y1 => (bif (decide (y1 < (x0.Ps.length : Int))) then ((idx x0.Ps y1).bind fun v12 => ((zAD n v12).bind fun r13 => (bif (!r13) then (some (Sum.inr false)) else (ZU n mo11 x0 (IntKind.wrap .i64 (y1 + 1)))))) else (some (Sum.inl ())))
def z8 (n : Nat) (x0 : zA) : Option (Bool) :=
  ((ZU n n x0 0).bind fun o => match o with | .inl _ => (Qm n x0) | .inr r => some r)
theorem Zt (n : Nat) (x0 : zA) (r : Bool) (H : z8 n x0 = some r) : zG Tryz.prog 23 [.val true (CV.frzRow (zA.row x0))] [.val false [.lit (.bool r)]] [] := by
 refine cW Tryz.func23 (fun g d => sl [g 0,sl [g 1] (.block 0 (.loop (sl [g 2,cn 9 .skip (.exit 0),.block 1 (sl [g 3,g 4] (cn 14 (sl [g 5] .ret) .skip))] (g 6)))),sl [g 7] (cn 47 (sl [g 8] .ret) .skip),g 9] .ret) [.tmp 2] fun cx => ?_
 unfold z8 at H
 refine gA 2 2 2 ?_
 refine tS ?_
 refine rA 2 ?_
 refine kF x0.Ps Pt.row ?_
 refine uA 1 450 2 ?_
 obtain ⟨o11,eo11,Ho11⟩ := bs H
 clear H
 refine Tr.mid (ι := Unit) (fun v => ⟨71,0,[sA 1 1 11 0],[(1,(CV.frzRow (zA.row x0)))]⟩) (fun v => Qm n x0 = some r) ?_ ?_
 ·refine tB ?_
  refine Tr.loop (ι := Nat × (Int)) (fun v => ⟨71,0,[sI 8 v.2,sI 7 (x0.Ps.length : Int),sC 6 (cF 8 x0.Ps Pt.row),sA 1 1 11 0],[(1,(CV.frzRow (zA.row x0)))]⟩) (fun v => ZU n v.1 x0 v.2 = some o11) (fun v => v.1) (n,0) eo11 (St.sub_of [8,7,6,1] [1] kr) ?_
  rintro ⟨mo11,y1⟩ H
  have H : ZU n mo11 x0 y1 = some o11 := H
  obtain _ | mo11 := mo11
  ·exact nN H
  rw [ZU] at H
  refine gA 1 962 2 ?_
  refine tS ?_
  obtain ⟨h10,H⟩ | ⟨h10,H⟩ := bC H
  ·refine nA h10 ?_
   refine Tr.exit ?_
   refine aJ ?_
   obtain rfl := si H
   have H := Ho11
   dsimp only at H
   exact jA () H [1] [1]
  refine tA h10 ?_
  refine tK ?_
  refine tS ?_
  refine tB ?_
  refine tR ?_
  obtain ⟨v12,ev12,H⟩ := bs H
  refine iA Pt.row ev12 ?_
  refine uA 3 466 18 ?_
  refine rA 1 ?_
  obtain ⟨r13,er13,H⟩ := bs H
  refine vA [.rd] (zIP n v12 r13 er13) ?_
  refine uA 1 16834 2 ?_
  obtain ⟨h11,H⟩ | ⟨h11,H⟩ := bC H
  ·refine nA h11 ?_
   refine tK ?_
   refine eA 2 450 2 ?_
   exact jB mo11 (IntKind.wrap .i64 (y1 + 1)) H [8,7,6,1] [1]
  refine tA h11 ?_
  refine gA 1 4 0 ?_
  refine te ?_
  obtain rfl := si H
  have H := Ho11
  dsimp only at H
  exact fF H
 rintro _ H
 have H : (Qm n x0) = some r := H
 unfold Qm at H
 refine tS ?_
 refine rA 2 ?_
 obtain ⟨r2,er2,H⟩ := bs H
 refine vA [.rd,.rd,.rd] (qI n x0.Id 1 99 r2 er2) ?_
 refine lA 2 ?_
 refine sL 1048578 2 ⟨71,0,[sB 20 (!r2),sA 1 1 11 0],[(1,(CV.frzRow (zA.row x0)))]⟩ ?_
 cases h1 : (!r2)
 ·have H := zI h1 H
  refine lA 6 ?_
  refine sL 67108866 2 ⟨71,0,[sB 26 (decide ((x0.Name.size : Int) > 10)),sA 1 1 11 0],[(1,(CV.frzRow (zA.row x0)))]⟩ ?_
  cases h2 : (decide ((x0.Name.size : Int) > 10))
  ·have H := zI h2 H
   refine lA 2 ?_
   refine kF x0.Ps Pt.row ?_
   obtain ⟨r3,er3,H⟩ := bs H
   refine vA [.rd,.rd,.rd] (qI n (x0.Ps.length : Int) 1 6 r3 er3) ?_
   refine lA 3 ?_
   refine sL 8589934594 2 ⟨71,0,[sB 33 (!r3),sA 1 1 11 0],[(1,(CV.frzRow (zA.row x0)))]⟩ ?_
   cases h3 : (!r3)
   ·have H := zI h3 H
    refine lA 2 ?_
    obtain ⟨r4,er4,H⟩ := bs H
    refine vA [.rd] (zHs n x0.F r4 er4) ?_
    refine lA 3 ?_
    refine sL 549755813890 2 ⟨71,0,[sB 39 (!r4),sA 1 1 11 0],[(1,(CV.frzRow (zA.row x0)))]⟩ ?_
    cases h4 : (!r4)
    ·have H := zI h4 H
     refine lA 4 ?_
     refine kF x0.Ps Pt.row ?_
     obtain ⟨r5,er5,H⟩ := bs H
     refine vA [.rd,.rd] (zHA n x0.V (x0.Ps.length : Int) r5 er5) ?_
     refine uA 2 0x800000000002 2 ?_
     obtain ⟨h5,H⟩ | ⟨h5,H⟩ := bC H
     ·refine nA h5 ?_
      refine tK ?_
      refine rA 2 ?_
      obtain ⟨r6,er6,H⟩ := bs H
      refine vA [.rd] (JB n x0.Tk r6 er6) ?_
      refine lA 1 ?_
      refine sL 0x8000000000002 2 ⟨71,0,[sB 51 r6,sA 1 1 11 0],[(1,(CV.frzRow (zA.row x0)))]⟩ ?_
      cases h6 : r6
      ·have H := zI h6 H
       refine uA 20 4 0 ?_
       exact te (fF H)
      have H := zJ h6 H
      refine lA 2 ?_
      obtain ⟨r7,er7,H⟩ := bs H
      refine vA [.rd] (JB n x0.Pa r7 er7) ?_
      refine lA 2 ?_
      refine sL 72057594037927938 2 ⟨71,0,[sB 56 r7,sA 1 1 11 0],[(1,(CV.frzRow (zA.row x0)))]⟩ ?_
      cases h7 : r7
      ·have H := zI h7 H
       refine uA 15 4 0 ?_
       exact te (fF H)
      have H := zJ h7 H
      refine lA 2 ?_
      obtain ⟨r8,er8,H⟩ := bs H
      refine vA [.rd] (JB n x0.Wo r8 er8) ?_
      refine lA 2 ?_
      refine sL 0x2000000000000002 2 ⟨71,0,[sB 61 r8,sA 1 1 11 0],[(1,(CV.frzRow (zA.row x0)))]⟩ ?_
      cases h8 : r8
      ·have H := zI h8 H
       refine uA 10 4 0 ?_
       exact te (fF H)
      have H := zJ h8 H
      refine lA 2 ?_
      obtain ⟨r9,er9,H⟩ := bs H
      refine vA [.rd] (JB n x0.Dr r9 er9) ?_
      refine lA 2 ?_
      refine sL 0x40000000000000002 2 ⟨71,0,[sB 66 r9,sA 1 1 11 0],[(1,(CV.frzRow (zA.row x0)))]⟩ ?_
      cases h9 : r9
      ·have H := zI h9 H
       refine uA 5 4 0 ?_
       exact te (fF H)
      have H := zJ h9 H
      refine lA 2 ?_
      obtain ⟨r10,er10,H⟩ := bs H
      refine vA [.rd] (JB n x0.Ve r10 er10) ?_
      refine uA 2 4 0 ?_
      exact te (fJ [(false,[cB r10])] H)
     refine tA h5 ?_
     refine gA 1 4 0 ?_
     exact te (fF H)
    have H := zJ h4 H
    refine uA 8 0x800000000002 2 ?_
    refine tB_ ?_
    refine gA 1 4 0 ?_
    exact te (fF H)
   have H := zJ h3 H
   refine uA 14 0x800000000002 2 ?_
   refine tB_ ?_
   refine gA 1 4 0 ?_
   exact te (fF H)
  have H := zJ h2 H
  refine uA 21 0x800000000002 2 ?_
  refine tB_ ?_
  refine gA 1 4 0 ?_
  exact te (fF H)
 have H := zJ h1 H
 refine uA 27 0x800000000002 2 ?_
 refine tB_ ?_
 refine gA 1 4 0 ?_
 exact te (fF H)
def YP (n : Nat) (x0 : zA) (x1 : Int) : Option (Bool) :=
  ((z8 n x0).bind fun r1 => (bif r1 then ((qB n x1 0 (IntKind.wrap .i64 ((x0.Ps.length : Int) - 1))).bind fun r2 => (some r2)) else (some false)))
theorem zD6 (n : Nat) (x0 : zA) (x1 : Int) (r : Bool) (H : YP n x0 x1 = some r) : zG Tryz.prog 87 [.val true (CV.frzRow (zA.row x0)),.val false [.lit (.int .i64 x1)]] [.val false [.lit (.bool r)]] [] := by
 refine cW Tryz.func87 (fun g d => sl [g 0,g 1] .ret) [.tmp 4] fun cx => ?_
 unfold YP at H
 refine gA 2 6 4 ?_
 refine rA 1 ?_
 obtain ⟨r1,er1,H⟩ := bs H
 refine vA [.rd] (Zt n x0 r1 er1) ?_
 refine lA 1 ?_
 refine sL 134 4 ⟨15,0,[sB 7 r1,sA 2 2 11 0,sI 1 x1],[(2,(CV.frzRow (zA.row x0)))]⟩ ?_
 cases h1 : r1
 ·have H := zI h1 H
  refine uA 8 16 0 ?_
  exact te (fF H)
 have H := zJ h1 H
 refine lA 3 ?_
 refine kF x0.Ps Pt.row ?_
 refine lA 1 ?_
 obtain ⟨r2,er2,H⟩ := bs H
 refine vA [.rd,.rd,.rd] (qI n x1 0 (IntKind.wrap .i64 ((x0.Ps.length : Int) - 1)) r2 er2) ?_
 refine uA 2 16 0 ?_
 exact te (fJ [(false,[cB r2])] H)
def JQ (n : Nat) (x0 : Int) : Option (Int) :=
  (some (if 1000000 < (IntKind.wrap .i64 (x0 + 1)) then 1000000 else (IntKind.wrap .i64 (x0 + 1))))
theorem zF2 (n : Nat) (x0 : Int) (r : Int) (H : JQ n x0 = some r) : zG Tryz.prog 93 [.val false [.lit (.int .i64 x0)]] [.val false [.lit (.int .i64 r)]] [] := by
 refine cW Tryz.func93 (fun g d => sl [g 0,g 1] .ret) [.tmp 2] fun cx => ?_
 unfold JQ at H
 refine gA 1 1 0 ?_
 refine gA 4 4 0 ?_
 exact te (fJ [(false,[cI (if 1000000 < (IntKind.wrap .i64 (x0 + 1)) then 1000000 else (IntKind.wrap .i64 (x0 + 1)))])] H)
def Jt (n : Nat) (x0 : Vec) (x1 : Int) : Option (Vec × Bool) :=
  ((YF n x0).bind fun r1 => (bif (!r1) then (some (x0,false)) else ((qB n x1 1 1000).bind fun r2 => (bif (!r2) then (some (x0,false)) else ((YF n (⟨x0.Root,(IntKind.wrap .i64 (x0.Co + x1)),(IntKind.wrap .i64 (x0.Hops + 1)),x0.Bridge,x0.Port⟩ : Vec)).bind fun r3 => (bif (!r3) then (some (x0,false)) else (some ((⟨x0.Root,(IntKind.wrap .i64 (x0.Co + x1)),(IntKind.wrap .i64 (x0.Hops + 1)),x0.Bridge,x0.Port⟩ : Vec),true))))))))
theorem zGe (n : Nat) (x0 : Vec) (x1 : Int) (r : Vec × Bool) (H : Jt n x0 x1 = some r) : zG Tryz.prog 176 [.val true (CV.frzRow (Vec.row x0)),.val false [.lit (.int .i64 x1)]] [.val true (Vec.row r.1),.val false [.lit (.bool r.2)]] [] := by
 refine cW Tryz.func176 (fun g d => sl [g 0,sl [g 1] (cn 14 (sl [g 2] .ret) .skip),g 3,g 4,g 5,sl [g 6] (cn 28 (sl [g 7] .ret) .skip),g 8] .ret) [.cell 4 33,.tmp 5] fun cx => ?_
 unfold Jt at H
 refine gA 3 22 20 ?_
 refine tS ?_
 refine rA 1 ?_
 obtain ⟨r1,er1,H⟩ := bs H
 refine vA [.rd] (zBL n x0 r1 er1) ?_
 refine lA 2 ?_
 refine sL 1046 20 ⟨31,0,[sB 10 (!r1),sA 4 4 5 0,sA 2 2 5 0,sI 1 x1],[(4,[cI 0,cI 0,cI 0,cI 0,cI 0]),(2,(Vec.row x0))]⟩ ?_
 cases h1 : (!r1)
 ·have H := zI h1 H
  refine lA 1 ?_
  obtain ⟨r2,er2,H⟩ := bs H
  refine vA [.rd,.rd,.rd] (qI n x1 1 1000 r2 er2) ?_
  refine uA 2 16406 20 ?_
  obtain ⟨h2,H⟩ | ⟨h2,H⟩ := bC H
  ·refine nA h2 ?_
   refine tK ?_
   refine gA 3 86 84 ?_
   refine gA 6 84 84 ?_
   refine gA 5 84 84 ?_
   refine tS ?_
   refine rA 1 ?_
   obtain ⟨r3,er3,H⟩ := bs H
   refine vA [.rd] (zBL n (⟨x0.Root,(IntKind.wrap .i64 (x0.Co + x1)),(IntKind.wrap .i64 (x0.Hops + 1)),x0.Bridge,x0.Port⟩ : Vec) r3 er3) ?_
   refine uA 1 268435540 84 ?_
   obtain ⟨h3,H⟩ | ⟨h3,H⟩ := bC H
   ·refine nA h3 ?_
    refine tK ?_
    refine gA 3 48 16 ?_
    exact te (fJ [(true,[cI x0.Root,cI (IntKind.wrap .i64 (x0.Co + x1)),cI (IntKind.wrap .i64 (x0.Hops + 1)),cI x0.Bridge,cI x0.Port]),(false,[cB true])] H)
   refine tA h3 ?_
   refine gA 3 48 16 ?_
   exact te (fJ [(true,(Vec.row x0)),(false,[cB false])] H)
  refine tA h2 ?_
  refine gA 3 48 16 ?_
  exact te (fJ [(true,(Vec.row x0)),(false,[cB false])] H)
 have H := zJ h1 H
 refine uA 4 16406 20 ?_
 refine tB_ ?_
 refine gA 3 48 16 ?_
 exact te (fJ [(true,(Vec.row x0)),(false,[cB false])] H)
def Yh (n : Nat) (x0 : Vec) (x1 : Vec) : Option (Bool) :=
  (bif (x0.Root != x1.Root) then (some (decide (x0.Root < x1.Root))) else (bif (x0.Co != x1.Co) then (some (decide (x0.Co < x1.Co))) else (bif (x0.Bridge != x1.Bridge) then (some (decide (x0.Bridge < x1.Bridge))) else (some (decide (x0.Port < x1.Port))))))
theorem zDI (n : Nat) (x0 : Vec) (x1 : Vec) (r : Bool) (H : Yh n x0 x1 = some r) : zG Tryz.prog 177 [.val true (CV.frzRow (Vec.row x0)),.val true (CV.frzRow (Vec.row x1))] [.val false [.lit (.bool r)]] [] := by
 refine cW Tryz.func177 (fun g d => sl [g 0,.block 0 (sl [g 1] (cn 5 (sl [g 2] .ret) (sl [g 3] (cn 16 (sl [g 4] .ret) (sl [g 5] (cn 27 (sl [g 6] .ret) .skip)))))),g 7] .ret) [.tmp 4] fun cx => ?_
 unfold Yh at H
 refine gA 3 12 12 ?_
 refine tS ?_
 refine tB ?_
 refine gA 6 44 12 ?_
 obtain ⟨h1,H⟩ | ⟨h1,H⟩ := bC H
 ·refine nA h1 ?_
  refine gA 6 65548 12 ?_
  obtain ⟨h2,H⟩ | ⟨h2,H⟩ := bC H
  ·refine nA h2 ?_
   refine gA 6 134217740 12 ?_
   obtain ⟨h3,H⟩ | ⟨h3,H⟩ := bC H
   ·refine nA h3 ?_
    refine tK ?_
    refine gA 6 16 0 ?_
    exact te (fJ [(false,[cB (decide (x0.Port < x1.Port))])] H)
   refine tA h3 ?_
   refine gA 6 16 0 ?_
   exact te (fJ [(false,[cB (decide (x0.Bridge < x1.Bridge))])] H)
  refine tA h2 ?_
  refine gA 6 16 0 ?_
  exact te (fJ [(false,[cB (decide (x0.Co < x1.Co))])] H)
 refine tA h1 ?_
 refine gA 6 16 0 ?_
 exact te (fJ [(false,[cB (decide (x0.Root < x1.Root))])] H)
def Yw (n : Nat) (x0 : Int) (y11 : Int) (y12 : Int) (y13 : Int) (y14 : Int) : Option (Vec × Int) :=
  (some ((⟨y12,y13,y14,x0,0⟩ : Vec),y11))
def ZM (n : Nat) (k : (Int × Int × Int × Int × Int × Int × Int × Int × Int × Int → Option ((Int × Int × Int × Int) ⊕ (Vec × Int)))) (r17 : Vec × Bool) (y1 : Int) (y10 : Int) (y2 : Int) (y3 : Int) (y4 : Int) (y5 : Int) (y6 : Int) (y7 : Int) (y8 : Int) (y9 : Int) (y18 : Bool) (y19 : Bool) (y20 : Bool) (y21 : Bool) (y22 : Bool) (y23 : Bool) (y24 : Bool) : Option ((Int × Int × Int × Int) ⊕ (Vec × Int)) :=
  (bif y18 then (k ((IntKind.wrap .i64 (y1 + 1)),y1,r17.1.Root,r17.1.Co,r17.1.Hops,r17.1.Bridge,r17.1.Port,r17.1.Root,r17.1.Co,r17.1.Hops)) else (k ((IntKind.wrap .i64 (y1 + 1)),y2,y3,y4,y5,y6,y7,y8,y9,y10)))
def qH (n : Nat) : Nat → Int → (List Pt) → Int → Int → Int → Int → Int → Int → Int → Int → Int → Int → Option ((Int × Int × Int × Int) ⊕ (Vec × Int))
  | 0,_,_,_,_,_,_,_,_,_,_,_,_ => none
  | mo15 + 1,x0,x1,y1,y2,y3,y4,y5,y6,y7,y8,y9,y10 => (bif (decide (y1 < (x1.length : Int))) then ((idx x1 y1).bind fun v16 => (bif (!v16.Up) then (qH n mo15 x0 x1 (IntKind.wrap .i64 (y1 + 1)) y2 y3 y4 y5 y6 y7 y8 y9 y10) else (bif (!v16.Has) then (qH n mo15 x0 x1 (IntKind.wrap .i64 (y1 + 1)) y2 y3 y4 y5 y6 y7 y8 y9 y10) else ((Jt n v16.Hd v16.Co).bind fun r17 => (bif r17.2 then (bif (decide (r17.1.Root < x0)) then (bif (decide (y2 < 0)) then (ZM n (fun v => qH n mo15 x0 x1 v.1 v.2.1 v.2.2.1 v.2.2.2.1 v.2.2.2.2.1 v.2.2.2.2.2.1 v.2.2.2.2.2.2.1 v.2.2.2.2.2.2.2.1 v.2.2.2.2.2.2.2.2.1 v.2.2.2.2.2.2.2.2.2) r17 y1 y10 y2 y3 y4 y5 y6 y7 y8 y9 true true true true true true true) else ((Yh n r17.1 (⟨y3,y4,y5,y6,y7⟩ : Vec)).bind fun r25 => (ZM n (fun v => qH n mo15 x0 x1 v.1 v.2.1 v.2.2.1 v.2.2.2.1 v.2.2.2.2.1 v.2.2.2.2.2.1 v.2.2.2.2.2.2.1 v.2.2.2.2.2.2.2.1 v.2.2.2.2.2.2.2.2.1 v.2.2.2.2.2.2.2.2.2) r17 y1 y10 y2 y3 y4 y5 y6 y7 y8 y9 r25 true true true true true true))) else (ZM n (fun v => qH n mo15 x0 x1 v.1 v.2.1 v.2.2.1 v.2.2.2.1 v.2.2.2.2.1 v.2.2.2.2.2.1 v.2.2.2.2.2.2.1 v.2.2.2.2.2.2.2.1 v.2.2.2.2.2.2.2.2.1 v.2.2.2.2.2.2.2.2.2) r17 y1 y10 y2 y3 y4 y5 y6 y7 y8 y9 false false false true true true true)) else (ZM n (fun v => qH n mo15 x0 x1 v.1 v.2.1 v.2.2.1 v.2.2.2.1 v.2.2.2.2.1 v.2.2.2.2.2.1 v.2.2.2.2.2.2.1 v.2.2.2.2.2.2.2.1 v.2.2.2.2.2.2.2.2.1 v.2.2.2.2.2.2.2.2.2) r17 y1 y10 y2 y3 y4 y5 y6 y7 y8 y9 false false false false false false false)))))) else (some (Sum.inl (y2,y8,y9,y10))))
def Qy (n : Nat) (x0 : Int) (x1 : (List Pt)) : Option (Vec × Int) :=
  ((qH n n x0 x1 0 (-1) 0 0 0 0 0 x0 0 0).bind fun o => match o with | .inl (y11,y12,y13,y14) => (Yw n x0 y11 y12 y13 y14) | .inr r => some r)
theorem zDG (n : Nat) (x0 : Int) (x1 : (List Pt)) (r : Vec × Int) (H : Qy n x0 x1 = some r) : zG Tryz.prog 137 [.val false [.lit (.int .i64 x0)],.val false [.sl false 8 (CV.frzEs (x1.map Pt.row))]] [.val true (Vec.row r.1),.val false [.lit (.int .i64 r.2)]] [] := by
 refine cW Tryz.func137 (fun g d => sl [g 0,g 1,g 2,sl [g 3] (.block 0 (.loop (sl [g 4,cn 19 .skip (.exit 0),.block 1 (sl [g 5,sl [g 6] (cn 30 (.exit 1) .skip),g 7,g 8] (cn 54 (sl [g 9] (g 10)) .skip))] (g 11)))),g 12] .ret) [.cell 4 33,.tmp 5] fun cx => ?_
 unfold Qy at H
 refine gA 2 51 16 ?_
 refine gA 6 243 80 ?_
 refine gA 1 499 336 ?_
 refine tS ?_
 refine rA 1 ?_
 refine kF x1 Pt.row ?_
 refine uA 1 459249 336 ?_
 obtain ⟨o15,eo15,Ho15⟩ := bs H
 clear H
 refine Tr.mid (ι := Int × Int × Int × Int) (fun v => ⟨68,0,[sI 7 v.1,sA 6 6 5 0,sI 5 0,sA 4 4 5 0],[(6,[cI v.2.1,cI v.2.2.1,cI v.2.2.2,cI x0,cI 0]),(4,[cI 0,cI 0,cI 0,cI 0,cI 0])]⟩) (fun v => Yw n x0 v.1 v.2.1 v.2.2.1 v.2.2.2 = some r) ?_ ?_
 ·refine tB ?_
  refine Tr.loop (ι := Nat × (Int × Int × Int × Int × Int × Int × Int × Int × Int × Int)) (fun v => ⟨68,0,[sI 18 v.2.1,sI 17 (x1.length : Int),sC 16 (cF 8 x1 Pt.row),sA 8 8 5 0,sI 7 v.2.2.1,sA 6 6 5 0,sI 5 0,sA 4 4 5 0,sI 0 x0],[(8,[cI v.2.2.2.1,cI v.2.2.2.2.1,cI v.2.2.2.2.2.1,cI v.2.2.2.2.2.2.1,cI v.2.2.2.2.2.2.2.1]),(6,[cI v.2.2.2.2.2.2.2.2.1,cI v.2.2.2.2.2.2.2.2.2.1,cI v.2.2.2.2.2.2.2.2.2.2,cI x0,cI 0]),(4,[cI 0,cI 0,cI 0,cI 0,cI 0])]⟩) (fun v => qH n v.1 x0 x1 v.2.1 v.2.2.1 v.2.2.2.1 v.2.2.2.2.1 v.2.2.2.2.2.1 v.2.2.2.2.2.2.1 v.2.2.2.2.2.2.2.1 v.2.2.2.2.2.2.2.2.1 v.2.2.2.2.2.2.2.2.2.1 v.2.2.2.2.2.2.2.2.2.2 = some o15) (fun v => v.1) (n,(0,(-1),0,0,0,0,0,x0,0,0)) eo15 (St.sub_of [18,17,16,8,7,6,5,4,0] [8,6,4] kr) ?_
  rintro ⟨mo15,y1,y2,y3,y4,y5,y6,y7,y8,y9,y10⟩ H
  have H : qH n mo15 x0 x1 y1 y2 y3 y4 y5 y6 y7 y8 y9 y10 = some o15 := H
  obtain _ | mo15 := mo15
  ·exact nN H
  rw [qH] at H
  refine gA 1 983537 336 ?_
  refine tS ?_
  obtain ⟨h1,H⟩ | ⟨h1,H⟩ := bC H
  ·refine nA h1 ?_
   refine Tr.exit ?_
   refine aJ ?_
   obtain rfl := si H
   have H := Ho15
   dsimp only at H
   exact jA (y2,y8,y9,y10) H [7,6,5,4] [6,4]
  refine tA h1 ?_
  refine tK ?_
  refine tS ?_
  refine tB ?_
  refine rA 1 ?_
  obtain ⟨v16,ev16,H⟩ := bs H
  refine iA Pt.row ev16 ?_
  refine uA 4 8325105 1360 ?_
  refine tS ?_
  refine rA 4 ?_
  refine sL 134154225 1360 ⟨68,0,[sB 26 (!v16.Up),sB 25 (!v16.Up),sB 24 v16.Up,sA 23 10 8 0,sI 9 y1,sA 10 10 8 0,sV 22 (Pt.row v16),(21,.fad ((Pt.row v16))),sI 20 y1,sB 19 (decide (y1 < (x1.length : Int))),sI 18 y1,sI 17 (x1.length : Int),sC 16 (cF 8 x1 Pt.row),sA 8 8 5 0,sI 7 y2,sA 6 6 5 0,sI 5 0,sA 4 4 5 0,sI 0 x0],[(10,(Pt.row v16)),(8,[cI y3,cI y4,cI y5,cI y6,cI y7]),(6,[cI y8,cI y9,cI y10,cI x0,cI 0]),(4,[cI 0,cI 0,cI 0,cI 0,cI 0])]⟩ ?_
  cases h2 : (!v16.Up)
  ·have H := zI h2 H
   refine uA 4 2147420145 1360 ?_
   obtain ⟨h3,H⟩ | ⟨h3,H⟩ := bC H
   ·refine nA h3 ?_
    refine tK ?_
    refine rA 4 ?_
    obtain ⟨r17,er17,H⟩ := bs H
    refine vA [.rd,.rd] (zGe n v16.Hd v16.Co r17 er17) ?_
    refine LAt.movT tOk (ty := 167) (t := 36) (d := 31) (g := none) [(true,(Vec.row r17.1)),(false,[cB r17.2])] _ kr (.inl rfl) kr kr kr kr rfl ?_
    refine uA 5 481036279793 3408 ?_
    refine tS ?_
    refine Tr.mid (ι := Bool × Bool × Bool × Bool × Bool × Bool × Bool) (fun v => ⟨68,0,[sB 54 v.1,sB 46 v.2.1,sB 45 v.2.2.1,sB 40 v.2.2.2.1,sB 39 v.2.2.2.2.1,sB 12 v.2.2.2.2.2.1,sA 11 11 5 0,sB 38 v.2.2.2.2.2.2,(31,.tup [(true,[.dead,.dead,.dead,.dead,.dead]),(false,[.dead])]),sV 37 (Vec.row r17.1),sI 35 v16.Co,sA 34 10 8 1,sV 33 ((Pt.row v16).drop 3),sA 32 10 8 3,sB 30 false,sB 29 false,sB 28 v16.Has,sA 27 10 8 2,sB 26 false,sB 25 false,sB 24 v16.Up,sA 23 10 8 0,sI 9 y1,sA 10 10 8 0,sV 22 (Pt.row v16),(21,.fad ((Pt.row v16))),sI 20 y1,sB 19 true,sI 18 y1,sI 17 (x1.length : Int),sC 16 (cF 8 x1 Pt.row),sA 8 8 5 0,sI 7 y2,sA 6 6 5 0,sI 5 0,sA 4 4 5 0,sI 0 x0],[(11,(Vec.row r17.1)),(10,(Pt.row v16)),(8,[cI y3,cI y4,cI y5,cI y6,cI y7]),(6,[cI y8,cI y9,cI y10,cI x0,cI 0]),(4,[cI 0,cI 0,cI 0,cI 0,cI 0])]⟩) (fun v => ZM n (fun v => qH n mo15 x0 x1 v.1 v.2.1 v.2.2.1 v.2.2.2.1 v.2.2.2.2.1 v.2.2.2.2.2.1 v.2.2.2.2.2.2.1 v.2.2.2.2.2.2.2.1 v.2.2.2.2.2.2.2.2.1 v.2.2.2.2.2.2.2.2.2) r17 y1 y10 y2 y3 y4 y5 y6 y7 y8 y9 v.1 v.2.1 v.2.2.1 v.2.2.2.1 v.2.2.2.2.1 v.2.2.2.2.2.1 v.2.2.2.2.2.2 = some o15) ?_ ?_
    ·refine Tr.at ?_
     refine lA 2 ?_
     refine sL 2130303721457 3408 ⟨68,0,[sB 40 r17.2,sB 39 r17.2,sB 12 r17.2,sA 11 11 5 0,sB 38 r17.2,(31,.tup [(true,[.dead,.dead,.dead,.dead,.dead]),(false,[.dead])]),sV 37 (Vec.row r17.1),sI 35 v16.Co,sA 34 10 8 1,sV 33 ((Pt.row v16).drop 3),sA 32 10 8 3,sB 30 (!v16.Has),sB 29 (!v16.Has),sB 28 v16.Has,sA 27 10 8 2,sB 26 false,sB 25 false,sB 24 v16.Up,sA 23 10 8 0,sI 9 y1,sA 10 10 8 0,sV 22 (Pt.row v16),(21,.fad ((Pt.row v16))),sI 20 y1,sB 19 (decide (y1 < (x1.length : Int))),sI 18 y1,sI 17 (x1.length : Int),sC 16 (cF 8 x1 Pt.row),sA 8 8 5 0,sI 7 y2,sA 6 6 5 0,sI 5 0,sA 4 4 5 0,sI 0 x0],[(11,(Vec.row r17.1)),(10,(Pt.row v16)),(8,[cI y3,cI y4,cI y5,cI y6,cI y7]),(6,[cI y8,cI y9,cI y10,cI x0,cI 0]),(4,[cI 0,cI 0,cI 0,cI 0,cI 0])]⟩ ?_
     cases h5 : r17.2
     ·have H := zI h5 H
      refine uA 14 0x7fffefffff1ff1 3408 ?_
      refine sB' 0x7fffefffff1ff1 3408 ⟨68,0,[sB 54 false,(53,.tup []),(52,.tup []),(51,.tup []),(50,.tup []),(49,.tup []),(48,.tup []),(47,.tup []),sB 46 false,sB 45 false,(44,.tup []),(43,.tup []),(42,.tup []),(41,.tup []),sB 40 false,sB 39 false,sB 12 false,sA 11 11 5 0,sB 38 false,(31,.tup [(true,[.dead,.dead,.dead,.dead,.dead]),(false,[.dead])]),sV 37 (Vec.row r17.1),sI 35 v16.Co,sA 34 10 8 1,sV 33 ((Pt.row v16).drop 3),sA 32 10 8 3,sB 30 (!v16.Has),sB 29 (!v16.Has),sB 28 v16.Has,sA 27 10 8 2,sB 26 false,sB 25 false,sB 24 v16.Up,sA 23 10 8 0,sI 9 y1,sA 10 10 8 0,sV 22 (Pt.row v16),(21,.fad ((Pt.row v16))),sI 20 y1,sB 19 (decide (y1 < (x1.length : Int))),sI 18 y1,sI 17 (x1.length : Int),sC 16 (cF 8 x1 Pt.row),sA 8 8 5 0,sI 7 y2,sA 6 6 5 0,sI 5 0,sA 4 4 5 0,sI 0 x0],[(11,(Vec.row r17.1)),(10,(Pt.row v16)),(8,[cI y3,cI y4,cI y5,cI y6,cI y7]),(6,[cI y8,cI y9,cI y10,cI x0,cI 0]),(4,[cI 0,cI 0,cI 0,cI 0,cI 0])]⟩ ?_
      rw [h1]
      rw [h3]
      exact jA (false,false,false,false,false,false,false) H [54,46,45,40,39,12,11,38,31,37,35,34,33,32,30,29,28,27,26,25,24,23,9,10,22,21,20,19,18,17,16,8,7,6,5,4,0] [11,10,8,6,4]
     have H := zJ h5 H
     refine lA 6 ?_
     refine sL 0x7fefffff1ff1 3408 ⟨68,0,[sB 46 (decide (r17.1.Root < x0)),sB 45 (decide (r17.1.Root < x0)),sB 44 (decide (r17.1.Root < x0)),sI 43 x0,sI 42 r17.1.Root,sA 41 11 5 0,sB 40 true,sB 39 true,sB 12 true,sA 11 11 5 0,sB 38 true,(31,.tup [(true,[.dead,.dead,.dead,.dead,.dead]),(false,[.dead])]),sV 37 (Vec.row r17.1),sI 35 v16.Co,sA 34 10 8 1,sV 33 ((Pt.row v16).drop 3),sA 32 10 8 3,sB 30 (!v16.Has),sB 29 (!v16.Has),sB 28 v16.Has,sA 27 10 8 2,sB 26 false,sB 25 false,sB 24 v16.Up,sA 23 10 8 0,sI 9 y1,sA 10 10 8 0,sV 22 (Pt.row v16),(21,.fad ((Pt.row v16))),sI 20 y1,sB 19 (decide (y1 < (x1.length : Int))),sI 18 y1,sI 17 (x1.length : Int),sC 16 (cF 8 x1 Pt.row),sA 8 8 5 0,sI 7 y2,sA 6 6 5 0,sI 5 0,sA 4 4 5 0,sI 0 x0],[(11,(Vec.row r17.1)),(10,(Pt.row v16)),(8,[cI y3,cI y4,cI y5,cI y6,cI y7]),(6,[cI y8,cI y9,cI y10,cI x0,cI 0]),(4,[cI 0,cI 0,cI 0,cI 0,cI 0])]⟩ ?_
     cases h6 : (decide (r17.1.Root < x0))
     ·have H := zI h6 H
      refine uA 8 0x7fffefffff1ff1 3408 ?_
      refine sB' 0x7fffefffff1ff1 3408 ⟨68,0,[sB 54 false,(53,.tup []),(52,.tup []),(51,.tup []),(50,.tup []),(49,.tup []),(48,.tup []),(47,.tup []),sB 46 false,sB 45 false,sB 44 false,sI 43 x0,sI 42 r17.1.Root,sA 41 11 5 0,sB 40 true,sB 39 true,sB 12 true,sA 11 11 5 0,sB 38 true,(31,.tup [(true,[.dead,.dead,.dead,.dead,.dead]),(false,[.dead])]),sV 37 (Vec.row r17.1),sI 35 v16.Co,sA 34 10 8 1,sV 33 ((Pt.row v16).drop 3),sA 32 10 8 3,sB 30 (!v16.Has),sB 29 (!v16.Has),sB 28 v16.Has,sA 27 10 8 2,sB 26 false,sB 25 false,sB 24 v16.Up,sA 23 10 8 0,sI 9 y1,sA 10 10 8 0,sV 22 (Pt.row v16),(21,.fad ((Pt.row v16))),sI 20 y1,sB 19 (decide (y1 < (x1.length : Int))),sI 18 y1,sI 17 (x1.length : Int),sC 16 (cF 8 x1 Pt.row),sA 8 8 5 0,sI 7 y2,sA 6 6 5 0,sI 5 0,sA 4 4 5 0,sI 0 x0],[(11,(Vec.row r17.1)),(10,(Pt.row v16)),(8,[cI y3,cI y4,cI y5,cI y6,cI y7]),(6,[cI y8,cI y9,cI y10,cI x0,cI 0]),(4,[cI 0,cI 0,cI 0,cI 0,cI 0])]⟩ ?_
      rw [h1]
      rw [h3]
      exact jA (false,false,false,true,true,true,true) H [54,46,45,40,39,12,11,38,31,37,35,34,33,32,30,29,28,27,26,25,24,23,9,10,22,21,20,19,18,17,16,8,7,6,5,4,0] [11,10,8,6,4]
     have H := zJ h6 H
     refine lA 3 ?_
     refine sL 0x3ffefffff1ff1 3408 ⟨68,0,[sB 49 (decide (y2 < 0)),sB 48 (decide (y2 < 0)),sI 47 y2,sB 46 true,sB 45 true,sB 44 true,sI 43 x0,sI 42 r17.1.Root,sA 41 11 5 0,sB 40 true,sB 39 true,sB 12 true,sA 11 11 5 0,sB 38 true,(31,.tup [(true,[.dead,.dead,.dead,.dead,.dead]),(false,[.dead])]),sV 37 (Vec.row r17.1),sI 35 v16.Co,sA 34 10 8 1,sV 33 ((Pt.row v16).drop 3),sA 32 10 8 3,sB 30 (!v16.Has),sB 29 (!v16.Has),sB 28 v16.Has,sA 27 10 8 2,sB 26 false,sB 25 false,sB 24 v16.Up,sA 23 10 8 0,sI 9 y1,sA 10 10 8 0,sV 22 (Pt.row v16),(21,.fad ((Pt.row v16))),sI 20 y1,sB 19 (decide (y1 < (x1.length : Int))),sI 18 y1,sI 17 (x1.length : Int),sC 16 (cF 8 x1 Pt.row),sA 8 8 5 0,sI 7 y2,sA 6 6 5 0,sI 5 0,sA 4 4 5 0,sI 0 x0],[(11,(Vec.row r17.1)),(10,(Pt.row v16)),(8,[cI y3,cI y4,cI y5,cI y6,cI y7]),(6,[cI y8,cI y9,cI y10,cI x0,cI 0]),(4,[cI 0,cI 0,cI 0,cI 0,cI 0])]⟩ ?_
     cases h7 : (decide (y2 < 0))
     ·have H := zI h7 H
      refine lA 2 ?_
      obtain ⟨r25,er25,H⟩ := bs H
      refine vA [.rd,.rd] (zDI n r17.1 (⟨y3,y4,y5,y6,y7⟩ : Vec) r25 er25) ?_
      refine uA 2 0x7fffefffff1ff1 3408 ?_
      refine sB' 0x7fffefffff1ff1 3408 ⟨68,0,[sB 54 r25,sB 53 r25,sB 52 r25,sV 51 [cI y3,cI y4,cI y5,cI y6,cI y7],sV 50 (Vec.row r17.1),sB 49 false,sB 48 false,sI 47 y2,sB 46 true,sB 45 true,sB 44 true,sI 43 x0,sI 42 r17.1.Root,sA 41 11 5 0,sB 40 true,sB 39 true,sB 12 true,sA 11 11 5 0,sB 38 true,(31,.tup [(true,[.dead,.dead,.dead,.dead,.dead]),(false,[.dead])]),sV 37 (Vec.row r17.1),sI 35 v16.Co,sA 34 10 8 1,sV 33 ((Pt.row v16).drop 3),sA 32 10 8 3,sB 30 (!v16.Has),sB 29 (!v16.Has),sB 28 v16.Has,sA 27 10 8 2,sB 26 false,sB 25 false,sB 24 v16.Up,sA 23 10 8 0,sI 9 y1,sA 10 10 8 0,sV 22 (Pt.row v16),(21,.fad ((Pt.row v16))),sI 20 y1,sB 19 (decide (y1 < (x1.length : Int))),sI 18 y1,sI 17 (x1.length : Int),sC 16 (cF 8 x1 Pt.row),sA 8 8 5 0,sI 7 y2,sA 6 6 5 0,sI 5 0,sA 4 4 5 0,sI 0 x0],[(11,(Vec.row r17.1)),(10,(Pt.row v16)),(8,[cI y3,cI y4,cI y5,cI y6,cI y7]),(6,[cI y8,cI y9,cI y10,cI x0,cI 0]),(4,[cI 0,cI 0,cI 0,cI 0,cI 0])]⟩ ?_
      rw [h1]
      rw [h3]
      exact jA (r25,true,true,true,true,true,true) H [54,46,45,40,39,12,11,38,31,37,35,34,33,32,30,29,28,27,26,25,24,23,9,10,22,21,20,19,18,17,16,8,7,6,5,4,0] [11,10,8,6,4]
     have H := zJ h7 H
     refine uA 5 0x7fffefffff1ff1 3408 ?_
     refine sB' 0x7fffefffff1ff1 3408 ⟨68,0,[sB 54 true,sB 53 true,(52,.tup []),(51,.tup []),(50,.tup []),sB 49 true,sB 48 true,sI 47 y2,sB 46 true,sB 45 true,sB 44 true,sI 43 x0,sI 42 r17.1.Root,sA 41 11 5 0,sB 40 true,sB 39 true,sB 12 true,sA 11 11 5 0,sB 38 true,(31,.tup [(true,[.dead,.dead,.dead,.dead,.dead]),(false,[.dead])]),sV 37 (Vec.row r17.1),sI 35 v16.Co,sA 34 10 8 1,sV 33 ((Pt.row v16).drop 3),sA 32 10 8 3,sB 30 (!v16.Has),sB 29 (!v16.Has),sB 28 v16.Has,sA 27 10 8 2,sB 26 false,sB 25 false,sB 24 v16.Up,sA 23 10 8 0,sI 9 y1,sA 10 10 8 0,sV 22 (Pt.row v16),(21,.fad ((Pt.row v16))),sI 20 y1,sB 19 (decide (y1 < (x1.length : Int))),sI 18 y1,sI 17 (x1.length : Int),sC 16 (cF 8 x1 Pt.row),sA 8 8 5 0,sI 7 y2,sA 6 6 5 0,sI 5 0,sA 4 4 5 0,sI 0 x0],[(11,(Vec.row r17.1)),(10,(Pt.row v16)),(8,[cI y3,cI y4,cI y5,cI y6,cI y7]),(6,[cI y8,cI y9,cI y10,cI x0,cI 0]),(4,[cI 0,cI 0,cI 0,cI 0,cI 0])]⟩ ?_
     rw [h1]
     rw [h3]
     exact jA (true,true,true,true,true,true,true) H [54,46,45,40,39,12,11,38,31,37,35,34,33,32,30,29,28,27,26,25,24,23,9,10,22,21,20,19,18,17,16,8,7,6,5,4,0] [11,10,8,6,4]
    rintro ⟨y18,y19,y20,y21,y22,y23,y24⟩ H
    have H : (ZM n (fun v => qH n mo15 x0 x1 v.1 v.2.1 v.2.2.1 v.2.2.2.1 v.2.2.2.2.1 v.2.2.2.2.2.1 v.2.2.2.2.2.2.1 v.2.2.2.2.2.2.2.1 v.2.2.2.2.2.2.2.2.1 v.2.2.2.2.2.2.2.2.2) r17 y1 y10 y2 y3 y4 y5 y6 y7 y8 y9 y18 y19 y20 y21 y22 y23 y24) = some o15 := H
    unfold ZM at H
    cases h4 : y18
    ·have H := zI h4 H
     refine nB_ ?_
     refine tK ?_
     refine eA 2 0x2004061efffff1ff1 3408 ?_
     exact jB mo15 ((IntKind.wrap .i64 (y1 + 1)),y2,y3,y4,y5,y6,y7,y8,y9,y10) H [18,17,16,8,7,6,5,4,0] [8,6,4]
    have H := zJ h4 H
    refine tB_ ?_
    refine gA 4 0x1c061efffff1ff1 3408 ?_
    refine eA 9 0x1ffc061efffff1ff1 3408 ?_
    refine eA 2 0x3ffc061efffff1ff1 3408 ?_
    exact jB mo15 ((IntKind.wrap .i64 (y1 + 1)),y1,r17.1.Root,r17.1.Co,r17.1.Hops,r17.1.Bridge,r17.1.Port,r17.1.Root,r17.1.Co,r17.1.Hops) H [18,17,16,8,7,6,5,4,0] [8,6,4]
   refine tA h3 ?_
   refine Tr.exit ?_
   refine aJ ?_
   refine eA 2 0x2000000007fff07f1 1360 ?_
   exact jB mo15 ((IntKind.wrap .i64 (y1 + 1)),y2,y3,y4,y5,y6,y7,y8,y9,y10) H [18,17,16,8,7,6,5,4,0] [8,6,4]
  have H := zJ h2 H
  refine uA 4 2147420145 1360 ?_
  refine tB_ ?_
  refine Tr.exit ?_
  refine aJ ?_
  refine eA 2 0x2000000007fff07f1 1360 ?_
  exact jB mo15 ((IntKind.wrap .i64 (y1 + 1)),y2,y3,y4,y5,y6,y7,y8,y9,y10) H [18,17,16,8,7,6,5,4,0] [8,6,4]
 rintro ⟨y11,y12,y13,y14⟩ H
 have H : (Yw n x0 y11 y12 y13 y14) = some r := H
 unfold Yw at H
 refine gA 4 48 16 ?_
 exact te (fJ [(true,[cI y12,cI y13,cI y14,cI x0,cI 0]),(false,[cI y11])] H)
def Y8 (n : Nat) (x0 : Int) (x1 : (List Pt)) (x2 : Int) : Option (Vec) :=
  ((Qy n x0 x1).bind fun r1 => (some (⟨r1.1.Root,r1.1.Co,r1.1.Hops,r1.1.Bridge,x2⟩ : Vec)))
theorem zG9 (n : Nat) (x0 : Int) (x1 : (List Pt)) (x2 : Int) (r : Vec) (H : Y8 n x0 x1 x2 = some r) : zG Tryz.prog 173 [.val false [.lit (.int .i64 x0)],.val false [.sl false 8 (CV.frzEs (x1.map Pt.row))],.val false [.lit (.int .i64 x2)]] [.val true (Vec.row r)] [] := by
 refine cW Tryz.func173 (fun g d => sl [g 0,g 1,g 2,g 3] .ret) [.cell 6 33] fun cx => ?_
 unfold Y8 at H
 refine gA 1 71 64 ?_
 refine rA 2 ?_
 obtain ⟨r1,er1,H⟩ := bs H
 refine vA [.rd,.rd] (zDG n x0 x1 r1 er1) ?_
 refine LAt.movT tOk (ty := 135) (t := 12) (d := 9) (g := none) [(true,(Vec.row r1.1)),(false,[cI r1.2])] _ kr (.inl rfl) kr kr kr kr rfl ?_
 refine uA 5 196 192 ?_
 refine gA 3 192 192 ?_
 refine gA 2 64 64 ?_
 exact te (fJ [(true,[cI r1.1.Root,cI r1.1.Co,cI r1.1.Hops,cI r1.1.Bridge,cI x2])] H)
def Y7 (n : Nat) (x0 : Int) (x1 : (List Pt)) (x2 : Int) : Option (Int) :=
  ((qB n x2 0 (IntKind.wrap .i64 ((x1.length : Int) - 1))).bind fun r1 => (bif (!r1) then (some 4) else ((idx x1 x2).bind fun v2 => (bif (!v2.Up) then (some 4) else ((Qy n x0 x1).bind fun r3 => (bif (r3.2 == x2) then (some 1) else ((idx x1 x2).bind fun v4 => (bif (!v4.Has) then (some 2) else ((Y8 n x0 x1 x2).bind fun r5 => ((idx x1 x2).bind fun v6 => ((Yh n r5 v6.Hd).bind fun r7 => (bif r7 then (some 2) else (some 3)))))))))))))
def zJc : Tab := ⟨19,[0,0,3,4,8,16,32,64,64,64,960,64,64,6208,8256,16448,33856,65600,196608],[0,0,3,4,8,16,32,64,64,64,960,64,64,6208,8256,16448,33856,65600,131072],[0,0,3,7,15,31,63,127,127,127,1023,127,127,6271,14463,30847,65535,131071,262143]⟩
theorem Qi : z9 (rg Tryz.f188 6) zJc = true := kr
theorem zG8 (n : Nat) (x0 : Int) (x1 : (List Pt)) (x2 : Int) (r : Int) (H : Y7 n x0 x1 x2 = some r) : zG Tryz.prog 188 [.val false [.lit (.int .i64 x0)],.val false [.sl false 8 (CV.frzEs (x1.map Pt.row))],.val false [.lit (.int .i64 x2)]] [.val false [.lit (.int .i64 r)]] [] := by
 refine cW Tryz.func188 (fun g d => sl [g 0,sl [g 1] (cn 22 (sl [g 2] .ret) .skip),g 3,.block 0 (sl [g 4] (cn 29 (sl [g 5] .ret) (sl [d 6] (cn 33 (sl [g 7] .ret) .skip)))),g 8] .ret) [.tmp 6] fun cx => ?_
 unfold Y7 at H
 refine gA 1 7 0 ?_
 refine tS ?_
 refine rA 2 ?_
 refine kF x1 Pt.row ?_
 refine lA 1 ?_
 obtain ⟨r1,er1,H⟩ := bs H
 refine vA [.rd,.rd,.rd] (qI n x2 0 (IntKind.wrap .i64 ((x1.length : Int) - 1)) r1 er1) ?_
 refine lA 2 ?_
 refine sL 32775 0 ⟨52,0,[sB 15 (!r1),sI 0 x0,sC 1 (cF 8 x1 Pt.row),sI 2 x2],[]⟩ ?_
 cases h1 : (!r1)
 ·have H := zI h1 H
  refine lA 2 ?_
  obtain ⟨v2,ev2,H⟩ := bs H
  refine iA Pt.row ev2 ?_
  refine uA 4 4194311 0 ?_
  obtain ⟨h2,H⟩ | ⟨h2,H⟩ := bC H
  ·refine nA h2 ?_
   refine tK ?_
   refine rA 2 ?_
   obtain ⟨r3,er3,H⟩ := bs H
   refine vA [.rd,.rd] (zDG n x0 x1 r3 er3) ?_
   refine LAt.movT tOk (ty := 135) (t := 26) (d := 23) (g := none) [(true,(Vec.row r3.1)),(false,[cI r3.2])] _ kr (.inl rfl) kr kr kr kr rfl ?_
   refine uA 5 263 0 ?_
   refine tS ?_
   refine tB ?_
   refine gA 4 536870919 0 ?_
   obtain ⟨h3,H⟩ | ⟨h3,H⟩ := bC H
   ·refine nA h3 ?_
    obtain ⟨v4,ev4,H⟩ := bs H
    refine sT ⟨52,0,[sB 29 (r3.2 == x2),sI 0 x0,sC 1 (cF 8 x1 Pt.row),sI 2 x2],[]⟩ ?_
    cases h4 : (!v4.Has)
    ·have H := zI h4 H
     obtain ⟨r5,er5,H⟩ := bs H
     obtain ⟨v6,ev6,H⟩ := bs H
     obtain ⟨r7,er7,H⟩ := bs H
     refine Tr.draws mixed 19 kr ⟨52,0,[sB 33 r7],[]⟩ (fun cx => ?_) ?_
     ·refine mA Qi [(0,[]),(1,[])] 17 [] fun cx => ?_
      refine iN Qi 2 Pt.row ev4 fun cx => ?_
      refine mA Qi [(3,[]),(4,[]),(5,[]),(6,[])] 12 [] fun cx => ?_
      refine sA_ 1099511627783 0 ⟨52,0,[sB 40 (!v4.Has),sI 0 x0,sC 1 (cF 8 x1 Pt.row),sI 2 x2],[]⟩ ?_
      rw [h4]
      refine mA Qi [(7,[]),(8,[]),(9,[]),(11,[]),(12,[])] 7 [] fun cx => ?_
      refine iN Qi 13 Pt.row ev6 fun cx => ?_
      refine mA Qi [(14,[]),(15,[])] 4 [] fun cx => ?_
      refine mC Qi 10 ?_
      refine vA [.rd,.rd,.rd] (zG9 n x0 x1 x2 r5 er5) ?_
      refine fA ?_
      refine mC Qi 16 ?_
      refine vA [.rd,.rd] (zDI n r5 v6.Hd r7 er7) ?_
      refine fA ?_
      refine mA Qi [(17,[]),(18,[])] 0 [] fun cx => ?_
      exact mE Qi [33] []
     cases h5 : r7
     ·have H := zI h5 H
      refine nB_ ?_
      refine tK ?_
      refine gA 1 64 0 ?_
      exact te (fJ [(false,[cI 3])] H)
     have H := zJ h5 H
     refine tB_ ?_
     refine gA 1 64 0 ?_
     exact te (fJ [(false,[cI 2])] H)
    have H := zJ h4 H
    refine Tr.draws mixed 19 kr ⟨52,0,[sB 33 true],[]⟩ (fun cx => ?_) ?_
    ·refine mA Qi [(0,[]),(1,[])] 17 [] fun cx => ?_
     refine iN Qi 2 Pt.row ev4 fun cx => ?_
     refine mA Qi [(3,[]),(4,[]),(5,[]),(6,[])] 12 [] fun cx => ?_
     refine sA_ 1099511627783 0 ⟨52,0,[sB 40 (!v4.Has),sI 0 x0,sC 1 (cF 8 x1 Pt.row),sI 2 x2],[]⟩ ?_
     rw [h4]
     refine mA Qi [(7,[]),(8,[]),(9,[]),(10,[]),(11,[]),(12,[]),(13,[]),(14,[]),(15,[]),(16,[]),(17,[]),(18,[])] 0 [] fun cx => ?_
     exact mE Qi [33] []
    refine tB_ ?_
    refine gA 1 64 0 ?_
    exact te (fJ [(false,[cI 2])] H)
   refine tA h3 ?_
   refine gA 1 64 0 ?_
   exact te (fJ [(false,[cI 1])] H)
  refine tA h2 ?_
  refine gA 1 64 0 ?_
  exact te (fJ [(false,[cI 4])] H)
 have H := zJ h1 H
 refine uA 7 4194311 0 ?_
 refine tB_ ?_
 refine gA 1 64 0 ?_
 exact te (fJ [(false,[cI 4])] H)
def Js (n : Nat) (y3 : Int) : Option (Int) :=
  (some y3)
def ZC (n : Nat) : Nat → Int → (List Pt) → Int → Int → Option ((Int) ⊕ (Int))
  | 0,_,_,_,_ => none
  | mo4 + 1,x0,x1,y1,y2 => (bif (decide (y1 < (x1.length : Int))) then (bif (decide (y1 < 6)) then ((Y7 n x0 x1 y1).bind fun r5 => (bif (r5 == 1) then (bif (decide ((0 : Int) ≤ y1)) then (ZC n mo4 x0 x1 (IntKind.wrap .i64 (y1 + 1)) (IntKind.wrap .i64 (BitVec.ofInt (IntKind.bits .i64) y2 ||| BitVec.ofInt (IntKind.bits .i64) (IntKind.wrap .i64 (1 * 2 ^ min ((y1 : Int)).toNat (IntKind.bits .i64)))).toNat)) else none) else (bif (r5 == 2) then (bif (decide ((0 : Int) ≤ y1)) then (ZC n mo4 x0 x1 (IntKind.wrap .i64 (y1 + 1)) (IntKind.wrap .i64 (BitVec.ofInt (IntKind.bits .i64) y2 ||| BitVec.ofInt (IntKind.bits .i64) (IntKind.wrap .i64 (1 * 2 ^ min ((y1 : Int)).toNat (IntKind.bits .i64)))).toNat)) else none) else (ZC n mo4 x0 x1 (IntKind.wrap .i64 (y1 + 1)) y2)))) else (some (Sum.inl y2))) else (some (Sum.inl y2)))
def Jf (n : Nat) (x0 : Int) (x1 : (List Pt)) : Option (Int) :=
  ((ZC n n x0 x1 0 0).bind fun o => match o with | .inl y3 => (Js n y3) | .inr r => some r)
theorem zHu (n : Nat) (x0 : Int) (x1 : (List Pt)) (r : Int) (H : Jf n x0 x1 = some r) : zG Tryz.prog 161 [.val false [.lit (.int .i64 x0)],.val false [.sl false 8 (CV.frzEs (x1.map Pt.row))]] [.val false [.lit (.int .i64 r)]] [] := by
 refine cW Tryz.func161 (fun g d => sl [g 0,g 1,sl [g 2] (.block 0 (.loop (sl [sl [g 3] (cn 15 .skip (.exit 0)),.block 1 (sl [g 5,g 6] (cn 27 (g 7) .skip))] (g 4)))),g 8] .ret) [.tmp 4] fun cx => ?_
 unfold Jf at H
 refine gA 1 3 0 ?_
 refine gA 1 35 0 ?_
 refine tS ?_
 refine gA 1 99 0 ?_
 obtain ⟨o4,eo4,Ho4⟩ := bs H
 clear H
 refine Tr.mid (ι := Int) (fun v => ⟨33,0,[sI 5 v],[]⟩) (fun v => Js n v = some r) ?_ ?_
 ·refine tB ?_
  refine Tr.loop (ι := Nat × (Int × Int)) (fun v => ⟨33,0,[sI 6 v.2.1,sI 5 v.2.2,sI 0 x0,sC 1 (cF 8 x1 Pt.row)],[]⟩) (fun v => ZC n v.1 x0 x1 v.2.1 v.2.2 = some o4) (fun v => v.1) (n,(0,0)) eo4 (St.sub_of [6,5,0,1] [] kr) ?_
  rintro ⟨mo4,y1,y2⟩ H
  have H : ZC n mo4 x0 x1 y1 y2 = some o4 := H
  obtain _ | mo4 := mo4
  ·exact nN H
  rw [ZC] at H
  refine tS ?_
  refine rA 2 ?_
  refine kF x1 Pt.row ?_
  refine lA 2 ?_
  refine sL 4195 0 ⟨33,0,[sB 12 (decide (y1 < (x1.length : Int))),sI 6 y1,sI 5 y2,sI 0 x0,sC 1 (cF 8 x1 Pt.row)],[]⟩ ?_
  cases h1 : (decide (y1 < (x1.length : Int)))
  ·have H := zI h1 H
   refine uA 3 32867 0 ?_
   refine nB_ ?_
   refine Tr.exit ?_
   refine aJ ?_
   obtain rfl := si H
   have H := Ho4
   dsimp only at H
   exact jA y2 H [5] []
  have H := zJ h1 H
  refine uA 3 32867 0 ?_
  obtain ⟨h2,H⟩ | ⟨h2,H⟩ := bC H
  ·refine nA h2 ?_
   refine Tr.exit ?_
   refine aJ ?_
   obtain rfl := si H
   have H := Ho4
   dsimp only at H
   exact jA y2 H [5] []
  refine tA h2 ?_
  refine tK ?_
  refine tS ?_
  refine tB ?_
  refine rA 3 ?_
  obtain ⟨r5,er5,H⟩ := bs H
  refine vA [.rd,.rd,.rd] (zG8 n x0 x1 y1 r5 er5) ?_
  refine uA 1 227 0 ?_
  refine rA 3 ?_
  refine sL 16777443 0 ⟨33,0,[sB 24 (r5 == 1),sI 7 r5,sI 6 y1,sI 5 y2,sI 0 x0,sC 1 (cF 8 x1 Pt.row)],[]⟩ ?_
  cases h3 : (r5 == 1)
  ·have H := zI h3 H
   refine uA 3 134217827 0 ?_
   obtain ⟨h4,H⟩ | ⟨h4,H⟩ := bC H
   ·refine nA h4 ?_
    refine tK ?_
    refine eA 3 99 0 ?_
    exact jB mo4 ((IntKind.wrap .i64 (y1 + 1)),y2) H [6,5,0,1] []
   refine tA h4 ?_
   refine Tr.at ?_
   refine lA 2 ?_
   obtain ⟨hg6,H⟩ := gs H
   refine LAt.binC tOk (op := .shl) (t := 3) (ty := 3) (ty' := 3) (x := (.const (.int .i64 1))) (y := (.tmp 29)) (d := 30) (g := none) (.int .i64 1) (.int .i64 y1) (.int .i64 (IntKind.wrap .i64 (1 * 2 ^ min ((y1 : Int)).toNat (IntKind.bits .i64)))) _ kr kr kr kr kr (φ := (0 : Int) ≤ y1) kr (of_decide_eq_true hg6) rfl ?_
   refine uA 2 99 0 ?_
   refine eA 3 99 0 ?_
   exact jB mo4 ((IntKind.wrap .i64 (y1 + 1)),(IntKind.wrap .i64 (BitVec.ofInt (IntKind.bits .i64) y2 ||| BitVec.ofInt (IntKind.bits .i64) (IntKind.wrap .i64 (1 * 2 ^ min ((y1 : Int)).toNat (IntKind.bits .i64)))).toNat)) H [6,5,0,1] []
  have H := zJ h3 H
  refine uA 3 134217827 0 ?_
  refine tB_ ?_
  refine Tr.at ?_
  refine lA 2 ?_
  obtain ⟨hg7,H⟩ := gs H
  refine LAt.binC tOk (op := .shl) (t := 3) (ty := 3) (ty' := 3) (x := (.const (.int .i64 1))) (y := (.tmp 29)) (d := 30) (g := none) (.int .i64 1) (.int .i64 y1) (.int .i64 (IntKind.wrap .i64 (1 * 2 ^ min ((y1 : Int)).toNat (IntKind.bits .i64)))) _ kr kr kr kr kr (φ := (0 : Int) ≤ y1) kr (of_decide_eq_true hg7) rfl ?_
  refine uA 2 99 0 ?_
  refine eA 3 99 0 ?_
  exact jB mo4 ((IntKind.wrap .i64 (y1 + 1)),(IntKind.wrap .i64 (BitVec.ofInt (IntKind.bits .i64) y2 ||| BitVec.ofInt (IntKind.bits .i64) (IntKind.wrap .i64 (1 * 2 ^ min ((y1 : Int)).toNat (IntKind.bits .i64)))).toNat)) H [6,5,0,1] []
 rintro y3 H
 have H : (Js n y3) = some r := H
 unfold Js at H
 refine gA 2 16 0 ?_
 exact te (fJ [(false,[cI y3])] H)
def Yi (n : Nat) (x0 : Int) (x1 : Int) : Option (Bool) :=
  ((qB n x1 0 62).bind fun r1 => (bif r1 then (bif (decide ((0 : Int) ≤ x1)) then (some ((IntKind.wrap .i64 (BitVec.ofInt (IntKind.bits .i64) (Int.fdiv x0 (2 ^ min ((x1 : Int)).toNat (IntKind.bits .i64))) &&& BitVec.ofInt (IntKind.bits .i64) 1).toNat) == 1)) else none) else (some false)))
theorem zGh (n : Nat) (x0 : Int) (x1 : Int) (r : Bool) (H : Yi n x0 x1 = some r) : zG Tryz.prog 162 [.val false [.lit (.int .i64 x0)],.val false [.lit (.int .i64 x1)]] [.val false [.lit (.bool r)]] [] := by
 refine cW Tryz.func162 (fun g d => sl [g 0,g 1] .ret) [.tmp 4] fun cx => ?_
 unfold Yi at H
 refine gA 1 3 0 ?_
 refine rA 1 ?_
 obtain ⟨r1,er1,H⟩ := bs H
 refine vA [.rd,.rd,.rd] (qI n x1 0 62 r1 er1) ?_
 refine lA 1 ?_
 refine sL 131 0 ⟨14,0,[sB 7 r1,sI 0 x0,sI 1 x1],[]⟩ ?_
 cases h1 : r1
 ·have H := zI h1 H
  refine uA 7 16 0 ?_
  exact te (fF H)
 have H := zJ h1 H
 refine lA 2 ?_
 obtain ⟨hg2,H⟩ := gs H
 refine LAt.binC tOk (op := .shr) (t := 3) (ty := 3) (ty' := 3) (x := (.tmp 8)) (y := (.tmp 9)) (d := 10) (g := (some (2,true))) (.int .i64 x0) (.int .i64 x1) (.int .i64 (Int.fdiv x0 (2 ^ min ((x1 : Int)).toNat (IntKind.bits .i64)))) _ kr kr kr kr kr (φ := (0 : Int) ≤ x1) kr (of_decide_eq_true hg2) rfl ?_
 refine uA 4 16 0 ?_
 exact te (fJ [(false,[cB ((IntKind.wrap .i64 (BitVec.ofInt (IntKind.bits .i64) (Int.fdiv x0 (2 ^ min ((x1 : Int)).toNat (IntKind.bits .i64))) &&& BitVec.ofInt (IntKind.bits .i64) 1).toNat) == 1)])] H)
def QS (n : Nat) (y3 : (List zB)) : Option ((List zB)) :=
  (some y3)
def qT (n : Nat) : Nat → (List zB) → Int → Int → (List zB) → Option (((List zB)) ⊕ ((List zB)))
  | 0,_,_,_,_ => none
  | mo4 + 1,x0,x1,y1,y2 => (bif (decide (y1 < (x0.length : Int))) then ((idx x0 y1).bind fun v5 => (bif v5.Sc then (bif (decide (y2.length + [v5].length ≤ 268435456)) then (qT n mo4 x0 x1 (IntKind.wrap .i64 (y1 + 1)) (y2 ++ [v5])) else none) else (bif (v5.Port != x1) then (bif (decide (y2.length + [v5].length ≤ 268435456)) then (qT n mo4 x0 x1 (IntKind.wrap .i64 (y1 + 1)) (y2 ++ [v5])) else none) else (qT n mo4 x0 x1 (IntKind.wrap .i64 (y1 + 1)) y2)))) else (some (Sum.inl y2)))
def Q6 (n : Nat) (x0 : (List zB)) (x1 : Int) : Option ((List zB)) :=
  ((qT n n x0 x1 0 ([] : List zB)).bind fun o => match o with | .inl y3 => (QS n y3) | .inr r => some r)
theorem zFT (n : Nat) (x0 : (List zB)) (x1 : Int) (r : (List zB)) (H : Q6 n x0 x1 = some r) : zG Tryz.prog 163 [.val false [.sl false 5 (CV.frzEs (x0.map zB.row))],.val false [.lit (.int .i64 x1)]] [.val false [.sl true 5 (r.map zB.row)]] [] := by
 refine cW Tryz.func163 (fun g d => sl [g 0,g 1,sl [g 2] (.block 0 (.loop (sl [g 3,cn 11 .skip (.exit 0),.block 1 (sl [g 4,g 5] (cn 21 (g 6) .skip))] (g 7)))),g 8] .ret) [.tmp 4] fun cx => ?_
 unfold Q6 at H
 refine gA 1 3 0 ?_
 refine gA 1 35 0 ?_
 refine tS ?_
 refine rA 1 ?_
 refine kF x0 zB.row ?_
 refine uA 1 1826 0 ?_
 obtain ⟨o4,eo4,Ho4⟩ := bs H
 clear H
 refine Tr.mid (ι := (List zB)) (fun v => ⟨28,0,[sC 5 (cL 5 v zB.row)],[]⟩) (fun v => QS n v = some r) ?_ ?_
 ·refine tB ?_
  refine Tr.loop (ι := Nat × (Int × (List zB))) (fun v => ⟨28,0,[sI 10 v.2.1,sI 9 (x0.length : Int),sC 8 (cF 5 x0 zB.row),sC 5 (cL 5 v.2.2 zB.row),sI 1 x1],[]⟩) (fun v => qT n v.1 x0 x1 v.2.1 v.2.2 = some o4) (fun v => v.1) (n,(0,([] : List zB))) eo4 (St.sub_of [10,9,8,5,1] [] kr) ?_
  rintro ⟨mo4,y1,y2⟩ H
  have H : qT n mo4 x0 x1 y1 y2 = some o4 := H
  obtain _ | mo4 := mo4
  ·exact nN H
  rw [qT] at H
  refine gA 1 3874 0 ?_
  refine tS ?_
  obtain ⟨h1,H⟩ | ⟨h1,H⟩ := bC H
  ·refine nA h1 ?_
   refine Tr.exit ?_
   refine aJ ?_
   obtain rfl := si H
   have H := Ho4
   dsimp only at H
   exact jA y2 H [5] []
  refine tA h1 ?_
  refine tK ?_
  refine tS ?_
  refine tB ?_
  refine tR ?_
  obtain ⟨v5,ev5,H⟩ := bs H
  refine iA zB.row ev5 ?_
  refine uA 3 1954 128 ?_
  refine tS ?_
  refine Tr.at ?_
  refine lA 3 ?_
  refine sL 67490 128 ⟨28,0,[sB 16 v5.Sc,sA 7 7 5 0,sI 10 y1,sI 9 (x0.length : Int),sC 8 (cF 5 x0 zB.row),sC 5 (cL 5 y2 zB.row),sI 1 x1],[(7,(zB.row v5))]⟩ ?_
  cases h2 : v5.Sc
  ·have H := zI h2 H
   refine uA 5 2099106 128 ?_
   obtain ⟨h3,H⟩ | ⟨h3,H⟩ := bC H
   ·refine nA h3 ?_
    refine tK ?_
    refine eA 2 1826 0 ?_
    exact jB mo4 ((IntKind.wrap .i64 (y1 + 1)),y2) H [10,9,8,5,1] []
   refine tA h3 ?_
   refine Tr.at ?_
   refine lA 3 ?_
   obtain ⟨hg6,H⟩ := gs H
   refine LAt.appMU tOk (t := 25) (ty := 25) (e := 103) (x := (.tmp 22)) (y := (.tmp 24)) (d := 25) (g := none) (tI 103) zB.row y2 [v5] kr kr kr kr kr kr kr kr kr kr hg6 ?_
   refine LAt.moveU (T := lk tab) (ty := 25) (x := (.tmp 25)) (d := 5) (g := none) false [cL 5 (y2 ++ [v5]) zB.row] kr kr kr kr kr ?_
   refine dA 1826 0 ?_
   refine eA 2 1826 0 ?_
   exact jB mo4 ((IntKind.wrap .i64 (y1 + 1)),(y2 ++ [v5])) H [10,9,8,5,1] []
  have H := zJ h2 H
  refine uA 5 2099106 128 ?_
  refine tB_ ?_
  refine Tr.at ?_
  refine lA 3 ?_
  obtain ⟨hg7,H⟩ := gs H
  refine LAt.appMU tOk (t := 25) (ty := 25) (e := 103) (x := (.tmp 22)) (y := (.tmp 24)) (d := 25) (g := none) (tI 103) zB.row y2 [v5] kr kr kr kr kr kr kr kr kr kr hg7 ?_
  refine LAt.moveU (T := lk tab) (ty := 25) (x := (.tmp 25)) (d := 5) (g := none) false [cL 5 (y2 ++ [v5]) zB.row] kr kr kr kr kr ?_
  refine dA 1826 0 ?_
  refine eA 2 1826 0 ?_
  exact jB mo4 ((IntKind.wrap .i64 (y1 + 1)),(y2 ++ [v5])) H [10,9,8,5,1] []
 rintro y3 H
 have H : (QS n y3) = some r := H
 unfold QS at H
 refine gA 2 48 0 ?_
 exact te (fJ [(false,[cL 5 y3 zB.row])] H)
def Qs (n : Nat) (r1 : Int) (x0 : zA) (y5 : (List zB)) : Option (zA) :=
  (some (⟨x0.Id,x0.Name,x0.Ps,y5,x0.V,x0.Tk,x0.Pa,x0.Wo,x0.Dr,r1⟩ : zA))
def qc (n : Nat) : Nat → Int → zA → Int → (List zB) → Option (((List zB)) ⊕ (zA))
  | 0,_,_,_,_ => none
  | mo6 + 1,r2,x0,y3,y4 => (bif (decide (y3 < (x0.Ps.length : Int))) then ((Yi n r2 y3).bind fun r7 => (bif (!r7) then ((Q6 n y4 y3).bind fun r8 => (qc n mo6 r2 x0 (IntKind.wrap .i64 (y3 + 1)) r8)) else (qc n mo6 r2 x0 (IntKind.wrap .i64 (y3 + 1)) y4))) else (some (Sum.inl y4)))
def q6 (n : Nat) (x0 : zA) : Option (zA) :=
  ((JQ n x0.Ve).bind fun r1 => ((Jf n x0.Id x0.Ps).bind fun r2 => ((qc n n r2 x0 0 x0.F).bind fun o => match o with | .inl y5 => (Qs n r1 x0 y5) | .inr r => some r)))
noncomputable abbrev G89 (k : Nat) := Rg Tryz.f89 k
noncomputable abbrev D89 (k : Nat) := Rd Tryz.f89 k
theorem J0 (n : Nat) (x0 : zA) (r : zA) (H : q6 n x0 = some r) : zG Tryz.prog 89 [.ptr (zA.row x0)] [] [(0,(zA.row r))] := by
 refine zG.of_body tOk Tryz.func89 rfl (c := (.seq (G89 0) (.seq (D89 1) (.seq (G89 2) (.block 0 (.loop (.seq (G89 3) (.seq (.cond (.tmp 27) .skip (.exit 0)) (.seq (.block 1 (.seq (G89 4) (.seq (G89 5) (.cond (.tmp 32) (G89 6) .skip)))) (G89 7)))))))))) kr (Nat.le_of_ble_eq_true kr) 1 (rs := []) rfl [] .nil [] [] [(0,(zA.row r))] fun cx => ?_
 show Tr _ _ _ ⟨43,1,[sA 0 0 11 0],[(0,(zA.row x0))]⟩ _
 unfold q6 at H
 refine rA 5 ?_
 obtain ⟨r1,er1,H⟩ := bs H
 refine vA [.rd] (zF2 n x0.Ve r1 er1) ?_
 refine uA 3 1 1 ?_
 obtain ⟨r2,er2,H⟩ := bs H
 refine Tr.draws mixed 10 kr ⟨43,1,[sI 2 r2,sA 0 0 11 0],[(0,[cI x0.Id,cS x0.Name,cL 8 x0.Ps Pt.row,cL 5 x0.F zB.row,cL 3 x0.V.Rows zC.row,cL 1 x0.V.Pv intRow,cI x0.Tk,cI x0.Pa,cI x0.Wo,cI x0.Dr,cI r1])]⟩ (fun cx => ?_) ?_
 ·refine aA [(0,[]),(1,[]),(2,[]),(3,[8]),(4,[]),(5,[]),(6,[]),(7,[8])] 2 [⟨[8],24,18,19⟩,⟨[8],3,14,15⟩] fun cx => ?_
  refine bA 8 ?_
  refine vB [.rd,.rd] [.box 0] (zHu n x0.Id x0.Ps r2 er2) (.inr (zH (zL zR zh) zO)) ?_
  refine fA ?_
  refine aA [(9,[])] 0 [⟨[8],24,18,19⟩,⟨[8],3,14,15⟩] fun cx => ?_
  exact eE [2,0] [0]
 refine rA 4 ?_
 refine kO x0.Ps Pt.row ?_
 refine uA 1 100663301 1 ?_
 obtain ⟨o6,eo6,Ho6⟩ := bs H
 clear H
 refine Tr.mid (ι := (List zB)) (fun v => ⟨43,1,[sA 0 0 11 0],[(0,[cI x0.Id,cS x0.Name,cL 8 x0.Ps Pt.row,cL 5 v zB.row,cL 3 x0.V.Rows zC.row,cL 1 x0.V.Pv intRow,cI x0.Tk,cI x0.Pa,cI x0.Wo,cI x0.Dr,cI r1])]⟩) (fun v => Qs n r1 x0 v = some r) ?_ ?_
 ·refine tB ?_
  refine Tr.loop (ι := Nat × (Int × (List zB))) (fun v => ⟨43,1,[sI 26 v.2.1,sI 25 (x0.Ps.length : Int),sI 2 r2,sA 0 0 11 0],[(0,[cI x0.Id,cS x0.Name,cL 8 x0.Ps Pt.row,cL 5 v.2.2 zB.row,cL 3 x0.V.Rows zC.row,cL 1 x0.V.Pv intRow,cI x0.Tk,cI x0.Pa,cI x0.Wo,cI x0.Dr,cI r1])]⟩) (fun v => qc n v.1 r2 x0 v.2.1 v.2.2 = some o6) (fun v => v.1) (n,(0,x0.F)) eo6 (St.sub_of [26,25,2,0] [0] kr) ?_
  rintro ⟨mo6,y3,y4⟩ H
  have H : qc n mo6 r2 x0 y3 y4 = some o6 := H
  obtain _ | mo6 := mo6
  ·exact nN H
  rw [qc] at H
  refine gA 1 234881029 1 ?_
  refine tS ?_
  obtain ⟨h1,H⟩ | ⟨h1,H⟩ := bC H
  ·refine nA h1 ?_
   refine Tr.exit ?_
   refine aJ ?_
   obtain rfl := si H
   have H := Ho6
   dsimp only at H
   exact jA y4 H [0] [0]
  refine tA h1 ?_
  refine tK ?_
  refine tS ?_
  refine tB ?_
  refine gA 2 100663309 1 ?_
  refine rA 2 ?_
  obtain ⟨r7,er7,H⟩ := bs H
  refine vA [.rd,.rd] (zGh n r2 y3 r7 er7) ?_
  refine uA 1 4395630605 1 ?_
  obtain ⟨h2,H⟩ | ⟨h2,H⟩ := bC H
  ·refine nA h2 ?_
   refine tK ?_
   refine eA 2 100663301 1 ?_
   exact jB mo6 ((IntKind.wrap .i64 (y3 + 1)),y4) H [26,25,2,0] [0]
  refine tA h2 ?_
  refine Tr.at ?_
  refine lA 6 ?_
  obtain ⟨r8,er8,H⟩ := bs H
  refine vB [.rd,.rd] [.box 0] (zFT n y4 y3 r8 er8) (.inr (zH (zL (QJ (ZW zB.row_mine _)) zh) zO)) ?_
  refine uA 3 100663301 1 ?_
  refine eA 2 100663301 1 ?_
  exact jB mo6 ((IntKind.wrap .i64 (y3 + 1)),r8) H [26,25,2,0] [0]
 rintro y5 H
 have H : (Qs n r1 x0 y5) = some r := H
 unfold Qs at H
 obtain rfl := si H
 exact Fin.ofY _ [] [] _ [] _ [(0,[cI x0.Id,cS x0.Name,cL 8 x0.Ps Pt.row,cL 5 y5 zB.row,cL 3 x0.V.Rows zC.row,cL 1 x0.V.Pv intRow,cI x0.Tk,cI x0.Pa,cI x0.Wo,cI x0.Dr,cI r1])] kr rfl rfl rfl kr kr kr kr rfl rfl rfl
def Zj (n : Nat) (r1 : zA) (x1 : Int) (x2 : Vec) (y2 : Bool) : Option (zA) :=
  (bif y2 then ((idx r1.Ps x1).bind fun v3 => ((idx (r1.Ps.set (x1.toNat) (⟨v3.Up,v3.Co,true,v3.Hd⟩ : Pt)) x1).bind fun v4 => ((q6 n (⟨r1.Id,r1.Name,((r1.Ps.set (x1.toNat) (⟨v3.Up,v3.Co,true,v3.Hd⟩ : Pt)).set (x1.toNat) (⟨v4.Up,v4.Co,v4.Has,x2⟩ : Pt)),r1.F,r1.V,r1.Tk,r1.Pa,r1.Wo,r1.Dr,r1.Ve⟩ : zA)).bind fun r5 => (some r5)))) else (some r1))
def qn (n : Nat) (x0 : zA) (x1 : Int) (x2 : Vec) : Option (zA) :=
  ((ZV n x0).bind fun r1 => ((YP n x0 x1).bind fun r6 => (bif r6 then ((idx x0.Ps x1).bind fun v7 => (bif v7.Up then ((YF n x2).bind fun r8 => (Zj n r1 x1 x2 r8)) else (Zj n r1 x1 x2 false))) else (Zj n r1 x1 x2 false))))
def zJy : Tab := ⟨13,[0,1,0,0,8,0,0,23,151,279,1023,2047,3071],[0,1,0,0,8,0,0,6,128,256,48,1024,2112],[0,1,0,0,8,0,0,31,159,415,1023,2047,4095]⟩
theorem zBq : z9 (rg Tryz.f17 3) zJy = true := kr
theorem Qn (n : Nat) (x0 : zA) (x1 : Int) (x2 : Vec) (r : zA) (H : qn n x0 x1 x2 = some r) : zG Tryz.prog 17 [.val true (CV.frzRow (zA.row x0)),.val false [.lit (.int .i64 x1)],.val true (CV.frzRow (Vec.row x2))] [.val true (zA.row r)] [] := by
 refine cW Tryz.func17 (fun g d => sl [g 0,g 1,sl [g 2] (cn 24 (sl [d 3] (g 4)) .skip),g 5] .ret) [.cell 6 31] fun cx => ?_
 unfold qn at H
 refine gA 3 106 104 ?_
 refine rA 1 ?_
 obtain ⟨r1,er1,H⟩ := bs H
 refine vA [.rd] (zAE n x0 r1 er1) ?_
 refine uA 2 234 232 ?_
 refine tS ?_
 refine tS ?_
 refine Tr.mid (ι := Bool) (fun v => ⟨38,0,[sB 24 v,sA 7 7 11 0,sA 6 6 11 0,sA 5 5 5 0,sI 1 x1],[(7,(zA.row r1)),(6,[cI 0,cS (⟨#[]⟩ : ByteArray),cL 8 ([] : List Pt) Pt.row,cL 5 ([] : List zB) zB.row,cL 3 ([] : List zC) zC.row,cL 1 ([] : List Int) intRow,cI 0,cI 0,cI 0,cI 0,cI 0]),(5,(Vec.row x2))]⟩) (fun v => Zj n r1 x1 x2 v = some r) ?_ ?_
 ·refine Tr.at ?_
  refine lA 2 ?_
  obtain ⟨r6,er6,H⟩ := bs H
  refine vA [.rd,.rd] (zD6 n x0 x1 r6 er6) ?_
  refine lA 1 ?_
  refine sL 8426 232 ⟨38,0,[sB 13 r6,sA 7 7 11 0,sA 6 6 11 0,sA 5 5 5 0,sA 3 3 11 0,sI 1 x1],[(7,(zA.row r1)),(6,[cI 0,cS (⟨#[]⟩ : ByteArray),cL 8 ([] : List Pt) Pt.row,cL 5 ([] : List zB) zB.row,cL 3 ([] : List zC) zC.row,cL 1 ([] : List Int) intRow,cI 0,cI 0,cI 0,cI 0,cI 0]),(5,(Vec.row x2)),(3,(CV.frzRow (zA.row x0)))]⟩ ?_
  cases h2 : r6
  ·have H := zI h2 H
   refine uA 11 16777442 224 ?_
   exact jA false H [24,7,6,5,1] [7,6,5]
  have H := zJ h2 H
  refine lA 3 ?_
  obtain ⟨v7,ev7,H⟩ := bs H
  refine iA Pt.row ev7 ?_
  refine lA 4 ?_
  refine sL 2097378 224 ⟨38,0,[sB 21 v7.Up,sA 7 7 11 0,sA 6 6 11 0,sA 5 5 5 0,sI 1 x1],[(7,(zA.row r1)),(6,[cI 0,cS (⟨#[]⟩ : ByteArray),cL 8 ([] : List Pt) Pt.row,cL 5 ([] : List zB) zB.row,cL 3 ([] : List zC) zC.row,cL 1 ([] : List Int) intRow,cI 0,cI 0,cI 0,cI 0,cI 0]),(5,(Vec.row x2))]⟩ ?_
  cases h3 : v7.Up
  ·have H := zI h3 H
   refine uA 3 16777442 224 ?_
   exact jA false H [24,7,6,5,1] [7,6,5]
  have H := zJ h3 H
  refine lA 1 ?_
  obtain ⟨r8,er8,H⟩ := bs H
  refine vA [.rd] (zBL n x2 r8 er8) ?_
  refine uA 1 16777442 224 ?_
  exact jA r8 H [24,7,6,5,1] [7,6,5]
 rintro y2 H
 have H : (Zj n r1 x1 x2 y2) = some r := H
 unfold Zj at H
 cases h1 : y2
 ·have H := zI h1 H
  refine nB_ ?_
  refine tK ?_
  refine gA 2 64 64 ?_
  exact te (fJ [(true,(zA.row r1))] H)
 have H := zJ h1 H
 refine tB_ ?_
 obtain ⟨v3,ev3,H⟩ := bs H
 obtain ⟨v4,ev4,H⟩ := bs H
 refine Tr.draws mixed 13 kr ⟨38,0,[sA 7 7 11 0,sA 6 6 11 0],[(7,[cI r1.Id,cS r1.Name,cL 8 ((r1.Ps.set (x1.toNat) (⟨v3.Up,v3.Co,true,v3.Hd⟩ : Pt)).set (x1.toNat) (⟨v4.Up,v4.Co,v4.Has,x2⟩ : Pt)) Pt.row,cL 5 r1.F zB.row,cL 3 r1.V.Rows zC.row,cL 1 r1.V.Pv intRow,cI r1.Tk,cI r1.Pa,cI r1.Wo,cI r1.Dr,cI r1.Ve]),(6,[cI 0,cS (⟨#[]⟩ : ByteArray),cL 8 ([] : List Pt) Pt.row,cL 5 ([] : List zB) zB.row,cL 3 ([] : List zC) zC.row,cL 1 ([] : List Int) intRow,cI 0,cI 0,cI 0,cI 0,cI 0])]⟩ (fun cx => ?_) ?_
 ·refine mA zBq [(0,[]),(1,[9,12]),(2,[]),(3,[]),(4,[9,12]),(5,[]),(6,[12])] 6 [⟨[12],33,5,31⟩,⟨[9,12],24,28,29⟩,⟨[9,12],24,25,26⟩] fun cx => ?_
  refine oN zBq 7 Pt.row ev3 fun cx => ?_
  refine mA zBq [(8,[])] 4 [⟨[12],33,5,31⟩,⟨[9,12],24,28,29⟩,⟨[9,12],24,25,26⟩] fun cx => ?_
  refine sA_ 12717129952 224 ⟨38,0,[(33,.adr (.box 7) [(0,0),(2,(x1.toNat))] 8 2),sV 31 (Vec.row x2),sI 30 x1,sR 29 7 11 2 1 false,sA 28 7 11 2,sR 26 7 11 2 1 false,sA 25 7 11 2,sA 7 7 11 0,sA 6 6 11 0,sA 5 5 5 0],[(7,(zA.row r1)),(6,[cI 0,cS (⟨#[]⟩ : ByteArray),cL 8 ([] : List Pt) Pt.row,cL 5 ([] : List zB) zB.row,cL 3 ([] : List zC) zC.row,cL 1 ([] : List Int) intRow,cI 0,cI 0,cI 0,cI 0,cI 0]),(5,(Vec.row x2))]⟩ ?_
  refine mC zBq 9 ?_
  refine LAt.storeB tOk (t := 4) (ty := 0) (ad := (.tmp 33)) (x := (.const (.bool true))) (g := none) (tI 4) false [cB true] 7 2 (x1.toNat) 8 2 8 r1.Ps Pt.row v3 (⟨v3.Up,v3.Co,true,v3.Hd⟩ : Pt) kr kr kr kr kr kr kr kr (Qx ev3).2 kr kr kr kr ?_
  refine fA ?_
  refine oN zBq 10 Pt.row ev4 fun cx => ?_
  refine mA zBq [(11,[])] 1 [⟨[12],33,5,31⟩,⟨[9,12],24,28,29⟩,⟨[9,12],24,25,26⟩] fun cx => ?_
  refine sA_ 37413191904 224 ⟨38,0,[(35,.adr (.box 7) [(0,0),(2,(x1.toNat))] 8 3),sV 31 (Vec.row x2),sA 28 7 11 2,sA 25 7 11 2,sA 7 7 11 0,sA 6 6 11 0,sA 5 5 5 0,sR 29 7 11 2 1 false,sR 26 7 11 2 1 false],[(7,[cI r1.Id,cS r1.Name,cL 8 (r1.Ps.set (x1.toNat) (⟨v3.Up,v3.Co,true,v3.Hd⟩ : Pt)) Pt.row,cL 5 r1.F zB.row,cL 3 r1.V.Rows zC.row,cL 1 r1.V.Pv intRow,cI r1.Tk,cI r1.Pa,cI r1.Wo,cI r1.Dr,cI r1.Ve]),(6,[cI 0,cS (⟨#[]⟩ : ByteArray),cL 8 ([] : List Pt) Pt.row,cL 5 ([] : List zB) zB.row,cL 3 ([] : List zC) zC.row,cL 1 ([] : List Int) intRow,cI 0,cI 0,cI 0,cI 0,cI 0]),(5,(Vec.row x2))]⟩ ?_
  refine mC zBq 12 ?_
  refine LAt.storeB tOk (t := 33) (ty := 0) (ad := (.tmp 35)) (x := (.tmp 31)) (g := none) (tI 33) true (Vec.row x2) 7 2 (x1.toNat) 8 3 8 (r1.Ps.set (x1.toNat) (⟨v3.Up,v3.Co,true,v3.Hd⟩ : Pt)) Pt.row v4 (⟨v4.Up,v4.Co,v4.Has,x2⟩ : Pt) kr kr kr kr kr kr kr kr (Qx ev4).2 kr kr kr kr ?_
  refine fA ?_
  exact mE zBq [7,6] [7,6]
 refine Tr.at ?_
 obtain ⟨r5,er5,H⟩ := bs H
 refine LAt.callL tOk [.lend] (f := 89) (av := #[.tmp 7]) (ats := #[31]) (d := (some 36)) (ty := 0) (g := none) kr kr kr [] (J0 n (⟨r1.Id,r1.Name,((r1.Ps.set (x1.toNat) (⟨v3.Up,v3.Co,true,v3.Hd⟩ : Pt)).set (x1.toNat) (⟨v4.Up,v4.Co,v4.Has,x2⟩ : Pt)),r1.F,r1.V,r1.Tk,r1.Pa,r1.Wo,r1.Dr,r1.Ve⟩ : zA) r5 er5) kr (.inl rfl) ?_
 refine dA 192 192 ?_
 refine gA 2 64 64 ?_
 exact te (fJ [(true,(zA.row r5))] H)
def Qg (n : Nat) (x0 : zA) (x1 : Int) : Option (Bool) :=
  ((z4 n x0).bind fun r1 => (bif r1 then ((za n x1 0 (IntKind.wrap .i64 ((x0.Ps.length : Int) - 1))).bind fun r2 => (some r2)) else (some false)))
theorem zC4 (n : Nat) (x0 : zA) (x1 : Int) (r : Bool) (H : Qg n x0 x1 = some r) : zG Tryz.prog 90 [.val true (CV.frzRow (zA.row x0)),.val false [.lit (.int .i64 x1)]] [.val false [.lit (.bool r)]] [] := by
 refine cW Tryz.func90 (fun g d => sl [g 0,g 1] .ret) [.tmp 4] fun cx => ?_
 unfold Qg at H
 refine gA 2 6 4 ?_
 refine rA 1 ?_
 obtain ⟨r1,er1,H⟩ := bs H
 refine vA [.rd] (Q0 n x0 r1 er1) ?_
 refine lA 1 ?_
 refine sL 134 4 ⟨15,0,[sB 7 r1,sA 2 2 11 0,sI 1 x1],[(2,(CV.frzRow (zA.row x0)))]⟩ ?_
 cases h1 : r1
 ·have H := zI h1 H
  refine uA 8 16 0 ?_
  exact te (fF H)
 have H := zJ h1 H
 refine lA 3 ?_
 refine kF x0.Ps Pt.row ?_
 refine lA 1 ?_
 obtain ⟨r2,er2,H⟩ := bs H
 refine vA [.rd,.rd,.rd] (zZ n x1 0 (IntKind.wrap .i64 ((x0.Ps.length : Int) - 1)) r2 er2) ?_
 refine uA 2 16 0 ?_
 exact te (fJ [(false,[cB r2])] H)
end Go.Proofs.YtajadnlejdpceaaGreat.Tw
